/- What functions of the seat's program do, each proved of its code, under the bounds that its theorem names. -/
import Derived.Test.YtdelgkhoahmnfaaGreatTab
set_option linter.all false
namespace Go.V
open Go.Proofs
set_option maxHeartbeats 1000000
set_option maxRecDepth 10000
set_option linter.unusedSimpArgs false
set_option linter.unusedVariables false
theorem ofL_mv (n:Nat) (l:List (Id × PT)) (i:Id) (t:PT) (h:((l.take n).all fun p => !decide (p.1 = i)) = true):ofL ((i,t) :: l) = ofL (l.take n ++ (i,t) :: l.drop n):=by
  induction n generalizing l with
  | zero => rfl
  | succ n ih => cases l with
    | nil => rfl
    | cons p l =>
      obtain ⟨j,y⟩:=p
      simp at h
      have ih:=ih l (by simpa using h.2)
      show ofL ((i,t) :: (j,y) :: l) = ofL ((j,y) :: (l.take n ++ (i,t) :: l.drop n))
      have e:ofL ((j,y) :: (l.take n ++ (i,t) :: l.drop n)) = ofL ((j,y) :: (i,t) :: l):=by
        funext q
        simp only [ofL]
        rw [← ih]
        rfl
      rw [e]
      funext q
      by_cases c:q = i
      · subst c
        have h1:=h.1
        simp [ofL,Ne.symm h1]
      · simp [ofL,c]
theorem ofL_two {a b:Id} {x y:PT} (h:a ≠ b):ofL [(a,x),(b,y)] = ofL [(b,y),(a,x)]:=by
  funext q
  by_cases e:q = a
  · subst e
    simp [ofL,h]
  · by_cases e2:q = b
    · subst e2
      simp [ofL,e]
    · simp [ofL,e,e2]
set_option maxHeartbeats 4000000 in
theorem ok_attrs (code:List Int) (hc:codeOK code) (a s:Int) (ha:0 ≤ a) (ha2:a ≤ 3999900):∃ (g:GAttrs) (a' s':Int),(g.Path.length ≤ 6 ∧ g.Comms.length ≤ 6) ∧ (a ≤ a' ∧ a' ≤ a + 20) ∧ CallOK Tryz.prog 149 [.bp (curP code a s)] (.agg (GAttrs.co g)) [.bp (curP code a' s')]:=by
  obtain ⟨o,a1,s1,ho,ha1,q1⟩:=ok_pick code hc 3 (by decide) (by decide) a s ha (by omega)
  obtain ⟨nx,a2,s2,hnx,ha2',q2⟩:=ok_among 0 code hc [0,1,167772161] (by decide) (by decide) a1 s1 (by omega) (by omega)
  obtain ⟨md,a3,s3,hmd,ha3,q3⟩:=ok_pick code hc 4 (by decide) (by decide) a2 s2 (by omega) (by omega)
  obtain ⟨pf,a4,s4,hpf,ha4,q4⟩:=ok_among 0 code hc [100,100,200,50] (by decide) (by decide) a3 s3 (by omega) (by omega)
  obtain ⟨n0,a5,s5,hn0,ha5,q5⟩:=ok_pick code hc 5 (by decide) (by decide) a4 s4 (by omega) (by omega)
  obtain ⟨N,rfl⟩:∃ N:Nat,n0 = (N:Int):=⟨n0.toNat,by omega⟩
  obtain ⟨run,run0,runI,runR⟩:=exists_run (α:=List Int × Int × Int) N ([],a5,s5) (fun i x => x.1.length = i ∧ a5 ≤ x.2.1 ∧ x.2.1 ≤ a5 + i)
    (fun x y => ∃ r,y.1 = x.1 ++ [IntKind.i64.wrap (1 + r)] ∧ CallOK Tryz.prog 93 [.bp (curP code x.2.1 x.2.2),.c (pi 6)] (.c (pi r)) [.bp (curP code y.2.1 y.2.2),.c (pi 6)])
    ⟨rfl,by simp,by simp⟩ (by
      rintro i ⟨l,b,t⟩ hi ⟨g1,g2,g3⟩
      simp only at g1 g2 g3
      obtain ⟨r,b1,t1,hr,hb1,c1⟩:=ok_pick code hc 6 (by decide) (by decide) b t (by omega) (by omega)
      exact ⟨(l ++ [IntKind.i64.wrap (1 + r)],b1,t1),⟨r,rfl,c1⟩,by simp [g1],by simp only; omega,by simp only; omega⟩)
  obtain ⟨e1,e2,e3⟩:=runI N (Nat.le_refl _)
  obtain ⟨P,hP⟩:∃ P,P = (run N).1:=⟨_,rfl⟩
  obtain ⟨a6,ha6⟩:∃ a6,a6 = (run N).2.1:=⟨_,rfl⟩
  obtain ⟨s6,hs6⟩:∃ s6,s6 = (run N).2.2:=⟨_,rfl⟩
  obtain ⟨ron,ron0,ronI,ronR⟩:=exists_run (α:=Nat × List Int × Int × Int) 5 (0,[],a6,s6) (fun i x => x.1 = i ∧ x.2.1.length ≤ i ∧ a6 ≤ x.2.2.1 ∧ x.2.2.1 ≤ a6 + i)
    (fun x y => ∃ b,y.1 = x.1 + 1 ∧ y.2.1 = x.2.1 ++ (if b = true then [(x.1:Int)] else []) ∧ CallOK Tryz.prog 106 [.bp (curP code x.2.2.1 x.2.2.2),.c (pi 4)] (.c (pb b)) [.bp (curP code y.2.2.1 y.2.2.2),.c (pi 4)])
    ⟨rfl,by simp,by simp,by simp⟩ (by
      rintro i ⟨j,l,b,t⟩ hi ⟨g1,g2,g3,g4⟩
      simp only at g1 g2 g3 g4
      obtain ⟨r,b1,t1,hb1,c1⟩:=ok_one code hc 4 (by decide) (by decide) b t (by omega) (by omega)
      refine ⟨(j + 1,l ++ (if r = true then [(j:Int)] else []),b1,t1),⟨r,rfl,rfl,c1⟩,by simp only; omega,?_,by simp only; omega,by simp only; omega⟩
      simp only [List.length_append]
      split <;> simp <;> omega)
  obtain ⟨f1,f2,f3,f4⟩:=ronI 5 (Nat.le_refl _)
  obtain ⟨C,hC⟩:∃ C,C = (ron 5).2.1:=⟨_,rfl⟩
  obtain ⟨a7,ha7⟩:∃ a7,a7 = (ron 5).2.2.1:=⟨_,rfl⟩
  obtain ⟨s7,hs7⟩:∃ s7,s7 = (ron 5).2.2.2:=⟨_,rfl⟩
  obtain ⟨x,a8,s8,hx,ha8,q8⟩:=ok_pick code hc 60 (by decide) (by decide) a7 s7 (by omega) (by omega)
  obtain ⟨g,a9,s9,hgl,ha9,hfin⟩:∃ (g:GAttrs) (a9 s9:Int),(g.Path.length ≤ 6 ∧ g.Comms.length ≤ 6) ∧ (a8 ≤ a9 ∧ a9 ≤ a8 + 1) ∧ ((x = 0 ∧ g = ⟨3,P,nx,md,pf,C⟩ ∧ a9 = a8 ∧ s9 = s8) ∨ (x = 1 ∧ ∃ y,g = ⟨o,P ++ [y],nx,md,pf,C⟩ ∧ CallOK Tryz.prog 111 [.bp (curP code a8 s8),.c (rd 0 3 ([0,65535,65536].map pi))] (.c (pi y)) [.bp (curP code a9 s9),.c (rd 0 3 ([0,65535,65536].map pi))]) ∨ (x = 2 ∧ ∃ y,g = ⟨o,P,nx,md,y,C⟩ ∧ CallOK Tryz.prog 111 [.bp (curP code a8 s8),.c (rd 0 3 ([-1,1000000,1000001].map pi))] (.c (pi y)) [.bp (curP code a9 s9),.c (rd 0 3 ([-1,1000000,1000001].map pi))]) ∨ ((x ≠ 0 ∧ x ≠ 1 ∧ x ≠ 2) ∧ g = ⟨o,P,nx,md,pf,C⟩ ∧ a9 = a8 ∧ s9 = s8)):=by
    have hPl:P.length ≤ 4:=by rw [hP,e1]; omega
    have hCl:C.length ≤ 5:=by rw [hC]; exact f2
    by_cases h0:x = 0
    · exact ⟨_,a8,s8,⟨by simp only; omega,by simp only; omega⟩,by omega,.inl ⟨h0,rfl,rfl,rfl⟩⟩
    · by_cases h1:x = 1
      · obtain ⟨y,b,t,hy,hb,c⟩:=ok_among 0 code hc [0,65535,65536] (by decide) (by decide) a8 s8 (by omega) (by omega)
        exact ⟨_,b,t,⟨by simp; omega,by simp only; omega⟩,hb,.inr (.inl ⟨h1,y,rfl,c⟩)⟩
      · by_cases h2:x = 2
        · obtain ⟨y,b,t,hy,hb,c⟩:=ok_among 0 code hc [-1,1000000,1000001] (by decide) (by decide) a8 s8 (by omega) (by omega)
          exact ⟨_,b,t,⟨by simp only; omega,by simp only; omega⟩,hb,.inr (.inr (.inl ⟨h2,y,rfl,c⟩))⟩
        · exact ⟨_,a8,s8,⟨by simp only; omega,by simp only; omega⟩,by omega,.inr (.inr (.inr ⟨⟨h0,h1,h2⟩,rfl,rfl,rfl⟩))⟩
  refine ⟨g,a9,s9,hgl,by omega,?_⟩
  have r3:([0,1,2]:List Nat) = List.range 3:=by decide
  have r4:([0,1,2,3]:List Nat) = List.range 4:=by decide
  refine okS (fn:=Tryz.f149) [(93,[1]),(111,[1]),(106,[1])] h0 Tryz.func149 (by kernel_rfl) rfl Tryz.ntmps149 Tryz.results149 (by simp) ?_
  unfold curP at q1 q2 q3 q4 q5 q8 runR ronR hfin ⊢
  simp
  refine Inv_intro q1 ?_
  simp
  refine Inv_intro q2 ?_
  simp
  refine Inv_intro q3 ?_
  simp
  refine Inv_intro q4 ?_
  simp
  refine Inv_intro q5 ?_
  simp
  refine loopS [0,2,3,4] [.arg 0 0,.op 0 0 0,.op 1 11 0] (fun m st => ∃ (i:Nat),i + m = N ∧ st = ⟨slOf 65 [(0,.ptr ⟨.arg 0 0,[]⟩ 0),(2,.ptr ⟨.op 0 0 0,[]⟩ 0),(3,.ptr ⟨.op 1 11 0,[]⟩ 0),(4,.t (pi m))],ofL [(.arg 0 0,.sl 0 129 1 [rd 1 code.length (code.map pu),pi (run i).2.1,.raw (.int .u64 (run i).2.2)]),(.op 0 0 0,.sl 0 52 1 [pi 0,.sl 0 nilE 0 [],pi 0,pi 0,pi 0,.sl 0 nilE 0 []]),(.op 1 11 0,.sl 0 52 1 [pi o,.sl 0 (if i = 0 then nilE else 3) (run i).1.length ((run i).1.map pi),pi nx,pi md,pi pf,.sl 0 nilE 0 []])]⟩) N ?_ ?_
  · rintro Inv hI
    simp
    subst hI
    exact ⟨0,by omega,by rw [run0]; rfl⟩
  · rintro Inv hI m st ⟨i,hi,rfl⟩
    refine ewr_sound (M:=[(93,[1]),(111,[1]),(106,[1])]) h0 ?_
    by_cases c:0 < m
    · obtain ⟨g1,g2,g3⟩:=runI i (by omega)
      obtain ⟨r,k1,k2⟩:=runR i (by omega)
      have c':(0:Int) < (m:Int):=by omega
      have w2:IntKind.i64.wrap ((m:Int) - 1) = ((m - 1:Nat):Int):=by rw [wrap64 (by omega) (by omega)]; omega
      have hb1:(i + 1) * 8 ≤ 140737488355328:=by omega
      have hb2:i ≤ 9223372036854775806:=by omega
      have ht:List.take i ((run i).1.map pi) = (run i).1.map pi:=List.take_of_length_le (by rw [List.length_map]; omega)
      simp [c,c']
      by_cases hi0:i = 0
      · subst hi0
        rw [run0] at k1 k2
        simp only [run0,List.length_nil,List.map_nil,List.nil_append] at k1 k2 ⊢
        simp
        refine drawP (tabEnv [(93,[1]),(111,[1]),(106,[1])] _) [⟨[.op 1 11 0],allD 65,true⟩,⟨[.op 1 11 0],allD 65,true⟩,⟨[.arg 0 0],allD 65,true⟩,⟨[.arg 0 0],[23,24,25,26,27,28,29,30],false⟩,⟨[],allD 65,true⟩,⟨[],allD 65,false⟩,⟨[.op 1 11 0,.op 5 5 0],[23,24,25,26,27,28,29,30],false⟩,⟨[.op 1 11 0],allD 65,true⟩,⟨[.op 1 11 0,.op 5 5 0,.op 5 6 0],[23,24,25,26,27,28,29,30],false⟩] h0 hm (tabEnv_ok (tab_cons k2 tab_nil)) (by kernel_rfl) (by kernel_rfl) ?_
        simp [w2]
        refine Less_mk (m - 1) (by omega) ?_
        subst hI
        refine ⟨1,by omega,?_⟩
        simp [k1]
        exact ofL_mv 2 _ _ _ (by simp)
      · simp [hi0]
        refine drawP (tabEnv [(93,[1]),(111,[1]),(106,[1])] _) [⟨[.op 1 11 0],allD 65,true⟩,⟨[.op 1 11 0],allD 65,true⟩,⟨[.arg 0 0],allD 65,true⟩,⟨[.arg 0 0],[23,24,25,26,27,28,29,30],false⟩,⟨[],allD 65,true⟩,⟨[],allD 65,false⟩,⟨[.op 1 11 0,.op 5 5 0],[23,24,25,26,27,28,29,30],false⟩,⟨[.op 1 11 0],allD 65,true⟩,⟨[.op 1 11 0,.op 5 5 0,.op 5 6 0],[23,24,25,26,27,28,29,30],false⟩] h0 hm (tabEnv_ok (tab_cons k2 tab_nil)) (by kernel_rfl) (by kernel_rfl) ?_
        simp [w2,g1,ht,hb1,hb2]
        refine Less_mk (m - 1) (by omega) ?_
        subst hI
        refine ⟨i + 1,by omega,?_⟩
        simp [k1,g1]
        exact ofL_mv 2 _ _ _ (by simp)
    · have hm0:m = 0:=by omega
      have hiN:i = N:=by omega
      subst hm0
      subst hiN
      rw [← hP,← ha6,← hs6]
      obtain ⟨eP,heP⟩:∃ e,e = (if i = 0 then nilE else 3):=⟨_,rfl⟩
      have hnP:P.length ≤ 4:=by rw [hP,e1]; omega
      obtain ⟨hzP,htP,hoP,qP⟩:(P.length * tsz Tryz.prog eP ≤ P.length ∧ 0 < tsz Tryz.prog eP ∨ P = []) ∧ List.take (P.length * tsz Tryz.prog eP) (P.map pi) = P.map pi ∧ (eP = 3 ∨ eP = nilE) ∧ (eP = nilE ∧ P = [] ∨ eP = 3):=by
        by_cases hi0:i = 0
        · have hPn:P = []:=List.eq_nil_of_length_eq_zero (by rw [hP,e1]; exact hi0)
          rw [heP,if_pos hi0,hPn]
          simp
        · rw [heP,if_neg hi0]
          simp
      rw [← heP]
      clear runI runR run0 q1 q2 q3 q4 q5 e1 e2 e3
      simp
      refine loopS [0,2,3,5] [.arg 0 0,.op 0 0 0,.op 1 11 0] (fun m st => ∃ (i:Nat),i + m = 5 ∧ st = ⟨slOf 65 [(0,.ptr ⟨.arg 0 0,[]⟩ 0),(2,.ptr ⟨.op 0 0 0,[]⟩ 0),(3,.ptr ⟨.op 1 11 0,[]⟩ 0),(5,.t (pi i))],ofL [(.arg 0 0,.sl 0 129 1 [rd 1 code.length (code.map pu),pi (ron i).2.2.1,.raw (.int .u64 (ron i).2.2.2)]),(.op 0 0 0,.sl 0 52 1 [pi 0,.sl 0 nilE 0 [],pi 0,pi 0,pi 0,.sl 0 nilE 0 []]),(.op 1 11 0,.sl 0 52 1 [pi o,.sl 0 eP P.length (P.map pi),pi nx,pi md,pi pf,.sl 0 (if (ron i).2.1 = [] then nilE else 3) (ron i).2.1.length ((ron i).2.1.map pi)])]⟩) 5 ?_ ?_
      · rintro Inv hI
        simp
        subst hI
        exact ⟨0,by omega,by rw [ron0]; rfl⟩
      · rintro Inv hI m st ⟨i,hi,rfl⟩
        refine ewr_sound (M:=[(93,[1]),(111,[1]),(106,[1])]) h0 ?_
        by_cases c:0 < m
        · obtain ⟨g1,g2,g3,g4⟩:=ronI i (by omega)
          obtain ⟨b,k0,k1,k2⟩:=ronR i (by omega)
          rw [g1] at k0 k1
          have c':(i:Int) < 5:=by omega
          have w2:IntKind.i64.wrap ((i:Int) + 1) = ((i + 1:Nat):Int):=by rw [wrap64 (by omega) (by omega)]; omega
          simp [c']
          refine Inv_intro k2 ?_
          cases b with
          | false =>
            simp [w2]
            refine Less_mk (m - 1) (by omega) ?_
            subst hI
            refine ⟨i + 1,by omega,?_⟩
            simp at k1
            rw [k1]
            simp
          | true =>
            simp at k1
            by_cases hC0:(ron i).2.1 = []
            · rw [hC0] at k1
              simp [w2,hC0]
              refine Less_mk (m - 1) (by omega) ?_
              subst hI
              refine ⟨i + 1,by omega,?_⟩
              rw [k1]
              simp
            · have ht:List.take (ron i).2.1.length ((ron i).2.1.map pi) = (ron i).2.1.map pi:=List.take_of_length_le (by rw [List.length_map]; omega)
              have hb1:((ron i).2.1.length + 1) * 8 ≤ 140737488355328:=by omega
              have hb2:(ron i).2.1.length ≤ 9223372036854775806:=by omega
              simp [w2,hC0,ht,hb1,hb2]
              refine Less_mk (m - 1) (by omega) ?_
              subst hI
              refine ⟨i + 1,by omega,?_⟩
              rw [k1]
              simp
        · have hm0:m = 0:=by omega
          have hi5:i = 5:=by omega
          subst hi5
          rw [← hC,← ha7,← hs7]
          obtain ⟨eC,heC⟩:∃ e,e = (if C = [] then nilE else 3):=⟨_,rfl⟩
          obtain ⟨hzC,htC,qC⟩:(C.length * tsz Tryz.prog eC ≤ C.length ∧ 0 < tsz Tryz.prog eC ∨ C = []) ∧ List.take (C.length * tsz Tryz.prog eC) (C.map pi) = C.map pi ∧ (eC = nilE ∧ C = [] ∨ eC = 3):=by
            by_cases hC0:C = []
            · rw [heC,if_pos hC0,hC0]
              simp
            · rw [heC,if_neg hC0]
              simp
          rw [← heC]
          have hnC:C.length ≤ 5:=by rw [hC]; exact f2
          clear ronI ronR ron0 f1 f2 f3 f4
          simp
          refine Inv_intro q8 ?_
          rcases hfin with ⟨rfl,rfl,rfl,rfl⟩ | ⟨rfl,y,rfl,c1⟩ | ⟨rfl,y,rfl,c1⟩ | ⟨⟨x0,x1,x2⟩,rfl,rfl,rfl⟩
          · simp [hzP,htP,hzC,htC,qP,qC]
          · have hb1:(P.length + 1) * 8 ≤ 140737488355328:=by omega
            have hb2:P.length ≤ 9223372036854775806:=by omega
            simp
            refine drawP (tabEnv [(93,[1]),(111,[1]),(106,[1])] _) [⟨[.op 1 11 0],allD 65,true⟩,⟨[.op 1 11 0],allD 65,true⟩,⟨[.arg 0 0],allD 65,true⟩,⟨[],allD 65,false⟩,⟨[.arg 0 0,.op 15 3 0],[50,51,52,53,54,55,56,57],false⟩,⟨[],allD 65,false⟩,⟨[.op 1 11 0,.op 15 5 0],[50,51,52,53,54,55,56,57],false⟩,⟨[.op 1 11 0],allD 65,true⟩,⟨[.op 1 11 0,.op 15 5 0,.op 15 6 0],[50,51,52,53,54,55,56,57],false⟩] h0 hm (tabEnv_ok (tab_cons c1 tab_nil)) (by kernel_rfl) (by kernel_rfl) ?_
            simp [hzP,htP,hzC,htC,hoP,hb1,hb2]
            exact qC
          · simp
            refine Inv_intro c1 ?_
            simp [hzP,htP,hzC,htC,qP,qC]
          · simp [x0,x1,x2,hzP,htP,hzC,htC,qP,qC]
theorem cmpPx_lt (p q:GPrefix):cmpPx p q < 0 ↔ (p.Addr < q.Addr ∨ (p.Addr = q.Addr ∧ p.Len < q.Len)):=by
  unfold cmpPx cmpI
  by_cases h1:p.Addr < q.Addr
  · simp [h1]
  · by_cases h2:q.Addr < p.Addr
    · simp [h1,h2]; omega
    · have h3:p.Addr = q.Addr:=by omega
      by_cases h4:p.Len < q.Len
      · simp [h3,h4]
      · by_cases h5:q.Len < p.Len <;> simp [h3,h4,h5]
theorem px_ext (p q:GPrefix):p = q ↔ p.Addr = q.Addr ∧ p.Len = q.Len:=by
  obtain ⟨pa,pl⟩:=p
  obtain ⟨qa,ql⟩:=q
  simp
theorem cmpPx_eq (p q:GPrefix):cmpPx p q = 0 ↔ p = q:=by
  rw [px_ext]
  unfold cmpPx cmpI
  by_cases h1:p.Addr < q.Addr
  · simp [h1]; omega
  · by_cases h2:q.Addr < p.Addr
    · simp [h1,h2]; omega
    · have h3:p.Addr = q.Addr:=by omega
      by_cases h4:p.Len < q.Len
      · simp [h3,h4]; omega
      · by_cases h5:q.Len < p.Len
        · simp [h3,h4,h5]; omega
        · simp [h3,h4,h5]; omega
theorem ltP_trans {p q r:GPrefix} (h1:cmpPx p q < 0) (h2:cmpPx q r < 0):cmpPx p r < 0:=by
  rw [cmpPx_lt] at *
  omega
theorem ltP_irr (p:GPrefix):¬ cmpPx p p < 0:=by rw [cmpPx_lt]; omega
def srtP (l:List GPrefix):Prop:=l.Pairwise (fun a b => cmpPx a b < 0)
def wt_PrefixS (xs:List GPrefix):Nat:=xs.length
def mk_PrefixS (xs:List GPrefix) (k:Int):List GPrefix × Int:=mkR GPrefix.mark xs k
theorem mk_PrefixS_len (xs:List GPrefix) (k:Int):(mk_PrefixS xs k).1.length = xs.length:=mkR_len _ xs k
attribute [simp] mk_PrefixS_len
structure GUpdate where
  Gone:(List GPrefix)
  Attrs:GAttrs
  Come:(List GPrefix)
  deriving DecidableEq
def GUpdate.co (x:GUpdate):List PT:=[.sl 0 77 x.Gone.length (x.Gone.flatMap GPrefix.c),pi x.Attrs.Origin,.sl 0 3 x.Attrs.Path.length (x.Attrs.Path.map pi),pi x.Attrs.Next,pi x.Attrs.Med,pi x.Attrs.Pref,.sl 0 3 x.Attrs.Comms.length (x.Attrs.Comms.map pi),.sl 0 77 x.Come.length (x.Come.flatMap GPrefix.c)]
def GUpdate.ci (k:Nat) (x:GUpdate):List PT:=[rd k x.Gone.length (x.Gone.flatMap GPrefix.c),pi x.Attrs.Origin,rd k x.Attrs.Path.length (x.Attrs.Path.map pi),pi x.Attrs.Next,pi x.Attrs.Med,pi x.Attrs.Pref,rd k x.Attrs.Comms.length (x.Attrs.Comms.map pi),rd k x.Come.length (x.Come.flatMap GPrefix.c)]
attribute [simp] GUpdate.co GUpdate.ci
theorem GUpdate.len_i (k:Nat) (x:GUpdate):(x.ci k).length = 8:=rfl
theorem GUpdate.un1 (x:GUpdate):PT.unownL x.co = x.ci 0:=by simp [rd]
theorem GUpdate.uni1 (k:Nat) (x:GUpdate):PT.unownL (x.ci k) = x.ci 0:=by simp [rd]
theorem GUpdate.un (xs:List GUpdate):PT.unownL (xs.flatMap GUpdate.co) = xs.flatMap (GUpdate.ci 0):=by
  rw [unownL_fm]
  congr 1
  funext x
  exact GUpdate.un1 x
theorem GUpdate.uni (k:Nat) (xs:List GUpdate):PT.unownL (xs.flatMap (GUpdate.ci k)) = xs.flatMap (GUpdate.ci 0):=by
  rw [unownL_fm]
  congr 1
  funext x
  exact GUpdate.uni1 k x
theorem GUpdate.nt (xs:List GUpdate):PT.noTmpL (xs.flatMap GUpdate.co) = true:=noTmpL_fm _ xs fun x => by simp
theorem GUpdate.nti (k:Nat) (xs:List GUpdate):PT.noTmpL (xs.flatMap (GUpdate.ci (k + 1))) = true:=noTmpL_fm _ xs fun x => by simp [rd]
attribute [simp] GUpdate.un GUpdate.uni GUpdate.nt GUpdate.nti
theorem GUpdate.lenR (xs:List GUpdate):(xs.flatMap GUpdate.co).length = xs.length * 8:=fm_len _ 8 (fun _ => rfl) xs
theorem GUpdate.lenRi (k:Nat) (xs:List GUpdate):(xs.flatMap (GUpdate.ci k)).length = xs.length * 8:=fm_len _ 8 (fun _ => rfl) xs
theorem GUpdate.tkR (xs:List GUpdate):(xs.flatMap GUpdate.co).take (xs.length * 8) = xs.flatMap GUpdate.co:=List.take_of_length_le (by rw [GUpdate.lenR]; exact Nat.le_refl _)
theorem GUpdate.tkRi (k:Nat) (xs:List GUpdate):(xs.flatMap (GUpdate.ci k)).take (xs.length * 8) = xs.flatMap (GUpdate.ci k):=List.take_of_length_le (by rw [GUpdate.lenRi]; exact Nat.le_refl _)
attribute [simp high] GUpdate.lenR GUpdate.tkR GUpdate.lenRi GUpdate.tkRi
def GUpdate.wt (x:GUpdate):Nat:=wt_PrefixS x.Gone + GAttrs.wt x.Attrs + wt_PrefixS x.Come
def GUpdate.mark (x:GUpdate) (k:Int):GUpdate × Int:=(⟨(mk_PrefixS x.Gone k).1,⟨(mk_PrefixS x.Gone k).2,(mk_IntS x.Attrs.Path ((mk_PrefixS x.Gone k).2 + 1)).1,(mk_IntS x.Attrs.Path ((mk_PrefixS x.Gone k).2 + 1)).2,((mk_IntS x.Attrs.Path ((mk_PrefixS x.Gone k).2 + 1)).2 + 1),(((mk_IntS x.Attrs.Path ((mk_PrefixS x.Gone k).2 + 1)).2 + 1) + 1),(mk_IntS x.Attrs.Comms ((((mk_IntS x.Attrs.Path ((mk_PrefixS x.Gone k).2 + 1)).2 + 1) + 1) + 1)).1⟩,(mk_PrefixS x.Come (mk_IntS x.Attrs.Comms ((((mk_IntS x.Attrs.Path ((mk_PrefixS x.Gone k).2 + 1)).2 + 1) + 1) + 1)).2).1⟩,(mk_PrefixS x.Come (mk_IntS x.Attrs.Comms ((((mk_IntS x.Attrs.Path ((mk_PrefixS x.Gone k).2 + 1)).2 + 1) + 1) + 1)).2).2)
end Go.V
