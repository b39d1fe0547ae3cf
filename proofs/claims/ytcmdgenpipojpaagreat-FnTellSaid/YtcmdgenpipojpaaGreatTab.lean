/- What functions of the seat's program do, each proved of its code, under the bounds that its theorem names. -/
import Derived.Test.YtcmdgenpipojpaaGreatTaa
set_option linter.all false
namespace Go.V
open Go.Proofs
set_option maxHeartbeats 1000000
set_option maxRecDepth 10000
set_option linter.unusedSimpArgs false
set_option linter.unusedVariables false
theorem ofL_mv (n:Nat) (l:List (Id × PT)) (i:Id) (t:PT) (h:((l.take n).all fun p => !decide (p.1 = i)) = true):ofL ((i,t) :: l) = ofL (l.take n ++ (i,t) :: l.drop n):=by
  induction n generalizing l with
  | zero => rfl
  | succ n ih => cases l with
    | nil => rfl
    | cons p l =>
      obtain ⟨j,y⟩:=p
      simp at h
      have ih:=ih l (by simpa using h.2)
      show ofL ((i,t) :: (j,y) :: l) = ofL ((j,y) :: (l.take n ++ (i,t) :: l.drop n))
      have e:ofL ((j,y) :: (l.take n ++ (i,t) :: l.drop n)) = ofL ((j,y) :: (i,t) :: l):=by
        funext q
        simp only [ofL]
        rw [← ih]
        rfl
      rw [e]
      funext q
      by_cases c:q = i
      · subst c
        have h1:=h.1
        simp [ofL,Ne.symm h1]
      · simp [ofL,c]
theorem ofL_two {a b:Id} {x y:PT} (h:a ≠ b):ofL [(a,x),(b,y)] = ofL [(b,y),(a,x)]:=by
  funext q
  by_cases e:q = a
  · subst e
    simp [ofL,h]
  · by_cases e2:q = b
    · subst e2
      simp [ofL,e]
    · simp [ofL,e,e2]
abbrev cIntSo (xs:List Int):PT:=.sl 0 3 xs.length (xs.map pi)
abbrev cIntSi (k:Nat) (xs:List Int):PT:=rd k xs.length (xs.map pi)
def wt_IntS (xs:List Int):Nat:=xs.length
theorem len_wt_IntS (xs:List Int):xs.length ≤ wt_IntS xs:=by unfold wt_IntS; omega
def mk_IntS (xs:List Int) (k:Int):List Int × Int:=mkR (fun (_:Int) k => (k,k + 1)) xs k
def cn_IntS (xs:List Int):Nat:=cnR (fun (_:Int) => 1) xs
theorem mk_IntS_len (xs:List Int) (k:Int):(mk_IntS xs k).1.length = xs.length:=mkR_len _ xs k
attribute [simp] mk_IntS_len
structure GAttrs where
  Origin:Int
  Path:(List Int)
  Next:Int
  Med:Int
  Pref:Int
  Comms:(List Int)
  deriving DecidableEq
def GAttrs.co (x:GAttrs):List PT:=[pi x.Origin,.sl 0 3 x.Path.length (x.Path.map pi),pi x.Next,pi x.Med,pi x.Pref,.sl 0 3 x.Comms.length (x.Comms.map pi)]
def GAttrs.ci (k:Nat) (x:GAttrs):List PT:=[pi x.Origin,rd k x.Path.length (x.Path.map pi),pi x.Next,pi x.Med,pi x.Pref,rd k x.Comms.length (x.Comms.map pi)]
attribute [simp] GAttrs.co GAttrs.ci
theorem GAttrs.len_i (k:Nat) (x:GAttrs):(x.ci k).length = 6:=rfl
theorem GAttrs.un1 (x:GAttrs):PT.unownL x.co = x.ci 0:=by simp [rd]
theorem GAttrs.uni1 (k:Nat) (x:GAttrs):PT.unownL (x.ci k) = x.ci 0:=by simp [rd]
theorem GAttrs.un (xs:List GAttrs):PT.unownL (xs.flatMap GAttrs.co) = xs.flatMap (GAttrs.ci 0):=by
  rw [unownL_fm]
  congr 1
  funext x
  exact GAttrs.un1 x
theorem GAttrs.uni (k:Nat) (xs:List GAttrs):PT.unownL (xs.flatMap (GAttrs.ci k)) = xs.flatMap (GAttrs.ci 0):=by
  rw [unownL_fm]
  congr 1
  funext x
  exact GAttrs.uni1 k x
theorem GAttrs.nt (xs:List GAttrs):PT.noTmpL (xs.flatMap GAttrs.co) = true:=noTmpL_fm _ xs fun x => by simp
theorem GAttrs.nti (k:Nat) (xs:List GAttrs):PT.noTmpL (xs.flatMap (GAttrs.ci (k + 1))) = true:=noTmpL_fm _ xs fun x => by simp [rd]
attribute [simp] GAttrs.un GAttrs.uni GAttrs.nt GAttrs.nti
theorem GAttrs.lenR (xs:List GAttrs):(xs.flatMap GAttrs.co).length = xs.length * 6:=fm_len _ 6 (fun _ => rfl) xs
theorem GAttrs.lenRi (k:Nat) (xs:List GAttrs):(xs.flatMap (GAttrs.ci k)).length = xs.length * 6:=fm_len _ 6 (fun _ => rfl) xs
theorem GAttrs.tkR (xs:List GAttrs):(xs.flatMap GAttrs.co).take (xs.length * 6) = xs.flatMap GAttrs.co:=List.take_of_length_le (by rw [GAttrs.lenR]; exact Nat.le_refl _)
theorem GAttrs.tkRi (k:Nat) (xs:List GAttrs):(xs.flatMap (GAttrs.ci k)).take (xs.length * 6) = xs.flatMap (GAttrs.ci k):=List.take_of_length_le (by rw [GAttrs.lenRi]; exact Nat.le_refl _)
attribute [simp high] GAttrs.lenR GAttrs.tkR GAttrs.lenRi GAttrs.tkRi
def GAttrs.wt (x:GAttrs):Nat:=wt_IntS x.Path + wt_IntS x.Comms
def GAttrs.mark (x:GAttrs) (k:Int):GAttrs × Int:=(⟨k,(mk_IntS x.Path (k + 1)).1,(mk_IntS x.Path (k + 1)).2,((mk_IntS x.Path (k + 1)).2 + 1),(((mk_IntS x.Path (k + 1)).2 + 1) + 1),(mk_IntS x.Comms ((((mk_IntS x.Path (k + 1)).2 + 1) + 1) + 1)).1⟩,(mk_IntS x.Comms ((((mk_IntS x.Path (k + 1)).2 + 1) + 1) + 1)).2)
def GAttrs.cn (x:GAttrs):Nat:=1 + cn_IntS x.Path + 1 + 1 + 1 + cn_IntS x.Comms
set_option maxHeartbeats 4000000 in
theorem ok_attrs (code:List Int) (hc:codeOK code) (a s:Int) (ha:0 ≤ a) (ha2:a ≤ 3999900):∃ (g:GAttrs) (a' s':Int),(g.Path.length ≤ 6 ∧ g.Comms.length ≤ 6) ∧ (a ≤ a' ∧ a' ≤ a + 20) ∧ CallOK Tryz.prog 54 [.bp (curP code a s)] (.agg (GAttrs.co g)) [.bp (curP code a' s')]:=by
  obtain ⟨o,a1,s1,ho,ha1,q1⟩:=ok_pick code hc 3 (by decide) (by decide) a s ha (by omega)
  obtain ⟨nx,a2,s2,hnx,ha2',q2⟩:=ok_among 0 code hc [0,1,167772161] (by decide) (by decide) a1 s1 (by omega) (by omega)
  obtain ⟨md,a3,s3,hmd,ha3,q3⟩:=ok_pick code hc 4 (by decide) (by decide) a2 s2 (by omega) (by omega)
  obtain ⟨pf,a4,s4,hpf,ha4,q4⟩:=ok_among 0 code hc [100,100,200,50] (by decide) (by decide) a3 s3 (by omega) (by omega)
  obtain ⟨n0,a5,s5,hn0,ha5,q5⟩:=ok_pick code hc 5 (by decide) (by decide) a4 s4 (by omega) (by omega)
  obtain ⟨N,rfl⟩:∃ N:Nat,n0 = (N:Int):=⟨n0.toNat,by omega⟩
  obtain ⟨run,run0,runI,runR⟩:=exists_run (α:=List Int × Int × Int) N ([],a5,s5) (fun i x => x.1.length = i ∧ a5 ≤ x.2.1 ∧ x.2.1 ≤ a5 + i)
    (fun x y => ∃ r,y.1 = x.1 ++ [IntKind.i64.wrap (1 + r)] ∧ CallOK Tryz.prog 18 [.bp (curP code x.2.1 x.2.2),.c (pi 6)] (.c (pi r)) [.bp (curP code y.2.1 y.2.2),.c (pi 6)])
    ⟨rfl,by simp,by simp⟩ (by
      rintro i ⟨l,b,t⟩ hi ⟨g1,g2,g3⟩
      simp only at g1 g2 g3
      obtain ⟨r,b1,t1,hr,hb1,c1⟩:=ok_pick code hc 6 (by decide) (by decide) b t (by omega) (by omega)
      exact ⟨(l ++ [IntKind.i64.wrap (1 + r)],b1,t1),⟨r,rfl,c1⟩,by simp [g1],by simp only; omega,by simp only; omega⟩)
  obtain ⟨e1,e2,e3⟩:=runI N (Nat.le_refl _)
  obtain ⟨P,hP⟩:∃ P,P = (run N).1:=⟨_,rfl⟩
  obtain ⟨a6,ha6⟩:∃ a6,a6 = (run N).2.1:=⟨_,rfl⟩
  obtain ⟨s6,hs6⟩:∃ s6,s6 = (run N).2.2:=⟨_,rfl⟩
  obtain ⟨ron,ron0,ronI,ronR⟩:=exists_run (α:=Nat × List Int × Int × Int) 5 (0,[],a6,s6) (fun i x => x.1 = i ∧ x.2.1.length ≤ i ∧ a6 ≤ x.2.2.1 ∧ x.2.2.1 ≤ a6 + i)
    (fun x y => ∃ b,y.1 = x.1 + 1 ∧ y.2.1 = x.2.1 ++ (if b = true then [(x.1:Int)] else []) ∧ CallOK Tryz.prog 50 [.bp (curP code x.2.2.1 x.2.2.2),.c (pi 4)] (.c (pb b)) [.bp (curP code y.2.2.1 y.2.2.2),.c (pi 4)])
    ⟨rfl,by simp,by simp,by simp⟩ (by
      rintro i ⟨j,l,b,t⟩ hi ⟨g1,g2,g3,g4⟩
      simp only at g1 g2 g3 g4
      obtain ⟨r,b1,t1,hb1,c1⟩:=ok_one code hc 4 (by decide) (by decide) b t (by omega) (by omega)
      refine ⟨(j + 1,l ++ (if r = true then [(j:Int)] else []),b1,t1),⟨r,rfl,rfl,c1⟩,by simp only; omega,?_,by simp only; omega,by simp only; omega⟩
      simp only [List.length_append]
      split <;> simp <;> omega)
  obtain ⟨f1,f2,f3,f4⟩:=ronI 5 (Nat.le_refl _)
  obtain ⟨C,hC⟩:∃ C,C = (ron 5).2.1:=⟨_,rfl⟩
  obtain ⟨a7,ha7⟩:∃ a7,a7 = (ron 5).2.2.1:=⟨_,rfl⟩
  obtain ⟨s7,hs7⟩:∃ s7,s7 = (ron 5).2.2.2:=⟨_,rfl⟩
  obtain ⟨x,a8,s8,hx,ha8,q8⟩:=ok_pick code hc 60 (by decide) (by decide) a7 s7 (by omega) (by omega)
  obtain ⟨g,a9,s9,hgl,ha9,hfin⟩:∃ (g:GAttrs) (a9 s9:Int),(g.Path.length ≤ 6 ∧ g.Comms.length ≤ 6) ∧ (a8 ≤ a9 ∧ a9 ≤ a8 + 1) ∧ ((x = 0 ∧ g = ⟨3,P,nx,md,pf,C⟩ ∧ a9 = a8 ∧ s9 = s8) ∨ (x = 1 ∧ ∃ y,g = ⟨o,P ++ [y],nx,md,pf,C⟩ ∧ CallOK Tryz.prog 94 [.bp (curP code a8 s8),.c (rd 0 3 ([0,65535,65536].map pi))] (.c (pi y)) [.bp (curP code a9 s9),.c (rd 0 3 ([0,65535,65536].map pi))]) ∨ (x = 2 ∧ ∃ y,g = ⟨o,P,nx,md,y,C⟩ ∧ CallOK Tryz.prog 94 [.bp (curP code a8 s8),.c (rd 0 3 ([-1,1000000,1000001].map pi))] (.c (pi y)) [.bp (curP code a9 s9),.c (rd 0 3 ([-1,1000000,1000001].map pi))]) ∨ ((x ≠ 0 ∧ x ≠ 1 ∧ x ≠ 2) ∧ g = ⟨o,P,nx,md,pf,C⟩ ∧ a9 = a8 ∧ s9 = s8)):=by
    have hPl:P.length ≤ 4:=by rw [hP,e1]; omega
    have hCl:C.length ≤ 5:=by rw [hC]; exact f2
    by_cases h0:x = 0
    · exact ⟨_,a8,s8,⟨by simp only; omega,by simp only; omega⟩,by omega,.inl ⟨h0,rfl,rfl,rfl⟩⟩
    · by_cases h1:x = 1
      · obtain ⟨y,b,t,hy,hb,c⟩:=ok_among 0 code hc [0,65535,65536] (by decide) (by decide) a8 s8 (by omega) (by omega)
        exact ⟨_,b,t,⟨by simp; omega,by simp only; omega⟩,hb,.inr (.inl ⟨h1,y,rfl,c⟩)⟩
      · by_cases h2:x = 2
        · obtain ⟨y,b,t,hy,hb,c⟩:=ok_among 0 code hc [-1,1000000,1000001] (by decide) (by decide) a8 s8 (by omega) (by omega)
          exact ⟨_,b,t,⟨by simp only; omega,by simp only; omega⟩,hb,.inr (.inr (.inl ⟨h2,y,rfl,c⟩))⟩
        · exact ⟨_,a8,s8,⟨by simp only; omega,by simp only; omega⟩,by omega,.inr (.inr (.inr ⟨⟨h0,h1,h2⟩,rfl,rfl,rfl⟩))⟩
  refine ⟨g,a9,s9,hgl,by omega,?_⟩
  have r3:([0,1,2]:List Nat) = List.range 3:=by decide
  have r4:([0,1,2,3]:List Nat) = List.range 4:=by decide
  refine okS (fn:=Tryz.f54) [(18,[1]),(94,[1]),(50,[1])] h0 Tryz.func54 (by kernel_rfl) rfl Tryz.ntmps54 Tryz.results54 (by simp) ?_
  unfold curP at q1 q2 q3 q4 q5 q8 runR ronR hfin ⊢
  simp
  refine Inv_intro q1 ?_
  simp
  refine Inv_intro q2 ?_
  simp
  refine Inv_intro q3 ?_
  simp
  refine Inv_intro q4 ?_
  simp
  refine Inv_intro q5 ?_
  simp
  refine loopS [0,2,3,4] [.arg 0 0,.op 0 0 0,.op 1 11 0] (fun m st => ∃ (i:Nat),i + m = N ∧ st = ⟨slOf 65 [(0,.ptr ⟨.arg 0 0,[]⟩ 0),(2,.ptr ⟨.op 0 0 0,[]⟩ 0),(3,.ptr ⟨.op 1 11 0,[]⟩ 0),(4,.t (pi m))],ofL [(.arg 0 0,.sl 0 49 1 [rd 1 code.length (code.map pu),pi (run i).2.1,.raw (.int .u64 (run i).2.2)]),(.op 0 0 0,.sl 0 36 1 [pi 0,.sl 0 nilE 0 [],pi 0,pi 0,pi 0,.sl 0 nilE 0 []]),(.op 1 11 0,.sl 0 36 1 [pi o,.sl 0 (if i = 0 then nilE else 3) (run i).1.length ((run i).1.map pi),pi nx,pi md,pi pf,.sl 0 nilE 0 []])]⟩) N ?_ ?_
  · rintro Inv hI
    simp
    subst hI
    exact ⟨0,by omega,by rw [run0]; rfl⟩
  · rintro Inv hI m st ⟨i,hi,rfl⟩
    refine ewr_sound (M:=[(18,[1]),(94,[1]),(50,[1])]) h0 ?_
    by_cases c:0 < m
    · obtain ⟨g1,g2,g3⟩:=runI i (by omega)
      obtain ⟨r,k1,k2⟩:=runR i (by omega)
      have c':(0:Int) < (m:Int):=by omega
      have w2:IntKind.i64.wrap ((m:Int) - 1) = ((m - 1:Nat):Int):=by rw [wrap64 (by omega) (by omega)]; omega
      have hb1:(i + 1) * 8 ≤ 140737488355328:=by omega
      have hb2:i ≤ 9223372036854775806:=by omega
      have ht:List.take i ((run i).1.map pi) = (run i).1.map pi:=List.take_of_length_le (by rw [List.length_map]; omega)
      simp [c,c']
      by_cases hi0:i = 0
      · subst hi0
        rw [run0] at k1 k2
        simp only [run0,List.length_nil,List.map_nil,List.nil_append] at k1 k2 ⊢
        simp
        refine drawP (tabEnv [(18,[1]),(94,[1]),(50,[1])] _) [⟨[.op 1 11 0],allD 65,true⟩,⟨[.op 1 11 0],allD 65,true⟩,⟨[.arg 0 0],allD 65,true⟩,⟨[.arg 0 0],[23,24,25,26,27,28,29,30],false⟩,⟨[],allD 65,true⟩,⟨[],allD 65,false⟩,⟨[.op 1 11 0,.op 5 5 0],[23,24,25,26,27,28,29,30],false⟩,⟨[.op 1 11 0],allD 65,true⟩,⟨[.op 1 11 0,.op 5 5 0,.op 5 6 0],[23,24,25,26,27,28,29,30],false⟩] h0 hm (tabEnv_ok (tab_cons k2 tab_nil)) (by kernel_rfl) (by kernel_rfl) ?_
        simp [w2]
        refine Less_mk (m - 1) (by omega) ?_
        subst hI
        refine ⟨1,by omega,?_⟩
        simp [k1]
        exact ofL_mv 2 _ _ _ (by simp)
      · simp [hi0]
        refine drawP (tabEnv [(18,[1]),(94,[1]),(50,[1])] _) [⟨[.op 1 11 0],allD 65,true⟩,⟨[.op 1 11 0],allD 65,true⟩,⟨[.arg 0 0],allD 65,true⟩,⟨[.arg 0 0],[23,24,25,26,27,28,29,30],false⟩,⟨[],allD 65,true⟩,⟨[],allD 65,false⟩,⟨[.op 1 11 0,.op 5 5 0],[23,24,25,26,27,28,29,30],false⟩,⟨[.op 1 11 0],allD 65,true⟩,⟨[.op 1 11 0,.op 5 5 0,.op 5 6 0],[23,24,25,26,27,28,29,30],false⟩] h0 hm (tabEnv_ok (tab_cons k2 tab_nil)) (by kernel_rfl) (by kernel_rfl) ?_
        simp [w2,g1,ht,hb1,hb2]
        refine Less_mk (m - 1) (by omega) ?_
        subst hI
        refine ⟨i + 1,by omega,?_⟩
        simp [k1,g1]
        exact ofL_mv 2 _ _ _ (by simp)
    · have hm0:m = 0:=by omega
      have hiN:i = N:=by omega
      subst hm0
      subst hiN
      rw [← hP,← ha6,← hs6]
      obtain ⟨eP,heP⟩:∃ e,e = (if i = 0 then nilE else 3):=⟨_,rfl⟩
      have hnP:P.length ≤ 4:=by rw [hP,e1]; omega
      obtain ⟨hzP,htP,hoP,qP⟩:(P.length * tsz Tryz.prog eP ≤ P.length ∧ 0 < tsz Tryz.prog eP ∨ P = []) ∧ List.take (P.length * tsz Tryz.prog eP) (P.map pi) = P.map pi ∧ (eP = 3 ∨ eP = nilE) ∧ (eP = nilE ∧ P = [] ∨ eP = 3):=by
        by_cases hi0:i = 0
        · have hPn:P = []:=List.eq_nil_of_length_eq_zero (by rw [hP,e1]; exact hi0)
          rw [heP,if_pos hi0,hPn]
          simp
        · rw [heP,if_neg hi0]
          simp
      rw [← heP]
      clear runI runR run0 q1 q2 q3 q4 q5 e1 e2 e3
      simp
      refine loopS [0,2,3,5] [.arg 0 0,.op 0 0 0,.op 1 11 0] (fun m st => ∃ (i:Nat),i + m = 5 ∧ st = ⟨slOf 65 [(0,.ptr ⟨.arg 0 0,[]⟩ 0),(2,.ptr ⟨.op 0 0 0,[]⟩ 0),(3,.ptr ⟨.op 1 11 0,[]⟩ 0),(5,.t (pi i))],ofL [(.arg 0 0,.sl 0 49 1 [rd 1 code.length (code.map pu),pi (ron i).2.2.1,.raw (.int .u64 (ron i).2.2.2)]),(.op 0 0 0,.sl 0 36 1 [pi 0,.sl 0 nilE 0 [],pi 0,pi 0,pi 0,.sl 0 nilE 0 []]),(.op 1 11 0,.sl 0 36 1 [pi o,.sl 0 eP P.length (P.map pi),pi nx,pi md,pi pf,.sl 0 (if (ron i).2.1 = [] then nilE else 3) (ron i).2.1.length ((ron i).2.1.map pi)])]⟩) 5 ?_ ?_
      · rintro Inv hI
        simp
        subst hI
        exact ⟨0,by omega,by rw [ron0]; rfl⟩
      · rintro Inv hI m st ⟨i,hi,rfl⟩
        refine ewr_sound (M:=[(18,[1]),(94,[1]),(50,[1])]) h0 ?_
        by_cases c:0 < m
        · obtain ⟨g1,g2,g3,g4⟩:=ronI i (by omega)
          obtain ⟨b,k0,k1,k2⟩:=ronR i (by omega)
          rw [g1] at k0 k1
          have c':(i:Int) < 5:=by omega
          have w2:IntKind.i64.wrap ((i:Int) + 1) = ((i + 1:Nat):Int):=by rw [wrap64 (by omega) (by omega)]; omega
          simp [c']
          refine Inv_intro k2 ?_
          cases b with
          | false =>
            simp [w2]
            refine Less_mk (m - 1) (by omega) ?_
            subst hI
            refine ⟨i + 1,by omega,?_⟩
            simp at k1
            rw [k1]
            simp
          | true =>
            simp at k1
            by_cases hC0:(ron i).2.1 = []
            · rw [hC0] at k1
              simp [w2,hC0]
              refine Less_mk (m - 1) (by omega) ?_
              subst hI
              refine ⟨i + 1,by omega,?_⟩
              rw [k1]
              simp
            · have ht:List.take (ron i).2.1.length ((ron i).2.1.map pi) = (ron i).2.1.map pi:=List.take_of_length_le (by rw [List.length_map]; omega)
              have hb1:((ron i).2.1.length + 1) * 8 ≤ 140737488355328:=by omega
              have hb2:(ron i).2.1.length ≤ 9223372036854775806:=by omega
              simp [w2,hC0,ht,hb1,hb2]
              refine Less_mk (m - 1) (by omega) ?_
              subst hI
              refine ⟨i + 1,by omega,?_⟩
              rw [k1]
              simp
        · have hm0:m = 0:=by omega
          have hi5:i = 5:=by omega
          subst hi5
          rw [← hC,← ha7,← hs7]
          obtain ⟨eC,heC⟩:∃ e,e = (if C = [] then nilE else 3):=⟨_,rfl⟩
          obtain ⟨hzC,htC,qC⟩:(C.length * tsz Tryz.prog eC ≤ C.length ∧ 0 < tsz Tryz.prog eC ∨ C = []) ∧ List.take (C.length * tsz Tryz.prog eC) (C.map pi) = C.map pi ∧ (eC = nilE ∧ C = [] ∨ eC = 3):=by
            by_cases hC0:C = []
            · rw [heC,if_pos hC0,hC0]
              simp
            · rw [heC,if_neg hC0]
              simp
          rw [← heC]
          have hnC:C.length ≤ 5:=by rw [hC]; exact f2
          clear ronI ronR ron0 f1 f2 f3 f4
          simp
          refine Inv_intro q8 ?_
          rcases hfin with ⟨rfl,rfl,rfl,rfl⟩ | ⟨rfl,y,rfl,c1⟩ | ⟨rfl,y,rfl,c1⟩ | ⟨⟨x0,x1,x2⟩,rfl,rfl,rfl⟩
          · simp [hzP,htP,hzC,htC,qP,qC]
          · have hb1:(P.length + 1) * 8 ≤ 140737488355328:=by omega
            have hb2:P.length ≤ 9223372036854775806:=by omega
            simp
            refine drawP (tabEnv [(18,[1]),(94,[1]),(50,[1])] _) [⟨[.op 1 11 0],allD 65,true⟩,⟨[.op 1 11 0],allD 65,true⟩,⟨[.arg 0 0],allD 65,true⟩,⟨[],allD 65,false⟩,⟨[.arg 0 0,.op 15 3 0],[50,51,52,53,54,55,56,57],false⟩,⟨[],allD 65,false⟩,⟨[.op 1 11 0,.op 15 5 0],[50,51,52,53,54,55,56,57],false⟩,⟨[.op 1 11 0],allD 65,true⟩,⟨[.op 1 11 0,.op 15 5 0,.op 15 6 0],[50,51,52,53,54,55,56,57],false⟩] h0 hm (tabEnv_ok (tab_cons c1 tab_nil)) (by kernel_rfl) (by kernel_rfl) ?_
            simp [hzP,htP,hzC,htC,hoP,hb1,hb2]
            exact qC
          · simp
            refine Inv_intro c1 ?_
            simp [hzP,htP,hzC,htC,qP,qC]
          · simp [x0,x1,x2,hzP,htP,hzC,htC,qP,qC]
structure GPrefix where
  Addr:Int
  Len:Int
  deriving DecidableEq
def GPrefix.c (x:GPrefix):List PT:=[pi x.Addr,pi x.Len]
attribute [simp] GPrefix.c
theorem GPrefix.len (x:GPrefix):x.c.length = 2:=rfl
theorem GPrefix.un (xs:List GPrefix):PT.unownL (xs.flatMap GPrefix.c) = xs.flatMap GPrefix.c:=by
  rw [unownL_fm]
  congr 1
theorem GPrefix.nt (xs:List GPrefix):PT.noTmpL (xs.flatMap GPrefix.c) = true:=noTmpL_fm _ xs fun _ => rfl
attribute [simp] GPrefix.un GPrefix.nt
theorem GPrefix.lenR (xs:List GPrefix):(xs.flatMap GPrefix.c).length = xs.length * 2:=fm_len _ 2 (fun _ => rfl) xs
theorem GPrefix.tkR (xs:List GPrefix):(xs.flatMap GPrefix.c).take (xs.length * 2) = xs.flatMap GPrefix.c:=List.take_of_length_le (by rw [GPrefix.lenR]; exact Nat.le_refl _)
attribute [simp high] GPrefix.lenR GPrefix.tkR
def GPrefix.wt (x:GPrefix):Nat:=0
def GPrefix.mark (x:GPrefix) (k:Int):GPrefix × Int:=(⟨k,(k + 1)⟩,((k + 1) + 1))
def GPrefix.cn (x:GPrefix):Nat:=1 + 1
structure GRoute where
  Prefix:GPrefix
  Attrs:GAttrs
  deriving DecidableEq
def GRoute.co (x:GRoute):List PT:=[pi x.Prefix.Addr,pi x.Prefix.Len,pi x.Attrs.Origin,.sl 0 3 x.Attrs.Path.length (x.Attrs.Path.map pi),pi x.Attrs.Next,pi x.Attrs.Med,pi x.Attrs.Pref,.sl 0 3 x.Attrs.Comms.length (x.Attrs.Comms.map pi)]
def GRoute.ci (k:Nat) (x:GRoute):List PT:=[pi x.Prefix.Addr,pi x.Prefix.Len,pi x.Attrs.Origin,rd k x.Attrs.Path.length (x.Attrs.Path.map pi),pi x.Attrs.Next,pi x.Attrs.Med,pi x.Attrs.Pref,rd k x.Attrs.Comms.length (x.Attrs.Comms.map pi)]
attribute [simp] GRoute.co GRoute.ci
theorem GRoute.len_i (k:Nat) (x:GRoute):(x.ci k).length = 8:=rfl
theorem GRoute.un1 (x:GRoute):PT.unownL x.co = x.ci 0:=by simp [rd]
theorem GRoute.uni1 (k:Nat) (x:GRoute):PT.unownL (x.ci k) = x.ci 0:=by simp [rd]
theorem GRoute.un (xs:List GRoute):PT.unownL (xs.flatMap GRoute.co) = xs.flatMap (GRoute.ci 0):=by
  rw [unownL_fm]
  congr 1
  funext x
  exact GRoute.un1 x
theorem GRoute.uni (k:Nat) (xs:List GRoute):PT.unownL (xs.flatMap (GRoute.ci k)) = xs.flatMap (GRoute.ci 0):=by
  rw [unownL_fm]
  congr 1
  funext x
  exact GRoute.uni1 k x
theorem GRoute.nt (xs:List GRoute):PT.noTmpL (xs.flatMap GRoute.co) = true:=noTmpL_fm _ xs fun x => by simp
theorem GRoute.nti (k:Nat) (xs:List GRoute):PT.noTmpL (xs.flatMap (GRoute.ci (k + 1))) = true:=noTmpL_fm _ xs fun x => by simp [rd]
attribute [simp] GRoute.un GRoute.uni GRoute.nt GRoute.nti
theorem GRoute.lenR (xs:List GRoute):(xs.flatMap GRoute.co).length = xs.length * 8:=fm_len _ 8 (fun _ => rfl) xs
theorem GRoute.lenRi (k:Nat) (xs:List GRoute):(xs.flatMap (GRoute.ci k)).length = xs.length * 8:=fm_len _ 8 (fun _ => rfl) xs
theorem GRoute.tkR (xs:List GRoute):(xs.flatMap GRoute.co).take (xs.length * 8) = xs.flatMap GRoute.co:=List.take_of_length_le (by rw [GRoute.lenR]; exact Nat.le_refl _)
theorem GRoute.tkRi (k:Nat) (xs:List GRoute):(xs.flatMap (GRoute.ci k)).take (xs.length * 8) = xs.flatMap (GRoute.ci k):=List.take_of_length_le (by rw [GRoute.lenRi]; exact Nat.le_refl _)
attribute [simp high] GRoute.lenR GRoute.tkR GRoute.lenRi GRoute.tkRi
def GRoute.wt (x:GRoute):Nat:=GAttrs.wt x.Attrs
def GRoute.mark (x:GRoute) (k:Int):GRoute × Int:=(⟨⟨k,(k + 1)⟩,⟨((k + 1) + 1),(mk_IntS x.Attrs.Path (((k + 1) + 1) + 1)).1,(mk_IntS x.Attrs.Path (((k + 1) + 1) + 1)).2,((mk_IntS x.Attrs.Path (((k + 1) + 1) + 1)).2 + 1),(((mk_IntS x.Attrs.Path (((k + 1) + 1) + 1)).2 + 1) + 1),(mk_IntS x.Attrs.Comms ((((mk_IntS x.Attrs.Path (((k + 1) + 1) + 1)).2 + 1) + 1) + 1)).1⟩⟩,(mk_IntS x.Attrs.Comms ((((mk_IntS x.Attrs.Path (((k + 1) + 1) + 1)).2 + 1) + 1) + 1)).2)
def GRoute.cn (x:GRoute):Nat:=1 + 1 + 1 + cn_IntS x.Attrs.Path + 1 + 1 + 1 + cn_IntS x.Attrs.Comms
def inR (n lo hi:Int):Bool:=decide (lo ≤ n ∧ n ≤ hi)
def szP (n:Int):Int:=2 ^ (32 - n).toNat
theorem shl_pow (m:Nat) (h:m ≤ 32):IntKind.wrap .i64 (1 * 2 ^ min m IntKind.i64.bits) = 2 ^ m:=by
  have:∀ m:Fin 33,IntKind.wrap .i64 (1 * 2 ^ min m.1 IntKind.i64.bits) = 2 ^ m.1:=by decide
  exact this ⟨m,by omega⟩
theorem pow_ne (m:Nat):¬ (2:Int) ^ m = 0:=by
  have:(0:Int) < 2 ^ m:=Int.pow_pos (by decide)
  omega
def goodPx (p:GPrefix):Bool:=inR p.Len 0 32 && (inR p.Addr 0 4294967295 && decide (p.Addr.tmod (szP p.Len) = 0))
def cmpI (a b:Int):Int:=if a < b then -1 else if b < a then 1 else 0
def cmpPx (p q:GPrefix):Int:=if cmpI p.Addr q.Addr = 0 then cmpI p.Len q.Len else cmpI p.Addr q.Addr
def orI:List Int → Int
  | [] => 0
  | x :: xs => if x = 0 then orI xs else x
def isAsnB (n:Int):Bool:=inR n 1 65535
def isValB (n:Int):Bool:=inR n 0 1000000
def adjI (q:Option Int) (x:Int):Bool:=match q with
  | none => true
  | some q => decide (q < x)
def commsG:Option Int → List Int → Bool
  | _,[] => true
  | q,x :: xs => isValB x && adjI q x && commsG (some x) xs
def goodCm (l:List Int):Bool:=commsG none l && decide (l.length ≤ 6)
def goodPa (l:List Int):Bool:=decide (l.length ≤ 10) && l.all isAsnB
def goodA (a:GAttrs):Bool:=inR a.Origin 0 2 && (goodPa a.Path && (inR a.Next 0 4294967295 && (isValB a.Med && (isValB a.Pref && goodCm a.Comms))))
def prevI (l:List Int) (i:Nat):Option Int:=if i = 0 then none else l[i - 1]?
theorem prevI_next (l:List Int) (i:Nat) (h:i < l.length):prevI l (i + 1) = some l[i]:=by simp [prevI,h]
def attrOK (a:GAttrs):Prop:=a.Path.length ≤ 140737488351232 ∧ a.Comms.length ≤ 140737488351232
def goodR (r:GRoute):Bool:=goodPx r.Prefix && goodA r.Attrs
theorem ok_within (n lo hi:Int):CallOK Tryz.prog 78 [.c (pi n),.c (pi lo),.c (pi hi)] (.c (pb (decide (lo ≤ n ∧ n ≤ hi)))) [.c (pi n),.c (pi lo),.c (pi hi)]:=by
  refine okS (fn:=Tryz.f78) [] h0 Tryz.func78 (by kernel_rfl) rfl Tryz.ntmps78 Tryz.results78 (by simp) ?_
  simp
  refine gT (fun h => ?_) (fun h => ?_) <;> simp [h]
theorem ok_l1In (n lo hi:Int):CallOK Tryz.prog 95 [.c (pi n),.c (pi lo),.c (pi hi)] (.c (pb (decide (lo ≤ n ∧ n ≤ hi)))) [.c (pi n),.c (pi lo),.c (pi hi)]:=by
  refine okS (fn:=Tryz.f95) [] h0 Tryz.func95 (by kernel_rfl) rfl Tryz.ntmps95 Tryz.results95 (by simp) ?_
  simp
  refine gT (fun h => ?_) (fun h => ?_) <;> simp [h]
theorem inR_t {n lo hi:Int} (h:lo ≤ n ∧ n ≤ hi):inR n lo hi = true:=by simp [inR,h]
theorem ok_isAsn (n:Int):CallOK Tryz.prog 105 [.c (pi n)] (.c (pb (isAsnB n))) [.c (pi n)]:=by
  refine okS (fn:=Tryz.f105) [] h0 Tryz.func105 (by kernel_rfl) rfl Tryz.ntmps105 Tryz.results105 (by simp) ?_
  simp
  refine Inv_intro (ok_within _ _ _) ?_
  simp [isAsnB,inR]
theorem ok_isAddr (n:Int):CallOK Tryz.prog 80 [.c (pi n)] (.c (pb (inR n 0 4294967295))) [.c (pi n)]:=by
  refine okS (fn:=Tryz.f80) [] h0 Tryz.func80 (by kernel_rfl) rfl Tryz.ntmps80 Tryz.results80 (by simp) ?_
  simp
  refine Inv_intro (ok_within _ _ _) ?_
  simp [inR]
theorem ok_l1Addr (n:Int):CallOK Tryz.prog 96 [.c (pi n)] (.c (pb (inR n 0 4294967295))) [.c (pi n)]:=by
  refine okS (fn:=Tryz.f96) [] h0 Tryz.func96 (by kernel_rfl) rfl Tryz.ntmps96 Tryz.results96 (by simp) ?_
  simp
  refine Inv_intro (ok_l1In _ _ _) ?_
  simp [inR]
theorem ok_sizeOf (n:Int) (h1:0 ≤ n) (h2:n ≤ 32):CallOK Tryz.prog 100 [.c (pi n)] (.c (pi (szP n))) [.c (pi n)]:=by
  refine okS (fn:=Tryz.f100) [] h0 Tryz.func100 (by kernel_rfl) rfl Tryz.ntmps100 Tryz.results100 (by simp) ?_
  have hw:IntKind.wrap .i64 (32 - n) = 32 - n:=wrap64 (by omega) (by omega)
  have hs:=shl_pow (32 - n).toNat (by omega)
  have hn:0 ≤ 32 - n:=by omega
  simp [hw,h2]
  simpa [szP] using hs
theorem ok_l1Size (p:GPrefix) (h1:0 ≤ p.Len) (h2:p.Len ≤ 32):CallOK Tryz.prog 102 [.agg p.c] (.c (pi (szP p.Len))) [.agg p.c]:=by
  refine okS (fn:=Tryz.f102) [] h0 Tryz.func102 (by kernel_rfl) rfl Tryz.ntmps102 Tryz.results102 (by simp) ?_
  have hw:IntKind.wrap .i64 (32 - p.Len) = 32 - p.Len:=wrap64 (by omega) (by omega)
  have hw2:IntKind.wrap .u64 (32 - p.Len) = 32 - p.Len:=by
    show (32 - p.Len) % 18446744073709551616 = _
    omega
  have hs:=shl_pow (32 - p.Len).toNat (by omega)
  have hn:0 ≤ 32 - p.Len:=by omega
  simp [hw,hw2,h2]
  simpa [szP] using hs
theorem ok_iGoodPrefix (p:GPrefix):CallOK Tryz.prog 74 [.agg p.c] (.c (pb (goodPx p))) [.agg p.c]:=by
  refine okS (fn:=Tryz.f74) [] h0 Tryz.func74 (by kernel_rfl) rfl Tryz.ntmps74 Tryz.results74 (by simp) ?_
  simp
  have hz:=pow_ne (32 - p.Len).toNat
  by_cases c1:0 ≤ p.Len ∧ p.Len ≤ 32
  · refine drawP (tabEnv [] _) [⟨[.op 0 0 0],allD 20,true⟩,⟨[.op 0 0 0],allD 20,true⟩,⟨[],allD 20,false⟩,⟨[],allD 20,true⟩,⟨[.op 0 0 0],allD 20,true⟩,⟨[.op 0 0 0],allD 20,true⟩,⟨[],allD 20,false⟩,⟨[],allD 20,true⟩,⟨[],allD 20,true⟩,⟨[.op 0 0 0],allD 20,true⟩,⟨[.op 0 0 0],allD 20,true⟩,⟨[.op 0 0 0],allD 20,true⟩,⟨[.op 0 0 0],allD 20,true⟩,⟨[],allD 20,false⟩,⟨[],allD 20,true⟩,⟨[],allD 20,true⟩,⟨[],allD 20,true⟩,⟨[],allD 20,true⟩] h0 hm (tabEnv_ok (tab_cons (ok_within p.Len 0 32) (tab_cons (ok_isAddr p.Addr) (tab_cons (ok_sizeOf p.Len c1.1 c1.2) tab_nil)))) (by kernel_rfl) (by kernel_rfl) ?_
    cases c2:inR p.Addr 0 4294967295 with
    | false => simp [c1,c2,goodPx,inR_t c1]
    | true =>
      simp [c1,c2,goodPx,inR_t c1,szP,hz]
      try exact decide_eq_decide.2 Iff.rfl
  · refine drawP (tabEnv [] _) [⟨[.op 0 0 0],allD 20,true⟩,⟨[.op 0 0 0],allD 20,true⟩,⟨[],allD 20,false⟩,⟨[],allD 20,true⟩,⟨[.op 0 0 0],allD 20,true⟩,⟨[.op 0 0 0],allD 20,true⟩,⟨[],allD 20,false⟩,⟨[],allD 20,true⟩,⟨[],allD 20,true⟩,⟨[.op 0 0 0],allD 20,true⟩,⟨[.op 0 0 0],allD 20,true⟩,⟨[.op 0 0 0],allD 20,true⟩,⟨[.op 0 0 0],allD 20,true⟩,⟨[],allD 20,false⟩,⟨[],allD 20,true⟩,⟨[],allD 20,true⟩,⟨[],allD 20,true⟩,⟨[],allD 20,true⟩] h0 hm (tabEnv_ok (tab_cons (ok_within p.Len 0 32) tab_nil)) (by kernel_rfl) (by kernel_rfl) ?_
    simp [c1,goodPx,inR]
theorem ok_sGoodPrefix (p:GPrefix):CallOK Tryz.prog 77 [.agg p.c] (.c (pb (goodPx p))) [.agg p.c]:=by
  refine okS (fn:=Tryz.f77) [] h0 Tryz.func77 (by kernel_rfl) rfl Tryz.ntmps77 Tryz.results77 (by simp) ?_
  simp
  have hz:=pow_ne (32 - p.Len).toNat
  by_cases c1:0 ≤ p.Len ∧ p.Len ≤ 32
  · refine drawP (tabEnv [] _) [⟨[.op 0 0 0],allD 19,true⟩,⟨[.op 0 0 0],allD 19,true⟩,⟨[],allD 19,false⟩,⟨[],allD 19,true⟩,⟨[.op 0 0 0],allD 19,true⟩,⟨[.op 0 0 0],allD 19,true⟩,⟨[],allD 19,false⟩,⟨[],allD 19,true⟩,⟨[],allD 19,true⟩,⟨[.op 0 0 0],allD 19,true⟩,⟨[.op 0 0 0],allD 19,true⟩,⟨[.op 0 0 0],allD 19,true⟩,⟨[],allD 19,false⟩,⟨[],allD 19,true⟩,⟨[],allD 19,true⟩,⟨[],allD 19,true⟩,⟨[],allD 19,true⟩] h0 hm (tabEnv_ok (tab_cons (ok_l1In p.Len 0 32) (tab_cons (ok_l1Addr p.Addr) (tab_cons (ok_l1Size p c1.1 c1.2) tab_nil)))) (by kernel_rfl) (by kernel_rfl) ?_
    cases c2:inR p.Addr 0 4294967295 with
    | false => simp [c1,c2,goodPx,inR_t c1]
    | true =>
      simp [c1,c2,goodPx,inR_t c1,szP,hz]
      try exact decide_eq_decide.2 Iff.rfl
  · refine drawP (tabEnv [] _) [⟨[.op 0 0 0],allD 19,true⟩,⟨[.op 0 0 0],allD 19,true⟩,⟨[],allD 19,false⟩,⟨[],allD 19,true⟩,⟨[.op 0 0 0],allD 19,true⟩,⟨[.op 0 0 0],allD 19,true⟩,⟨[],allD 19,false⟩,⟨[],allD 19,true⟩,⟨[],allD 19,true⟩,⟨[.op 0 0 0],allD 19,true⟩,⟨[.op 0 0 0],allD 19,true⟩,⟨[.op 0 0 0],allD 19,true⟩,⟨[],allD 19,false⟩,⟨[],allD 19,true⟩,⟨[],allD 19,true⟩,⟨[],allD 19,true⟩,⟨[],allD 19,true⟩] h0 hm (tabEnv_ok (tab_cons (ok_l1In p.Len 0 32) tab_nil)) (by kernel_rfl) (by kernel_rfl) ?_
    simp [c1,goodPx,inR]
theorem ok_isNaNI (s:Int):CallOK Tryz.prog 101 [.c (pi s)] (.c (pb false)) [.c (pi s)]:=by
  refine okS (fn:=Tryz.f101) [] h0 Tryz.func101 (by kernel_rfl) rfl Tryz.ntmps101 Tryz.results101 (by simp) ?_
  simp
theorem ok_cmpI (u v:Int):CallOK Tryz.prog 76 [.c (pi u),.c (pi v)] (.c (pi (cmpI u v))) [.c (pi u),.c (pi v)]:=by
  refine okS (fn:=Tryz.f76) [] h0 Tryz.func76 (by kernel_rfl) rfl Tryz.ntmps76 Tryz.results76 (by simp) ?_
  simp
  refine Inv_intro (ok_isNaNI u) ?_
  simp
  refine Inv_intro (ok_isNaNI v) ?_
  simp
  refine brn_app (fun a => ?_) (fun a => ?_)
  · simp at a
    simp [cmpI,a]
  · simp at a
    have a':¬ u < v:=by omega
    simp
    refine brn_app (fun b => ?_) (fun b => ?_)
    · simp at b
      simp [cmpI,a',b]
    · simp at b
      have b':¬ v < u:=by omega
      simp [cmpI,a',b']
theorem ok_orI (k:Nat) (xs:List Int) (hx:xs.length ≤ 140737488351232):CallOK Tryz.prog 75 [.c (rd k xs.length (xs.map pi))] (.c (pi (orI xs))) [.c (rd k xs.length (xs.map pi))]:=by
  refine okS (fn:=Tryz.f75) [] h0 Tryz.func75 (by kernel_rfl) rfl Tryz.ntmps75 Tryz.results75 (by simp) ?_
  simp
  refine loopS [3,6,7,8] [] (fun n st => ∃ (i:Nat),i + n = xs.length ∧ orI (xs.drop i) = orI xs ∧ st = ⟨slOf 18 [(3,.t (pi 0)),(6,.t (rd k xs.length (xs.map pi))),(7,.t (pi xs.length)),(8,.t (pi i))],ofL []⟩) xs.length ?_ ?_
  · rintro Inv hI
    simp
    subst hI
    exact ⟨0,by omega,rfl,rfl⟩
  · rintro Inv hI n st ⟨i,hi,hf,rfl⟩
    refine ewr_sound (M:=[]) h0 ?_
    simp
    refine brn_app (fun a => ?_) (fun a => ?_)
    · simp at a
      rw [drop_step _ i a,orI] at hf
      simp [a]
      refine brn_app (fun b => ?_) (fun b => ?_)
      · simp at b
        rw [if_neg b] at hf
        simp [hf]
      · simp at b
        rw [if_pos b] at hf
        simp
        subst hI
        exact Less_mk (n - 1) (by omega) ⟨i + 1,by omega,hf,by rw [wrNext i (by omega)]⟩
    · simp at a
      rw [List.drop_of_length_le (by omega),orI] at hf
      simp [← hf]
theorem ok_compare (p q:GPrefix):CallOK Tryz.prog 35 [.agg p.c,.agg q.c] (.c (pi (cmpPx p q))) [.agg p.c,.agg q.c]:=by
  refine okS (fn:=Tryz.f35) [] h0 Tryz.func35 (by kernel_rfl) rfl Tryz.ntmps35 Tryz.results35 (by simp) ?_
  simp
  have ho:=ok_orI 0 [cmpI p.Addr q.Addr,cmpI p.Len q.Len] (by simp)
  simp at ho
  refine drawP (fnEnv 76 (fI2 fun a b => pi (cmpI a b)) (tabEnv [] _)) [⟨[.op 0 0 0],allD 17,true⟩,⟨[.op 0 0 0],allD 17,true⟩,⟨[.op 0 1 0],allD 17,true⟩,⟨[.op 0 1 0],allD 17,true⟩,⟨[],allD 17,false⟩,⟨[.op 0 0 0],allD 17,true⟩,⟨[.op 0 0 0],allD 17,true⟩,⟨[.op 0 1 0],allD 17,true⟩,⟨[.op 0 1 0],allD 17,true⟩,⟨[],allD 17,false⟩,⟨[],allD 17,false⟩,⟨[.op 1 10 0],[5,6,7,8,9,10,11,12,13,14,15,16,4],false⟩,⟨[],allD 17,true⟩] h0 hm (fnEnv_ok (tabEnv_ok (tab_cons ho tab_nil)) (fI2_ok ok_cmpI)) (by kernel_rfl) (by kernel_rfl) ?_
  simp
  by_cases c:cmpI p.Addr q.Addr = 0
  · by_cases d:cmpI p.Len q.Len = 0 <;> simp [orI,cmpPx,c,d]
  · simp [orI,cmpPx,c]
theorem ok_l1Compare (p q:GPrefix):CallOK Tryz.prog 37 [.agg p.c,.agg q.c] (.c (pi (cmpPx p q))) [.agg p.c,.agg q.c]:=by
  refine okS (fn:=Tryz.f37) [] h0 Tryz.func37 (by kernel_rfl) rfl Tryz.ntmps37 Tryz.results37 (by simp) ?_
  by_cases a1:p.Addr < q.Addr
  · simp [a1,cmpPx,cmpI]
  · by_cases a2:p.Addr = q.Addr
    · by_cases b1:p.Len < q.Len
      · simp [a1,a2,b1,cmpPx,cmpI]
      · by_cases b2:p.Len = q.Len
        · simp [a2,b2,cmpPx,cmpI]
        · have b3:q.Len < p.Len:=by omega
          simp [a2,b1,b2,b3,cmpPx,cmpI]
    · have a3:q.Addr < p.Addr:=by omega
      simp [a1,a2,a3,cmpPx,cmpI]
end Go.V
