/- What functions of the seat's program do, each proved of its code, under the bounds that its theorem names. -/
import Derived.Test.YtcmdgenpipojpaaGreatTaf
set_option linter.all false
namespace Go.V
open Go.Proofs
set_option maxHeartbeats 1000000
set_option maxRecDepth 10000
set_option linter.unusedSimpArgs false
set_option linter.unusedVariables false
theorem putP_ne (p:GPrefix):∀ l:List GPrefix,putP p l ≠ []
  | [] => by simp [putP]
  | x :: l => by
    unfold putP
    split
    · simp
    · split <;> simp
theorem ok_l4Put0 (p:GPrefix):CallOK Tryz.prog 107 [.c (.sl 0 nilE 0 []),.agg p.c] (.c (.sl 0 54 1 p.c)) [.c (.sl 0 nilE 0 []),.agg p.c]:=by
  refine okS (fn:=Tryz.f107) [] h0 Tryz.func107 (by kernel_rfl) rfl Tryz.ntmps107 Tryz.results107 (by simp) ?_
  simp
  refine loopS [0,3,5] [.arg 0 0,.op 0 0 0] (fun m st => m = 0 ∧ st = ⟨slOf 49 [(0,.ref ⟨.arg 0 0,[]⟩ 0 0),(3,.ptr ⟨.op 0 0 0,[]⟩ 0),(5,.t (pi 0))],ofL [(.arg 0 0,.sl 0 nilE 0 []),(.op 0 0 0,.sl 0 54 1 p.c)]⟩) 0 ?_ ?_
  · rintro Inv hI
    simp
    subst hI
    exact ⟨rfl,rfl⟩
  · rintro Inv hI m st ⟨i,rfl⟩
    refine ewr_sound (M:=[]) h0 ?_
    simp
    refine drawP (tabEnv [] _) [⟨[],allD 49,true⟩,⟨[.arg 0 0],allD 49,true⟩,⟨[.arg 0 0],allD 49,true⟩,⟨[],allD 49,true⟩,⟨[],allD 49,true⟩,⟨[.arg 0 0],allD 49,true⟩,⟨[],allD 49,true⟩,⟨[.arg 0 0],allD 49,true⟩,⟨[.arg 0 0],allD 49,true⟩,⟨[.op 0 0 0],allD 49,true⟩,⟨[],allD 49,false⟩,⟨[],allD 49,true⟩,⟨[],allD 49,true⟩] h0 hm (tabEnv_ok tab_nil) (by kernel_rfl) (by kernel_rfl) ?_
    simp
    refine drawP (tabEnv [] _) [⟨[],allD 49,true⟩,⟨[.arg 0 0],allD 49,true⟩,⟨[.arg 0 0],allD 49,true⟩,⟨[],allD 49,true⟩,⟨[],allD 49,true⟩,⟨[.arg 0 0],allD 49,true⟩,⟨[],allD 49,true⟩,⟨[.arg 0 0],allD 49,true⟩,⟨[.arg 0 0],allD 49,true⟩,⟨[.op 0 0 0],allD 49,true⟩,⟨[],allD 49,true⟩,⟨[],allD 49,true⟩] h0 hm (tabEnv_ok tab_nil) (by kernel_rfl) (by kernel_rfl) ?_
    simp
set_option maxHeartbeats 4000000 in
theorem ok_update (code:List Int) (hc:codeOK code) (a s:Int) (ha:0 ≤ a) (ha2:a ≤ 3999800):∃ (u:GUpdate) (a' s':Int),(u.Gone.length ≤ 4 ∧ u.Come.length ≤ 3 ∧ u.Attrs.Path.length ≤ 6 ∧ u.Attrs.Comms.length ≤ 6) ∧ (a ≤ a' ∧ a' ≤ a + 55) ∧ CallOK Tryz.prog 89 [.bp (curP code a s)] (.agg (GUpdate.co u)) [.bp (curP code a' s')]:=by
  obtain ⟨n0,a1,s1,hn0,ha1,q1⟩:=ok_pick code hc 4 (by decide) (by decide) a s ha (by omega)
  obtain ⟨N,rfl⟩:∃ N:Nat,n0 = (N:Int):=⟨n0.toNat,by omega⟩
  obtain ⟨run,run0,runI,runR⟩:=exists_run (α:=List GPrefix × Int × Int) N ([],a1,s1) (fun i x => x.1.length ≤ i ∧ (x.1 = [] → i = 0) ∧ a1 ≤ x.2.1 ∧ x.2.1 ≤ a1 + 4 * i)
    (fun x y => ∃ p:GPrefix,y.1 = putP p x.1 ∧ CallOK Tryz.prog 57 [.bp (curP code x.2.1 x.2.2)] (.agg p.c) [.bp (curP code y.2.1 y.2.2)])
    ⟨by simp,by simp,by simp,by simp⟩ (by
      rintro i ⟨l,b,t⟩ hi ⟨g1,g2,g3,g4⟩
      simp only at g1 g2 g3 g4
      obtain ⟨p,b1,t1,hg,hb1,c1⟩:=ok_fine code hc b t (by omega) (by omega)
      have:=putP_len p l
      exact ⟨(putP p l,b1,t1),⟨p,rfl,c1⟩,by simp only; omega,fun h => absurd h (putP_ne p l),by simp only; omega,by simp only; omega⟩)
  obtain ⟨e1,e1',e2,e3⟩:=runI N (Nat.le_refl _)
  obtain ⟨G,hG⟩:∃ G,G = (run N).1:=⟨_,rfl⟩
  obtain ⟨a2,ha2'⟩:∃ a2,a2 = (run N).2.1:=⟨_,rfl⟩
  obtain ⟨s2,hs2⟩:∃ s2,s2 = (run N).2.2:=⟨_,rfl⟩
  obtain ⟨n1,a3,s3,hn1,ha3,q2⟩:=ok_pick code hc 4 (by decide) (by decide) a2 s2 (by omega) (by omega)
  obtain ⟨K,rfl⟩:∃ K:Nat,n1 = (K:Int):=⟨n1.toNat,by omega⟩
  obtain ⟨ron,ron0,ronI,ronR⟩:=exists_run (α:=List GPrefix × Int × Int) K ([],a3,s3) (fun i x => x.1.length ≤ i ∧ a3 ≤ x.2.1 ∧ x.2.1 ≤ a3 + 4 * i)
    (fun x y => ∃ p:GPrefix,y.1 = (if p ∈ G then x.1 else putP p x.1) ∧ CallOK Tryz.prog 57 [.bp (curP code x.2.1 x.2.2)] (.agg p.c) [.bp (curP code y.2.1 y.2.2)])
    ⟨by simp,by simp,by simp⟩ (by
      rintro i ⟨l,b,t⟩ hi ⟨g1,g2,g3⟩
      simp only at g1 g2 g3
      obtain ⟨p,b1,t1,hg,hb1,c1⟩:=ok_fine code hc b t (by omega) (by omega)
      have:=putP_len p l
      refine ⟨(if p ∈ G then l else putP p l,b1,t1),⟨p,rfl,c1⟩,?_,by simp only; omega,by simp only; omega⟩
      simp only
      split <;> omega)
  obtain ⟨f1,f2,f3⟩:=ronI K (Nat.le_refl _)
  obtain ⟨C,hC⟩:∃ C,C = (ron K).1:=⟨_,rfl⟩
  obtain ⟨a4,ha4⟩:∃ a4,a4 = (ron K).2.1:=⟨_,rfl⟩
  obtain ⟨s4,hs4⟩:∃ s4,s4 = (ron K).2.2:=⟨_,rfl⟩
  obtain ⟨g,a5,s5,hgl,ha5,hA⟩:∃ (g:GAttrs) (a5 s5:Int),(g.Path.length ≤ 6 ∧ g.Comms.length ≤ 6) ∧ (a4 ≤ a5 ∧ a5 ≤ a4 + 21) ∧ ((C ≠ [] ∧ CallOK Tryz.prog 54 [.bp (curP code a4 s4)] (.agg (GAttrs.co g)) [.bp (curP code a5 s5)]) ∨ (C = [] ∧ ∃ (b:Bool) (a6 s6:Int),CallOK Tryz.prog 50 [.bp (curP code a4 s4),.c (pi 20)] (.c (pb b)) [.bp (curP code a6 s6),.c (pi 20)] ∧ ((b = false ∧ g = zeroA ∧ a5 = a6 ∧ s5 = s6) ∨ (b = true ∧ CallOK Tryz.prog 54 [.bp (curP code a6 s6)] (.agg (GAttrs.co g)) [.bp (curP code a5 s5)])))):=by
    by_cases hz:C = []
    · obtain ⟨b,a6,s6,hb,c1⟩:=ok_one code hc 20 (by decide) (by decide) a4 s4 (by omega) (by omega)
      cases b with
      | false => exact ⟨zeroA,a6,s6,by decide,by omega,.inr ⟨hz,false,a6,s6,c1,.inl ⟨rfl,rfl,rfl,rfl⟩⟩⟩
      | true =>
        obtain ⟨g,a7,s7,hg,ha7,c2⟩:=ok_attrs code hc a6 s6 (by omega) (by omega)
        exact ⟨g,a7,s7,hg,by omega,.inr ⟨hz,true,a6,s6,c1,.inr ⟨rfl,c2⟩⟩⟩
    · obtain ⟨g,a7,s7,hg,ha7,c2⟩:=ok_attrs code hc a4 s4 (by omega) (by omega)
      exact ⟨g,a7,s7,hg,by omega,.inl ⟨hz,c2⟩⟩
  obtain ⟨b,a6,s6,ha6,q3⟩:=ok_one code hc 30 (by decide) (by decide) a5 s5 (by omega) (by omega)
  obtain ⟨u,a7,s7,hul,ha7,hfin⟩:∃ (u:GUpdate) (a7 s7:Int),(u.Gone.length ≤ 4 ∧ u.Come.length ≤ 3 ∧ u.Attrs.Path.length ≤ 6 ∧ u.Attrs.Comms.length ≤ 6) ∧ (a6 ≤ a7 ∧ a7 ≤ a6 + 4) ∧ ((b = false ∧ u = ⟨G,g,C⟩ ∧ a7 = a6 ∧ s7 = s6) ∨ (b = true ∧ ∃ p:GPrefix,u = ⟨G ++ [p],g,C⟩ ∧ CallOK Tryz.prog 97 [.bp (curP code a6 s6)] (.agg p.c) [.bp (curP code a7 s7)])):=by
    have hGl:G.length ≤ 3:=by rw [hG]; omega
    have hCl:C.length ≤ 3:=by rw [hC]; omega
    cases b with
    | false => exact ⟨_,a6,s6,⟨by simp only; omega,by simp only; omega,hgl.1,hgl.2⟩,by omega,.inl ⟨rfl,rfl,rfl,rfl⟩⟩
    | true =>
      obtain ⟨p,b1,t1,hb1,c1⟩:=ok_prefix code hc a6 s6 (by omega) (by omega)
      exact ⟨_,b1,t1,⟨by simp only [List.length_append,List.length_singleton]; omega,by simp only; omega,hgl.1,hgl.2⟩,by omega,.inr ⟨rfl,p,rfl,c1⟩⟩
  refine ⟨u,a7,s7,hul,by omega,?_⟩
  refine okS (fn:=Tryz.f89) [(18,[1]),(50,[1]),(57,[1]),(97,[1]),(54,[1]),(107,[2,0])] h0 Tryz.func89 (by kernel_rfl) rfl Tryz.ntmps89 Tryz.results89 (by simp) ?_
  unfold curP at q1 q2 q3 runR ronR hA hfin ⊢
  simp
  refine Inv_intro q1 ?_
  simp
  refine loopS [0,2,3,4] [.arg 0 0,.op 0 0 0,.op 1 1 0] (fun m st => ∃ (i:Nat),i + m = N ∧ st = ⟨slOf 59 [(0,.ptr ⟨.arg 0 0,[]⟩ 0),(2,.ptr ⟨.op 0 0 0,[]⟩ 0),(3,.ptr ⟨.op 1 1 0,[]⟩ 0),(4,.t (pi m))],ofL [(.arg 0 0,.sl 0 49 1 [rd 1 code.length (code.map pu),pi (run i).2.1,.raw (.int .u64 (run i).2.2)]),(.op 0 0 0,.sl 0 38 1 [.sl 0 nilE 0 [],pi 0,.sl 0 nilE 0 [],pi 0,pi 0,pi 0,.sl 0 nilE 0 [],.sl 0 nilE 0 []]),(.op 1 1 0,.sl 0 38 1 [.sl 0 (if i = 0 then nilE else 54) (run i).1.length ((run i).1.flatMap GPrefix.c),pi 0,.sl 0 nilE 0 [],pi 0,pi 0,pi 0,.sl 0 nilE 0 [],.sl 0 nilE 0 []])]⟩) N ?_ ?_
  · rintro Inv hI
    simp
    subst hI
    exact ⟨0,by omega,by rw [run0]; rfl⟩
  · rintro Inv hI m st ⟨i,hi,rfl⟩
    refine ewr_sound (M:=[(18,[1]),(50,[1]),(57,[1]),(97,[1]),(54,[1]),(107,[2,0])]) h0 ?_
    by_cases c:0 < m
    · obtain ⟨g1,g1',g2,g3⟩:=runI i (by omega)
      obtain ⟨p,k1,k2⟩:=runR i (by omega)
      have c':(0:Int) < (m:Int):=by omega
      have w2:IntKind.i64.wrap ((m:Int) - 1) = ((m - 1:Nat):Int):=by rw [wrap64 (by omega) (by omega)]; omega
      simp [c,c']
      by_cases hi0:i = 0
      · subst hi0
        rw [run0] at k1 k2
        simp only [run0,List.length_nil,List.flatMap_nil] at k1 k2 ⊢
        simp
        refine drawP (tabEnv [(18,[1]),(50,[1]),(57,[1]),(97,[1]),(54,[1]),(107,[2,0])] _) [⟨[.op 1 1 0],allD 59,true⟩,⟨[.op 1 1 0],allD 59,true⟩,⟨[.arg 0 0],allD 59,true⟩,⟨[.arg 0 0],[14,15,16,17,18,19],false⟩,⟨[.op 1 1 0],[14,15,16,17,18,19],false⟩,⟨[.op 1 1 0],allD 59,true⟩,⟨[.op 1 1 0,.op 5 4 0],[14,15,16,17,18,19],false⟩] h0 hm (tabEnv_ok (tab_cons k2 (tab_cons (ok_l4Put0 p) tab_nil))) (by kernel_rfl) (by kernel_rfl) ?_
        simp [w2]
        refine Less_mk (m - 1) (by omega) ?_
        subst hI
        refine ⟨1,by omega,?_⟩
        rw [show putP p [] = [p] from rfl] at k1
        simp [k1]
        exact ofL_mv 2 _ _ _ (by simp)
      · generalize (run i).1 = O at g1 g1' k1 ⊢
        have hOc:=fm_len GPrefix.c 2 (fun _ => rfl) O
        have htO:List.take (O.length * 2) (O.flatMap GPrefix.c) = O.flatMap GPrefix.c:=List.take_of_length_le (by omega)
        have hO0:O ≠ []:=fun h => hi0 (g1' h)
        simp [hi0]
        refine drawP (tabEnv [(18,[1]),(50,[1]),(57,[1]),(97,[1]),(54,[1]),(107,[2,0])] _) [⟨[.op 1 1 0],allD 59,true⟩,⟨[.op 1 1 0],allD 59,true⟩,⟨[.arg 0 0],allD 59,true⟩,⟨[.arg 0 0],[14,15,16,17,18,19],false⟩,⟨[.op 1 1 0],[14,15,16,17,18,19],false⟩,⟨[.op 1 1 0],allD 59,true⟩,⟨[.op 1 1 0,.op 5 4 0],[14,15,16,17,18,19],false⟩] h0 hm (tabEnv_ok (tab_cons k2 (tab_cons (ok_l4Put O p (by omega)) tab_nil))) (by kernel_rfl) (by kernel_rfl) ?_
        simp [w2,hOc,htO,hO0]
        refine Less_mk (m - 1) (by omega) ?_
        subst hI
        refine ⟨i + 1,by omega,?_⟩
        simp [k1]
        exact ofL_mv 2 _ _ _ (by simp)
    · have hm0:m = 0:=by omega
      have hiN:i = N:=by omega
      subst hm0
      subst hiN
      rw [← hG,← ha2',← hs2]
      obtain ⟨eG,heG⟩:∃ e,e = (if i = 0 then nilE else 54):=⟨_,rfl⟩
      have hGc:=fm_len GPrefix.c 2 (fun _ => rfl) G
      obtain ⟨hzG,htG,hoG,qG⟩:(G.length * tsz Tryz.prog eG ≤ G.length * 2 ∧ 0 < tsz Tryz.prog eG ∨ G = []) ∧ List.take (G.length * tsz Tryz.prog eG) (G.flatMap GPrefix.c) = G.flatMap GPrefix.c ∧ (eG = 54 ∨ eG = nilE) ∧ (eG = nilE ∧ G = [] ∨ eG = 54):=by
        by_cases hi0:i = 0
        · have hGn:G = []:=List.eq_nil_of_length_eq_zero (by rw [hG]; omega)
          rw [heG,if_pos hi0,hGn]
          simp
        · rw [heG,if_neg hi0]
          have:=List.take_of_length_le (Nat.le_of_eq hGc)
          simp [this]
      have hzG':G.length * tsz Tryz.prog eG ≤ G.length * 2 ∧ 0 < tsz Tryz.prog eG ∨ ∀ (x:GPrefix),¬ x ∈ G:=hzG.imp id fun h x => by rw [h]; simp
      rw [← heG]
      have hGl:G.length ≤ 3:=by rw [hG]; omega
      clear runI runR run0 e1 e1' e2 e3 q1
      simp
      refine Inv_intro q2 ?_
      simp
      refine loopS [0,2,3,5] [.arg 0 0,.op 0 0 0,.op 1 1 0] (fun m st => ∃ (i:Nat),i + m = K ∧ st = ⟨slOf 59 [(0,.ptr ⟨.arg 0 0,[]⟩ 0),(2,.ptr ⟨.op 0 0 0,[]⟩ 0),(3,.ptr ⟨.op 1 1 0,[]⟩ 0),(5,.t (pi m))],ofL [(.arg 0 0,.sl 0 49 1 [rd 1 code.length (code.map pu),pi (ron i).2.1,.raw (.int .u64 (ron i).2.2)]),(.op 0 0 0,.sl 0 38 1 [.sl 0 nilE 0 [],pi 0,.sl 0 nilE 0 [],pi 0,pi 0,pi 0,.sl 0 nilE 0 [],.sl 0 nilE 0 []]),(.op 1 1 0,.sl 0 38 1 [.sl 0 eG G.length (G.flatMap GPrefix.c),pi 0,.sl 0 nilE 0 [],pi 0,pi 0,pi 0,.sl 0 nilE 0 [],.sl 0 (if (ron i).1 = [] then nilE else 54) (ron i).1.length ((ron i).1.flatMap GPrefix.c)])]⟩) K ?_ ?_
      · rintro Inv hI
        simp
        subst hI
        exact ⟨0,by omega,by rw [ron0]; rfl⟩
      · rintro Inv hI m st ⟨i,hi,rfl⟩
        refine ewr_sound (M:=[(18,[1]),(50,[1]),(57,[1]),(97,[1]),(54,[1]),(107,[2,0])]) h0 ?_
        by_cases c:0 < m
        · obtain ⟨g1,g2,g3⟩:=ronI i (by omega)
          obtain ⟨p,k1,k2⟩:=ronR i (by omega)
          have c':(0:Int) < (m:Int):=by omega
          have w2:IntKind.i64.wrap ((m:Int) - 1) = ((m - 1:Nat):Int):=by rw [wrap64 (by omega) (by omega)]; omega
          generalize (ron i).1 = O at g1 k1 ⊢
          have hOc:=fm_len GPrefix.c 2 (fun _ => rfl) O
          have htO:List.take (O.length * 2) (O.flatMap GPrefix.c) = O.flatMap GPrefix.c:=List.take_of_length_le (by omega)
          obtain ⟨eO,heO⟩:∃ e,e = (if O = [] then nilE else 54):=⟨_,rfl⟩
          rw [← heO]
          simp [c,c']
          refine Inv_intro k2 ?_
          simp [hzG,htG]
          refine Inv_intro (ok_l4In 0 G p (by omega)) ?_
          by_cases hpG:p ∈ G
          · rw [if_pos hpG] at k1
            simp [hpG,w2]
            refine Less_mk (m - 1) (by omega) ?_
            subst hI
            refine ⟨i + 1,by omega,?_⟩
            rw [k1,heO]
          · rw [if_neg hpG] at k1
            by_cases hO0:O = []
            · subst hO0
              rw [show putP p [] = [p] from rfl] at k1
              simp at heO
              subst heO
              simp [hpG]
              refine Inv_intro (ok_l4Put0 p) ?_
              simp [w2]
              refine Less_mk (m - 1) (by omega) ?_
              subst hI
              refine ⟨i + 1,by omega,?_⟩
              rw [k1]
              simp
            · rw [if_neg hO0] at heO
              subst heO
              simp [hpG,hO0,hOc,htO]
              refine Inv_intro (ok_l4Put O p (by omega)) ?_
              simp [w2]
              refine Less_mk (m - 1) (by omega) ?_
              subst hI
              refine ⟨i + 1,by omega,?_⟩
              rw [k1]
              simp [putP_ne]
        · have hm0:m = 0:=by omega
          have hiK:i = K:=by omega
          subst hm0
          subst hiK
          rw [← hC,← ha4,← hs4]
          obtain ⟨eC,heC⟩:∃ e,e = (if C = [] then nilE else 54):=⟨_,rfl⟩
          have hCc:=fm_len GPrefix.c 2 (fun _ => rfl) C
          have hTC:=List.take_of_length_le (Nat.le_of_eq hCc)
          have hCl:C.length ≤ 3:=by rw [hC]; omega
          have hTP:List.take g.Path.length (g.Path.map pi) = g.Path.map pi:=List.take_of_length_le (by rw [List.length_map]; exact Nat.le_refl _)
          have hTQ:List.take g.Comms.length (g.Comms.map pi) = g.Comms.map pi:=List.take_of_length_le (by rw [List.length_map]; exact Nat.le_refl _)
          clear ronI ronR ron0 f1 f2 f3
          rcases hA with ⟨hz,c1⟩ | ⟨hz,b0,a8,s8,c0,hA⟩
          · rw [if_neg hz] at heC
            have hz':0 < C.length:=List.length_pos_iff.2 hz
            subst heC
            simp [hz,hz',hCc,hTC]
            refine Inv_intro c1 ?_
            simp
            refine Inv_intro q3 ?_
            rcases hfin with ⟨rfl,rfl,rfl,rfl⟩ | ⟨rfl,p,rfl,c2⟩
            · simp [hzG',htG,qG,hz,hCc,hTC,hTP,hTQ]
              exact qG.imp (fun h => ⟨h.1,h.2,by rw [h.2]; simp,h.2,by rw [h.2]; simp⟩) id
            · have hb1:(G.length + 1) * 16 ≤ 140737488355328:=by omega
              have hb2:G.length ≤ 9223372036854775806:=by omega
              simp
              refine drawP (tabEnv [(18,[1]),(50,[1]),(57,[1]),(97,[1]),(54,[1]),(107,[2,0])] _) [⟨[.op 1 1 0],allD 59,true⟩,⟨[.op 1 1 0],allD 59,true⟩,⟨[.arg 0 0],allD 59,true⟩,⟨[.arg 0 0],[51,52,53,54,55,56,57],false⟩,⟨[],allD 59,false⟩,⟨[.op 1 1 0,.op 15 4 0],[51,52,53,54,55,56,57],false⟩,⟨[.op 1 1 0],allD 59,true⟩,⟨[.op 1 1 0,.op 15 4 0,.op 15 5 0],[51,52,53,54,55,56,57],false⟩] h0 hm (tabEnv_ok (tab_cons c2 tab_nil)) (by kernel_rfl) (by kernel_rfl) ?_
              simp [hzG',htG,hoG,hb1,hb2,hz,hCc,hTC,hTP,hTQ]
          · subst hz
            simp at heC
            subst heC
            simp
            refine Inv_intro c0 ?_
            rcases hA with ⟨rfl,rfl,rfl,rfl⟩ | ⟨rfl,c1⟩
            · unfold zeroA at hfin
              simp
              refine Inv_intro q3 ?_
              rcases hfin with ⟨rfl,rfl,rfl,rfl⟩ | ⟨rfl,p,rfl,c2⟩
              · simp [hzG',htG,qG]
                exact qG.imp (fun h => ⟨h.1,h.2,by rw [h.2]; simp,h.2,by rw [h.2]; simp⟩) id
              · have hb1:(G.length + 1) * 16 ≤ 140737488355328:=by omega
                have hb2:G.length ≤ 9223372036854775806:=by omega
                simp
                refine drawP (tabEnv [(18,[1]),(50,[1]),(57,[1]),(97,[1]),(54,[1]),(107,[2,0])] _) [⟨[.op 1 1 0],allD 59,true⟩,⟨[.op 1 1 0],allD 59,true⟩,⟨[.arg 0 0],allD 59,true⟩,⟨[.arg 0 0],[51,52,53,54,55,56,57],false⟩,⟨[],allD 59,false⟩,⟨[.op 1 1 0,.op 15 4 0],[51,52,53,54,55,56,57],false⟩,⟨[.op 1 1 0],allD 59,true⟩,⟨[.op 1 1 0,.op 15 4 0,.op 15 5 0],[51,52,53,54,55,56,57],false⟩] h0 hm (tabEnv_ok (tab_cons c2 tab_nil)) (by kernel_rfl) (by kernel_rfl) ?_
                simp [hzG',htG,hoG,hb1,hb2]
            · simp
              refine Inv_intro c1 ?_
              simp
              refine Inv_intro q3 ?_
              rcases hfin with ⟨rfl,rfl,rfl,rfl⟩ | ⟨rfl,p,rfl,c2⟩
              · simp [hzG',htG,qG,hTP,hTQ]
                exact qG.imp (fun h => ⟨h.1,h.2,by rw [h.2]; simp,h.2,by rw [h.2]; simp⟩) id
              · have hb1:(G.length + 1) * 16 ≤ 140737488355328:=by omega
                have hb2:G.length ≤ 9223372036854775806:=by omega
                simp
                refine drawP (tabEnv [(18,[1]),(50,[1]),(57,[1]),(97,[1]),(54,[1]),(107,[2,0])] _) [⟨[.op 1 1 0],allD 59,true⟩,⟨[.op 1 1 0],allD 59,true⟩,⟨[.arg 0 0],allD 59,true⟩,⟨[.arg 0 0],[51,52,53,54,55,56,57],false⟩,⟨[],allD 59,false⟩,⟨[.op 1 1 0,.op 15 4 0],[51,52,53,54,55,56,57],false⟩,⟨[.op 1 1 0],allD 59,true⟩,⟨[.op 1 1 0,.op 15 4 0,.op 15 5 0],[51,52,53,54,55,56,57],false⟩] h0 hm (tabEnv_ok (tab_cons c2 tab_nil)) (by kernel_rfl) (by kernel_rfl) ?_
                simp [hzG',htG,hoG,hb1,hb2,hTP,hTQ]
/-- Where a condition holds first, or -1. -/
def idxOf {α:Type} (p:α → Bool) (xs:List α):Int:=match xs.findIdx? p with | some i => i | none => -1
theorem idxOf_hit {α:Type} (p:α → Bool) (xs:List α) (i:Nat) (h:i < xs.length) (hp:p xs[i] = true) (hall:∀ (j:Nat) (hj:j < i),p (xs[j]'(by omega)) = false):idxOf p xs = i:=by
  unfold idxOf
  rw [(List.findIdx?_eq_some_iff_getElem (i:=i)).2 ⟨h,hp,fun j hj => by simp [hall j hj]⟩]
theorem idxOf_no {α:Type} (p:α → Bool) (xs:List α) (hall:∀ (j:Nat) (hj:j < xs.length),p xs[j] = false):idxOf p xs = -1:=by
  unfold idxOf
  rw [List.findIdx?_eq_none_iff.2 (fun s hs => by
    obtain ⟨j,hj,rfl⟩:=List.getElem_of_mem hs
    simp [hall j hj])]
theorem idxOf_any {α:Type} (p:α → Bool) (xs:List α):decide (0 ≤ idxOf p xs) = xs.any p:=by
  unfold idxOf
  cases h:xs.findIdx? p with
  | none =>
    rw [List.findIdx?_eq_none_iff] at h
    simp
    exact fun x hx => by simpa using h x hx
  | some i =>
    rw [List.findIdx?_eq_some_iff_getElem] at h
    obtain ⟨h1,h2,_⟩:=h
    simp
    exact ⟨_,List.getElem_mem h1,h2⟩
theorem ok_IndexFunc_Prefix (k q g:Nat) (caps:List (List PT)) (p:GPrefix → Bool) (xs:List GPrefix) (ha:xs.length ≤ 140737488351232)
    (hg:∀ x ∈ xs,CallOK Tryz.prog g (.agg (GPrefix.c x) :: caps.map (PV.ip q)) (.c (pb (p x))) (.agg (GPrefix.c x) :: caps.map (PV.ip q))) :
    CallOK Tryz.prog 83 [.c (rd k xs.length (xs.flatMap GPrefix.c)),.c (.fn q g caps)] (.c (pi (idxOf p xs))) [.c (rd k xs.length (xs.flatMap GPrefix.c)),.c (.fn q g caps)]:=by
  refine okS (fn:=Tryz.f83) [] h0 Tryz.func83 (by kernel_rfl) rfl Tryz.ntmps83 Tryz.results83 (by simp) ?_
  simp
  refine loopS [0,1,7,8] [] (fun n st => ∃ (i:Nat),i + n = xs.length ∧ (∀ (j:Nat) (hj:j < i) (hj':j < xs.length),p xs[j] = false) ∧ st = ⟨slOf 19 [(0,.t (rd k xs.length (xs.flatMap GPrefix.c))),(1,.t (.fn q g caps)),(7,.t (pi xs.length)),(8,.t (pi i))],ofL []⟩) xs.length ?_ ?_
  · rintro Inv hI
    simp
    subst hI
    exact ⟨0,by omega,by intro j hj; omega,rfl⟩
  · rintro Inv hI n st ⟨i,hi,hall,rfl⟩
    refine ewr_sound (M:=[]) h0 ?_
    simp
    refine brn_app (fun h => ?_) (fun h => ?_)
    · simp at h
      have hd:=fm_drop GPrefix.c 2 (fun _ => rfl) xs i h
      have hlen:=fm_len GPrefix.c 2 (fun _ => rfl) xs
      have hlt:i * 2 < xs.length * 2:=by omega
      simp [h,hd,hlen,hlt]
      refine Inv_intro (hg _ (List.getElem_mem h)) ?_
      simp
      refine brn_app (fun h2 => ?_) (fun h2 => ?_)
      · simp
        exact (idxOf_hit p xs i h h2 fun j hj => hall j hj (by omega)).symm
      · simp
        subst hI
        refine Less_mk (n - 1) (by omega) ⟨i + 1,by omega,?_,by rw [wrNext i (by omega)]⟩
        intro j hj hj'
        by_cases hji:j = i
        · subst hji; exact h2
        · exact hall j (by omega) hj'
    · simp at h
      simp
      exact (idxOf_no p xs fun j hj => hall j (by omega) hj).symm
theorem ok_ContainsFunc_Prefix (k q g:Nat) (caps:List (List PT)) (p:GPrefix → Bool) (xs:List GPrefix) (ha:xs.length ≤ 140737488351232)
    (hg:∀ x ∈ xs,CallOK Tryz.prog g (.agg (GPrefix.c x) :: caps.map (PV.ip q)) (.c (pb (p x))) (.agg (GPrefix.c x) :: caps.map (PV.ip q))) :
    CallOK Tryz.prog 40 [.c (rd k xs.length (xs.flatMap GPrefix.c)),.c (.fn q g caps)] (.c (pb (xs.any p))) [.c (rd k xs.length (xs.flatMap GPrefix.c)),.c (.fn q g caps)]:=by
  refine okS (fn:=Tryz.f40) [] h0 Tryz.func40 (by kernel_rfl) rfl Tryz.ntmps40 Tryz.results40 (by simp) ?_
  simp
  refine Inv_intro (ok_IndexFunc_Prefix k q g caps p xs ha hg) ?_
  simp [idxOf_any]
theorem ok_IndexFunc_Int (k q g:Nat) (caps:List (List PT)) (p:Int → Bool) (xs:List Int) (ha:xs.length ≤ 140737488351232)
    (hg:∀ x ∈ xs,CallOK Tryz.prog g (.c (pi x) :: caps.map (PV.ip q)) (.c (pb (p x))) (.c (pi x) :: caps.map (PV.ip q))) :
    CallOK Tryz.prog 108 [.c (rd k xs.length (xs.map pi)),.c (.fn q g caps)] (.c (pi (idxOf p xs))) [.c (rd k xs.length (xs.map pi)),.c (.fn q g caps)]:=by
  refine okS (fn:=Tryz.f108) [] h0 Tryz.func108 (by kernel_rfl) rfl Tryz.ntmps108 Tryz.results108 (by simp) ?_
  simp
  refine loopS [0,1,7,8] [] (fun n st => ∃ (i:Nat),i + n = xs.length ∧ (∀ (j:Nat) (hj:j < i) (hj':j < xs.length),p xs[j] = false) ∧ st = ⟨slOf 19 [(0,.t (rd k xs.length (xs.map pi))),(1,.t (.fn q g caps)),(7,.t (pi xs.length)),(8,.t (pi i))],ofL []⟩) xs.length ?_ ?_
  · rintro Inv hI
    simp
    subst hI
    exact ⟨0,by omega,by intro j hj; omega,rfl⟩
  · rintro Inv hI n st ⟨i,hi,hall,rfl⟩
    refine ewr_sound (M:=[]) h0 ?_
    simp
    refine brn_app (fun h => ?_) (fun h => ?_)
    · simp at h
      simp [h]
      refine Inv_intro (hg _ (List.getElem_mem h)) ?_
      simp
      refine brn_app (fun h2 => ?_) (fun h2 => ?_)
      · simp
        exact (idxOf_hit p xs i h h2 fun j hj => hall j hj (by omega)).symm
      · simp
        subst hI
        refine Less_mk (n - 1) (by omega) ⟨i + 1,by omega,?_,by rw [wrNext i (by omega)]⟩
        intro j hj hj'
        by_cases hji:j = i
        · subst hji; exact h2
        · exact hall j (by omega) hj'
    · simp at h
      simp
      exact (idxOf_no p xs fun j hj => hall j (by omega) hj).symm
theorem ok_ContainsFunc_Int (k q g:Nat) (caps:List (List PT)) (p:Int → Bool) (xs:List Int) (ha:xs.length ≤ 140737488351232)
    (hg:∀ x ∈ xs,CallOK Tryz.prog g (.c (pi x) :: caps.map (PV.ip q)) (.c (pb (p x))) (.c (pi x) :: caps.map (PV.ip q))) :
    CallOK Tryz.prog 103 [.c (rd k xs.length (xs.map pi)),.c (.fn q g caps)] (.c (pb (xs.any p))) [.c (rd k xs.length (xs.map pi)),.c (.fn q g caps)]:=by
  refine okS (fn:=Tryz.f103) [] h0 Tryz.func103 (by kernel_rfl) rfl Tryz.ntmps103 Tryz.results103 (by simp) ?_
  simp
  refine Inv_intro (ok_IndexFunc_Int k q g caps p xs ha hg) ?_
  simp [idxOf_any]
theorem any_not {α:Type} (p:α → Bool) (xs:List α):xs.any (fun x => !p x) = !xs.all p:=by
  induction xs with
  | nil => rfl
  | cons x xs ih => simp [ih]
theorem ok_isValue (n:Int):CallOK Tryz.prog 81 [.c (pi n)] (.c (pb (isValB n))) [.c (pi n)]:=by
  refine okS (fn:=Tryz.f81) [] h0 Tryz.func81 (by kernel_rfl) rfl Tryz.ntmps81 Tryz.results81 (by simp) ?_
  simp
  refine Inv_intro (ok_within _ _ _) ?_
  simp [isValB,inR]
theorem ok_isPath1 (n:Int):CallOK Tryz.prog 104 [.c (pi n)] (.c (pb (!isAsnB n))) [.c (pi n)]:=by
  refine okS (fn:=Tryz.f104) [] h0 Tryz.func104 (by kernel_rfl) rfl Tryz.ntmps104 Tryz.results104 (by simp) ?_
  simp
  refine Inv_intro (ok_isAsn n) ?_
  simp
theorem ok_isPath (k:Nat) (p:List Int) (hl:p.length ≤ 140737488351232):CallOK Tryz.prog 79 [.c (rd k p.length (p.map pi))] (.c (pb (goodPa p))) [.c (rd k p.length (p.map pi))]:=by
  refine okS (fn:=Tryz.f79) [] h0 Tryz.func79 (by kernel_rfl) rfl Tryz.ntmps79 Tryz.results79 (by simp) ?_
  simp
  refine gT (fun a => ?_) (fun a => ?_)
  · have a':p.length ≤ 10:=by simp at a; omega
    simp [a]
    refine Inv_intro (ok_ContainsFunc_Int k 0 104 [] (fun n => !isAsnB n) p hl fun x hx => ok_isPath1 x) ?_
    simp [goodPa,any_not,a']
  · have a':¬ p.length ≤ 10:=by simp at a; omega
    simp [goodPa,a,a']
theorem ok_areComms (k:Nat) (l:List Int) (hl:l.length ≤ 140737488351232):CallOK Tryz.prog 82 [.c (rd k l.length (l.map pi))] (.c (pb (goodCm l))) [.c (rd k l.length (l.map pi))]:=by
  refine okS (fn:=Tryz.f82) [] h0 Tryz.func82 (by kernel_rfl) rfl Tryz.ntmps82 Tryz.results82 (by simp) ?_
  simp
  refine loopS [0,5,6,7] [] (fun n st => ∃ (i:Nat),i + n = l.length ∧ commsG (prevI l i) (l.drop i) = commsG none l ∧ st = ⟨slOf 32 [(0,.t (rd k l.length (l.map pi))),(5,.t (rd k l.length (l.map pi))),(6,.t (pi l.length)),(7,.t (pi i))],ofL []⟩) l.length ?_ ?_
  · rintro Inv hI
    simp
    subst hI
    exact ⟨0,by omega,rfl,rfl⟩
  · rintro Inv hI n st ⟨i,hi,hg,rfl⟩
    refine ewr_sound (M:=[]) h0 ?_
    simp
    refine brn_app (fun a => ?_) (fun a => ?_)
    · simp at a
      rw [drop_step _ i a,commsG] at hg
      have en:prevI l (i + 1) = some l[i]:=prevI_next l i a
      simp [a]
      refine Inv_intro (ok_isValue l[i]) ?_
      cases c1:isValB l[i] with
      | false =>
        rw [c1,Bool.false_and,Bool.false_and] at hg
        simp [goodCm,← hg]
      | true =>
        rw [c1,Bool.true_and] at hg
        by_cases c0:i = 0
        · have e0:¬ 0 < i:=by omega
          have ep:prevI l i = none:=by simp [prevI,c0]
          rw [ep,adjI,Bool.true_and] at hg
          simp [e0]
          subst hI
          exact Less_mk (n - 1) (by omega) ⟨i + 1,by omega,by rw [en]; exact hg,by rw [wrNext i (by omega)]⟩
        · obtain ⟨j,hj⟩:∃ j,i = j + 1:=⟨i - 1,by omega⟩
          have aj:j < l.length:=by omega
          have ep:prevI l i = some l[j]:=by subst hj; exact prevI_next l j aj
          have hw:IntKind.wrap .i64 ((i:Int) - 1) = j:=(wrap64 (by omega) (by omega)).trans (by omega)
          have e0:0 < i:=by omega
          rw [ep,adjI] at hg
          simp [e0,hw,aj]
          refine brn_app (fun c => ?_) (fun c => ?_)
          · simp at c
            have c':¬ l[j] < l[i]:=by omega
            simp [c'] at hg
            simp [goodCm,hg]
          · simp at c
            have c':l[j] < l[i]:=by omega
            simp [c'] at hg
            simp
            subst hI
            exact Less_mk (n - 1) (by omega) ⟨i + 1,by omega,by rw [en]; exact hg,by rw [wrNext i (by omega)]⟩
    · simp at a
      rw [List.drop_of_length_le (by omega),commsG] at hg
      simp [goodCm,← hg]
      omega
theorem ok_iGoodAttrs (k:Nat) (x:GAttrs) (hx:attrOK x):CallOK Tryz.prog 39 [.agg (GAttrs.ci k x)] (.c (pb (goodA x))) [.agg (GAttrs.ci k x)]:=by
  obtain ⟨h1,h2⟩:=hx
  refine okS (fn:=Tryz.f39) [] h0 Tryz.func39 (by kernel_rfl) rfl Tryz.ntmps39 Tryz.results39 (by simp) ?_
  simp
  refine Inv_intro (ok_within _ _ _) ?_
  by_cases c1:0 ≤ x.Origin ∧ x.Origin ≤ 2
  · simp [c1]
    refine Inv_intro (ok_isPath k x.Path h1) ?_
    cases c2:goodPa x.Path with
    | false => simp [goodA,c2]
    | true =>
      simp
      refine Inv_intro (ok_isAddr _) ?_
      cases c3:inR x.Next 0 4294967295 with
      | false => simp [goodA,c3]
      | true =>
        simp
        refine Inv_intro (ok_isValue _) ?_
        cases c4:isValB x.Med with
        | false => simp [goodA,c4]
        | true =>
          simp
          refine Inv_intro (ok_isValue _) ?_
          cases c5:isValB x.Pref with
          | false => simp [goodA,c5]
          | true =>
            simp
            refine Inv_intro (ok_areComms k x.Comms h2) ?_
            simp [goodA,c2,c3,c4,c5,inR_t c1]
  · have c1':inR x.Origin 0 2 = false:=by simp only [inR,decide_eq_false_iff_not]; exact c1
    simp [c1,goodA,c1']
theorem ok_iGoodRoute (k:Nat) (r:GRoute) (hx:attrOK r.Attrs):CallOK Tryz.prog 34 [.agg (GRoute.ci k r)] (.c (pb (goodR r))) [.agg (GRoute.ci k r)]:=by
  refine okS (fn:=Tryz.f34) [] h0 Tryz.func34 (by kernel_rfl) rfl Tryz.ntmps34 Tryz.results34 (by simp) ?_
  simp
  refine Inv_intro (ok_iGoodPrefix r.Prefix) ?_
  cases c1:goodPx r.Prefix with
  | false => simp [goodR,c1]
  | true =>
    simp
    refine Inv_intro (ok_iGoodAttrs k r.Attrs hx) ?_
    simp [goodR,c1]
end Go.V
