/- What functions of the seat's program do, each proved of its code, under the bounds that its theorem names. -/
import Derived.Test.YtcmdgenpipojpaaGreatTad
set_option linter.all false
namespace Go.V
open Go.Proofs
set_option maxHeartbeats 1000000
set_option maxRecDepth 10000
set_option linter.unusedSimpArgs false
set_option linter.unusedVariables false
theorem ok_sGoodAttrs (k:Nat) (x:GAttrs) (hx:attrOK x):CallOK Tryz.prog 55 [.agg (GAttrs.ci k x)] (.c (pb (goodA x))) [.agg (GAttrs.ci k x)]:=by
  obtain ⟨h1,h2⟩:=hx
  refine okS (fn:=Tryz.f55) [] h0 Tryz.func55 (by kernel_rfl) rfl Tryz.ntmps55 Tryz.results55 (by simp) ?_
  simp
  refine loopS [1,8,9,10] [.op 0 0 0] (fun n st => ∃ (i:Nat),i + n = x.Path.length ∧ (x.Path.drop i).all isAsnB = x.Path.all isAsnB ∧ st = ⟨slOf 74 [(1,.ptr ⟨.op 0 0 0,[]⟩ 0),(8,.t (rd k x.Path.length (x.Path.map pi))),(9,.t (pi x.Path.length)),(10,.t (pi i))],ofL [(.op 0 0 0,.sl 0 36 1 (GAttrs.ci k x))]⟩) x.Path.length ?_ ?_
  · rintro Inv hI
    simp
    subst hI
    exact ⟨0,by omega,rfl,rfl⟩
  · rintro Inv hI n st ⟨i,hi,hg,rfl⟩
    refine ewr_sound (M:=[]) h0 ?_
    simp
    refine brn_app (fun a => ?_) (fun a => ?_)
    · simp at a
      rw [drop_step _ i a,List.all_cons] at hg
      simp [a]
      refine Inv_intro (ok_l1In _ _ _) ?_
      by_cases c:1 ≤ x.Path[i] ∧ x.Path[i] ≤ 65535
      · have c':isAsnB x.Path[i] = true:=inR_t c
        rw [c',Bool.true_and] at hg
        simp [c]
        subst hI
        exact Less_mk (n - 1) (by omega) ⟨i + 1,by omega,hg,by rw [wrNext i (by omega)]; rfl⟩
      · have c':isAsnB x.Path[i] = false:=by simp only [isAsnB,inR,decide_eq_false_iff_not]; exact c
        rw [c',Bool.false_and] at hg
        simp [c,goodA,goodPa,← hg]
    · simp at a
      rw [List.drop_of_length_le (by omega),List.all_nil] at hg
      simp
      refine loopS [1,19,20,21] [.op 0 0 0] (fun n st => ∃ (i:Nat),i + n = x.Comms.length ∧ commsG (prevI x.Comms i) (x.Comms.drop i) = commsG none x.Comms ∧ st = ⟨slOf 74 [(1,.ptr ⟨.op 0 0 0,[]⟩ 0),(19,.t (rd k x.Comms.length (x.Comms.map pi))),(20,.t (pi x.Comms.length)),(21,.t (pi i))],ofL [(.op 0 0 0,.sl 0 36 1 (GAttrs.ci k x))]⟩) x.Comms.length ?_ ?_
      · rintro Inv hI
        simp
        subst hI
        exact ⟨0,by omega,rfl,rfl⟩
      · rintro Inv hI n st ⟨i,hi,hc,rfl⟩
        refine ewr_sound (M:=[]) h0 ?_
        simp
        refine brn_app (fun a => ?_) (fun a => ?_)
        · simp at a
          rw [drop_step _ i a,commsG] at hc
          have en:prevI x.Comms (i + 1) = some x.Comms[i]:=prevI_next x.Comms i a
          simp [a]
          refine Inv_intro (ok_l1In _ _ _) ?_
          by_cases c1:0 ≤ x.Comms[i] ∧ x.Comms[i] ≤ 1000000
          · have c1':isValB x.Comms[i] = true:=inR_t c1
            rw [c1',Bool.true_and] at hc
            by_cases c0:i = 0
            · have e0:¬ 0 < i:=by omega
              have ep:prevI x.Comms i = none:=by simp [prevI,c0]
              rw [ep,adjI,Bool.true_and] at hc
              simp [c1,e0]
              subst hI
              exact Less_mk (n - 1) (by omega) ⟨i + 1,by omega,by rw [en]; exact hc,by rw [wrNext i (by omega)]; rfl⟩
            · obtain ⟨j,hj⟩:∃ j,i = j + 1:=⟨i - 1,by omega⟩
              have aj:j < x.Comms.length:=by omega
              have ep:prevI x.Comms i = some x.Comms[j]:=by subst hj; exact prevI_next x.Comms j aj
              have hw:IntKind.wrap .i64 ((i:Int) - 1) = j:=(wrap64 (by omega) (by omega)).trans (by omega)
              have e0:0 < i:=by omega
              rw [ep,adjI] at hc
              simp [c1,e0,hw,aj]
              refine brn_app (fun c => ?_) (fun c => ?_)
              · simp at c
                have c':¬ x.Comms[j] < x.Comms[i]:=by omega
                simp [c'] at hc
                simp [goodA,goodCm,hc]
              · simp at c
                have c':x.Comms[j] < x.Comms[i]:=by omega
                simp [c'] at hc
                simp
                subst hI
                exact Less_mk (n - 1) (by omega) ⟨i + 1,by omega,by rw [en]; exact hc,by rw [wrNext i (by omega)]; rfl⟩
          · have c1':isValB x.Comms[i] = false:=by simp only [isValB,inR,decide_eq_false_iff_not]; exact c1
            rw [c1',Bool.false_and,Bool.false_and] at hc
            simp [c1,goodA,goodCm,← hc]
        · simp at a
          rw [List.drop_of_length_le (by omega),commsG] at hc
          simp
          refine Inv_intro (ok_l1In _ _ _) ?_
          by_cases c1:0 ≤ x.Origin ∧ x.Origin ≤ 2
          · simp [c1]
            by_cases c2:x.Path.length ≤ 10
            · have c2':(x.Path.length:Int) ≤ 10:=by omega
              simp [c2']
              refine Inv_intro (ok_l1Addr _) ?_
              cases c3:inR x.Next 0 4294967295 with
              | false => simp [goodA,c3]
              | true =>
                simp
                refine Inv_intro (ok_l1In _ _ _) ?_
                by_cases c4:0 ≤ x.Med ∧ x.Med ≤ 1000000
                · simp [c4]
                  refine Inv_intro (ok_l1In _ _ _) ?_
                  by_cases c5:0 ≤ x.Pref ∧ x.Pref ≤ 1000000
                  · have c4':isValB x.Med = true:=inR_t c4
                    have c5':isValB x.Pref = true:=inR_t c5
                    have hp:goodPa x.Path = true:=by simp [goodPa,c2,← hg]
                    have hcm:goodCm x.Comms = decide ((x.Comms.length:Int) ≤ 6):=by
                      simp only [goodCm,← hc,Bool.true_and]
                      exact decide_eq_decide.2 (by omega)
                    simp [c5,goodA,c3,c4',c5',hp,hcm,inR_t c1]
                  · have c5':isValB x.Pref = false:=by simp only [isValB,inR,decide_eq_false_iff_not]; exact c5
                    simp [c5,goodA,c5']
                · have c4':isValB x.Med = false:=by simp only [isValB,inR,decide_eq_false_iff_not]; exact c4
                  simp [c4,goodA,c4']
            · have c2':¬ (x.Path.length:Int) ≤ 10:=by omega
              simp [c2',goodA,goodPa,c2]
          · have c1':inR x.Origin 0 2 = false:=by simp only [inR,decide_eq_false_iff_not]; exact c1
            simp [c1,goodA,c1']
theorem ok_sGoodRoute (k:Nat) (r:GRoute) (hx:attrOK r.Attrs):CallOK Tryz.prog 36 [.agg (GRoute.ci k r)] (.c (pb (goodR r))) [.agg (GRoute.ci k r)]:=by
  refine okS (fn:=Tryz.f36) [] h0 Tryz.func36 (by kernel_rfl) rfl Tryz.ntmps36 Tryz.results36 (by simp) ?_
  simp
  refine Inv_intro (ok_sGoodPrefix r.Prefix) ?_
  cases c1:goodPx r.Prefix with
  | false => simp [goodR,c1]
  | true =>
    simp
    refine Inv_intro (ok_sGoodAttrs k r.Attrs hx) ?_
    simp [goodR,c1]
def rD (r:GRoute):Prop:=r.Attrs.Path.length ≤ 6 ∧ r.Attrs.Comms.length ≤ 6
def rsD (l:List GRoute):Prop:=l.length ≤ 20 ∧ ∀ r ∈ l,rD r
theorem ok_route (code:List Int) (hc:codeOK code) (a s:Int) (ha:0 ≤ a) (ha2:a ≤ 3999800):∃ (r:GRoute) (a' s':Int),rD r ∧ (a ≤ a' ∧ a' ≤ a + 24) ∧ CallOK Tryz.prog 58 [.bp (curP code a s)] (.agg (GRoute.co r)) [.bp (curP code a' s')]:=by
  obtain ⟨p,a1,s1,ha1,q1⟩:=ok_prefix code hc a s ha (by omega)
  obtain ⟨g,a2,s2,hg,ha2',q2⟩:=ok_attrs code hc a1 s1 (by omega) (by omega)
  refine ⟨⟨p,g⟩,a2,s2,hg,by omega,?_⟩
  have hTP:List.take g.Path.length (g.Path.map pi) = g.Path.map pi:=List.take_of_length_le (by rw [List.length_map]; exact Nat.le_refl _)
  have hTQ:List.take g.Comms.length (g.Comms.map pi) = g.Comms.map pi:=List.take_of_length_le (by rw [List.length_map]; exact Nat.le_refl _)
  refine okS (fn:=Tryz.f58) [(97,[1]),(54,[1])] h0 Tryz.func58 (by kernel_rfl) rfl Tryz.ntmps58 Tryz.results58 (by simp) ?_
  unfold curP at q1 q2 ⊢
  simp
  refine Inv_intro q1 ?_
  simp
  refine Inv_intro q2 ?_
  simp [hTP,hTQ]
theorem exists_stop (p:Nat → Prop):∀ N:Nat,∃ K,K ≤ N ∧ (K = N ∨ p K) ∧ ∀ i,i < K → ¬ p i
  | 0 => ⟨0,by omega,.inl rfl,fun i hi => by omega⟩
  | N + 1 => by
    obtain ⟨K,h1,h2,h3⟩:=exists_stop p N
    by_cases hk:p K
    · exact ⟨K,by omega,.inr hk,h3⟩
    · rcases h2 with h2 | h2
      · refine ⟨N + 1,Nat.le_refl _,.inl rfl,fun i hi => ?_⟩
        rcases Nat.lt_or_ge i K with h | h
        · exact h3 i h
        · have:i = K:=by omega
          rw [this]
          exact hk
      · exact absurd h2 hk
set_option maxHeartbeats 4000000 in
theorem ok_told (code:List Int) (hc:codeOK code) (a s:Int) (ha:0 ≤ a) (ha2:a ≤ 3990000):∃ (l:List GRoute) (a' s':Int),rsD l ∧ (a ≤ a' ∧ a' ≤ a + 1100) ∧ CallOKL Tryz.prog 17 [.bp (curP code a s)] (.c (rd 0 l.length (l.flatMap (GRoute.ci 0)))) [.bp (curP code a' s')]:=by
  obtain ⟨n0,a1,s1,hn0,ha1,q1⟩:=ok_pick code hc 7 (by decide) (by decide) a s ha (by omega)
  obtain ⟨b0,a2,s2,ha2',q2⟩:=ok_one code hc 12 (by decide) (by decide) a1 s1 (by omega) (by omega)
  obtain ⟨N,hN,hfr⟩:∃ N:Nat,N ≤ 40 ∧ (b0 = false ∧ n0 = (N:Int) ∨ b0 = true ∧ N = 40):=by
    cases b0 with
    | false => exact ⟨n0.toNat,by omega,.inl ⟨rfl,by omega⟩⟩
    | true => exact ⟨40,by omega,.inr ⟨rfl,rfl⟩⟩
  obtain ⟨run,run0,runI,runR⟩:=exists_run (α:=List GRoute × GAttrs × Int × Int) N ([],⟨0,[3],0,0,100,[]⟩,a2,s2) (fun i x => srt x.1 ∧ (∀ r ∈ x.1,rD r) ∧ (x.2.1.Path.length ≤ 6 ∧ x.2.1.Comms.length ≤ 6) ∧ a2 ≤ x.2.2.1 ∧ x.2.2.1 ≤ a2 + 25 * i)
    (fun x y => ∃ (g:GAttrs) (b:Bool) (p:GPrefix) (b1 t1 b2 t2:Int),(g.Path.length ≤ 6 ∧ g.Comms.length ≤ 6) ∧ CallOK Tryz.prog 54 [.bp (curP code x.2.2.1 x.2.2.2)] (.agg (GAttrs.co g)) [.bp (curP code b1 t1)] ∧ CallOK Tryz.prog 50 [.bp (curP code b1 t1),.c (pi 3)] (.c (pb b)) [.bp (curP code b2 t2),.c (pi 3)] ∧ CallOK Tryz.prog 57 [.bp (curP code b2 t2)] (.agg p.c) [.bp (curP code y.2.2.1 y.2.2.2)] ∧ y.2.1 = (if b = true ∧ goodA g = true then g else x.2.1) ∧ y.1 = putR ⟨p,y.2.1⟩ x.1)
    ⟨List.Pairwise.nil,by simp,by simp,by simp,by simp⟩ (by
      rintro i ⟨l,A,b,t⟩ hi ⟨g1,g2,g3,g4,g5⟩
      simp only at g1 g2 g3 g4 g5
      obtain ⟨g,b1,t1,hg,hb1,c1⟩:=ok_attrs code hc b t (by omega) (by omega)
      obtain ⟨f,b2,t2,hb2,c2⟩:=ok_one code hc 3 (by decide) (by decide) b1 t1 (by omega) (by omega)
      obtain ⟨p,b3,t3,hp,hb3,c3⟩:=ok_fine code hc b2 t2 (by omega) (by omega)
      have hA:(if f = true ∧ goodA g = true then g else A).Path.length ≤ 6 ∧ (if f = true ∧ goodA g = true then g else A).Comms.length ≤ 6:=by
        split
        · exact hg
        · exact g3
      refine ⟨(putR ⟨p,if f = true ∧ goodA g = true then g else A⟩ l,if f = true ∧ goodA g = true then g else A,b3,t3),⟨g,f,p,b1,t1,b2,t2,hg,c1,c2,c3,rfl,rfl⟩,srt_put g1 _,?_,hA,by simp only; omega,by simp only; omega⟩
      intro r hr
      rcases mem_put hr with rfl | hr
      · exact hA
      · exact g2 r hr)
  obtain ⟨K,hK1,hK2,hK3⟩:=exists_stop (fun i => ¬ (run i).1.length < 20) N
  obtain ⟨e1,e2,e3,e4,e5⟩:=runI K hK1
  have eL:(run K).1.length ≤ 20:=by
    cases K with
    | zero => rw [run0]; simp
    | succ k =>
      obtain ⟨g,b,p,b1,t1,b2,t2,_,_,_,_,_,h⟩:=runR k (by omega)
      have h1:=put_len ⟨p,(run (k + 1)).2.1⟩ (runI k (by omega)).1
      have h2:¬ ¬ (run k).1.length < 20:=hK3 k (by omega)
      rw [h]
      omega
  obtain ⟨L,hL⟩:∃ L,L = (run K).1:=⟨_,rfl⟩
  obtain ⟨a4,ha4⟩:∃ a4,a4 = (run K).2.2.1:=⟨_,rfl⟩
  obtain ⟨s4,hs4⟩:∃ s4,s4 = (run K).2.2.2:=⟨_,rfl⟩
  rw [← hL] at e1 e2 eL
  rw [← ha4] at e4 e5
  obtain ⟨l,a5,s5,hl,ha5,hfin⟩:∃ (l:List GRoute) (a5 s5:Int),rsD l ∧ (a4 ≤ a5 ∧ a5 ≤ a4 + 25) ∧ ((L = [] ∧ l = [] ∧ a5 = a4 ∧ s5 = s4) ∨ (L ≠ [] ∧ ∃ (b:Bool) (a6 s6:Int),CallOK Tryz.prog 50 [.bp (curP code a4 s4),.c (pi 30)] (.c (pb b)) [.bp (curP code a6 s6),.c (pi 30)] ∧ ((b = false ∧ l = L ∧ a5 = a6 ∧ s5 = s6) ∨ (b = true ∧ ∃ r:GRoute,l = r :: L.tail ∧ CallOK Tryz.prog 58 [.bp (curP code a6 s6)] (.agg (GRoute.co r)) [.bp (curP code a5 s5)])))):=by
    by_cases hz:L = []
    · exact ⟨[],a4,s4,⟨by simp,by simp⟩,by omega,.inl ⟨hz,rfl,rfl,rfl⟩⟩
    · obtain ⟨b,a6,s6,ha6,c1⟩:=ok_one code hc 30 (by decide) (by decide) a4 s4 (by omega) (by omega)
      cases b with
      | false => exact ⟨L,a6,s6,⟨eL,e2⟩,by omega,.inr ⟨hz,false,a6,s6,c1,.inl ⟨rfl,rfl,rfl,rfl⟩⟩⟩
      | true =>
        obtain ⟨r,a7,s7,hr,ha7,c2⟩:=ok_route code hc a6 s6 (by omega) (by omega)
        refine ⟨_,a7,s7,⟨?_,?_⟩,by omega,.inr ⟨hz,true,a6,s6,c1,.inr ⟨rfl,r,rfl,c2⟩⟩⟩
        · have:L.length ≠ 0:=fun h => hz (List.eq_nil_of_length_eq_zero h)
          simp only [List.length_cons,List.length_tail]; omega
        · intro v hv
          rcases List.mem_cons.1 hv with h | h
          · rw [h]; exact hr
          · exact e2 v (List.mem_of_mem_tail h)
  refine ⟨l,a5,s5,hl,by omega,?_⟩
  refine okL (fn:=Tryz.f17) h0 Tryz.func17 (by kernel_rfl) rfl Tryz.ntmps17 Tryz.results17 (by simp) ?_
  unfold curP at q1 q2 runR hfin ⊢
  refine ewrN_cutL (M:=[(18,[1]),(50,[1])]) h0 5 [0,3,4,5] [.op 5 2 0] ⟨slOf 49 [(0,.ptr ⟨.arg 0 0,[]⟩ 0),(3,.t (.sl 0 nilE 0 [])),(4,.t (pi N)),(5,.ptr ⟨.op 5 2 0,[]⟩ 0)],ofL [(.arg 0 0,.sl 0 49 1 [rd 1 code.length (code.map pu),pi a2,.raw (.int .u64 s2)]),(.op 5 2 0,.sl 0 36 1 [pi 0,.sl 0 3 1 [pi 3],pi 0,pi 0,pi 100,.sl 0 nilE 0 []])]⟩ ?_ ?_
  · refine ewpL_freeze (.op 5 2 0) rfl (e:=36) (n:=1) (cs:=[pi 0,.sl 0 3 1 [pi 3],pi 0,pi 0,pi 100,.sl 0 nilE 0 []]) (by simp) (by decide) ?_
    simp [Code.rest]
    refine ewpL_nil 3 (.op 11 5 0) 56 (by decide) rfl rfl rfl ?_
    refine ewpL_cut (st1:=⟨slOf 49 [(0,.ptr ⟨.arg 0 0,[]⟩ 0),(3,.ref ⟨.op 11 5 0,[]⟩ 0 L.length)],ofL [(.op 11 5 0,.sl 0 56 L.length (L.flatMap (GRoute.ci 0))),(.arg 0 0,.sl 0 49 1 [rd 1 code.length (code.map pu),pi a4,.raw (.int .u64 s4)])]⟩) [0,3] [.op 11 5 0] ?_ ?_
    · intro KQ hKn hKe
      refine ewpL_block ?_
      refine loopL [0,3,4,5] [.op 11 5 0,.op 5 2 0] (fun m st => ∃ (i:Nat),i + m = K ∧ st = ⟨slOf 49 [(0,.ptr ⟨.arg 0 0,[]⟩ 0),(3,.ref ⟨.op 11 5 0,[]⟩ 0 (run i).1.length),(4,.t (pi ((N - i:Nat):Int))),(5,.ptr ⟨.op 5 2 0,[]⟩ 0)],ofL [(.op 11 5 0,.sl 0 56 (run i).1.length ((run i).1.flatMap (GRoute.ci 0))),(.arg 0 0,.sl 0 49 1 [rd 1 code.length (code.map pu),pi (run i).2.2.1,.raw (.int .u64 (run i).2.2.2)]),(.op 5 2 0,.sl 0 36 1 (GAttrs.ci 0 (run i).2.1))]⟩) K ?_ ?_
      · rintro Inv hI
        simp
        subst hI
        exact ⟨0,by omega,by rw [run0]; rfl⟩
      · rintro Inv hI m st ⟨i,hi,rfl⟩
        by_cases c:i < K
        · have c20:(run i).1.length < 20:=by
            have:=hK3 i c
            omega
          have c20':((run i).1.length:Int) < 20:=by omega
          have cn:(0:Int) < ((N - i:Nat):Int):=by omega
          have cn':0 < N - i:=by omega
          have wn:IntKind.i64.wrap (((N - i:Nat):Int) - 1) = ((N - (i + 1):Nat):Int):=by
            rw [wrap64 (by omega) (by omega)]
            omega
          obtain ⟨f1,f2,f3,f4,f5⟩:=runI i (by omega)
          obtain ⟨g,b,p,b1,t1,b2,t2,hg,c1,c2,c3,hA,hR⟩:=runR i (by omega)
          have hput:=ok_l14PutL (run i).1 ⟨p,(run (i + 1)).2.1⟩ f1 (by omega)
          rw [outPutL_eq] at hput
          rw [← hR] at hput
          generalize (run i).1 = l0 at *
          generalize (run i).2.1 = A0 at *
          have hTP:List.take g.Path.length (g.Path.map pi) = g.Path.map pi:=List.take_of_length_le (by rw [List.length_map]; exact Nat.le_refl _)
          have hTQ:List.take g.Comms.length (g.Comms.map pi) = g.Comms.map pi:=List.take_of_length_le (by rw [List.length_map]; exact Nat.le_refl _)
          refine ewrN_cutL (M:=[]) h0 1 [0,3,4,5] [.op 11 5 0,.op 5 2 0] ⟨slOf 49 [(0,.ptr ⟨.arg 0 0,[]⟩ 0),(3,.ref ⟨.op 11 5 0,[]⟩ 0 l0.length),(4,.t (pi ((N - i:Nat):Int))),(5,.ptr ⟨.op 5 2 0,[]⟩ 0)],ofL [(.op 11 5 0,.sl 0 56 l0.length (l0.flatMap (GRoute.ci 0))),(.arg 0 0,.sl 0 49 1 [rd 1 code.length (code.map pu),pi (run i).2.2.1,.raw (.int .u64 (run i).2.2.2)]),(.op 5 2 0,.sl 0 36 1 (GAttrs.ci 0 A0))]⟩ ?_ ?_
          · simp only [Code.rest]
            refine ewpL_seq ?_
            refine ewpL_block ?_
            refine ewpL_seq ?_
            refine ewpL_cut (st1:=⟨slOf 49 [(0,.ptr ⟨.arg 0 0,[]⟩ 0),(3,.ref ⟨.op 11 5 0,[]⟩ 0 l0.length),(4,.t (pi ((N - i:Nat):Int))),(5,.ptr ⟨.op 5 2 0,[]⟩ 0),(6,.ptr ⟨.op 8 2 0,[]⟩ 0)],ofL [(.op 11 5 0,.sl 0 56 l0.length (l0.flatMap (GRoute.ci 0))),(.arg 0 0,.sl 0 49 1 [rd 1 code.length (code.map pu),pi b1,.raw (.int .u64 t1)]),(.op 5 2 0,.sl 0 36 1 (GAttrs.ci 0 A0)),(.op 8 2 0,.sl 0 36 1 (GAttrs.co g))]⟩) [0,3,4,5,6] [.op 11 5 0,.op 5 2 0,.op 8 2 0] ?_ ?_
            · intro KR hRn hRe
              refine ewrL_sound (M:=[(54,[1])]) h0 ?_
              simp
              refine InvX_intro c1 ?_
              simp [hTP,hTQ]
              refine hRn _ ?_
              simp
            · refine ewpL_freeze (.op 8 2 0) rfl (e:=36) (n:=1) (cs:=GAttrs.co g) (by simp) (by decide) ?_
              simp
              refine ewrL_sound (M:=[(50,[1])]) h0 ?_
              simp
              refine InvX_intro c2 ?_
              have hgA2:=ok_sGoodAttrs 0 g ⟨by omega,by omega⟩
              cases b with
              | false =>
                have hA':(run (i + 1)).2.1 = A0:=by rw [hA]; simp
                simp
                rw [hA'] at hput
                refine ewpL_of (drawP (tabEnv [(57,[1]),(56,[2,0])] _) [⟨[.op 11 5 0],allD 49,true⟩,⟨[.arg 0 0],allD 49,true⟩,⟨[.arg 0 0],[31,32,33,34,35,36,3],false⟩,⟨[.op 5 2 0],allD 49,true⟩,⟨[],allD 49,true⟩,⟨[.op 11 5 0],[31,32,33,34,35,36,3],false⟩,⟨[.op 11 5 0],allD 49,true⟩] h0 hm (tabEnv_ok (tab_cons c3 (tab_cons hput tab_nil))) (by kernel_rfl) (by kernel_rfl) ?_)
                simp
                refine ewrL_sound (M:=[]) h0 ?_
                simp [wn]
                subst hI
                refine Less_mk (m - 1) (by omega) ⟨i + 1,by omega,?_⟩
                rw [hA']
                simp
              | true =>
                simp
                refine InvX_intro hgA2 ?_
                cases hgd:goodA g with
                | false =>
                  have hA':(run (i + 1)).2.1 = A0:=by rw [hA]; simp [hgd]
                  simp
                  rw [hA'] at hput
                  refine ewpL_of (drawP (tabEnv [(57,[1]),(56,[2,0])] _) [⟨[.op 11 5 0],allD 49,true⟩,⟨[.arg 0 0],allD 49,true⟩,⟨[.arg 0 0],[31,32,33,34,35,36,3],false⟩,⟨[.op 5 2 0],allD 49,true⟩,⟨[],allD 49,true⟩,⟨[.op 11 5 0],[31,32,33,34,35,36,3],false⟩,⟨[.op 11 5 0],allD 49,true⟩] h0 hm (tabEnv_ok (tab_cons c3 (tab_cons hput tab_nil))) (by kernel_rfl) (by kernel_rfl) ?_)
                  simp
                  refine ewrL_sound (M:=[]) h0 ?_
                  simp [wn]
                  subst hI
                  refine Less_mk (m - 1) (by omega) ⟨i + 1,by omega,?_⟩
                  rw [hA']
                  simp
                | true =>
                  have hA':(run (i + 1)).2.1 = g:=by rw [hA]; simp [hgd]
                  simp
                  rw [hA'] at hput
                  refine ewpL_of (drawP (tabEnv [(57,[1]),(56,[2,0])] _) [⟨[.op 11 5 0],allD 49,true⟩,⟨[.arg 0 0],allD 49,true⟩,⟨[.arg 0 0],[31,32,33,34,35,36,3],false⟩,⟨[.op 5 2 0],allD 49,true⟩,⟨[],allD 49,true⟩,⟨[.op 11 5 0],[31,32,33,34,35,36,3],false⟩,⟨[.op 11 5 0],allD 49,true⟩] h0 hm (tabEnv_ok (tab_cons c3 (tab_cons hput tab_nil))) (by kernel_rfl) (by kernel_rfl) ?_)
                  simp
                  refine ewrL_sound (M:=[]) h0 ?_
                  simp [wn]
                  subst hI
                  refine Less_mk (m - 1) (by omega) ⟨i + 1,by omega,?_⟩
                  rw [hA']
                  simp
          · intro KR hRn
            simp [c20,c20',cn']
            refine hRn _ ?_
            simp
        · have hiK:i = K:=by omega
          subst hiK
          refine ewrL_sound (M:=[]) h0 ?_
          rw [← hL,← ha4,← hs4]
          by_cases hN2:0 < N - i
          · have h20:¬ L.length < 20:=by
              rcases hK2 with h | h
              · omega
              · rw [← hL] at h
                omega
            have h20i:¬ (L.length:Int) < 20:=by omega
            simp [hN2,h20,h20i]
            refine hKn _ ?_
            simp
          · simp [hN2]
            refine hKn _ ?_
            simp
    · obtain ⟨X,hX1,hX2,hfin⟩:∃ X:List PT,PT.unownL X = l.flatMap (GRoute.ci 0) ∧ (l.length = 0 → X = []) ∧ ((L = [] ∧ l = [] ∧ X = [] ∧ a5 = a4 ∧ s5 = s4) ∨ (L ≠ [] ∧ ∃ (b:Bool) (a6 s6:Int),CallOK Tryz.prog 50 [.bp (.sl 0 49 1 [rd 1 code.length (code.map pu),pi a4,.raw (.int .u64 s4)]),.c (pi 30)] (.c (pb b)) [.bp (.sl 0 49 1 [rd 1 code.length (code.map pu),pi a6,.raw (.int .u64 s6)]),.c (pi 30)] ∧ ((b = false ∧ l = L ∧ X = L.flatMap (GRoute.ci 0) ∧ a5 = a6 ∧ s5 = s6) ∨ (b = true ∧ ∃ (r x:GRoute) (t:List GRoute),L = x :: t ∧ l = r :: t ∧ X = GRoute.co r ++ t.flatMap (GRoute.ci 0) ∧ CallOK Tryz.prog 58 [.bp (.sl 0 49 1 [rd 1 code.length (code.map pu),pi a6,.raw (.int .u64 s6)])] (.agg (GRoute.co r)) [.bp (.sl 0 49 1 [rd 1 code.length (code.map pu),pi a5,.raw (.int .u64 s5)])])))):=by
        have hun:∀ t:List GRoute,PT.unownL (t.flatMap (GRoute.ci 0)) = t.flatMap (GRoute.ci 0):=fun t => GRoute.uni 0 t
        rcases hfin with ⟨h1,h2,h3,h4⟩ | ⟨h1,b,a6,s6,h2,⟨h3,h4,h5,h6⟩ | ⟨h3,r,h4,h5⟩⟩
        · exact ⟨[],by rw [h2]; rfl,fun _ => rfl,.inl ⟨h1,h2,rfl,h3,h4⟩⟩
        · exact ⟨_,by rw [h4]; exact hun L,fun h => by rw [h4] at h; exact absurd (List.eq_nil_of_length_eq_zero h) h1,.inr ⟨h1,b,a6,s6,h2,.inl ⟨h3,h4,rfl,h5,h6⟩⟩⟩
        · obtain ⟨x,t,rfl⟩:∃ x t,L = x :: t:=by
            cases L with
            | nil => exact absurd rfl h1
            | cons x t => exact ⟨x,t,rfl⟩
          refine ⟨GRoute.co r ++ t.flatMap (GRoute.ci 0),?_,fun h => by rw [h4] at h; simp at h,.inr ⟨h1,b,a6,s6,h2,.inr ⟨h3,r,x,t,rfl,h4,rfl,h5⟩⟩⟩
          rw [h4]
          have e1:∀ p q:List PT,PT.unownL (p ++ q) = PT.unownL p ++ PT.unownL q:=fun p q => unownL_app p q
          rw [e1,GRoute.un1,hun]
          rfl
      refine ewrN_cutL (M:=[(50,[1]),(58,[1])]) h0 1 [0,3] [.op 11 5 0] ⟨slOf 49 [(0,.ptr ⟨.arg 0 0,[]⟩ 0),(3,.ref ⟨.op 11 5 0,[]⟩ 0 l.length)],ofL [(.op 11 5 0,.sl 0 56 l.length X),(.arg 0 0,.sl 0 49 1 [rd 1 code.length (code.map pu),pi a5,.raw (.int .u64 s5)])]⟩ ?_ ?_
      · simp only [Code.rest]
        refine ewpL_lendRow (.op 11 5 0) rfl 3 (e:=56) (m:=l.length) (cs:=X) (by decide) (by simp) (by simp) hX2 ?_
        rw [hX1]
        refine ewrL_sound (M:=[]) h0 ?_
        simp
      · intro KR hRn
        rcases hfin with ⟨rfl,rfl,rfl,rfl,rfl⟩ | ⟨hz,b,a6,s6,c1,hfin⟩
        · simp
          refine hRn _ ?_
          simp
        · have hlz:0 < L.length:=List.length_pos_iff.2 hz
          simp [hlz]
          refine InvX_intro c1 ?_
          rcases hfin with ⟨rfl,rfl,rfl,rfl,rfl⟩ | ⟨rfl,r,x,t,rfl,rfl,rfl,c2⟩
          · simp
            refine hRn _ ?_
            simp
          · have hTP:List.take r.Attrs.Path.length (r.Attrs.Path.map pi) = r.Attrs.Path.map pi:=List.take_of_length_le (by rw [List.length_map]; exact Nat.le_refl _)
            have hTQ:List.take r.Attrs.Comms.length (r.Attrs.Comms.map pi) = r.Attrs.Comms.map pi:=List.take_of_length_le (by rw [List.length_map]; exact Nat.le_refl _)
            simp
            refine InvX_intro c2 ?_
            simp [hTP,hTQ]
            refine hRn _ ?_
            simp
  · intro K' hK'
    simp
    refine InvX_intro q1 ?_
    simp
    refine InvX_intro q2 ?_
    rcases hfr with ⟨rfl,rfl⟩ | ⟨rfl,rfl⟩
    · simp
      refine hK' _ ?_
      simp
    · simp
      refine hK' _ ?_
      simp
def rN (r:GRoute):List PT:=[pi r.Prefix.Addr,pi r.Prefix.Len,pi r.Attrs.Origin,.sl 0 3 r.Attrs.Path.length (r.Attrs.Path.map pi),pi r.Attrs.Next,pi r.Attrs.Med,pi r.Attrs.Pref,.sl 0 nilE 0 []]
attribute [simp] rN
theorem rN_un (r:GRoute) (h:r.Attrs.Comms = []):PT.unownL (rN r) = GRoute.ci 0 r:=by simp [rd,h]
def putUC (r:GRoute) (l:List GRoute):List PT:=(l.flatMap (GRoute.ci 0)).take (kAt r.Prefix l * 8) ++ (rN r ++ (l.flatMap (GRoute.ci 0)).drop (tl r l * 8))
theorem putUC_un (r:GRoute) (h:r.Attrs.Comms = []) (l:List GRoute):PT.unownL (putUC r l) = (putU r l).flatMap (GRoute.ci 0):=by
  rw [(putR_ci r l).1]
  unfold putUC
  rw [fm_take (GRoute.ci 0) 8 (fun _ => rfl),fm_dropAll (GRoute.ci 0) 8 (fun _ => rfl),unownL_app,unownL_app,GRoute.uni,rN_un r h,GRoute.uni]
set_option maxHeartbeats 4000000 in
theorem ok_l14PutM (l:List GRoute) (r:GRoute) (hl:l.length ≤ 1048576):CallOK Tryz.prog 56 [.c (.sl 0 56 l.length (l.flatMap (GRoute.ci 0))),.agg (rN r)] (.c (.sl 0 56 (putU r l).length (putUC r l))) [.c (.sl 0 56 l.length (outPutL r l)),.agg [pi r.Prefix.Addr,pi r.Prefix.Len,pi r.Attrs.Origin,.hole,pi r.Attrs.Next,pi r.Attrs.Med,pi r.Attrs.Pref,.hole]]:=by
  have hpc:putUC r l = (l.flatMap (GRoute.ci 0)).take (kAt r.Prefix l * 8) ++ (rN r ++ (l.flatMap (GRoute.ci 0)).drop (tl r l * 8)):=rfl
  have hpl:=(putR_ci r l).2
  refine okS (fn:=Tryz.f56) [] h0 Tryz.func56 (by kernel_rfl) rfl Tryz.ntmps56 Tryz.results56 (by simp) ?_
  simp
  refine loopS [0,3,5] [.arg 0 0,.op 0 0 0] (fun n st => ∃ (k:Nat),k + n = l.length ∧ (∀ (j:Nat) (hj:j < k) (hj':j < l.length),cmpPx l[j].Prefix r.Prefix < 0) ∧ st = ⟨slOf 54 [(0,.ref ⟨.arg 0 0,[]⟩ 0 l.length),(3,.ptr ⟨.op 0 0 0,[]⟩ 0),(5,.t (pi k))],ofL [(.arg 0 0,.sl 0 56 l.length (l.flatMap (GRoute.ci 0))),(.arg 1 3,.hole),(.arg 1 7,.hole),(.op 0 0 0,.sl 0 56 1 (rN r))]⟩) l.length ?_ ?_
  · rintro Inv hI
    simp
    subst hI
    exact ⟨0,by omega,by intro j hj; omega,rfl⟩
  · rintro Inv hI n st ⟨k,hk,hall,rfl⟩
    have hat:∀ (h:k < l.length),0 ≤ cmpPx l[k].Prefix r.Prefix → kAt r.Prefix l = k:=fun h h2 => bsI_eq _ l k (by omega) hall fun _ => h2
    have hat2:k = l.length → kAt r.Prefix l = k:=fun h => bsI_eq _ l k (by omega) hall fun h2 => by omega
    have hcm:=fm_len (GRoute.ci 0) 8 (fun _ => rfl) l
    refine ewr_sound (M:=[]) h0 ?_
    simp
    by_cases c1:k < l.length
    · have c1':(k:Int) < l.length:=by omega
      have hd:=fm_drop (GRoute.ci 0) 8 (fun _ => rfl) l k c1
      have hlt:k * 8 < l.length * 8:=by omega
      refine drawP (tabEnv [] _) [⟨[],allD 54,true⟩,⟨[.arg 0 0],allD 54,true⟩,⟨[.arg 0 0],allD 54,true⟩,⟨[],allD 54,true⟩,⟨[],allD 54,true⟩,⟨[.arg 0 0],allD 54,true⟩,⟨[],allD 54,true⟩,⟨[.arg 0 0],allD 54,true⟩,⟨[.arg 0 0],allD 54,true⟩,⟨[.arg 0 0],allD 54,true⟩,⟨[.op 0 0 0],allD 54,true⟩,⟨[.op 0 0 0],allD 54,true⟩,⟨[],allD 54,false⟩,⟨[],allD 54,true⟩,⟨[],allD 54,true⟩] h0 hm (tabEnv_ok (tab_cons (ok_l1Compare l[k].Prefix r.Prefix) tab_nil)) (by kernel_rfl) (by kernel_rfl) ?_
      have hlt2:k * 8 + 2 ≤ l.length * 8:=by omega
      simp [c1,c1',hd,hcm,hlt,hlt2]
      refine brn_app (fun c2 => ?_) (fun c2 => ?_)
      · simp at c2
        simp
        subst hI
        refine Less_mk (n - 1) (by omega) ⟨k + 1,by omega,?_,?_⟩
        · intro j hj hj'
          rcases Nat.lt_or_ge j k with h' | h'
          · exact hall j h' hj'
          · have:j = k:=by omega
            subst this
            exact c2
        · rw [wrNext k (by omega)]
          rfl
      · simp at c2
        have hat:=hat c1 c2
        have hkl:k ≤ l.length:=by omega
        have htl:tl r l = if l[k].Prefix = r.Prefix then k + 1 else k:=by
          have e:fnd r.Prefix l = decide (l[k].Prefix = r.Prefix):=by
            have h1:bsI (fun x:GRoute => cmpPx x.Prefix r.Prefix) l = k:=hat
            simp only [fnd,bsF,h1,List.getElem?_eq_getElem c1]
            exact decide_eq_decide.2 (cmpPx_eq _ _)
          unfold tl
          rw [e,hat]
          simp only [decide_eq_true_eq]
        have ho:outPutL r l = ((l.flatMap (GRoute.ci 0)).map PT.hollow).take (k * 8) ++ (((l.flatMap (GRoute.ci 0)).drop (k * 8)).take ((tl r l - k) * 8) ++ ((l.flatMap (GRoute.ci 0)).map PT.hollow).drop (tl r l * 8)):=by unfold outPutL; rw [hat]
        by_cases hk00:k = 0
        · subst hk00
          obtain ⟨x,l',rfl⟩:∃ x l',l = x :: l':=by
            cases l with
            | nil => simp at c1
            | cons x l' => exact ⟨x,l',rfl⟩
          simp only [List.getElem_cons_zero] at htl
          rw [hat] at hpc hpl
          rw [hpc,hpl,ho]
          clear hpc hpl hall hat hat2 hd
          have hln:l'.length + 1 ≤ 1048576:=hl
          have hG:=fm_len (GRoute.ci 0) 8 (fun _ => rfl) l'
          simp only [List.flatMap_cons] at hcm ⊢
          generalize l'.flatMap (GRoute.ci 0) = G at *
          have hGG:G.take (l'.length * 8) = G:=List.take_of_length_le (by omega)
          have hb1:(1 + l'.length) * 96 ≤ 140737488355328:=by omega
          have hb2:1 + l'.length ≤ 9223372036854775807:=by omega
          have hb1':(1 + (l'.length + 1)) * 96 ≤ 140737488355328:=by omega
          have hb2':1 + (l'.length + 1) ≤ 9223372036854775807:=by omega
          have w1:IntKind.i64.wrap 1 = 1:=by decide
          have hm8:∀ j:Nat,(1 + j) * 8 = j * 8 + 1 + 1 + 1 + 1 + 1 + 1 + 1 + 1:=fun j => by omega
          have h81:8 + l'.length * 8 ≤ l'.length * 8 + 1 + 1 + 1 + 1 + 1 + 1 + 1 + 1:=by omega
          have h82:(l'.length + 1) * 8 ≤ l'.length * 8 + 1 + 1 + 1 + 1 + 1 + 1 + 1 + 1:=by omega
          have h83:(1 + l'.length) * 8 ≤ l'.length * 8 + 1 + 1 + 1 + 1 + 1 + 1 + 1 + 1:=by omega
          have h84:(1 + (l'.length + 1)) * 8 ≤ l'.length * 8 + 1 + 1 + 1 + 1 + 1 + 1 + 1 + 1 + 1 + 1 + 1 + 1 + 1 + 1 + 1 + 1:=by omega
          have hr5:∀ a b c d e f g h:PT,List.take ((l'.length + 1) * 8) (a :: b :: c :: d :: e :: f :: g :: h :: G) = a :: b :: c :: d :: e :: f :: g :: h :: G:=fun a b c d e f g h => List.take_of_length_le (by simp only [List.length_cons]; omega)
          have hr6:∀ a b c d e f g h:PT,List.take ((1 + l'.length) * 8) (a :: b :: c :: d :: e :: f :: g :: h :: G) = a :: b :: c :: d :: e :: f :: g :: h :: G:=fun a b c d e f g h => List.take_of_length_le (by simp only [List.length_cons]; omega)
          have hr7:∀ a b c d e f g h a' b' c' d' e' f' g' h':PT,List.take ((1 + (l'.length + 1)) * 8) (a :: b :: c :: d :: e :: f :: g :: h :: a' :: b' :: c' :: d' :: e' :: f' :: g' :: h' :: G) = a :: b :: c :: d :: e :: f :: g :: h :: a' :: b' :: c' :: d' :: e' :: f' :: g' :: h' :: G:=fun a b c d e f g h a' b' c' d' e' f' g' h' => List.take_of_length_le (by simp only [List.length_cons]; omega)
          have hGN:l'.length = 0 → G = []:=fun h0 => List.length_eq_zero_iff.1 (by omega)
          have hbnd0:bnd none (some (some (Value.int IntKind.i64 0))) (l'.length + 1) = some (0,0):=bnd_ns (by decide) (by omega)
          simp [hbnd0]
          by_cases c3:x.Prefix = r.Prefix
          · have hq:tl r (x :: l') = 1:=by rw [htl,if_pos c3]
            rw [hq]
            have hbnd:bnd (some (some (Value.int IntKind.i64 1))) none (l'.length + 1) = some (1,l'.length + 1):=bnd_sn (by decide) (by omega)
            by_cases c4:l' = []
            · refine drawP (tabEnv [] []) [⟨[],allD 54,true⟩,⟨[.arg 0 0],allD 54,true⟩,⟨[.arg 0 0],allD 54,true⟩,⟨[],allD 54,true⟩,⟨[],allD 54,true⟩,⟨[.arg 0 0],allD 54,true⟩,⟨[],allD 54,true⟩,⟨[.arg 0 0],allD 54,true⟩,⟨[.arg 0 0],allD 54,true⟩,⟨[.arg 0 0],allD 54,true⟩,⟨[.op 0 0 0],allD 54,true⟩,⟨[.op 0 0 0],allD 54,true⟩,⟨[],allD 54,true⟩,⟨[],allD 54,true⟩] h0 hm (tabEnv_ok tab_nil) (by kernel_rfl) (by kernel_rfl) ?_
              have hG0:=hGN (by rw [c4]; rfl)
              subst hG0
              subst c4
              simp only [List.length_nil,Nat.zero_add] at hbnd
              simp [px_dec,c3,hbnd,w1]
            · have c4':¬ l'.length = 0:=fun e => c4 (List.length_eq_zero_iff.1 e)
              refine drawP (tabEnv [] []) [⟨[],allD 54,true⟩,⟨[.arg 0 0],allD 54,true⟩,⟨[.arg 0 0],allD 54,true⟩,⟨[],allD 54,true⟩,⟨[],allD 54,true⟩,⟨[.arg 0 0],allD 54,true⟩,⟨[],allD 54,true⟩,⟨[.arg 0 0],allD 54,true⟩,⟨[.arg 0 0],allD 54,true⟩,⟨[.arg 0 0],allD 54,true⟩,⟨[.op 0 0 0],allD 54,true⟩,⟨[.op 0 0 0],allD 54,true⟩,⟨[],allD 54,true⟩,⟨[],allD 54,true⟩] h0 hm (tabEnv_ok tab_nil) (by kernel_rfl) (by kernel_rfl) ?_
              simp [px_dec,c3,c4,c4',hbnd,hGG,hb1,hb2,hG,w1,h81,h83,hr6]
              omega
          · have hq:tl r (x :: l') = 0:=by rw [htl,if_neg c3]
            rw [hq]
            have hbnd:bnd (some (some (Value.int IntKind.i64 0))) none (l'.length + 1) = some (0,l'.length + 1):=bnd_sn (by decide) (by omega)
            refine drawP (tabEnv [] []) [⟨[],allD 54,true⟩,⟨[.arg 0 0],allD 54,true⟩,⟨[.arg 0 0],allD 54,true⟩,⟨[],allD 54,true⟩,⟨[],allD 54,true⟩,⟨[.arg 0 0],allD 54,true⟩,⟨[],allD 54,true⟩,⟨[.arg 0 0],allD 54,true⟩,⟨[.arg 0 0],allD 54,true⟩,⟨[.arg 0 0],allD 54,true⟩,⟨[.op 0 0 0],allD 54,true⟩,⟨[.op 0 0 0],allD 54,true⟩,⟨[],allD 54,true⟩,⟨[],allD 54,true⟩] h0 hm (tabEnv_ok tab_nil) (by kernel_rfl) (by kernel_rfl) ?_
            simp [px_dec,c3,hbnd,hGG,hb1',hb2',hG,h82,h84,hr5,hr7]
            omega
        rw [hat] at hpc hpl
        rw [hpc,hpl,ho]
        have hdh:∀ X:List PT,X.length = k * 8 → (X ++ (l.flatMap (GRoute.ci 0)).drop (k * 8)).drop (k * 8) = GRoute.ci 0 l[k] ++ (l.flatMap (GRoute.ci 0)).drop ((k + 1) * 8):=fun X hX => by
          rw [List.drop_append,hX,Nat.sub_self,List.drop_of_length_le (by omega),List.drop_zero,hd]
          rfl
        generalize htl':tl r l = q at *
        generalize l.flatMap (GRoute.ci 0) = F at *
        have hb1:k * 8 ≤ l.length * 8:=by omega
        have hb2:k * 96 ≤ 140737488355328:=by omega
        have hb3:k ≤ 9223372036854775807:=by omega
        have hb4:(k + 1) * 96 ≤ 140737488355328:=by omega
        have hb5:k + 1 ≤ 9223372036854775807:=by omega
        have hTl:(F.take (k * 8)).length = k * 8:=by rw [List.length_take]; omega
        have hHl:((F.map PT.hollow).take (k * 8)).length = k * 8:=by rw [List.length_take,List.length_map]; omega
        by_cases hk0:k = 0
        · exact absurd hk0 hk00
        · have hdr:=hdh _ hHl
          have hll:((F.map PT.hollow).take (k * 8) ++ F.drop (k * 8)).length = l.length * 8:=by rw [List.length_append,hHl,List.length_drop]; omega
          simp [hkl,hk0,hb1,hb2,hb3,hb4,hb5,hcm,hTl]
          generalize hM:(F.map PT.hollow).take (k * 8) ++ F.drop (k * 8) = M at *
          have hMq:∀ j,k ≤ j → M.drop (j * 8) = F.drop (j * 8):=fun j hj => by
            rw [← hM,List.drop_append,hHl,List.drop_of_length_le (by rw [hHl]; omega),List.nil_append,List.drop_drop]
            congr 1
            omega
          have hqk:k ≤ q ∧ q ≤ l.length:=by rw [htl]; split <;> omega
          have hbnd:bnd (some (some (Value.int IntKind.i64 (q:Int)))) none l.length = some (q,l.length):=bnd_sn (by omega) (by omega)
          have hDq:=hMq q hqk.1
          have hFq:(F.drop (q * 8)).length = (l.length - q) * 8:=by rw [List.length_drop]; omega
          have hFq0:l.length - q = 0 → F.drop (q * 8) = []:=fun h0 => List.drop_of_length_le (by omega)
          generalize hX:F.take (k * 8) = X at *
          generalize hY:F.drop (q * 8) = Y at *
          have hYY:Y.take ((l.length - q) * 8) = Y:=List.take_of_length_le (by omega)
          have hXX:X.take (k * 8) = X:=List.take_of_length_le (by omega)
          have hql:q ≤ l.length:=hqk.2
          have he1:q * 8 + (l.length - q) * 8 ≤ l.length * 8:=by omega
          have he2:(k + 1 + (l.length - q)) * 96 ≤ 140737488355328:=by omega
          have he3:k + 1 + (l.length - q) ≤ 9223372036854775807:=by omega
          have hnn:k + 1 + (l.length - q) = k + (1 + (l.length - q)):=by omega
          have he2n:(k + (1 + (l.length - q))) * 96 ≤ 140737488355328:=by omega
          have he3n:k + (1 + (l.length - q)) ≤ 9223372036854775807:=by omega
          have w1:IntKind.i64.wrap ((k:Int) + 1) = ((k + 1:Nat):Int):=wrNext k (by omega)
          have hmn:¬ l = []:=by rintro rfl; simp at c1
          have hr1:(k + 1) * 8 ≤ k * 8 + 8:=by omega
          have hr2:∀ a b c d e f g h:PT,List.take ((k + 1) * 8) (X ++ [a,b,c,d,e,f,g,h]) = X ++ [a,b,c,d,e,f,g,h]:=fun a b c d e f g h => List.take_of_length_le (by simp only [List.length_append,List.length_cons,List.length_nil,hTl]; omega)
          have hr3:∀ a b c d e f g h:PT,List.take ((k + (1 + (l.length - q))) * 8) (X ++ (a :: b :: c :: d :: e :: f :: g :: h :: Y)) = X ++ (a :: b :: c :: d :: e :: f :: g :: h :: Y):=fun a b c d e f g h => List.take_of_length_le (by simp only [List.length_append,List.length_cons,hTl,hFq]; omega)
          have hD0:M.drop (q * 8 + (l.length - q) * 8) = []:=List.drop_of_length_le (by omega)
          have hr4:(k + (1 + (l.length - q))) * 8 ≤ k * 8 + ((l.length - q) * 8 + 1 + 1 + 1 + 1 + 1 + 1 + 1 + 1):=by omega
          by_cases c3:(l[k]'c1).Prefix = r.Prefix
          · have hq:q = k + 1:=by rw [htl,if_pos c3]
            subst hq
            have hbnd':bnd (some (some (Value.int IntKind.i64 ((k:Int) + 1)))) none l.length = some (k + 1,l.length):=hbnd
            by_cases c4:l.length - (k + 1) = 0
            · have hY0:=hFq0 c4
              subst hY0
              refine drawP (tabEnv [] []) [⟨[],allD 54,true⟩,⟨[.arg 0 0],allD 54,true⟩,⟨[.arg 0 0],allD 54,true⟩,⟨[],allD 54,true⟩,⟨[],allD 54,true⟩,⟨[.arg 0 0],allD 54,true⟩,⟨[],allD 54,true⟩,⟨[.arg 0 0],allD 54,true⟩,⟨[.arg 0 0],allD 54,true⟩,⟨[.arg 0 0],allD 54,true⟩,⟨[.op 0 0 0],allD 54,true⟩,⟨[.op 0 0 0],allD 54,true⟩,⟨[],allD 54,true⟩,⟨[],allD 54,true⟩] h0 hm (tabEnv_ok tab_nil) (by kernel_rfl) (by kernel_rfl) ?_
              simp [c1,c1',hdr,hll,hlt,hlt2,px_dec,c3,w1,hbnd',hql,hmn,c4,hD0,hTl,hXX,hr1,hr2]
              rw [← hM,List.take_of_length_le (l:=F.drop (k * 8)) (by rw [List.length_drop]; omega),List.drop_of_length_le (l:=F.map PT.hollow) (by rw [List.length_map]; omega),List.append_nil]
            · refine drawP (tabEnv [] []) [⟨[],allD 54,true⟩,⟨[.arg 0 0],allD 54,true⟩,⟨[.arg 0 0],allD 54,true⟩,⟨[],allD 54,true⟩,⟨[],allD 54,true⟩,⟨[.arg 0 0],allD 54,true⟩,⟨[],allD 54,true⟩,⟨[.arg 0 0],allD 54,true⟩,⟨[.arg 0 0],allD 54,true⟩,⟨[.arg 0 0],allD 54,true⟩,⟨[.op 0 0 0],allD 54,true⟩,⟨[.op 0 0 0],allD 54,true⟩,⟨[],allD 54,true⟩,⟨[],allD 54,true⟩] h0 hm (tabEnv_ok tab_nil) (by kernel_rfl) (by kernel_rfl) ?_
              simp [c1,c1',hdr,hll,hlt,hlt2,px_dec,c3]
              simp [hr4,w1,hbnd',hDq,hYY,hll,c1,hql,he1,he2,he3,he2n,he3n,hmn,c4,hD0,hTl,hXX,hr1,hr2,hr3,hnn,hFq]
              have e8:(k + 1) * 8 - k * 8 = 8:=by omega
              rw [← hM,List.take_append,hHl,List.take_of_length_le (l:=(F.map PT.hollow).take (k * 8)) (by rw [hHl]; omega),e8,← hY,List.map_drop,List.append_assoc]
          · have hq:q = k:=by rw [htl,if_neg c3]
            subst hq
            have c4:¬ l.length - q = 0:=by omega
            refine drawP (tabEnv [] []) [⟨[],allD 54,true⟩,⟨[.arg 0 0],allD 54,true⟩,⟨[.arg 0 0],allD 54,true⟩,⟨[],allD 54,true⟩,⟨[],allD 54,true⟩,⟨[.arg 0 0],allD 54,true⟩,⟨[],allD 54,true⟩,⟨[.arg 0 0],allD 54,true⟩,⟨[.arg 0 0],allD 54,true⟩,⟨[.arg 0 0],allD 54,true⟩,⟨[.op 0 0 0],allD 54,true⟩,⟨[.op 0 0 0],allD 54,true⟩,⟨[],allD 54,true⟩,⟨[],allD 54,true⟩] h0 hm (tabEnv_ok tab_nil) (by kernel_rfl) (by kernel_rfl) ?_
            simp [c1,c1',hdr,hll,hlt,hlt2,px_dec,c3]
            simp [hr4,hbnd,hDq,hYY,hll,c1,hql,he1,he2,he3,he2n,he3n,hmn,c4,hD0,hTl,hXX,hr1,hr2,hr3,hnn,hFq]
            rw [← hM,List.take_append,hHl,List.take_of_length_le (l:=(F.map PT.hollow).take (q * 8)) (by rw [hHl]; omega),Nat.sub_self,List.take_zero,List.append_nil,← hY,List.map_drop,List.take_append_drop]
    · have c1':¬ (k:Int) < l.length:=by omega
      refine drawP (tabEnv [] _) [⟨[],allD 54,true⟩,⟨[.arg 0 0],allD 54,true⟩,⟨[.arg 0 0],allD 54,true⟩,⟨[],allD 54,true⟩,⟨[],allD 54,true⟩,⟨[.arg 0 0],allD 54,true⟩,⟨[],allD 54,true⟩,⟨[.arg 0 0],allD 54,true⟩,⟨[.arg 0 0],allD 54,true⟩,⟨[.arg 0 0],allD 54,true⟩,⟨[.op 0 0 0],allD 54,true⟩,⟨[.op 0 0 0],allD 54,true⟩,⟨[],allD 54,false⟩,⟨[],allD 54,true⟩,⟨[],allD 54,true⟩] h0 hm (tabEnv_ok tab_nil) (by kernel_rfl) (by kernel_rfl) ?_
      have hkn:k = l.length:=by omega
      have hat:=hat2 hkn
      have hf:fnd r.Prefix l = false:=by
        have h1:bsI (fun x:GRoute => cmpPx x.Prefix r.Prefix) l = k:=hat
        simp only [fnd,bsF,h1,List.getElem?_eq_none (Nat.le_of_not_lt c1)]
      have hq:tl r l = k:=by unfold tl; rw [hf,hat]; rfl
      have ho:outPutL r l = ((l.flatMap (GRoute.ci 0)).map PT.hollow):=by
        unfold outPutL
        rw [hq,hat,Nat.sub_self,Nat.zero_mul,List.take_zero,List.nil_append,List.take_append_drop]
      rw [hat,hq] at hpc
      rw [hat,hq] at hpl
      rw [hpc,hpl,ho]
      clear hpc hpl ho hf hq hat hat2 hall
      subst hkn
      have hDn:(l.flatMap (GRoute.ci 0)).drop (l.length * 8) = []:=List.drop_of_length_le (by omega)
      have hTn:(l.flatMap (GRoute.ci 0)).take (l.length * 8) = l.flatMap (GRoute.ci 0):=List.take_of_length_le (by omega)
      rw [hDn,hTn]
      have hHT:((l.flatMap (GRoute.ci 0)).map PT.hollow).take (l.length * 8) = (l.flatMap (GRoute.ci 0)).map PT.hollow:=List.take_of_length_le (by rw [List.length_map]; omega)
      have hbnd1:bnd none (some (some (Value.int IntKind.i64 (l.length:Int)))) l.length = some (0,l.length):=bnd_ns (by omega) (by omega)
      have hbnd2:bnd (some (some (Value.int IntKind.i64 (l.length:Int)))) none l.length = some (l.length,l.length):=bnd_sn (by omega) (by omega)
      have hb2:l.length * 96 ≤ 140737488355328:=by omega
      have hb3:l.length ≤ 9223372036854775807:=by omega
      have hb6:(l.length + 1) * 96 ≤ 140737488355328:=by omega
      have hb7:l.length + 1 ≤ 9223372036854775807:=by omega
      by_cases hk0:l = []
      · subst hk0
        simp
        refine drawP (tabEnv [] []) [⟨[],allD 54,true⟩,⟨[.arg 0 0],allD 54,true⟩,⟨[.arg 0 0],allD 54,true⟩,⟨[],allD 54,true⟩,⟨[],allD 54,true⟩,⟨[.arg 0 0],allD 54,true⟩,⟨[],allD 54,true⟩,⟨[.arg 0 0],allD 54,true⟩,⟨[.arg 0 0],allD 54,true⟩,⟨[.arg 0 0],allD 54,true⟩,⟨[.op 0 0 0],allD 54,true⟩,⟨[.op 0 0 0],allD 54,true⟩,⟨[],allD 54,true⟩,⟨[],allD 54,true⟩] h0 hm (tabEnv_ok tab_nil) (by kernel_rfl) (by kernel_rfl) ?_
        simp
      · have hk1:¬ l.length = 0:=fun e => hk0 (List.length_eq_zero_iff.1 e)
        generalize l.flatMap (GRoute.ci 0) = F at *
        simp [c1,c1',hbnd1,hk0,hk1,hb2,hb3,hb6,hb7,hcm,hTn,hDn,hHT]
        refine drawP (tabEnv [] []) [⟨[],allD 54,true⟩,⟨[.arg 0 0],allD 54,true⟩,⟨[.arg 0 0],allD 54,true⟩,⟨[],allD 54,true⟩,⟨[],allD 54,true⟩,⟨[.arg 0 0],allD 54,true⟩,⟨[],allD 54,true⟩,⟨[.arg 0 0],allD 54,true⟩,⟨[.arg 0 0],allD 54,true⟩,⟨[.arg 0 0],allD 54,true⟩,⟨[.op 0 0 0],allD 54,true⟩,⟨[.op 0 0 0],allD 54,true⟩,⟨[],allD 54,true⟩,⟨[],allD 54,true⟩] h0 hm (tabEnv_ok tab_nil) (by kernel_rfl) (by kernel_rfl) ?_
        simp [c1,c1',hbnd1,hbnd2,hk0,hk1,hb2,hb3,hb6,hb7,hcm,hTn,hDn,hHT]
end Go.V
