/- What functions of the seat's program do, each proved of its code, under the bounds that its theorem names. -/
import Derived.Test.YtcmdgenpipojpaaGreatTag
set_option linter.all false
namespace Go.V
open Go.Proofs
set_option maxHeartbeats 1000000
set_option maxRecDepth 10000
set_option linter.unusedSimpArgs false
set_option linter.unusedVariables false
theorem idxPx_mem (l:List GPrefix) (p:GPrefix):decide (0 ≤ idxOf (fun x => decide (p = x)) l) = decide (p ∈ l):=by
  rw [idxOf_any]
  by_cases h:p ∈ l
  · rw [decide_eq_true h]; exact List.any_eq_true.2 ⟨p,h,by simp⟩
  · rw [decide_eq_false h]
    refine List.any_eq_false.2 fun x hx => ?_
    simp
    rintro rfl
    exact h hx
theorem ok_IndexPx (k:Nat) (l:List GPrefix) (p:GPrefix) (hll:l.length ≤ 140737488351232):CallOK Tryz.prog 84 [.c (rd k l.length (l.flatMap GPrefix.c)),.agg p.c] (.c (pi (idxOf (fun x => decide (p = x)) l))) [.c (rd k l.length (l.flatMap GPrefix.c)),.agg p.c]:=by
  refine okS (fn:=Tryz.f84) [] h0 Tryz.func84 (by kernel_rfl) rfl Tryz.ntmps84 Tryz.results84 (by simp) ?_
  simp
  refine loopS [0,3,6,7,8] [.op 0 0 0] (fun n st => ∃ (i:Nat),i + n = l.length ∧ (∀ (j:Nat) (hj:j < i) (hl:j < l.length),¬ p = l[j]) ∧ st = ⟨slOf 19 [(0,.t (rd k l.length (l.flatMap GPrefix.c))),(3,.ptr ⟨.op 0 0 0,[]⟩ 0),(6,.t (rd k l.length (l.flatMap GPrefix.c))),(7,.t (pi l.length)),(8,.t (pi i))],ofL [(.op 0 0 0,.sl 0 54 1 p.c)]⟩) l.length ?_ ?_
  · rintro Inv hI
    simp
    subst hI
    exact ⟨0,by omega,fun j hj => absurd hj (by omega),rfl⟩
  · rintro Inv hI n st ⟨i,hi,hg,rfl⟩
    refine ewr_sound (M:=[]) h0 ?_
    simp
    refine brn_app (fun a => ?_) (fun a => ?_)
    · simp at a
      have hd:=fm_drop GPrefix.c 2 (fun _ => rfl) l i a
      have hlen:=fm_len GPrefix.c 2 (fun _ => rfl) l
      have hlt:i * 2 < l.length * 2:=by omega
      simp
      refine drawP E0 [⟨[.op 0 0 0],allD 19,true⟩,⟨[],allD 19,true⟩,⟨[],allD 19,true⟩,⟨[],allD 19,true⟩,⟨[],allD 19,true⟩,⟨[],allD 19,true⟩] h0 hm (E0_ok _) (by kernel_rfl) (by kernel_rfl) ?_
      by_cases c:p = l[i]
      · have e:idxOf (fun x => decide (p = x)) l = i:=idxOf_hit _ l i a (by simpa using c) fun j hj => by simpa using hg j hj (by omega)
        simp [a,hd,hlen,hlt,px_dec,decide_eq_true c,e]
      · simp [a,hd,hlen,hlt,px_dec,c]
        subst hI
        refine Less_mk (n - 1) (by omega) ⟨i + 1,by omega,fun j hj hl => ?_,by rw [wrNext i (by omega)]; rfl⟩
        rcases Nat.lt_or_ge j i with h | h
        · exact hg j h hl
        · have:j = i:=by omega
          subst this
          exact c
    · simp at a
      have e:idxOf (fun x => decide (p = x)) l = -1:=idxOf_no _ l fun j hj => by simpa using hg j (by omega) hj
      simp [e]
theorem ok_ContainsPx (k:Nat) (l:List GPrefix) (p:GPrefix) (hll:l.length ≤ 140737488351232):CallOK Tryz.prog 42 [.c (rd k l.length (l.flatMap GPrefix.c)),.agg p.c] (.c (pb (decide (p ∈ l)))) [.c (rd k l.length (l.flatMap GPrefix.c)),.agg p.c]:=by
  refine okS (fn:=Tryz.f42) [] h0 Tryz.func42 (by kernel_rfl) rfl Tryz.ntmps42 Tryz.results42 (by simp) ?_
  simp
  refine Inv_intro (ok_IndexPx k l p hll) ?_
  have e:=idxPx_mem l p
  generalize idxOf (fun x => decide (p = x)) l = z at e ⊢
  rw [← e]
  simp
theorem ok_areRising (k:Nat) (l:List GPrefix) (hll:l.length ≤ 140737488351232):CallOK Tryz.prog 38 [.c (rd k l.length (l.flatMap GPrefix.c))] (.c (pb (risG none l))) [.c (rd k l.length (l.flatMap GPrefix.c))]:=by
  refine okS (fn:=Tryz.f38) [] h0 Tryz.func38 (by kernel_rfl) rfl Tryz.ntmps38 Tryz.results38 (by simp) ?_
  simp
  refine loopS [0,5,6,7] [] (fun n st => ∃ (i:Nat),i + n = l.length ∧ risG (prevPx l i) (l.drop i) = risG none l ∧ st = ⟨slOf 30 [(0,.t (rd k l.length (l.flatMap GPrefix.c))),(5,.t (rd k l.length (l.flatMap GPrefix.c))),(6,.t (pi l.length)),(7,.t (pi i))],ofL []⟩) l.length ?_ ?_
  · rintro Inv hI
    simp
    subst hI
    exact ⟨0,by omega,rfl,rfl⟩
  · rintro Inv hI n st ⟨i,hi,hg,rfl⟩
    refine ewr_sound (M:=[]) h0 ?_
    simp
    refine brn_app (fun a => ?_) (fun a => ?_)
    · simp at a
      rw [drop_step _ i a,risG] at hg
      have hd:=fm_drop GPrefix.c 2 (fun _ => rfl) l i a
      have hlen:=fm_len GPrefix.c 2 (fun _ => rfl) l
      have hlt:i * 2 < l.length * 2:=by omega
      have en:prevPx l (i + 1) = some l[i]:=prevPx_next l i a
      simp [a,hd,hlen,hlt]
      have hR:=ok_iGoodPrefix l[i]
      by_cases c0:i = 0
      · have e0:¬ 0 < i:=by omega
        have ep:prevPx l i = none:=by simp [prevPx,c0]
        rw [ep,adjPx,Bool.and_true] at hg
        refine drawP (tabEnv [] _) [⟨[.op 3 3 0],allD 30,true⟩,⟨[],allD 30,false⟩,⟨[],allD 30,true⟩,⟨[],allD 30,true⟩,⟨[],allD 30,true⟩,⟨[],allD 30,true⟩,⟨[],allD 30,true⟩,⟨[],allD 30,true⟩,⟨[],allD 30,true⟩,⟨[],allD 30,true⟩,⟨[],allD 30,true⟩,⟨[],allD 30,true⟩,⟨[.op 3 3 0],allD 30,true⟩,⟨[],allD 30,false⟩,⟨[],allD 30,true⟩,⟨[],allD 30,true⟩,⟨[],allD 30,true⟩] h0 hm (tabEnv_ok (tab_cons hR tab_nil)) (by kernel_rfl) (by kernel_rfl) ?_
        cases c1:goodPx l[i] with
        | false =>
          rw [c1,Bool.false_and] at hg
          simp [c1,← hg]
        | true =>
          rw [c1,Bool.true_and] at hg
          simp [c1,e0]
          subst hI
          exact Less_mk (n - 1) (by omega) ⟨i + 1,by omega,by rw [en]; exact hg,by rw [wrNext i (by omega)]⟩
      · obtain ⟨j,hj⟩:∃ j,i = j + 1:=⟨i - 1,by omega⟩
        have aj:j < l.length:=by omega
        have ep:prevPx l i = some l[j]:=by subst hj; exact prevPx_next l j aj
        have hdj:=fm_drop GPrefix.c 2 (fun _ => rfl) l j aj
        have hltj:j * 2 < l.length * 2:=by omega
        have hw:IntKind.wrap .i64 ((i:Int) - 1) = j:=(wrap64 (by omega) (by omega)).trans (by omega)
        have e0:0 < i:=by omega
        rw [ep,adjPx] at hg
        refine drawP (tabEnv [] _) [⟨[.op 3 3 0],allD 30,true⟩,⟨[],allD 30,false⟩,⟨[],allD 30,true⟩,⟨[],allD 30,true⟩,⟨[],allD 30,true⟩,⟨[],allD 30,true⟩,⟨[],allD 30,true⟩,⟨[],allD 30,true⟩,⟨[],allD 30,true⟩,⟨[],allD 30,true⟩,⟨[],allD 30,true⟩,⟨[],allD 30,true⟩,⟨[.op 3 3 0],allD 30,true⟩,⟨[],allD 30,false⟩,⟨[],allD 30,true⟩,⟨[],allD 30,true⟩,⟨[],allD 30,true⟩] h0 hm (tabEnv_ok (tab_cons hR (tab_cons (ok_compare l[j] l[i]) tab_nil))) (by kernel_rfl) (by kernel_rfl) ?_
        cases c1:goodPx l[i] with
        | false =>
          rw [c1,Bool.false_and,Bool.false_and] at hg
          simp [c1,← hg]
        | true =>
          rw [c1,Bool.true_and] at hg
          by_cases c2:cmpPx l[j] l[i] < 0
          · have c3:¬ 0 ≤ cmpPx l[j] l[i]:=by omega
            rw [decide_eq_true c2,Bool.true_and] at hg
            simp [c1,e0,hw,aj,hdj,hlen,hltj,c3]
            subst hI
            exact Less_mk (n - 1) (by omega) ⟨i + 1,by omega,by rw [en]; exact hg,by rw [wrNext i (by omega)]⟩
          · have c3:0 ≤ cmpPx l[j] l[i]:=by omega
            rw [decide_eq_false c2,Bool.false_and] at hg
            simp [c1,e0,hw,aj,hdj,hlen,hltj,c3,← hg]
    · simp at a
      rw [List.drop_of_length_le (by omega),risG] at hg
      simp [← hg]
def updOK (u:GUpdate):Prop:=u.Gone.length ≤ 140737488351232 ∧ u.Come.length ≤ 140737488351232 ∧ attrOK u.Attrs
theorem ok_GoodUpdate1 (q k:Nat) (p:GPrefix) (u:GUpdate) (h:u.Come.length ≤ 140737488351232):CallOK Tryz.prog 41 [.agg p.c,.ip q (GUpdate.ci k u)] (.c (pb (decide (p ∈ u.Come)))) [.agg p.c,.ip q (GUpdate.ci k u)]:=by
  refine okS (fn:=Tryz.f41) [] h0 Tryz.func41 (by kernel_rfl) rfl Tryz.ntmps41 Tryz.results41 (by simp) ?_
  simp
  refine Inv_intro (ok_ContainsPx k u.Come p h) ?_
  simp
theorem any_come (u:GUpdate):u.Gone.any (fun p => decide (p ∈ u.Come)) = !u.Come.all (fun p => !decide (p ∈ u.Gone)):=by
  rw [Bool.eq_iff_iff]
  simp
  constructor
  · rintro ⟨x,h1,h2⟩; exact ⟨x,h2,h1⟩
  · rintro ⟨x,h1,h2⟩; exact ⟨x,h2,h1⟩
theorem ok_iGoodUpdate (k:Nat) (u:GUpdate) (hu:updOK u):CallOK Tryz.prog 12 [.agg (GUpdate.ci k u)] (.c (pb (goodU u))) [.agg (GUpdate.ci k u)]:=by
  obtain ⟨u1,u2,u3⟩:=hu
  have hz:=ok_sameAttrs k 1 u.Attrs zeroA u3 ⟨by decide,by decide⟩
  refine okS (fn:=Tryz.f12) [] h0 Tryz.func12 (by kernel_rfl) rfl Tryz.ntmps12 Tryz.results12 (by simp) ?_
  by_cases c1:u.Gone.length ≤ 10
  · by_cases c2:u.Come.length ≤ 10
    · have d1:¬ (10:Int) < (u.Gone.length:Int):=by omega
      have d2:¬ (10:Int) < (u.Come.length:Int):=by omega
      simp [d1,d2]
      refine Inv_intro (ok_areRising k u.Gone u1) ?_
      cases c3:risG none u.Gone with
      | false => simp [goodU,goodPs,c3]
      | true =>
        simp
        refine Inv_intro (ok_areRising k u.Come u2) ?_
        cases c4:risG none u.Come with
        | false => simp [goodU,goodPs,c4]
        | true =>
          simp
          refine Inv_intro (ok_iGoodAttrs k u.Attrs u3) ?_
          cases c5:goodA u.Attrs with
          | false => simp [goodU,goodPs,c5]
          | true =>
            simp
            refine Inv_intro (ok_ContainsFunc_Prefix k 1 41 [GUpdate.ci k u] (fun p => decide (p ∈ u.Come)) u.Gone u1 fun x _ => ok_GoodUpdate1 1 k x u u2) ?_
            rw [any_come]
            cases c6:u.Come.all (fun p => !decide (p ∈ u.Gone)) with
            | false => simp [goodU,c6]
            | true =>
              have e:goodU u = (decide (u.Come ≠ []) || decide (u.Attrs = zeroA)):=by simp only [goodU,goodPs,c3,c4,c5,c6,c1,c2,decide_true,Bool.true_and]
              rw [e]
              by_cases c7:u.Come = []
              · simp [c7]
                refine Inv_intro hz ?_
                simp
              · have c8:0 < u.Come.length:=List.length_pos_iff.2 c7
                simp [c7,c8]
    · have d1:¬ (10:Int) < (u.Gone.length:Int):=by omega
      have d2:(10:Int) < (u.Come.length:Int):=by omega
      simp [d1,d2,goodU,goodPs,c2]
  · have d1:(10:Int) < (u.Gone.length:Int):=by omega
    simp [d1,goodU,goodPs,c1]
theorem ok_HearAll1 (k:Nat) (u:GUpdate) (hu:updOK u):CallOK Tryz.prog 45 [.agg (GUpdate.ci k u)] (.c (pb (!goodU u))) [.agg (GUpdate.ci k u)]:=by
  refine okS (fn:=Tryz.f45) [] h0 Tryz.func45 (by kernel_rfl) rfl Tryz.ntmps45 Tryz.results45 (by simp) ?_
  simp
  refine Inv_intro (ok_iGoodUpdate k u hu) ?_
  simp
theorem ok_sGoodUpdate (k:Nat) (u:GUpdate) (hu:updOK u):CallOK Tryz.prog 53 [.agg (GUpdate.ci k u)] (.c (pb (goodU u))) [.agg (GUpdate.ci k u)]:=by
  obtain ⟨u1,u2,u3⟩:=hu
  have hz:=ok_l4Zero k u.Attrs
  refine okS (fn:=Tryz.f53) [] h0 Tryz.func53 (by kernel_rfl) rfl Tryz.ntmps53 Tryz.results53 (by simp) ?_
  simp
  refine loopS [1,6,7,8] [.op 0 0 0] (fun n st => ∃ (i:Nat),i + n = u.Come.length ∧ u.Come.all (fun p => !decide (p ∈ u.Gone)) = (u.Come.drop i).all (fun p => !decide (p ∈ u.Gone)) ∧ st = ⟨slOf 41 [(1,.ptr ⟨.op 0 0 0,[]⟩ 0),(6,.t (rd k u.Come.length (u.Come.flatMap GPrefix.c))),(7,.t (pi u.Come.length)),(8,.t (pi i))],ofL [(.op 0 0 0,.sl 0 38 1 (GUpdate.ci k u))]⟩) u.Come.length ?_ ?_
  · rintro Inv hI
    simp
    subst hI
    exact ⟨0,by omega,rfl,rfl⟩
  · rintro Inv hI n st ⟨i,hi,hg,rfl⟩
    refine ewr_sound (M:=[]) h0 ?_
    simp
    refine brn_app (fun a => ?_) (fun a => ?_)
    · simp at a
      have hd:=fm_drop GPrefix.c 2 (fun _ => rfl) u.Come i a
      have hlen:=fm_len GPrefix.c 2 (fun _ => rfl) u.Come
      have hlt:i * 2 < u.Come.length * 2:=by omega
      rw [drop_step _ i a,List.all_cons] at hg
      simp [a,hd,hlen,hlt]
      refine Inv_intro (ok_l4In k u.Gone u.Come[i] u1) ?_
      by_cases c:u.Come[i] ∈ u.Gone
      · rw [decide_eq_true c,Bool.not_true,Bool.false_and] at hg
        have e:goodU u = false:=by simp only [goodU,hg,Bool.and_false,Bool.false_and]
        simp [c,e]
      · rw [decide_eq_false c,Bool.not_false,Bool.true_and] at hg
        simp [c]
        subst hI
        exact Less_mk (n - 1) (by omega) ⟨i + 1,by omega,hg,by rw [wrNext i (by omega)]; rfl⟩
    · simp at a
      rw [List.drop_of_length_le (by omega),List.all_nil] at hg
      simp
      refine Inv_intro (ok_l4Rising k u.Gone u1) ?_
      cases c3:goodPs u.Gone with
      | false => simp [goodU,c3]
      | true =>
        simp
        refine Inv_intro (ok_l4Rising k u.Come u2) ?_
        cases c4:goodPs u.Come with
        | false => simp [goodU,c4]
        | true =>
          simp
          refine Inv_intro (ok_sGoodAttrs k u.Attrs u3) ?_
          cases c5:goodA u.Attrs with
          | false => simp [goodU,c5]
          | true =>
            have e:goodU u = (decide (u.Come ≠ []) || decide (u.Attrs = zeroA)):=by simp only [goodU,c3,c4,c5,hg,Bool.true_and]
            rw [e]
            by_cases c7:u.Come = []
            · simp [c7]
              refine Inv_intro hz ?_
              simp
            · have c8:0 < u.Come.length:=List.length_pos_iff.2 c7
              simp [c7,c8]
theorem ok_goodUpdate (code:List Int) (hc:codeOK code) (a s:Int) (ha:0 ≤ a) (ha2:a ≤ 3999800):∃ (u:GUpdate) (a' s':Int),(u.Gone.length ≤ 4 ∧ u.Come.length ≤ 3 ∧ u.Attrs.Path.length ≤ 6 ∧ u.Attrs.Comms.length ≤ 6) ∧ (a ≤ a' ∧ a' ≤ a + 55) ∧ CallOK Tryz.prog 51 [.bp (curP code a s)] (.agg (GUpdate.co u)) [.bp (curP code a' s')]:=by
  obtain ⟨u,a1,s1,hu,ha1,q1⟩:=ok_update code hc a s ha ha2
  have hok:updOK u:=⟨by omega,by omega,⟨by omega,by omega⟩⟩
  have hTG:=List.take_of_length_le (Nat.le_of_eq (fm_len GPrefix.c 2 (fun _ => rfl) u.Gone))
  have hTC:=List.take_of_length_le (Nat.le_of_eq (fm_len GPrefix.c 2 (fun _ => rfl) u.Come))
  have hGl:=fm_len GPrefix.c 2 (fun _ => rfl) u.Gone
  have hCl:=fm_len GPrefix.c 2 (fun _ => rfl) u.Come
  have hTP:List.take u.Attrs.Path.length (u.Attrs.Path.map pi) = u.Attrs.Path.map pi:=List.take_of_length_le (by rw [List.length_map]; exact Nat.le_refl _)
  have hTQ:List.take u.Attrs.Comms.length (u.Attrs.Comms.map pi) = u.Attrs.Comms.map pi:=List.take_of_length_le (by rw [List.length_map]; exact Nat.le_refl _)
  cases hg:goodU u with
  | true =>
    refine ⟨u,a1,s1,hu,ha1,?_⟩
    refine okS (fn:=Tryz.f51) [(89,[1])] h0 Tryz.func51 (by kernel_rfl) rfl Tryz.ntmps51 Tryz.results51 (by simp) ?_
    unfold curP at q1 ⊢
    simp
    refine Inv_intro q1 ?_
    simp
    refine Inv_intro (ok_sGoodUpdate 0 u hok) ?_
    simp [hg,hTG,hTC,hGl,hCl,hTP,hTQ]
  | false =>
    refine ⟨⟨[],⟨0,[2],0,0,100,[]⟩,[⟨167772160,8⟩]⟩,a1,s1,by decide,ha1,?_⟩
    refine okS (fn:=Tryz.f51) [(89,[1])] h0 Tryz.func51 (by kernel_rfl) rfl Tryz.ntmps51 Tryz.results51 (by simp) ?_
    unfold curP at q1 ⊢
    simp
    refine Inv_intro q1 ?_
    simp
    refine Inv_intro (ok_sGoodUpdate 0 u hok) ?_
    simp [hg]
def updE (u:GUpdate):Prop:=u.Gone.length ≤ 4 ∧ u.Come.length ≤ 3 ∧ u.Attrs.Path.length ≤ 6 ∧ u.Attrs.Comms.length ≤ 6
set_option maxHeartbeats 4000000 in
theorem ok_DrawHearAll (code:List Int) (hc:codeOK code):∃ (x:List GRoute) (us:List GUpdate),(rsD x ∧ us.length ≤ 61 ∧ ∀ u ∈ us,updE u) ∧ CallOKL Tryz.prog 15 [.c (rd 1 code.length (code.map pu))] (.tup [.c (rd 0 x.length (x.flatMap (GRoute.ci 0))),.c (.sl 0 38 us.length (us.flatMap GUpdate.co))]) [.c (rd 1 code.length (code.map pu))]:=by
  obtain ⟨n0,a1,s1,hn0,ha1,q1⟩:=ok_pick code hc 5 (by decide) (by decide) 0 0 (by decide) (by decide)
  obtain ⟨b0,a2,s2,ha2',q2⟩:=ok_one code hc 20 (by decide) (by decide) a1 s1 (by omega) (by omega)
  obtain ⟨N,a3,s3,hN,ha3,hfr⟩:∃ (N:Nat) (a3 s3:Int),N ≤ 61 ∧ (a2 ≤ a3 ∧ a3 ≤ a2 + 1) ∧ ((b0 = false ∧ n0 = (N:Int) ∧ a3 = a2 ∧ s3 = s2) ∨ (b0 = true ∧ ∃ x,IntKind.i64.wrap (60 + x) = (N:Int) ∧ CallOK Tryz.prog 18 [.bp (curP code a2 s2),.c (pi 2)] (.c (pi x)) [.bp (curP code a3 s3),.c (pi 2)])):=by
    cases b0 with
    | false => exact ⟨n0.toNat,a2,s2,by omega,by omega,.inl ⟨rfl,by omega,rfl,rfl⟩⟩
    | true =>
      obtain ⟨x,b,t,hx,hb,c1⟩:=ok_pick code hc 2 (by decide) (by decide) a2 s2 (by omega) (by omega)
      exact ⟨(60 + x).toNat,b,t,by omega,by omega,.inr ⟨rfl,x,by rw [wrap64 (by omega) (by omega)]; omega,c1⟩⟩
  obtain ⟨run,run0,runI,runR⟩:=exists_run (α:=List GUpdate × Int × Int) N ([],a3,s3) (fun i x => x.1.length = i ∧ (∀ u ∈ x.1,updE u) ∧ a3 ≤ x.2.1 ∧ x.2.1 ≤ a3 + 55 * i)
    (fun x y => ∃ (u:GUpdate),y.1 = x.1 ++ [u] ∧ CallOK Tryz.prog 51 [.bp (curP code x.2.1 x.2.2)] (.agg (GUpdate.co u)) [.bp (curP code y.2.1 y.2.2)])
    ⟨rfl,by simp,by simp,by simp⟩ (by
      rintro i ⟨us,b,t⟩ hi ⟨g2,g3,g4,g5⟩
      simp only at g2 g3 g4 g5
      obtain ⟨u,b2,t2,hu,hb2,c2⟩:=ok_goodUpdate code hc b t (by omega) (by omega)
      refine ⟨(us ++ [u],b2,t2),⟨u,rfl,c2⟩,by simp [g2],?_,by simp only; omega,by simp only; omega⟩
      intro v hv
      rcases List.mem_append.1 hv with h | h
      · exact g3 v h
      · rw [List.mem_singleton.1 h]; exact hu)
  obtain ⟨e2,e3,e4,e5⟩:=runI N (Nat.le_refl _)
  obtain ⟨U,hU⟩:∃ U,U = (run N).1:=⟨_,rfl⟩
  obtain ⟨a4,ha4⟩:∃ a4,a4 = (run N).2.1:=⟨_,rfl⟩
  obtain ⟨s4,hs4⟩:∃ s4,s4 = (run N).2.2:=⟨_,rfl⟩
  rw [← hU] at e2 e3
  rw [← ha4] at e4 e5
  obtain ⟨x,a5,s5,hx,ha5,q3⟩:=ok_told code hc a4 s4 (by omega) (by omega)
  refine ⟨x,U,⟨hx,by omega,e3⟩,?_⟩
  refine okL (fn:=Tryz.f15) h0 Tryz.func15 (by kernel_rfl) rfl Tryz.ntmps15 Tryz.results15 (by simp) ?_
  unfold curP at q1 q2 q3 hfr runR
  refine ewrN_cutL (M:=[(18,[1]),(50,[1])]) h0 5 [4,5,6] [.op 1 2 0] ⟨slOf 29 [(4,.ptr ⟨.op 1 2 0,[]⟩ 0),(5,.t (.sl 0 nilE 0 [])),(6,.t (pi N))],ofL [(.op 1 2 0,.sl 0 49 1 [rd 1 code.length (code.map pu),pi a3,.raw (.int .u64 s3)])]⟩ ?_ ?_
  · simp only [Code.rest]
    refine ewpL_nil 5 (.op 8 4 0) 38 (by decide) rfl rfl rfl ?_
    refine ewpL_cut (st1:=⟨slOf 29 [(4,.ptr ⟨.op 1 2 0,[]⟩ 0),(5,.ref ⟨.op 8 4 0,[]⟩ 0 N)],ofL [(.op 8 4 0,.sl 0 38 N (U.flatMap GUpdate.co)),(.op 1 2 0,.sl 0 49 1 [rd 1 code.length (code.map pu),pi a4,.raw (.int .u64 s4)])]⟩) [4,5] [.op 8 4 0,.op 1 2 0] ?_ ?_
    · intro KQ hKn hKe
      refine ewpL_block ?_
      refine loopL [4,5,6] [.op 8 4 0,.op 1 2 0] (fun m st => ∃ (i:Nat),i + m = N ∧ st = ⟨slOf 29 [(4,.ptr ⟨.op 1 2 0,[]⟩ 0),(5,.ref ⟨.op 8 4 0,[]⟩ 0 i),(6,.t (pi m))],ofL [(.op 8 4 0,.sl 0 38 i ((run i).1.flatMap GUpdate.co)),(.op 1 2 0,.sl 0 49 1 [rd 1 code.length (code.map pu),pi (run i).2.1,.raw (.int .u64 (run i).2.2)])]⟩) N ?_ ?_
      · rintro Inv hI
        simp
        subst hI
        exact ⟨0,by omega,by rw [run0]; rfl⟩
      · rintro Inv hI m st ⟨i,hi,rfl⟩
        refine ewrL_sound (M:=[(51,[1])]) h0 ?_
        by_cases c:0 < m
        · obtain ⟨g2,_,_,_⟩:=runI i (by omega)
          obtain ⟨u,k2,c2⟩:=runR i (by omega)
          have c':(0:Int) < (m:Int):=by omega
          have w2:IntKind.i64.wrap ((m:Int) - 1) = ((m - 1:Nat):Int):=by rw [wrap64 (by omega) (by omega)]; omega
          have hb1:(i + 1) * 128 ≤ 140737488355328:=by omega
          have hb2:i ≤ 9223372036854775806:=by omega
          have hml:((run i).1.flatMap GUpdate.co).length = i * 8:=by rw [fm_len GUpdate.co 8 (fun _ => rfl),g2]
          have hmt:List.take (i * 8) ((run i).1.flatMap GUpdate.co) = (run i).1.flatMap GUpdate.co:=List.take_of_length_le (by omega)
          simp [c,c']
          refine InvX_intro c2 ?_
          simp [g2,hb1,hb2,hml,hmt,w2]
          subst hI
          refine Less_mk (m - 1) (by omega) ⟨i + 1,by omega,?_⟩
          rw [k2]
          simp
          done
        · have hm0:m = 0:=by omega
          have hiN:i = N:=by omega
          subst hm0
          subst hiN
          rw [← hU,← ha4,← hs4]
          simp
          refine hKn _ ?_
          simp
    · refine ewrL_sound (M:=[(17,[1])]) h0 ?_
      have hTU:=List.take_of_length_le (Nat.le_of_eq (fm_len GUpdate.co 8 (fun _ => rfl) U))
      rw [e2] at hTU
      simp
      refine InvX_lent q3 rfl ?_
      simp [hTU,e2]
  · intro K hK
    simp
    refine InvX_intro q1 ?_
    simp
    refine InvX_intro q2 ?_
    rcases hfr with ⟨rfl,rfl,rfl,rfl⟩ | ⟨rfl,x,hx,c1⟩
    · simp
      refine hK _ ?_
      simp
    · simp
      refine InvX_intro c1 ?_
      simp [hx]
      refine hK _ ?_
      simp
theorem ok_sameIntsG (k k':Nat) (xs ys:List Int) (ha:xs.length ≤ 140737488351232) (hb:ys.length ≤ 140737488351232):CallOK Tryz.prog 99 [.c (rd k xs.length (xs.map pi)),.c (rd k' ys.length (ys.map pi))] (.c (pb (decide (xs = ys)))) [.c (rd k xs.length (xs.map pi)),.c (rd k' ys.length (ys.map pi))]:=by
  refine okS (fn:=Tryz.f99) [] h0 Tryz.func99 (by kernel_rfl) rfl Tryz.ntmps99 Tryz.results99 (by simp) ?_
  simp
  refine brn_app (fun h => ?_) (fun h => ?_)
  · simp at h
    simp
    rintro rfl
    exact h rfl
  · simp at h
    have hl:ys.length = xs.length:=by omega
    simp
    refine loopS [0,1,11,12,13] [] (fun n st => ∃ (i:Nat),i + n = xs.length ∧ (xs.drop i = ys.drop i ↔ xs = ys) ∧ st = ⟨slOf 26 [(0,.t (rd k xs.length (xs.map pi))),(1,.t (rd k' ys.length (ys.map pi))),(11,.t (rd k xs.length (xs.map pi))),(12,.t (pi xs.length)),(13,.t (pi i))],ofL []⟩) xs.length ?_ ?_
    · rintro Inv hI
      simp
      subst hI
      exact ⟨0,by omega,by simp,rfl⟩
    · rintro Inv hI n st ⟨i,hi,htk,rfl⟩
      refine ewr_sound (M:=[]) h0 ?_
      simp
      refine brn_app (fun h => ?_) (fun h => ?_)
      · simp at h
        have hib:i < ys.length:=by omega
        rw [drop_step xs i h,drop_step ys i hib,List.cons.injEq] at htk
        simp
        refine drawP (tabEnv [] []) [⟨[],allD 26,true⟩,⟨[],allD 26,true⟩,⟨[],allD 26,true⟩,⟨[],allD 26,true⟩,⟨[],allD 26,true⟩,⟨[],allD 26,true⟩,⟨[],allD 26,true⟩,⟨[],allD 26,true⟩,⟨[],allD 26,true⟩] h0 hm (tabEnv_ok tab_nil) (by kernel_rfl) (by kernel_rfl) ?_
        simp [h,hib]
        refine brn_app (fun h2 => ?_) (fun h2 => ?_)
        · simp at h2
          simp
          intro he
          exact h2 (htk.2 he).1
        · simp at h2
          simp
          subst hI
          exact Less_mk (n - 1) (by omega) ⟨i + 1,by omega,⟨fun h4 => htk.1 ⟨h2,h4⟩,fun h4 => (htk.2 h4).2⟩,by rw [wrNext i (by omega)]⟩
      · simp at h
        rw [List.drop_of_length_le (by omega),List.drop_of_length_le (by omega)] at htk
        simp
        exact htk.1 rfl
theorem ok_sameAttrsG (k k':Nat) (a b:GAttrs) (ha:attrOK a) (hb:attrOK b):CallOK Tryz.prog 73 [.agg (GAttrs.ci k a),.agg (GAttrs.ci k' b)] (.c (pb (decide (a = b)))) [.agg (GAttrs.ci k a),.agg (GAttrs.ci k' b)]:=by
  have q1:=ok_sameIntsG k k' a.Path b.Path ha.1 hb.1
  have q2:=ok_sameIntsG k k' a.Comms b.Comms ha.2 hb.2
  have e:decide (a = b) = (decide (a.Origin = b.Origin) && (decide (a.Next = b.Next) && (decide (a.Med = b.Med) && (decide (a.Pref = b.Pref) && (decide (a.Path = b.Path) && decide (a.Comms = b.Comms)))))):=by
    cases a
    cases b
    rw [Bool.eq_iff_iff]
    simp only [GAttrs.mk.injEq,decide_eq_true_eq,Bool.and_eq_true]
    constructor
    · rintro ⟨h1,h2,h3,h4,h5,h6⟩
      exact ⟨h1,h3,h4,h5,h2,h6⟩
    · rintro ⟨h1,h3,h4,h5,h2,h6⟩
      exact ⟨h1,h2,h3,h4,h5,h6⟩
  rw [e]
  refine okS (fn:=Tryz.f73) [] h0 Tryz.func73 (by kernel_rfl) rfl Tryz.ntmps73 Tryz.results73 (by simp) ?_
  simp
  by_cases h1:a.Origin = b.Origin
  · by_cases h2:a.Next = b.Next
    · by_cases h3:a.Med = b.Med
      · by_cases h4:a.Pref = b.Pref
        · simp [h1,h2,h3,h4]
          refine Inv_intro q1 ?_
          by_cases h5:a.Path = b.Path
          · simp [h5]
            refine Inv_intro q2 ?_
            simp
          · simp [h5]
        · simp [h1,h2,h3,h4]
      · simp [h1,h2,h3]
    · simp [h1,h2]
  · simp [h1]
theorem ok_samePrefixes (k k':Nat) (l:List GPrefix) (hl:l.length ≤ 140737488351232):CallOK Tryz.prog 72 [.c (rd k l.length (l.flatMap GPrefix.c)),.c (rd k' l.length (l.flatMap GPrefix.c))] (.c (pb true)) [.c (rd k l.length (l.flatMap GPrefix.c)),.c (rd k' l.length (l.flatMap GPrefix.c))]:=by
  refine okS (fn:=Tryz.f72) [] h0 Tryz.func72 (by kernel_rfl) rfl Tryz.ntmps72 Tryz.results72 (by simp) ?_
  simp
  refine loopS [0,1,11,12,13] [] (fun m st => ∃ (i:Nat),i + m = l.length ∧ st = ⟨slOf 26 [(0,.t (rd k l.length (l.flatMap GPrefix.c))),(1,.t (rd k' l.length (l.flatMap GPrefix.c))),(11,.t (rd k l.length (l.flatMap GPrefix.c))),(12,.t (pi l.length)),(13,.t (pi i))],ofL []⟩) l.length ?_ ?_
  · rintro Inv hI
    simp
    subst hI
    exact ⟨0,by omega,rfl⟩
  · rintro Inv hI m st ⟨i,hi,rfl⟩
    refine ewr_sound (M:=[]) h0 ?_
    simp
    refine brn_app (fun a => ?_) (fun a => ?_)
    · simp at a
      have hd:=fm_drop GPrefix.c 2 (fun _ => rfl) l i a
      have hlen:=fm_len GPrefix.c 2 (fun _ => rfl) l
      have hlt:i * 2 < l.length * 2:=by omega
      simp
      refine drawP (tabEnv [] []) [⟨[],allD 26,true⟩,⟨[],allD 26,true⟩,⟨[],allD 26,true⟩,⟨[],allD 26,true⟩,⟨[],allD 26,true⟩,⟨[],allD 26,true⟩,⟨[],allD 26,true⟩,⟨[],allD 26,true⟩,⟨[],allD 26,true⟩] h0 hm (tabEnv_ok tab_nil) (by kernel_rfl) (by kernel_rfl) ?_
      simp [a,hd,hlen,hlt]
      subst hI
      exact Less_mk (m - 1) (by omega) ⟨i + 1,by omega,by rw [wrNext i (by omega)]⟩
    · simp
theorem ok_lsameRoute (k k':Nat) (r:GRoute) (hr:attrOK r.Attrs):CallOK Tryz.prog 49 [.agg (GRoute.ci k r),.agg (GRoute.ci k' r)] (.c (pb true)) [.agg (GRoute.ci k r),.agg (GRoute.ci k' r)]:=by
  have hq:=ok_sameAttrsG k k' r.Attrs r.Attrs hr hr
  rw [decide_eq_true rfl] at hq
  refine okS (fn:=Tryz.f49) [] h0 Tryz.func49 (by kernel_rfl) rfl Tryz.ntmps49 Tryz.results49 (by simp) ?_
  simp
  refine Inv_intro hq ?_
  simp
theorem ok_sameRoutes (k k':Nat) (l:List GRoute) (hl1:l.length ≤ 140737488351232) (hl2:∀ r ∈ l,attrOK r.Attrs):CallOK Tryz.prog 14 [.c (rd k l.length (l.flatMap (GRoute.ci k))),.c (rd k' l.length (l.flatMap (GRoute.ci k')))] (.c (pb true)) [.c (rd k l.length (l.flatMap (GRoute.ci k))),.c (rd k' l.length (l.flatMap (GRoute.ci k')))]:=by
  refine okS (fn:=Tryz.f14) [] h0 Tryz.func14 (by kernel_rfl) rfl Tryz.ntmps14 Tryz.results14 (by simp) ?_
  simp
  refine loopS [0,1,11,12,13] [] (fun m st => ∃ (i:Nat),i + m = l.length ∧ st = ⟨slOf 27 [(0,.t (rd k l.length (l.flatMap (GRoute.ci k)))),(1,.t (rd k' l.length (l.flatMap (GRoute.ci k')))),(11,.t (rd k l.length (l.flatMap (GRoute.ci k)))),(12,.t (pi l.length)),(13,.t (pi i))],ofL []⟩) l.length ?_ ?_
  · rintro Inv hI
    simp
    subst hI
    exact ⟨0,by omega,rfl⟩
  · rintro Inv hI m st ⟨i,hi,rfl⟩
    refine ewr_sound (M:=[]) h0 ?_
    simp
    refine brn_app (fun a => ?_) (fun a => ?_)
    · simp at a
      have hd:=fm_drop (GRoute.ci k) 8 (fun _ => rfl) l i a
      have hlen:=fm_len (GRoute.ci k) 8 (fun _ => rfl) l
      have hd':=fm_drop (GRoute.ci k') 8 (fun _ => rfl) l i a
      have hlen':=fm_len (GRoute.ci k') 8 (fun _ => rfl) l
      have hlt:i * 8 < l.length * 8:=by omega
      have hlt2:i * 8 + 8 ≤ l.length * 8:=by omega
      simp
      refine drawP (tabEnv [] _) [⟨[],allD 27,true⟩,⟨[],allD 27,true⟩,⟨[],allD 27,true⟩,⟨[],allD 27,true⟩,⟨[],allD 27,true⟩,⟨[],allD 27,true⟩,⟨[],allD 27,true⟩,⟨[],allD 27,true⟩,⟨[],allD 27,false⟩,⟨[],allD 27,true⟩] h0 hm (tabEnv_ok (tab_cons (ok_lsameRoute k k' l[i] (hl2 _ (List.getElem_mem a))) tab_nil)) (by kernel_rfl) (by kernel_rfl) ?_
      simp [a,hd,hlen,hd',hlen',hlt,hlt2]
      subst hI
      exact Less_mk (m - 1) (by omega) ⟨i + 1,by omega,by rw [wrNext i (by omega)]⟩
    · simp
theorem ok_lsameUpdate (k k':Nat) (u:GUpdate) (hu:updOK u):CallOK Tryz.prog 33 [.agg (GUpdate.ci k u),.agg (GUpdate.ci k' u)] (.c (pb true)) [.agg (GUpdate.ci k u),.agg (GUpdate.ci k' u)]:=by
  obtain ⟨h1,h2,h3⟩:=hu
  have hq:=ok_sameAttrsG k k' u.Attrs u.Attrs h3 h3
  rw [decide_eq_true rfl] at hq
  refine okS (fn:=Tryz.f33) [] h0 Tryz.func33 (by kernel_rfl) rfl Tryz.ntmps33 Tryz.results33 (by simp) ?_
  simp
  refine Inv_intro (ok_samePrefixes k k' u.Gone h1) ?_
  simp
  refine Inv_intro (ok_samePrefixes k k' u.Come h2) ?_
  simp
  refine Inv_intro hq ?_
  simp
theorem ok_sameUpdates (k k':Nat) (l:List GUpdate) (hl1:l.length ≤ 140737488351232) (hl2:∀ r ∈ l,updOK r):CallOK Tryz.prog 9 [.c (rd k l.length (l.flatMap (GUpdate.ci k))),.c (rd k' l.length (l.flatMap (GUpdate.ci k')))] (.c (pb true)) [.c (rd k l.length (l.flatMap (GUpdate.ci k))),.c (rd k' l.length (l.flatMap (GUpdate.ci k')))]:=by
  refine okS (fn:=Tryz.f9) [] h0 Tryz.func9 (by kernel_rfl) rfl Tryz.ntmps9 Tryz.results9 (by simp) ?_
  simp
  refine loopS [0,1,11,12,13] [] (fun m st => ∃ (i:Nat),i + m = l.length ∧ st = ⟨slOf 27 [(0,.t (rd k l.length (l.flatMap (GUpdate.ci k)))),(1,.t (rd k' l.length (l.flatMap (GUpdate.ci k')))),(11,.t (rd k l.length (l.flatMap (GUpdate.ci k)))),(12,.t (pi l.length)),(13,.t (pi i))],ofL []⟩) l.length ?_ ?_
  · rintro Inv hI
    simp
    subst hI
    exact ⟨0,by omega,rfl⟩
  · rintro Inv hI m st ⟨i,hi,rfl⟩
    refine ewr_sound (M:=[]) h0 ?_
    simp
    refine brn_app (fun a => ?_) (fun a => ?_)
    · simp at a
      have hd:=fm_drop (GUpdate.ci k) 8 (fun _ => rfl) l i a
      have hlen:=fm_len (GUpdate.ci k) 8 (fun _ => rfl) l
      have hd':=fm_drop (GUpdate.ci k') 8 (fun _ => rfl) l i a
      have hlen':=fm_len (GUpdate.ci k') 8 (fun _ => rfl) l
      have hlt:i * 8 < l.length * 8:=by omega
      have hlt2:i * 8 + 8 ≤ l.length * 8:=by omega
      simp
      refine drawP (tabEnv [] _) [⟨[],allD 27,true⟩,⟨[],allD 27,true⟩,⟨[],allD 27,true⟩,⟨[],allD 27,true⟩,⟨[],allD 27,true⟩,⟨[],allD 27,true⟩,⟨[],allD 27,true⟩,⟨[],allD 27,true⟩,⟨[],allD 27,false⟩,⟨[],allD 27,true⟩] h0 hm (tabEnv_ok (tab_cons (ok_lsameUpdate k k' l[i] (hl2 _ (List.getElem_mem a))) tab_nil)) (by kernel_rfl) (by kernel_rfl) ?_
      simp [a,hd,hlen,hd',hlen',hlt,hlt2]
      subst hI
      exact Less_mk (m - 1) (by omega) ⟨i + 1,by omega,by rw [wrNext i (by omega)]⟩
    · simp
end Go.V
