/- What functions of the seat's program do, each proved of its code, under the bounds that its theorem names. -/
import Derived.Test.YtcmdgenpipojpaaTad
set_option linter.all false
namespace Go.V
open Go.Proofs
set_option maxHeartbeats 1000000
set_option maxRecDepth 10000
set_option linter.unusedSimpArgs false
set_option linter.unusedVariables false
theorem ok_iGoodRoutes (k:Nat) (l:List GRoute) (hl:routesOK l):CallOK Try.prog 17 [.c (rd k l.length (l.flatMap (GRoute.ci k)))] (.c (pb (goodRs l))) [.c (rd k l.length (l.flatMap (GRoute.ci k)))]:=by
  obtain ⟨hll,hlx⟩:=hl
  refine okS (fn:=Try.f17) [] h0 Try.func17 (by kernel_rfl) rfl Try.ntmps17 Try.results17 (by simp) ?_
  simp
  refine loopS [0,5,6,7] [] (fun n st => ∃ (i:Nat),i + n = l.length ∧ routesG (prevR l i) (l.drop i) = routesG none l ∧ st = ⟨slOf 35 [(0,.t (rd k l.length (l.flatMap (GRoute.ci k)))),(5,.t (rd k l.length (l.flatMap (GRoute.ci k)))),(6,.t (pi l.length)),(7,.t (pi i))],ofL []⟩) l.length ?_ ?_
  · rintro Inv hI
    simp
    subst hI
    exact ⟨0,by omega,rfl,rfl⟩
  · rintro Inv hI n st ⟨i,hi,hg,rfl⟩
    refine ewr_sound (M:=[]) h0 ?_
    simp
    refine brn_app (fun a => ?_) (fun a => ?_)
    · simp at a
      have hx:=hlx l[i] (List.getElem_mem a)
      rw [drop_step _ i a,routesG] at hg
      have hd:=fm_drop (GRoute.ci k) 8 (fun _ => rfl) l i a
      have hlen:=fm_len (GRoute.ci k) 8 (fun _ => rfl) l
      have hlt:i * 8 < l.length * 8:=by omega
      have en:prevR l (i + 1) = some l[i]:=prevR_next l i a
      simp [a,hd,hlen,hlt]
      have hR:=ok_iGoodRoute k l[i] hx
      by_cases c0:i = 0
      · have e0:¬ 0 < i:=by omega
        have ep:prevR l i = none:=by simp [prevR,c0]
        rw [ep,adjR,Bool.and_true] at hg
        refine drawP (tabEnv [] _) [⟨[.op 3 3 0],allD 35,true⟩,⟨[],allD 35,false⟩,⟨[],allD 35,true⟩,⟨[],allD 35,true⟩,⟨[],allD 35,true⟩,⟨[],allD 35,true⟩,⟨[],allD 35,true⟩,⟨[],allD 35,true⟩,⟨[],allD 35,true⟩,⟨[],allD 35,true⟩,⟨[],allD 35,true⟩,⟨[],allD 35,true⟩,⟨[],allD 35,true⟩,⟨[.op 3 3 0],allD 35,true⟩,⟨[.op 3 3 0],allD 35,true⟩,⟨[],allD 35,false⟩,⟨[],allD 35,true⟩,⟨[],allD 35,true⟩,⟨[],allD 35,true⟩] h0 hm (tabEnv_ok (tab_cons hR tab_nil)) (by kernel_rfl) (by kernel_rfl) ?_
        cases c1:goodR l[i] with
        | false =>
          rw [c1,Bool.false_and] at hg
          simp [c1,goodRs,← hg]
        | true =>
          rw [c1,Bool.true_and] at hg
          simp [c1,e0]
          subst hI
          exact Less_mk (n - 1) (by omega) ⟨i + 1,by omega,by rw [en]; exact hg,by rw [wrNext i (by omega)]⟩
      · obtain ⟨j,hj⟩:∃ j,i = j + 1:=⟨i - 1,by omega⟩
        have aj:j < l.length:=by omega
        have ep:prevR l i = some l[j]:=by subst hj; exact prevR_next l j aj
        have hdj:=fm_drop (GRoute.ci k) 8 (fun _ => rfl) l j aj
        have hltj:j * 8 < l.length * 8:=by omega
        have hw:IntKind.wrap .i64 ((i:Int) - 1) = j:=(wrap64 (by omega) (by omega)).trans (by omega)
        have e0:0 < i:=by omega
        rw [ep,adjR] at hg
        refine drawP (tabEnv [] _) [⟨[.op 3 3 0],allD 35,true⟩,⟨[],allD 35,false⟩,⟨[],allD 35,true⟩,⟨[],allD 35,true⟩,⟨[],allD 35,true⟩,⟨[],allD 35,true⟩,⟨[],allD 35,true⟩,⟨[],allD 35,true⟩,⟨[],allD 35,true⟩,⟨[],allD 35,true⟩,⟨[],allD 35,true⟩,⟨[],allD 35,true⟩,⟨[],allD 35,true⟩,⟨[.op 3 3 0],allD 35,true⟩,⟨[.op 3 3 0],allD 35,true⟩,⟨[],allD 35,false⟩,⟨[],allD 35,true⟩,⟨[],allD 35,true⟩,⟨[],allD 35,true⟩] h0 hm (tabEnv_ok (tab_cons hR (tab_cons (ok_compare l[j].Prefix l[i].Prefix) tab_nil))) (by kernel_rfl) (by kernel_rfl) ?_
        cases c1:goodR l[i] with
        | false =>
          rw [c1,Bool.false_and,Bool.false_and] at hg
          simp [c1,goodRs,← hg]
        | true =>
          rw [c1,Bool.true_and] at hg
          by_cases c2:cmpPx l[j].Prefix l[i].Prefix < 0
          · have c3:¬ 0 ≤ cmpPx l[j].Prefix l[i].Prefix:=by omega
            rw [decide_eq_true c2,Bool.true_and] at hg
            simp [c1,e0,hw,aj,hdj,hlen,hltj,c3]
            subst hI
            exact Less_mk (n - 1) (by omega) ⟨i + 1,by omega,by rw [en]; exact hg,by rw [wrNext i (by omega)]⟩
          · have c3:0 ≤ cmpPx l[j].Prefix l[i].Prefix:=by omega
            rw [decide_eq_false c2,Bool.false_and] at hg
            simp [c1,e0,hw,aj,hdj,hlen,hltj,c3,goodRs,← hg]
    · simp at a
      rw [List.drop_of_length_le (by omega),routesG] at hg
      simp [goodRs,← hg]
      omega
theorem ok_sGoodAttrs (k:Nat) (x:GAttrs) (hx:attrOK x):CallOK Try.prog 59 [.agg (GAttrs.ci k x)] (.c (pb (goodA x))) [.agg (GAttrs.ci k x)]:=by
  obtain ⟨h1,h2⟩:=hx
  refine okS (fn:=Try.f59) [] h0 Try.func59 (by kernel_rfl) rfl Try.ntmps59 Try.results59 (by simp) ?_
  simp
  refine loopS [1,8,9,10] [.op 0 0 0] (fun n st => ∃ (i:Nat),i + n = x.Path.length ∧ (x.Path.drop i).all isAsnB = x.Path.all isAsnB ∧ st = ⟨slOf 74 [(1,.ptr ⟨.op 0 0 0,[]⟩ 0),(8,.t (rd k x.Path.length (x.Path.map pi))),(9,.t (pi x.Path.length)),(10,.t (pi i))],ofL [(.op 0 0 0,.sl 0 45 1 (GAttrs.ci k x))]⟩) x.Path.length ?_ ?_
  · rintro Inv hI
    simp
    subst hI
    exact ⟨0,by omega,rfl,rfl⟩
  · rintro Inv hI n st ⟨i,hi,hg,rfl⟩
    refine ewr_sound (M:=[]) h0 ?_
    simp
    refine brn_app (fun a => ?_) (fun a => ?_)
    · simp at a
      rw [drop_step _ i a,List.all_cons] at hg
      simp [a]
      refine Inv_intro (ok_l1In _ _ _) ?_
      by_cases c:1 ≤ x.Path[i] ∧ x.Path[i] ≤ 65535
      · have c':isAsnB x.Path[i] = true:=inR_t c
        rw [c',Bool.true_and] at hg
        simp [c]
        subst hI
        exact Less_mk (n - 1) (by omega) ⟨i + 1,by omega,hg,by rw [wrNext i (by omega)]; rfl⟩
      · have c':isAsnB x.Path[i] = false:=by simp only [isAsnB,inR,decide_eq_false_iff_not]; exact c
        rw [c',Bool.false_and] at hg
        simp [c,goodA,goodPa,← hg]
    · simp at a
      rw [List.drop_of_length_le (by omega),List.all_nil] at hg
      simp
      refine loopS [1,19,20,21] [.op 0 0 0] (fun n st => ∃ (i:Nat),i + n = x.Comms.length ∧ commsG (prevI x.Comms i) (x.Comms.drop i) = commsG none x.Comms ∧ st = ⟨slOf 74 [(1,.ptr ⟨.op 0 0 0,[]⟩ 0),(19,.t (rd k x.Comms.length (x.Comms.map pi))),(20,.t (pi x.Comms.length)),(21,.t (pi i))],ofL [(.op 0 0 0,.sl 0 45 1 (GAttrs.ci k x))]⟩) x.Comms.length ?_ ?_
      · rintro Inv hI
        simp
        subst hI
        exact ⟨0,by omega,rfl,rfl⟩
      · rintro Inv hI n st ⟨i,hi,hc,rfl⟩
        refine ewr_sound (M:=[]) h0 ?_
        simp
        refine brn_app (fun a => ?_) (fun a => ?_)
        · simp at a
          rw [drop_step _ i a,commsG] at hc
          have en:prevI x.Comms (i + 1) = some x.Comms[i]:=prevI_next x.Comms i a
          simp [a]
          refine Inv_intro (ok_l1In _ _ _) ?_
          by_cases c1:0 ≤ x.Comms[i] ∧ x.Comms[i] ≤ 1000000
          · have c1':isValB x.Comms[i] = true:=inR_t c1
            rw [c1',Bool.true_and] at hc
            by_cases c0:i = 0
            · have e0:¬ 0 < i:=by omega
              have ep:prevI x.Comms i = none:=by simp [prevI,c0]
              rw [ep,adjI,Bool.true_and] at hc
              simp [c1,e0]
              subst hI
              exact Less_mk (n - 1) (by omega) ⟨i + 1,by omega,by rw [en]; exact hc,by rw [wrNext i (by omega)]; rfl⟩
            · obtain ⟨j,hj⟩:∃ j,i = j + 1:=⟨i - 1,by omega⟩
              have aj:j < x.Comms.length:=by omega
              have ep:prevI x.Comms i = some x.Comms[j]:=by subst hj; exact prevI_next x.Comms j aj
              have hw:IntKind.wrap .i64 ((i:Int) - 1) = j:=(wrap64 (by omega) (by omega)).trans (by omega)
              have e0:0 < i:=by omega
              rw [ep,adjI] at hc
              simp [c1,e0,hw,aj]
              refine brn_app (fun c => ?_) (fun c => ?_)
              · simp at c
                have c':¬ x.Comms[j] < x.Comms[i]:=by omega
                simp [c'] at hc
                simp [goodA,goodCm,hc]
              · simp at c
                have c':x.Comms[j] < x.Comms[i]:=by omega
                simp [c'] at hc
                simp
                subst hI
                exact Less_mk (n - 1) (by omega) ⟨i + 1,by omega,by rw [en]; exact hc,by rw [wrNext i (by omega)]; rfl⟩
          · have c1':isValB x.Comms[i] = false:=by simp only [isValB,inR,decide_eq_false_iff_not]; exact c1
            rw [c1',Bool.false_and,Bool.false_and] at hc
            simp [c1,goodA,goodCm,← hc]
        · simp at a
          rw [List.drop_of_length_le (by omega),commsG] at hc
          simp
          refine Inv_intro (ok_l1In _ _ _) ?_
          by_cases c1:0 ≤ x.Origin ∧ x.Origin ≤ 2
          · simp [c1]
            by_cases c2:x.Path.length ≤ 10
            · have c2':(x.Path.length:Int) ≤ 10:=by omega
              simp [c2']
              refine Inv_intro (ok_l1Addr _) ?_
              cases c3:inR x.Next 0 4294967295 with
              | false => simp [goodA,c3]
              | true =>
                simp
                refine Inv_intro (ok_l1In _ _ _) ?_
                by_cases c4:0 ≤ x.Med ∧ x.Med ≤ 1000000
                · simp [c4]
                  refine Inv_intro (ok_l1In _ _ _) ?_
                  by_cases c5:0 ≤ x.Pref ∧ x.Pref ≤ 1000000
                  · have c4':isValB x.Med = true:=inR_t c4
                    have c5':isValB x.Pref = true:=inR_t c5
                    have hp:goodPa x.Path = true:=by simp [goodPa,c2,← hg]
                    have hcm:goodCm x.Comms = decide ((x.Comms.length:Int) ≤ 6):=by
                      simp only [goodCm,← hc,Bool.true_and]
                      exact decide_eq_decide.2 (by omega)
                    simp [c5,goodA,c3,c4',c5',hp,hcm,inR_t c1]
                  · have c5':isValB x.Pref = false:=by simp only [isValB,inR,decide_eq_false_iff_not]; exact c5
                    simp [c5,goodA,c5']
                · have c4':isValB x.Med = false:=by simp only [isValB,inR,decide_eq_false_iff_not]; exact c4
                  simp [c4,goodA,c4']
            · have c2':¬ (x.Path.length:Int) ≤ 10:=by omega
              simp [c2',goodA,goodPa,c2]
          · have c1':inR x.Origin 0 2 = false:=by simp only [inR,decide_eq_false_iff_not]; exact c1
            simp [c1,goodA,c1']
theorem ok_sGoodRoute (k:Nat) (r:GRoute) (hx:attrOK r.Attrs):CallOK Try.prog 35 [.agg (GRoute.ci k r)] (.c (pb (goodR r))) [.agg (GRoute.ci k r)]:=by
  refine okS (fn:=Try.f35) [] h0 Try.func35 (by kernel_rfl) rfl Try.ntmps35 Try.results35 (by simp) ?_
  simp
  refine Inv_intro (ok_sGoodPrefix r.Prefix) ?_
  cases c1:goodPx r.Prefix with
  | false => simp [goodR,c1]
  | true =>
    simp
    refine Inv_intro (ok_sGoodAttrs k r.Attrs hx) ?_
    simp [goodR,c1]
theorem ok_sGoodRoutes (k:Nat) (l:List GRoute) (hl:routesOK l):CallOK Try.prog 14 [.c (rd k l.length (l.flatMap (GRoute.ci k)))] (.c (pb (goodRs l))) [.c (rd k l.length (l.flatMap (GRoute.ci k)))]:=by
  obtain ⟨hll,hlx⟩:=hl
  refine okS (fn:=Try.f14) [] h0 Try.func14 (by kernel_rfl) rfl Try.ntmps14 Try.results14 (by simp) ?_
  simp
  refine loopS [0,5,6,7] [] (fun n st => ∃ (i:Nat),i + n = l.length ∧ routesG (prevR l i) (l.drop i) = routesG none l ∧ st = ⟨slOf 35 [(0,.t (rd k l.length (l.flatMap (GRoute.ci k)))),(5,.t (rd k l.length (l.flatMap (GRoute.ci k)))),(6,.t (pi l.length)),(7,.t (pi i))],ofL []⟩) l.length ?_ ?_
  · rintro Inv hI
    simp
    subst hI
    exact ⟨0,by omega,rfl,rfl⟩
  · rintro Inv hI n st ⟨i,hi,hg,rfl⟩
    refine ewr_sound (M:=[]) h0 ?_
    simp
    refine brn_app (fun a => ?_) (fun a => ?_)
    · simp at a
      have hx:=hlx l[i] (List.getElem_mem a)
      rw [drop_step _ i a,routesG] at hg
      have hd:=fm_drop (GRoute.ci k) 8 (fun _ => rfl) l i a
      have hlen:=fm_len (GRoute.ci k) 8 (fun _ => rfl) l
      have hlt:i * 8 < l.length * 8:=by omega
      have en:prevR l (i + 1) = some l[i]:=prevR_next l i a
      simp [a,hd,hlen,hlt]
      have hR:=ok_sGoodRoute k l[i] hx
      by_cases c0:i = 0
      · have e0:¬ 0 < i:=by omega
        have ep:prevR l i = none:=by simp [prevR,c0]
        rw [ep,adjR,Bool.and_true] at hg
        refine drawP (tabEnv [] _) [⟨[.op 3 3 0],allD 35,true⟩,⟨[],allD 35,false⟩,⟨[],allD 35,true⟩,⟨[],allD 35,true⟩,⟨[],allD 35,true⟩,⟨[],allD 35,true⟩,⟨[],allD 35,true⟩,⟨[],allD 35,true⟩,⟨[],allD 35,true⟩,⟨[],allD 35,true⟩,⟨[],allD 35,true⟩,⟨[],allD 35,true⟩,⟨[],allD 35,true⟩,⟨[.op 3 3 0],allD 35,true⟩,⟨[.op 3 3 0],allD 35,true⟩,⟨[],allD 35,false⟩,⟨[],allD 35,true⟩,⟨[],allD 35,true⟩,⟨[],allD 35,true⟩] h0 hm (tabEnv_ok (tab_cons hR tab_nil)) (by kernel_rfl) (by kernel_rfl) ?_
        cases c1:goodR l[i] with
        | false =>
          rw [c1,Bool.false_and] at hg
          simp [c1,goodRs,← hg]
        | true =>
          rw [c1,Bool.true_and] at hg
          simp [c1,e0]
          subst hI
          exact Less_mk (n - 1) (by omega) ⟨i + 1,by omega,by rw [en]; exact hg,by rw [wrNext i (by omega)]⟩
      · obtain ⟨j,hj⟩:∃ j,i = j + 1:=⟨i - 1,by omega⟩
        have aj:j < l.length:=by omega
        have ep:prevR l i = some l[j]:=by subst hj; exact prevR_next l j aj
        have hdj:=fm_drop (GRoute.ci k) 8 (fun _ => rfl) l j aj
        have hltj:j * 8 < l.length * 8:=by omega
        have hw:IntKind.wrap .i64 ((i:Int) - 1) = j:=(wrap64 (by omega) (by omega)).trans (by omega)
        have e0:0 < i:=by omega
        rw [ep,adjR] at hg
        refine drawP (tabEnv [] _) [⟨[.op 3 3 0],allD 35,true⟩,⟨[],allD 35,false⟩,⟨[],allD 35,true⟩,⟨[],allD 35,true⟩,⟨[],allD 35,true⟩,⟨[],allD 35,true⟩,⟨[],allD 35,true⟩,⟨[],allD 35,true⟩,⟨[],allD 35,true⟩,⟨[],allD 35,true⟩,⟨[],allD 35,true⟩,⟨[],allD 35,true⟩,⟨[],allD 35,true⟩,⟨[.op 3 3 0],allD 35,true⟩,⟨[.op 3 3 0],allD 35,true⟩,⟨[],allD 35,false⟩,⟨[],allD 35,true⟩,⟨[],allD 35,true⟩,⟨[],allD 35,true⟩] h0 hm (tabEnv_ok (tab_cons hR (tab_cons (ok_l1Compare l[j].Prefix l[i].Prefix) tab_nil))) (by kernel_rfl) (by kernel_rfl) ?_
        cases c1:goodR l[i] with
        | false =>
          rw [c1,Bool.false_and,Bool.false_and] at hg
          simp [c1,goodRs,← hg]
        | true =>
          rw [c1,Bool.true_and] at hg
          by_cases c2:cmpPx l[j].Prefix l[i].Prefix < 0
          · have c3:¬ 0 ≤ cmpPx l[j].Prefix l[i].Prefix:=by omega
            rw [decide_eq_true c2,Bool.true_and] at hg
            simp [c1,e0,hw,aj,hdj,hlen,hltj,c3]
            subst hI
            exact Less_mk (n - 1) (by omega) ⟨i + 1,by omega,by rw [en]; exact hg,by rw [wrNext i (by omega)]⟩
          · have c3:0 ≤ cmpPx l[j].Prefix l[i].Prefix:=by omega
            rw [decide_eq_false c2,Bool.false_and] at hg
            simp [c1,e0,hw,aj,hdj,hlen,hltj,c3,goodRs,← hg]
    · simp at a
      rw [List.drop_of_length_le (by omega),routesG] at hg
      simp [goodRs,← hg]
      omega
theorem attr_ok {a:GAttrs} (h:GAttrs.wt a ≤ 1048576):attrOK a:=by
  unfold GAttrs.wt at h
  have h1:=len_wt_IntS a.Path
  have h2:=len_wt_IntS a.Comms
  exact ⟨by omega,by omega⟩
theorem route_ok {r:GRoute} (h:GRoute.wt r ≤ 1048576):attrOK r.Attrs:=attr_ok (by unfold GRoute.wt at h; omega)
theorem routes_ok {l:List GRoute} (h:wt_RouteS l ≤ 1048576):routesOK l:=by
  have:=len_wt_RouteS l
  refine ⟨by omega,fun x hx => route_ok ?_⟩
  have:=mem_wt_RouteS hx
  omega
theorem ok_Clone_Prefix (k:Nat) (xs:List GPrefix) (hx:xs.length ≤ 1048576):CallOK Try.prog 27 [.c (rd k xs.length (xs.flatMap GPrefix.c))] (.c (.sl 0 44 xs.length (xs.flatMap GPrefix.c))) [.c (rd k xs.length (xs.flatMap GPrefix.c))]:=by
  refine okS (fn:=Try.f27) [] h0 Try.func27 (by kernel_rfl) rfl Try.ntmps27 Try.results27 (by simp) ?_
  cases xs with
  | nil => simp
  | cons y ys =>
    simp only [List.length_cons] at hx
    have hb:(ys.length + 1) * 16 ≤ 140737488355328 ∧ ys.length + 1 ≤ 9223372036854775807:=by omega
    have hb2:ys.length + 1 ≤ 9223372036854775807:=by omega
    have hb1:(ys.length + 1) * 16 ≤ 140737488355328:=by omega
    have he:ys.length * 2 + 1 + 1 = (ys.length + 1) * 2:=by omega
    have ht:List.take ((ys.length + 1) * 2) (pi y.Addr :: pi y.Len :: ys.flatMap GPrefix.c) = (pi y.Addr :: pi y.Len :: ys.flatMap GPrefix.c):=GPrefix.tkR (y :: ys)
    simp [hb1,hb2,he,ht]
theorem ok_Clone_Route (k:Nat) (xs:List GRoute) (hx:xs.length ≤ 1048576):CallOK Try.prog 20 [.c (rd k xs.length (xs.flatMap (GRoute.ci k)))] (.c (.sl 0 47 xs.length (xs.flatMap (GRoute.ci k)))) [.c (rd k xs.length (xs.flatMap (GRoute.ci k)))]:=by
  refine okS (fn:=Try.f20) [] h0 Try.func20 (by kernel_rfl) rfl Try.ntmps20 Try.results20 (by simp) ?_
  cases xs with
  | nil => simp
  | cons y ys =>
    simp only [List.length_cons] at hx
    have hb:(ys.length + 1) * 96 ≤ 140737488355328 ∧ ys.length + 1 ≤ 9223372036854775807:=by omega
    have hb2:ys.length + 1 ≤ 9223372036854775807:=by omega
    have hb1:(ys.length + 1) * 96 ≤ 140737488355328:=by omega
    have he:ys.length * 8 + 1 + 1 + 1 + 1 + 1 + 1 + 1 + 1 = (ys.length + 1) * 8:=by omega
    have ht:List.take ((ys.length + 1) * 8) (pi y.Prefix.Addr :: pi y.Prefix.Len :: pi y.Attrs.Origin :: rd k y.Attrs.Path.length (y.Attrs.Path.map pi) :: pi y.Attrs.Next :: pi y.Attrs.Med :: pi y.Attrs.Pref :: rd k y.Attrs.Comms.length (y.Attrs.Comms.map pi) :: ys.flatMap (GRoute.ci k)) = (pi y.Prefix.Addr :: pi y.Prefix.Len :: pi y.Attrs.Origin :: rd k y.Attrs.Path.length (y.Attrs.Path.map pi) :: pi y.Attrs.Next :: pi y.Attrs.Med :: pi y.Attrs.Pref :: rd k y.Attrs.Comms.length (y.Attrs.Comms.map pi) :: ys.flatMap (GRoute.ci k)):=GRoute.tkRi k (y :: ys)
    simp [hb1,hb2,he,ht]
structure GOffer where
  Peer:Int
  Attrs:GAttrs
  deriving DecidableEq
def GOffer.co (x:GOffer):List PT:=[pi x.Peer,pi x.Attrs.Origin,.sl 0 3 x.Attrs.Path.length (x.Attrs.Path.map pi),pi x.Attrs.Next,pi x.Attrs.Med,pi x.Attrs.Pref,.sl 0 3 x.Attrs.Comms.length (x.Attrs.Comms.map pi)]
def GOffer.ci (k:Nat) (x:GOffer):List PT:=[pi x.Peer,pi x.Attrs.Origin,rd k x.Attrs.Path.length (x.Attrs.Path.map pi),pi x.Attrs.Next,pi x.Attrs.Med,pi x.Attrs.Pref,rd k x.Attrs.Comms.length (x.Attrs.Comms.map pi)]
attribute [simp] GOffer.co GOffer.ci
theorem GOffer.un1 (x:GOffer):PT.unownL x.co = x.ci 0:=by simp [rd]
theorem GOffer.uni1 (k:Nat) (x:GOffer):PT.unownL (x.ci k) = x.ci 0:=by simp [rd]
theorem GOffer.un (xs:List GOffer):PT.unownL (xs.flatMap GOffer.co) = xs.flatMap (GOffer.ci 0):=by
  rw [unownL_fm]
  congr 1
  funext x
  exact GOffer.un1 x
theorem GOffer.uni (k:Nat) (xs:List GOffer):PT.unownL (xs.flatMap (GOffer.ci k)) = xs.flatMap (GOffer.ci 0):=by
  rw [unownL_fm]
  congr 1
  funext x
  exact GOffer.uni1 k x
theorem GOffer.nt (xs:List GOffer):PT.noTmpL (xs.flatMap GOffer.co) = true:=noTmpL_fm _ xs fun x => by simp
theorem GOffer.nti (k:Nat) (xs:List GOffer):PT.noTmpL (xs.flatMap (GOffer.ci (k + 1))) = true:=noTmpL_fm _ xs fun x => by simp [rd]
attribute [simp] GOffer.un GOffer.uni GOffer.nt GOffer.nti
theorem GOffer.lenR (xs:List GOffer):(xs.flatMap GOffer.co).length = xs.length * 7:=fm_len _ 7 (fun _ => rfl) xs
theorem GOffer.lenRi (k:Nat) (xs:List GOffer):(xs.flatMap (GOffer.ci k)).length = xs.length * 7:=fm_len _ 7 (fun _ => rfl) xs
theorem GOffer.tkR (xs:List GOffer):(xs.flatMap GOffer.co).take (xs.length * 7) = xs.flatMap GOffer.co:=List.take_of_length_le (by rw [GOffer.lenR]; exact Nat.le_refl _)
theorem GOffer.tkRi (k:Nat) (xs:List GOffer):(xs.flatMap (GOffer.ci k)).take (xs.length * 7) = xs.flatMap (GOffer.ci k):=List.take_of_length_le (by rw [GOffer.lenRi]; exact Nat.le_refl _)
attribute [simp high] GOffer.lenR GOffer.tkR GOffer.lenRi GOffer.tkRi
def GOffer.wt (x:GOffer):Nat:=GAttrs.wt x.Attrs
def GOffer.fits (x:GOffer):Prop:=GAttrs.fits x.Attrs
def GOffer.lens (x:GOffer):Prop:=GAttrs.lens x.Attrs
def GOffer.mark (x:GOffer) (k:Int):GOffer × Int:=(⟨k,⟨(k + 1),(mk_IntS x.Attrs.Path ((k + 1) + 1)).1,(mk_IntS x.Attrs.Path ((k + 1) + 1)).2,((mk_IntS x.Attrs.Path ((k + 1) + 1)).2 + 1),(((mk_IntS x.Attrs.Path ((k + 1) + 1)).2 + 1) + 1),(mk_IntS x.Attrs.Comms ((((mk_IntS x.Attrs.Path ((k + 1) + 1)).2 + 1) + 1) + 1)).1⟩⟩,(mk_IntS x.Attrs.Comms ((((mk_IntS x.Attrs.Path ((k + 1) + 1)).2 + 1) + 1) + 1)).2)
def GOffer.cn (x:GOffer):Nat:=1 + 1 + cn_IntS x.Attrs.Path + 1 + 1 + 1 + cn_IntS x.Attrs.Comms
theorem GOffer.mark_snd (x:GOffer) (k:Int):(GOffer.mark x k).2 = k + GOffer.cn x:=by
  simp only [GOffer.mark,GOffer.cn,mk_IntS_snd] <;> omega
def yldV (l:Nat):Value:=.func (.yield l) #[] #[]
theorem chunk_int_in (C:List PT) (N k' l n:Nat) (x y:Addr) (I:Nat → Nat → Prop) (J:Nat → World → Prop) (W:World) (hn:N ≤ 1000000) (hC:C.length = N * 1)
    (hcx:ImL W I 1 (some x) 0 [rd k' N C]) (hcy:ImL W I 1 (some y) 0 [pi 10]) (hI:∀ k b,I k b → b < W.heap.size)
    (hJb:∀ i W',J i W' → W.heap.size ≤ W'.heap.size ∧ ∀ k b,I k b → W'.heap[b]? = W.heap[b]?)
    (hJg:∀ i W1 W2,J i W1 → RowKit.Below W1.heap.size W1 W2 → W1.drawn ≤ W2.drawn → J i W2)
    (hY:∀ (i:Nat) (hi:i < (N + 9) / 10) (W1:World) (va:Value),J i W1 → (∀ L,SVR (tsz Try.prog) L W1 I va (.t (rd k' (minN N i) ((C.drop (i * 10 * 1)).take (minN N i * 1))))) → YieldAt (wideR none) n Try.prog l #[va] W1 fun e W' => e = .returned (.bool true) ∧ J (i + 1) W')
    (hJ0:J 0 W) :
    CallsIn (wideR none) (n + 1) Try.prog 51 #[yldV l,.pointer (some x),.pointer (some y)] W fun e W' => (∃ v,e = .returned v) ∧ J ((N + 9) / 10) W':=by
  refine callsIn_of_wp Try.func51 rfl trivial ?_ rfl
  generalize hA:(⟨#[yldV l,.pointer (some x),.pointer (some y)] ++ Array.replicate (Try.f51.ntmps - (#[yldV l,Value.pointer (some x),Value.pointer (some y)]:Array Value).size) undef,[]⟩:Act) = a0
  have hsz:a0.tmps.toList.length = 31:=by subst hA; simp [Try.ntmps51]
  have hd0:a0.defers = []:=by subst hA; rfl
  have h0':a0.tmps.toList[0]? = some (yldV l):=by subst hA; simp
  have h1':a0.tmps.toList[1]? = some (.pointer (some x)):=by subst hA; simp
  have h2':a0.tmps.toList[2]? = some (.pointer (some y)):=by subst hA; simp
  have hs0:SimI (tsz Try.prog) I (slOf 31 [(0,.t (.raw (yldV l))),(1,.ip 1 [rd k' N C]),(2,.ip 1 [pi 10])]) a0 W:=by
    refine SimI.mk hI hd0 (SVRL.of_slOf hsz ?_)
    intro z hz
    simp only [List.mem_cons,List.not_mem_nil,or_false] at hz
    rcases hz with rfl | rfl | rfl
    · exact ⟨_,h0',by simp only [SVR,Im]⟩
    · exact ⟨_,h1',by simp only [SVR]; exact ⟨x,rfl,hcx⟩⟩
    · exact ⟨_,h2',by simp only [SVR]; exact ⟨y,rfl,hcy⟩⟩
  refine wpIn_seq ?_
  refine regT [] [0,1,2,4] [] ⟨slOf 31 [(0,.t (.raw (yldV l))),(1,.ip 1 [rd k' N C]),(2,.ip 1 [pi 10]),(4,.t (pi 0))],ofL []⟩ h0 hs0 (by kernel_rfl) ?_ ?_
  · intro K hK
    simp
    refine hK _ ?_
    simp
  · intro a1 w1 L1 hs1
    refine wpIn_block ?_
    refine wpIn_loop (fun a w => ∃ i p:Nat,i ≤ (N + 9) / 10 ∧ p = i * 10 ∧ J i w ∧ SimI (tsz Try.prog) I (slOf 31 [(0,.t (.raw (yldV l))),(1,.ip 1 [rd k' N C]),(2,.ip 1 [pi 10]),(4,.t (pi p))]) a w) (fun a _ => muC ((N + 9) / 10 * 10) a) ⟨0,0,Nat.zero_le _,rfl,hJg 0 W w1 hJ0 hs1.keeps.below hs1.keeps.drawn,hs1.toI⟩ ?_
    rintro a w ⟨i,p,hi,hpi,hJ,hs2⟩
    have hmu:∀ (a:Act) (w:World) (p:Nat),SimI (tsz Try.prog) I (slOf 31 [(0,.t (.raw (yldV l))),(1,.ip 1 [rd k' N C]),(2,.ip 1 [pi 10]),(4,.t (pi p))]) a w → muC ((N + 9) / 10 * 10) a = (N + 9) / 10 * 10 - p:=by
      intro a w p hs2
      obtain ⟨u4,q4,r4⟩:=Sim.slot (i:=4) hs2 (by decide)
      have r4':SVR (tsz Try.prog) (fun _ => none) w I u4 (.t (pi p)):=r4
      simp only [SVR,Im] at r4'
      unfold muC
      rw [q4,r4']
      simp only [Int.toNat_natCast]
    rw [hmu a w p hs2]
    refine wpIn_seq (wpIn_seq ?_)
    refine regT [] [0,1,2,4,9] [] ⟨slOf 31 [(0,.t (.raw (yldV l))),(1,.ip 1 [rd k' N C]),(2,.ip 1 [pi 10]),(4,.t (pi p)),(9,.t (pb (decide (p < N))))],ofL []⟩ h0 hs2 (by kernel_rfl) (by
      intro K hK
      simp
      refine hK _ ?_
      simp) ?_
    intro a3 w3 L3 hs3
    have hJ3:=hJg i w w3 hJ hs3.keeps.below hs3.keeps.drawn
    have hs3':=hs3.toI
    obtain ⟨u9,q9,r9⟩:=Sim.slot (i:=9) hs3' (by decide)
    have r9':SVR (tsz Try.prog) (fun _ => none) w3 I u9 (.t (pb (decide (p < N)))):=r9
    simp only [SVR,Im] at r9'
    have hc:a3.eval (.tmp 9) = .bool (decide (p < N)):=by
      simp only [Act.eval,Array.getD_eq_getD_getElem?,q9,r9',Option.getD_some]
    by_cases hlt:p < N
    · rw [decide_eq_true hlt] at hc
      refine wpIn_cond_true hc (wpIn_skip ?_)
      have hi2:i < (N + 9) / 10:=by omega
      refine wpIn_seq ?_
      refine wpIn_block ?_
      refine wpIn_seq ?_
      have hple:p ≤ N:=by omega
      have hmle:p + minN N i ≤ N:=by unfold minN; omega
      have hmn:(if ((N - p:Nat):Int) < 10 then ((N - p:Nat):Int) else 10) = (minN N i:Nat):=by unfold minN; split <;> omega
      refine codeT [0,1,2,4,5] [] ⟨slOf 31 [(0,.t (.raw (yldV l))),(1,.ip 1 [rd k' N C]),(2,.ip 1 [pi 10]),(4,.t (pi p)),(5,.t (pi (minN N i)))],ofL []⟩ hs3' (by
        intro K hK
        refine drawP (tabEnv [] []) [⟨[],allD 31,true⟩,⟨[],allD 31,true⟩,⟨[],allD 31,true⟩,⟨[],allD 31,true⟩,⟨[],allD 31,true⟩,⟨[],allD 31,true⟩,⟨[],allD 31,true⟩] h0 hm (tabEnv_ok tab_nil) (by kernel_rfl) (by kernel_rfl) ?_
        simp [hlt,hple]
        refine hK _ ?_
        simp [hmn]) ?_
      intro a4 w4 L4 hs4
      have hs4':=hs4.toI
      have hJ4:=hJg i w3 w4 hJ3 hs4.keeps.below hs4.keeps.drawn
      refine wpIn_seq ?_
      obtain ⟨m,hme⟩:∃ m,m = minN N i:=⟨_,rfl⟩
      rw [← hme] at hs4' hmle
      have hw:IntKind.i64.wrap ((p:Int) + m) = ((p + m:Nat):Int):=wrap64 (by omega) (by omega)
      refine regP [] 10 [0,1,2,4,19,28] [] ⟨slOf 31 [(0,.t (.raw (yldV l))),(1,.ip 1 [rd k' N C]),(2,.ip 1 [pi 10]),(4,.t (pi p)),(19,.t (.raw (yldV l))),(28,.t (rd k' m ((C.drop (p * 1)).take (m * 1))))],ofL []⟩ h0 hs4' (by decide) (by kernel_rfl) (by
        intro K hK
        obtain ⟨q,hq⟩:∃ q,q = p + m:=⟨_,rfl⟩
        rw [← hq] at hw hmle
        have hpq:p ≤ q:=by omega
        have hqm:q - p = m:=by omega
        simp [hw,hmle,hpq,hple,stCut3]
        refine hK _ ?_
        simp [hqm]) ?_
      intro a5 w5 L5 hs5
      have hJ5:=hJg i w3 w5 hJ3 (hs4.keeps.below.trans (hs5.keeps.below.mono hs4.keeps.size)) (Nat.le_trans hs4.keeps.drawn hs5.keeps.drawn)
      have hs5':=hs5.toI
      obtain ⟨u19,q19,r19⟩:=Sim.slot (i:=19) hs5' (by decide)
      have r19':SVR (tsz Try.prog) (fun _ => none) w5 I u19 (.t (.raw (yldV l))):=r19
      simp only [SVR,Im] at r19'
      obtain ⟨u28,q28,r28⟩:=Sim.slot (i:=28) hs5' (by decide)
      have r28':SVR (tsz Try.prog) (fun _ => none) w5 I u28 (.t (rd k' m ((C.drop (p * 1)).take (m * 1)))):=r28
      have e19:a5.eval (.tmp 19) = .func (.yield l) #[] #[]:=by
        simp only [Act.eval,Array.getD_eq_getD_getElem?,q19,r19',Option.getD_some,yldV]
      have e28:a5.eval (.tmp 28) = u28:=by
        simp only [Act.eval,Array.getD_eq_getD_getElem?,q28,Option.getD_some]
      obtain ⟨fn,tm,asg,bdy,hy,hR⟩:=hY i hi2 w5 u28 hJ5 (fun L => by rw [← hme,← hpi]; simpa only [SVR] using r28')
      refine wpOpsIn_one (i:=10) (rest:=[11]) rfl rfl (yieldOp rfl rfl rfl e19 ⟨fn,tm,asg,bdy,by rw [e28]; exact hy,hR.mono ?_⟩)
      rintro e w6 ⟨rfl,hJ6⟩
      refine ⟨rfl,?_⟩
      obtain ⟨g1,g2⟩:=hJb i w5 hJ5
      obtain ⟨g3,g4⟩:=hJb (i + 1) w6 hJ6
      have hs6:=SimI.later hs5' (w':=w6) (fun k b hb => (g4 k b hb).trans (g2 k b hb).symm) (fun k b hb => Nat.lt_of_lt_of_le (hI k b hb) g3)
      have hs7:=Sim.put hs6 (some 29) (v:=.bool true) (s:=.t (pb true)) (by simp only [SVR,Im])
      have hs8:SimI (tsz Try.prog) I (slOf 31 [(0,.t (.raw (yldV l))),(1,.ip 1 [rd k' N C]),(2,.ip 1 [pi 10]),(4,.t (pi p)),(29,.t (pb true))]) (a5.put (some 29) (.bool true)) w6:=by
        obtain ⟨L8,h8⟩:=hs7.lose [0,1,2,4,29] []
        have e8:St.drop ⟨(slOf 31 [(0,.t (.raw (yldV l))),(1,.ip 1 [rd k' N C]),(2,.ip 1 [pi 10]),(4,.t (pi p)),(19,.t (.raw (yldV l))),(28,.t (rd k' m ((C.drop (p * 1)).take (m * 1))))]).set 29 (.t (pb true)),ofL []⟩ [0,1,2,4,29] [] = ⟨slOf 31 [(0,.t (.raw (yldV l))),(1,.ip 1 [rd k' N C]),(2,.ip 1 [pi 10]),(4,.t (pi p)),(29,.t (pb true))],ofL []⟩:=by
          simp
        simp only at h8
        rw [e8] at h8
        exact h8.toI
      refine opsT (id:=4) [] 11 [0,1,2,4,30] [] ⟨slOf 31 [(0,.t (.raw (yldV l))),(1,.ip 1 [rd k' N C]),(2,.ip 1 [pi 10]),(4,.t (pi p)),(30,.t (pb false))],ofL []⟩ h0 hs8 (by kernel_rfl) (by
        intro K hK
        simp
        refine hK _ ?_
        simp) ?_
      intro a9 w9 L9 hs9
      have hJ9:=hJg (i + 1) w6 w9 hJ6 hs9.keeps.below hs9.keeps.drawn
      have hs9':=hs9.toI
      obtain ⟨u30,q30,r30⟩:=Sim.slot (i:=30) hs9' (by decide)
      have r30':SVR (tsz Try.prog) (fun _ => none) w9 I u30 (.t (pb false)):=r30
      simp only [SVR,Im] at r30'
      have hc9:a9.eval (.tmp 30) = .bool false:=by
        simp only [Act.eval,Array.getD_eq_getD_getElem?,q30,r30',Option.getD_some]
      refine wpIn_cond_false hc9 (wpIn_skip ?_)
      have wi:IntKind.i64.wrap ((p:Int) + 10) = ((p + 10:Nat):Int):=wrap64 (by omega) (by omega)
      refine regT [] [0,1,2,4] [] ⟨slOf 31 [(0,.t (.raw (yldV l))),(1,.ip 1 [rd k' N C]),(2,.ip 1 [pi 10]),(4,.t (pi ((p + 10:Nat):Int)))],ofL []⟩ h0 hs9' (by kernel_rfl) (by
        intro K hK
        simp [wi]
        refine hK _ ?_
        simp) ?_
      intro aA wA LA hsA
      have hsA':=hsA.toI
      refine ⟨⟨i + 1,p + 10,by omega,by omega,hJg (i + 1) w9 wA hJ9 hsA.keeps.below hsA.keeps.drawn,hsA'⟩,?_⟩
      rw [hmu aA wA (p + 10) hsA']
      omega
    · rw [decide_eq_false hlt] at hc
      refine wpIn_cond_false hc (wpIn_exit ?_)
      have hi':i = (N + 9) / 10:=by omega
      subst hi'
      simp only [Exit.then,Exit.inBlock,if_true]
      exact ⟨hs3'.nodef,_,results_none rfl _ _ _,⟨_,rfl⟩,hJ3⟩
theorem ok_Chunk_int (k N:Nat) (C:List PT):CallOK Try.prog 24 [.c (rd k N C),.c (pi 10)] (.clo 51 [.sl 0 37 1 [rd k N C],.sl 0 3 1 [pi 10]]) [.c (rd k N C),.c (pi 10)]:=by
  refine okC (fn:=Try.f24) 51 h0 Try.func24 (by kernel_rfl) rfl Try.ntmps24 Try.results24 (by simp) ?_
  refine ewr_sound (M:=[]) h0 ?_
  simp
  rfl
theorem chunk_int_cf (args:Array Value) (w:World):(callFunc 51 args).run Try.prog w = .ok (.enter 51 args) w:=by
  have h1 : Try.f51.name ≠ "runtime.NumGoroutine" := by
    have : (Try.f51.name == "runtime.NumGoroutine") = false := by kernel_rfl
    simpa using this
  simp only [callFunc,Try.func51]
  simp [h1]
  intro hb
  cases hb
end Go.V
