/- What functions of the seat's program do, each proved of its code, under the bounds that its theorem names. -/
import Derived.Test.YtcdlflmppicdjaaTab
set_option linter.all false
namespace Go.V
open Go.Proofs
set_option maxHeartbeats 1000000
set_option maxRecDepth 10000
set_option linter.unusedSimpArgs false
set_option linter.unusedVariables false
theorem ok_iGoodRoutes (k : Nat) (l : List GRoute) (hl : routesOK l) : CallOK Try.prog 19 [.c (rd k l.length (l.flatMap (GRoute.ci k)))] (.c (pb (goodRs l))) [.c (rd k l.length (l.flatMap (GRoute.ci k)))] := by
  obtain ⟨hll, hlx⟩ := hl
  refine okS (fn := Try.f19) [] h0 Try.func19 (by kernel_rfl) rfl Try.ntmps19 Try.results19 (by simp) ?_
  simp
  refine loopS [0, 5, 6, 7] [] (fun n st => ∃ (i : Nat), i + n = l.length ∧ routesG (prevR l i) (l.drop i) = routesG none l ∧ st = ⟨slOf 35 [(0, .t (rd k l.length (l.flatMap (GRoute.ci k)))), (5, .t (rd k l.length (l.flatMap (GRoute.ci k)))), (6, .t (pi l.length)), (7, .t (pi i))], ofL []⟩) l.length ?_ ?_
  · rintro Inv hI
    simp
    subst hI
    exact ⟨0, by omega, rfl, rfl⟩
  · rintro Inv hI n st ⟨i, hi, hg, rfl⟩
    refine ewr_sound (M := []) h0 ?_
    simp
    refine brn_app (fun a => ?_) (fun a => ?_)
    · simp at a
      have hx := hlx l[i] (List.getElem_mem a)
      rw [drop_step _ i a, routesG] at hg
      have hd := fm_drop (GRoute.ci k) 8 (fun _ => rfl) l i a
      have hlen := fm_len (GRoute.ci k) 8 (fun _ => rfl) l
      have hlt : i * 8 < l.length * 8 := by omega
      have en : prevR l (i + 1) = some l[i] := prevR_next l i a
      simp [a, hd, hlen, hlt]
      have hR := ok_iGoodRoute k l[i] hx
      by_cases c0 : i = 0
      · have e0 : ¬ 0 < i := by omega
        have ep : prevR l i = none := by simp [prevR, c0]
        rw [ep, adjR, Bool.and_true] at hg
        refine drawP (tabEnv [] _) [⟨[.op 3 3 0], allD 35, true⟩, ⟨[], allD 35, false⟩, ⟨[], allD 35, true⟩, ⟨[], allD 35, true⟩, ⟨[], allD 35, true⟩, ⟨[], allD 35, true⟩, ⟨[], allD 35, true⟩, ⟨[], allD 35, true⟩, ⟨[], allD 35, true⟩, ⟨[], allD 35, true⟩, ⟨[], allD 35, true⟩, ⟨[], allD 35, true⟩, ⟨[], allD 35, true⟩, ⟨[.op 3 3 0], allD 35, true⟩, ⟨[.op 3 3 0], allD 35, true⟩, ⟨[], allD 35, false⟩, ⟨[], allD 35, true⟩, ⟨[], allD 35, true⟩, ⟨[], allD 35, true⟩] h0 hm (tabEnv_ok (tab_cons hR tab_nil)) (by kernel_rfl) (by kernel_rfl) ?_
        cases c1 : goodR l[i] with
        | false =>
          rw [c1, Bool.false_and] at hg
          simp [c1, goodRs, ← hg]
        | true =>
          rw [c1, Bool.true_and] at hg
          simp [c1, e0]
          subst hI
          exact Less_mk (n - 1) (by omega) ⟨i + 1, by omega, by rw [en]; exact hg, by rw [wrNext i (by omega)]⟩
      · obtain ⟨j, hj⟩ : ∃ j, i = j + 1 := ⟨i - 1, by omega⟩
        have aj : j < l.length := by omega
        have ep : prevR l i = some l[j] := by subst hj; exact prevR_next l j aj
        have hdj := fm_drop (GRoute.ci k) 8 (fun _ => rfl) l j aj
        have hltj : j * 8 < l.length * 8 := by omega
        have hw : IntKind.wrap .i64 ((i : Int) - 1) = j := (wrap64 (by omega) (by omega)).trans (by omega)
        have e0 : 0 < i := by omega
        rw [ep, adjR] at hg
        refine drawP (tabEnv [] _) [⟨[.op 3 3 0], allD 35, true⟩, ⟨[], allD 35, false⟩, ⟨[], allD 35, true⟩, ⟨[], allD 35, true⟩, ⟨[], allD 35, true⟩, ⟨[], allD 35, true⟩, ⟨[], allD 35, true⟩, ⟨[], allD 35, true⟩, ⟨[], allD 35, true⟩, ⟨[], allD 35, true⟩, ⟨[], allD 35, true⟩, ⟨[], allD 35, true⟩, ⟨[], allD 35, true⟩, ⟨[.op 3 3 0], allD 35, true⟩, ⟨[.op 3 3 0], allD 35, true⟩, ⟨[], allD 35, false⟩, ⟨[], allD 35, true⟩, ⟨[], allD 35, true⟩, ⟨[], allD 35, true⟩] h0 hm (tabEnv_ok (tab_cons hR (tab_cons (ok_compare l[j].Prefix l[i].Prefix) tab_nil))) (by kernel_rfl) (by kernel_rfl) ?_
        cases c1 : goodR l[i] with
        | false =>
          rw [c1, Bool.false_and, Bool.false_and] at hg
          simp [c1, goodRs, ← hg]
        | true =>
          rw [c1, Bool.true_and] at hg
          by_cases c2 : cmpPx l[j].Prefix l[i].Prefix < 0
          · have c3 : ¬ 0 ≤ cmpPx l[j].Prefix l[i].Prefix := by omega
            rw [decide_eq_true c2, Bool.true_and] at hg
            simp [c1, e0, hw, aj, hdj, hlen, hltj, c3]
            subst hI
            exact Less_mk (n - 1) (by omega) ⟨i + 1, by omega, by rw [en]; exact hg, by rw [wrNext i (by omega)]⟩
          · have c3 : 0 ≤ cmpPx l[j].Prefix l[i].Prefix := by omega
            rw [decide_eq_false c2, Bool.false_and] at hg
            simp [c1, e0, hw, aj, hdj, hlen, hltj, c3, goodRs, ← hg]
    · simp at a
      rw [List.drop_of_length_le (by omega), routesG] at hg
      simp [goodRs, ← hg]
      omega
theorem ok_sGoodAttrs (k : Nat) (x : GAttrs) (hx : attrOK x) : CallOK Try.prog 102 [.agg (GAttrs.ci k x)] (.c (pb (goodA x))) [.agg (GAttrs.ci k x)] := by
  obtain ⟨h1, h2⟩ := hx
  refine okS (fn := Try.f102) [] h0 Try.func102 (by kernel_rfl) rfl Try.ntmps102 Try.results102 (by simp) ?_
  simp
  refine loopS [1, 8, 9, 10] [.op 0 0 0] (fun n st => ∃ (i : Nat), i + n = x.Path.length ∧ (x.Path.drop i).all isAsnB = x.Path.all isAsnB ∧ st = ⟨slOf 74 [(1, .ptr ⟨.op 0 0 0, []⟩ 0), (8, .t (rd k x.Path.length (x.Path.map pi))), (9, .t (pi x.Path.length)), (10, .t (pi i))], ofL [(.op 0 0 0, .sl 0 78 1 (GAttrs.ci k x))]⟩) x.Path.length ?_ ?_
  · rintro Inv hI
    simp
    subst hI
    exact ⟨0, by omega, rfl, rfl⟩
  · rintro Inv hI n st ⟨i, hi, hg, rfl⟩
    refine ewr_sound (M := []) h0 ?_
    simp
    refine brn_app (fun a => ?_) (fun a => ?_)
    · simp at a
      rw [drop_step _ i a, List.all_cons] at hg
      simp [a]
      refine Inv_intro (ok_l1In _ _ _) ?_
      by_cases c : 1 ≤ x.Path[i] ∧ x.Path[i] ≤ 65535
      · have c' : isAsnB x.Path[i] = true := inR_t c
        rw [c', Bool.true_and] at hg
        simp [c]
        subst hI
        exact Less_mk (n - 1) (by omega) ⟨i + 1, by omega, hg, by rw [wrNext i (by omega)]; rfl⟩
      · have c' : isAsnB x.Path[i] = false := by simp only [isAsnB, inR, decide_eq_false_iff_not]; exact c
        rw [c', Bool.false_and] at hg
        simp [c, goodA, goodPa, ← hg]
    · simp at a
      rw [List.drop_of_length_le (by omega), List.all_nil] at hg
      simp
      refine loopS [1, 19, 20, 21] [.op 0 0 0] (fun n st => ∃ (i : Nat), i + n = x.Comms.length ∧ commsG (prevI x.Comms i) (x.Comms.drop i) = commsG none x.Comms ∧ st = ⟨slOf 74 [(1, .ptr ⟨.op 0 0 0, []⟩ 0), (19, .t (rd k x.Comms.length (x.Comms.map pi))), (20, .t (pi x.Comms.length)), (21, .t (pi i))], ofL [(.op 0 0 0, .sl 0 78 1 (GAttrs.ci k x))]⟩) x.Comms.length ?_ ?_
      · rintro Inv hI
        simp
        subst hI
        exact ⟨0, by omega, rfl, rfl⟩
      · rintro Inv hI n st ⟨i, hi, hc, rfl⟩
        refine ewr_sound (M := []) h0 ?_
        simp
        refine brn_app (fun a => ?_) (fun a => ?_)
        · simp at a
          rw [drop_step _ i a, commsG] at hc
          have en : prevI x.Comms (i + 1) = some x.Comms[i] := prevI_next x.Comms i a
          simp [a]
          refine Inv_intro (ok_l1In _ _ _) ?_
          by_cases c1 : 0 ≤ x.Comms[i] ∧ x.Comms[i] ≤ 1000000
          · have c1' : isValB x.Comms[i] = true := inR_t c1
            rw [c1', Bool.true_and] at hc
            by_cases c0 : i = 0
            · have e0 : ¬ 0 < i := by omega
              have ep : prevI x.Comms i = none := by simp [prevI, c0]
              rw [ep, adjI, Bool.true_and] at hc
              simp [c1, e0]
              subst hI
              exact Less_mk (n - 1) (by omega) ⟨i + 1, by omega, by rw [en]; exact hc, by rw [wrNext i (by omega)]; rfl⟩
            · obtain ⟨j, hj⟩ : ∃ j, i = j + 1 := ⟨i - 1, by omega⟩
              have aj : j < x.Comms.length := by omega
              have ep : prevI x.Comms i = some x.Comms[j] := by subst hj; exact prevI_next x.Comms j aj
              have hw : IntKind.wrap .i64 ((i : Int) - 1) = j := (wrap64 (by omega) (by omega)).trans (by omega)
              have e0 : 0 < i := by omega
              rw [ep, adjI] at hc
              simp [c1, e0, hw, aj]
              refine brn_app (fun c => ?_) (fun c => ?_)
              · simp at c
                have c' : ¬ x.Comms[j] < x.Comms[i] := by omega
                simp [c'] at hc
                simp [goodA, goodCm, hc]
              · simp at c
                have c' : x.Comms[j] < x.Comms[i] := by omega
                simp [c'] at hc
                simp
                subst hI
                exact Less_mk (n - 1) (by omega) ⟨i + 1, by omega, by rw [en]; exact hc, by rw [wrNext i (by omega)]; rfl⟩
          · have c1' : isValB x.Comms[i] = false := by simp only [isValB, inR, decide_eq_false_iff_not]; exact c1
            rw [c1', Bool.false_and, Bool.false_and] at hc
            simp [c1, goodA, goodCm, ← hc]
        · simp at a
          rw [List.drop_of_length_le (by omega), commsG] at hc
          simp
          refine Inv_intro (ok_l1In _ _ _) ?_
          by_cases c1 : 0 ≤ x.Origin ∧ x.Origin ≤ 2
          · simp [c1]
            by_cases c2 : x.Path.length ≤ 10
            · have c2' : (x.Path.length : Int) ≤ 10 := by omega
              simp [c2']
              refine Inv_intro (ok_l1Addr _) ?_
              cases c3 : inR x.Next 0 4294967295 with
              | false => simp [goodA, c3]
              | true =>
                simp
                refine Inv_intro (ok_l1In _ _ _) ?_
                by_cases c4 : 0 ≤ x.Med ∧ x.Med ≤ 1000000
                · simp [c4]
                  refine Inv_intro (ok_l1In _ _ _) ?_
                  by_cases c5 : 0 ≤ x.Pref ∧ x.Pref ≤ 1000000
                  · have c4' : isValB x.Med = true := inR_t c4
                    have c5' : isValB x.Pref = true := inR_t c5
                    have hp : goodPa x.Path = true := by simp [goodPa, c2, ← hg]
                    have hcm : goodCm x.Comms = decide ((x.Comms.length : Int) ≤ 6) := by
                      simp only [goodCm, ← hc, Bool.true_and]
                      exact decide_eq_decide.2 (by omega)
                    simp [c5, goodA, c3, c4', c5', hp, hcm, inR_t c1]
                  · have c5' : isValB x.Pref = false := by simp only [isValB, inR, decide_eq_false_iff_not]; exact c5
                    simp [c5, goodA, c5']
                · have c4' : isValB x.Med = false := by simp only [isValB, inR, decide_eq_false_iff_not]; exact c4
                  simp [c4, goodA, c4']
            · have c2' : ¬ (x.Path.length : Int) ≤ 10 := by omega
              simp [c2', goodA, goodPa, c2]
          · have c1' : inR x.Origin 0 2 = false := by simp only [inR, decide_eq_false_iff_not]; exact c1
            simp [c1, goodA, c1']
theorem ok_sGoodRoute (k : Nat) (r : GRoute) (hx : attrOK r.Attrs) : CallOK Try.prog 51 [.agg (GRoute.ci k r)] (.c (pb (goodR r))) [.agg (GRoute.ci k r)] := by
  refine okS (fn := Try.f51) [] h0 Try.func51 (by kernel_rfl) rfl Try.ntmps51 Try.results51 (by simp) ?_
  simp
  refine Inv_intro (ok_sGoodPrefix r.Prefix) ?_
  cases c1 : goodPx r.Prefix with
  | false => simp [goodR, c1]
  | true =>
    simp
    refine Inv_intro (ok_sGoodAttrs k r.Attrs hx) ?_
    simp [goodR, c1]
theorem ok_sGoodRoutes (k : Nat) (l : List GRoute) (hl : routesOK l) : CallOK Try.prog 17 [.c (rd k l.length (l.flatMap (GRoute.ci k)))] (.c (pb (goodRs l))) [.c (rd k l.length (l.flatMap (GRoute.ci k)))] := by
  obtain ⟨hll, hlx⟩ := hl
  refine okS (fn := Try.f17) [] h0 Try.func17 (by kernel_rfl) rfl Try.ntmps17 Try.results17 (by simp) ?_
  simp
  refine loopS [0, 5, 6, 7] [] (fun n st => ∃ (i : Nat), i + n = l.length ∧ routesG (prevR l i) (l.drop i) = routesG none l ∧ st = ⟨slOf 35 [(0, .t (rd k l.length (l.flatMap (GRoute.ci k)))), (5, .t (rd k l.length (l.flatMap (GRoute.ci k)))), (6, .t (pi l.length)), (7, .t (pi i))], ofL []⟩) l.length ?_ ?_
  · rintro Inv hI
    simp
    subst hI
    exact ⟨0, by omega, rfl, rfl⟩
  · rintro Inv hI n st ⟨i, hi, hg, rfl⟩
    refine ewr_sound (M := []) h0 ?_
    simp
    refine brn_app (fun a => ?_) (fun a => ?_)
    · simp at a
      have hx := hlx l[i] (List.getElem_mem a)
      rw [drop_step _ i a, routesG] at hg
      have hd := fm_drop (GRoute.ci k) 8 (fun _ => rfl) l i a
      have hlen := fm_len (GRoute.ci k) 8 (fun _ => rfl) l
      have hlt : i * 8 < l.length * 8 := by omega
      have en : prevR l (i + 1) = some l[i] := prevR_next l i a
      simp [a, hd, hlen, hlt]
      have hR := ok_sGoodRoute k l[i] hx
      by_cases c0 : i = 0
      · have e0 : ¬ 0 < i := by omega
        have ep : prevR l i = none := by simp [prevR, c0]
        rw [ep, adjR, Bool.and_true] at hg
        refine drawP (tabEnv [] _) [⟨[.op 3 3 0], allD 35, true⟩, ⟨[], allD 35, false⟩, ⟨[], allD 35, true⟩, ⟨[], allD 35, true⟩, ⟨[], allD 35, true⟩, ⟨[], allD 35, true⟩, ⟨[], allD 35, true⟩, ⟨[], allD 35, true⟩, ⟨[], allD 35, true⟩, ⟨[], allD 35, true⟩, ⟨[], allD 35, true⟩, ⟨[], allD 35, true⟩, ⟨[], allD 35, true⟩, ⟨[.op 3 3 0], allD 35, true⟩, ⟨[.op 3 3 0], allD 35, true⟩, ⟨[], allD 35, false⟩, ⟨[], allD 35, true⟩, ⟨[], allD 35, true⟩, ⟨[], allD 35, true⟩] h0 hm (tabEnv_ok (tab_cons hR tab_nil)) (by kernel_rfl) (by kernel_rfl) ?_
        cases c1 : goodR l[i] with
        | false =>
          rw [c1, Bool.false_and] at hg
          simp [c1, goodRs, ← hg]
        | true =>
          rw [c1, Bool.true_and] at hg
          simp [c1, e0]
          subst hI
          exact Less_mk (n - 1) (by omega) ⟨i + 1, by omega, by rw [en]; exact hg, by rw [wrNext i (by omega)]⟩
      · obtain ⟨j, hj⟩ : ∃ j, i = j + 1 := ⟨i - 1, by omega⟩
        have aj : j < l.length := by omega
        have ep : prevR l i = some l[j] := by subst hj; exact prevR_next l j aj
        have hdj := fm_drop (GRoute.ci k) 8 (fun _ => rfl) l j aj
        have hltj : j * 8 < l.length * 8 := by omega
        have hw : IntKind.wrap .i64 ((i : Int) - 1) = j := (wrap64 (by omega) (by omega)).trans (by omega)
        have e0 : 0 < i := by omega
        rw [ep, adjR] at hg
        refine drawP (tabEnv [] _) [⟨[.op 3 3 0], allD 35, true⟩, ⟨[], allD 35, false⟩, ⟨[], allD 35, true⟩, ⟨[], allD 35, true⟩, ⟨[], allD 35, true⟩, ⟨[], allD 35, true⟩, ⟨[], allD 35, true⟩, ⟨[], allD 35, true⟩, ⟨[], allD 35, true⟩, ⟨[], allD 35, true⟩, ⟨[], allD 35, true⟩, ⟨[], allD 35, true⟩, ⟨[], allD 35, true⟩, ⟨[.op 3 3 0], allD 35, true⟩, ⟨[.op 3 3 0], allD 35, true⟩, ⟨[], allD 35, false⟩, ⟨[], allD 35, true⟩, ⟨[], allD 35, true⟩, ⟨[], allD 35, true⟩] h0 hm (tabEnv_ok (tab_cons hR (tab_cons (ok_l1Compare l[j].Prefix l[i].Prefix) tab_nil))) (by kernel_rfl) (by kernel_rfl) ?_
        cases c1 : goodR l[i] with
        | false =>
          rw [c1, Bool.false_and, Bool.false_and] at hg
          simp [c1, goodRs, ← hg]
        | true =>
          rw [c1, Bool.true_and] at hg
          by_cases c2 : cmpPx l[j].Prefix l[i].Prefix < 0
          · have c3 : ¬ 0 ≤ cmpPx l[j].Prefix l[i].Prefix := by omega
            rw [decide_eq_true c2, Bool.true_and] at hg
            simp [c1, e0, hw, aj, hdj, hlen, hltj, c3]
            subst hI
            exact Less_mk (n - 1) (by omega) ⟨i + 1, by omega, by rw [en]; exact hg, by rw [wrNext i (by omega)]⟩
          · have c3 : 0 ≤ cmpPx l[j].Prefix l[i].Prefix := by omega
            rw [decide_eq_false c2, Bool.false_and] at hg
            simp [c1, e0, hw, aj, hdj, hlen, hltj, c3, goodRs, ← hg]
    · simp at a
      rw [List.drop_of_length_le (by omega), routesG] at hg
      simp [goodRs, ← hg]
      omega
theorem attr_ok {a : GAttrs} (h : GAttrs.wt a ≤ 1048576) : attrOK a := by
  unfold GAttrs.wt at h
  have h1 := len_wt_IntS a.Path
  have h2 := len_wt_IntS a.Comms
  exact ⟨by omega, by omega⟩
theorem route_ok {r : GRoute} (h : GRoute.wt r ≤ 1048576) : attrOK r.Attrs := attr_ok (by unfold GRoute.wt at h; omega)
theorem routes_ok {l : List GRoute} (h : wt_RouteS l ≤ 1048576) : routesOK l := by
  have := len_wt_RouteS l
  refine ⟨by omega, fun x hx => route_ok ?_⟩
  have := mem_wt_RouteS hx
  omega
def rGoodRoutes (v0 : List GRoute) : Bool := goodRs v0
theorem law_iGoodRoutes (v0 : List GRoute) (h0 : wt_RouteS v0 ≤ 1048576) : CallOK Try.prog 19 [.c (rd 0 v0.length (v0.flatMap (GRoute.ci 0)))] (.c (pb (rGoodRoutes v0))) [.c (rd 0 v0.length (v0.flatMap (GRoute.ci 0)))] := ok_iGoodRoutes 0 v0 (routes_ok h0)
theorem law_sGoodRoutes (v0 : List GRoute) (h0 : wt_RouteS v0 ≤ 1048576) : CallOK Try.prog 17 [.c (rd 0 v0.length (v0.flatMap (GRoute.ci 0)))] (.c (pb (rGoodRoutes v0))) [.c (rd 0 v0.length (v0.flatMap (GRoute.ci 0)))] := ok_sGoodRoutes 0 v0 (routes_ok h0)
theorem ok_l10Same (k k' : Nat) (xs ys : List Int) (ha : xs.length ≤ 140737488351232) (hb : ys.length ≤ 140737488351232) : CallOK Try.prog 152 [.c (rd k xs.length (xs.map pi)), .c (rd k' ys.length (ys.map pi))] (.c (pb (decide (xs = ys)))) [.c (rd k xs.length (xs.map pi)), .c (rd k' ys.length (ys.map pi))] := by
  refine okS (fn := Try.f152) [] h0 Try.func152 (by kernel_rfl) rfl Try.ntmps152 Try.results152 (by simp) ?_
  simp
  refine brn_app (fun h => ?_) (fun h => ?_)
  · simp at h
    simp
    rintro rfl
    exact h rfl
  · simp at h
    have hl : ys.length = xs.length := by omega
    simp
    refine loopS [0, 1, 12, 13] [] (fun n st => ∃ (i : Nat), i + n = xs.length ∧ (xs.drop i = ys.drop i ↔ xs = ys) ∧ st = ⟨slOf 26 [(0, .t (rd k xs.length (xs.map pi))), (1, .t (rd k' ys.length (ys.map pi))), (12, .t (pi xs.length)), (13, .t (pi i))], ofL []⟩) xs.length ?_ ?_
    · rintro Inv hI
      simp
      subst hI
      exact ⟨0, by omega, by simp, rfl⟩
    · rintro Inv hI n st ⟨i, hi, htk, rfl⟩
      refine ewr_sound (M := []) h0 ?_
      simp
      refine brn_app (fun h => ?_) (fun h => ?_)
      · simp at h
        have hib : i < ys.length := by omega
        rw [drop_step xs i h, drop_step ys i hib, List.cons.injEq] at htk
        simp
        refine drawP E0 [⟨[], allD 26, true⟩, ⟨[], allD 26, true⟩, ⟨[], allD 26, true⟩, ⟨[], allD 26, true⟩, ⟨[], allD 26, true⟩, ⟨[], allD 26, true⟩, ⟨[], allD 26, true⟩, ⟨[], allD 26, true⟩, ⟨[], allD 26, true⟩] h0 hm (E0_ok _) (by kernel_rfl) (by kernel_rfl) ?_
        simp [h, hib]
        refine brn_app (fun h2 => ?_) (fun h2 => ?_)
        · simp at h2
          simp
          intro he
          exact h2 (htk.2 he).1
        · simp at h2
          simp
          subst hI
          exact Less_mk (n - 1) (by omega) ⟨i + 1, by omega, ⟨fun h4 => htk.1 ⟨h2, h4⟩, fun h4 => (htk.2 h4).2⟩, by rw [wrNext i (by omega)]⟩
      · simp at h
        rw [List.drop_of_length_le (by omega), List.drop_of_length_le (by omega)] at htk
        simp
        exact htk.1 rfl
theorem attrs_ext2 (a b : GAttrs) : decide (a = b) = (decide (a.Origin = b.Origin) && (decide (a.Next = b.Next) && (decide (a.Med = b.Med) && (decide (a.Pref = b.Pref) && (decide (a.Path = b.Path) && decide (a.Comms = b.Comms)))))) := by
  rw [attrs_ext]
  cases decide (a.Path = b.Path) <;> simp
theorem ok_l13SameAttrs (k k' : Nat) (a b : GAttrs) (ha : attrOK a) (hb : attrOK b) : CallOK Try.prog 110 [.agg (GAttrs.ci k a), .agg (GAttrs.ci k' b)] (.c (pb (decide (a = b)))) [.agg (GAttrs.ci k a), .agg (GAttrs.ci k' b)] := by
  refine okS (fn := Try.f110) [] h0 Try.func110 (by kernel_rfl) rfl Try.ntmps110 Try.results110 (by simp) ?_
  rw [attrs_ext2]
  by_cases c1 : a.Origin = b.Origin
  · by_cases c3 : a.Next = b.Next
    · by_cases c4 : a.Med = b.Med
      · by_cases c5 : a.Pref = b.Pref
        · simp [c1, c3, c4, c5]
          refine Inv_intro (ok_l10Same k k' a.Path b.Path ha.1 hb.1) ?_
          by_cases c2 : a.Path = b.Path
          · simp [c2]
            refine Inv_intro (ok_l10Same k k' a.Comms b.Comms ha.2 hb.2) ?_
            simp
          · simp [c2]
        · simp [c1, c3, c4, c5]
      · simp [c1, c3, c4]
    · simp [c1, c3]
  · simp [c1]
theorem ok_l14Same (k k' : Nat) (a b : GRoute) (ha : attrOK a.Attrs) (hb : attrOK b.Attrs) : CallOK Try.prog 57 [.agg (GRoute.ci k a), .agg (GRoute.ci k' b)] (.c (pb (decide (a = b)))) [.agg (GRoute.ci k a), .agg (GRoute.ci k' b)] := by
  refine okS (fn := Try.f57) [] h0 Try.func57 (by kernel_rfl) rfl Try.ntmps57 Try.results57 (by simp) ?_
  have e : decide (a = b) = (decide (a.Prefix = b.Prefix) && decide (a.Attrs = b.Attrs)) := by
    cases a
    cases b
    simp
  have e2 : decide (a.Prefix = b.Prefix) = (decide (a.Prefix.Addr = b.Prefix.Addr) && decide (a.Prefix.Len = b.Prefix.Len)) := by
    cases a.Prefix
    cases b.Prefix
    simp
  rw [e, e2]
  by_cases c1 : a.Prefix.Addr = b.Prefix.Addr
  · by_cases c2 : a.Prefix.Len = b.Prefix.Len
    · simp [c1, c2]
      refine Inv_intro (ok_l13SameAttrs k k' a.Attrs b.Attrs ha hb) ?_
      simp
    · simp [c1, c2]
  · simp [c1]
def rSameRoutes (a b : List GRoute) : Bool × Bool := if (goodRs a && goodRs b) = true then (decide (a = b), true) else (false, false)
theorem law_iSameRoutes (v0 v1 : List GRoute) (hw0 : wt_RouteS v0 ≤ 1048576) (hw1 : wt_RouteS v1 ≤ 1048576) : CallOK Try.prog 22 [.c (rd 0 v0.length (v0.flatMap (GRoute.ci 0))), .c (rd 0 v1.length (v1.flatMap (GRoute.ci 0)))] (.tup [.c (pb (rSameRoutes v0 v1).1), .c (pb (rSameRoutes v0 v1).2)]) [.c (rd 0 v0.length (v0.flatMap (GRoute.ci 0))), .c (rd 0 v1.length (v1.flatMap (GRoute.ci 0)))] := by
  refine okS (fn := Try.f22) [] h0 Try.func22 (by kernel_rfl) rfl Try.ntmps22 Try.results22 (by simp) ?_
  simp
  refine Inv_intro (ok_iGoodRoutes 0 v0 (routes_ok hw0)) ?_
  simp
  cases c1 : goodRs v0 with
  | false => simp [rSameRoutes, c1]
  | true =>
    simp
    refine Inv_intro (ok_iGoodRoutes 0 v1 (routes_ok hw1)) ?_
    simp
    cases c2 : goodRs v1 with
    | false => simp [rSameRoutes, c2]
    | true =>
      simp
      refine Inv_intro (ok_EqualFunc_Route 0 0 v0 v1 (routes_ok hw0) (routes_ok hw1)) ?_
      simp [rSameRoutes, c1, c2]
theorem law_sSameRoutes (v0 v1 : List GRoute) (hw0 : wt_RouteS v0 ≤ 1048576) (hw1 : wt_RouteS v1 ≤ 1048576) : CallOK Try.prog 21 [.c (rd 0 v0.length (v0.flatMap (GRoute.ci 0))), .c (rd 0 v1.length (v1.flatMap (GRoute.ci 0)))] (.tup [.c (pb (rSameRoutes v0 v1).1), .c (pb (rSameRoutes v0 v1).2)]) [.c (rd 0 v0.length (v0.flatMap (GRoute.ci 0))), .c (rd 0 v1.length (v1.flatMap (GRoute.ci 0)))] := by
  obtain ⟨hxl, hxx⟩ := routes_ok hw0
  obtain ⟨hyl, hyy⟩ := routes_ok hw1
  refine okS (fn := Try.f21) [] h0 Try.func21 (by kernel_rfl) rfl Try.ntmps21 Try.results21 (by simp) ?_
  simp
  refine Inv_intro (ok_sGoodRoutes 0 v0 (routes_ok hw0)) ?_
  simp
  cases c1 : goodRs v0 with
  | false => simp [rSameRoutes, c1]
  | true =>
    simp
    refine Inv_intro (ok_sGoodRoutes 0 v1 (routes_ok hw1)) ?_
    simp
    cases c2 : goodRs v1 with
    | false => simp [rSameRoutes, c2]
    | true =>
      have er : rSameRoutes v0 v1 = (decide (v0 = v1), true) := by simp [rSameRoutes, c1, c2]
      rw [er]
      simp
      refine brn_app (fun h => ?_) (fun h => ?_)
      · simp at h
        simp
        rintro rfl
        exact h rfl
      · simp at h
        have hl : v1.length = v0.length := by omega
        simp
        refine loopS [0, 1, 20, 21, 22] [] (fun n st => ∃ (i : Nat), i + n = v0.length ∧ (v0.drop i = v1.drop i ↔ v0 = v1) ∧ st = ⟨slOf 36 [(0, .t (rd 0 v0.length (v0.flatMap (GRoute.ci 0)))), (1, .t (rd 0 v1.length (v1.flatMap (GRoute.ci 0)))), (20, .t (rd 0 v0.length (v0.flatMap (GRoute.ci 0)))), (21, .t (pi v0.length)), (22, .t (pi i))], ofL []⟩) v0.length ?_ ?_
        · rintro Inv hI
          simp
          subst hI
          exact ⟨0, by omega, by simp, rfl⟩
        · rintro Inv hI n st ⟨i, hi, htk, rfl⟩
          refine ewr_sound (M := []) h0 ?_
          simp
          refine brn_app (fun h => ?_) (fun h => ?_)
          · simp at h
            have hib : i < v1.length := by omega
            rw [drop_step v0 i h, drop_step v1 i hib, List.cons.injEq] at htk
            have hd := fm_drop (GRoute.ci 0) 8 (fun _ => rfl) v0 i h
            have hlen := fm_len (GRoute.ci 0) 8 (fun _ => rfl) v0
            have hlt : i * 8 < v0.length * 8 := by omega
            have hd' := fm_drop (GRoute.ci 0) 8 (fun _ => rfl) v1 i hib
            have hlen' := fm_len (GRoute.ci 0) 8 (fun _ => rfl) v1
            have hlt' : i * 8 < v1.length * 8 := by omega
            simp
            refine drawP (tabEnv [] _) [⟨[], allD 36, true⟩, ⟨[], allD 36, true⟩, ⟨[], allD 36, true⟩, ⟨[], allD 36, true⟩, ⟨[], allD 36, true⟩, ⟨[], allD 36, true⟩, ⟨[], allD 36, true⟩, ⟨[], allD 36, true⟩, ⟨[], allD 36, false⟩, ⟨[], allD 36, true⟩] h0 hm (tabEnv_ok (tab_cons (ok_l14Same 0 0 v0[i] v1[i] (hxx _ (List.getElem_mem h)) (hyy _ (List.getElem_mem hib))) tab_nil)) (by kernel_rfl) (by kernel_rfl) ?_
            simp [h, hd, hlen, hlt, hib, hd', hlen', hlt']
            refine brn_app (fun h2 => ?_) (fun h2 => ?_)
            · simp at h2
              simp
              intro he
              exact h2 (htk.2 he).1
            · simp at h2
              simp
              subst hI
              exact Less_mk (n - 1) (by omega) ⟨i + 1, by omega, ⟨fun h4 => htk.1 ⟨h2, h4⟩, fun h4 => (htk.2 h4).2⟩, by rw [wrNext i (by omega)]⟩
          · simp at h
            rw [List.drop_of_length_le (by omega), List.drop_of_length_le (by omega)] at htk
            simp
            exact htk.1 rfl
theorem ok_FnExactSameRoutes (v0 : (List GRoute)) (v1 : (List GRoute)) (f0 : fits_RouteS v0) (f1 : fits_RouteS v1) : CallOK Try.prog 5 [.c (rd 1 v0.length (v0.flatMap (GRoute.ci 1))), .c (rd 1 v1.length (v1.flatMap (GRoute.ci 1)))] (.c (pb true)) [.c (rd 1 v0.length (v0.flatMap (GRoute.ci 1))), .c (rd 1 v1.length (v1.flatMap (GRoute.ci 1)))] := by
  refine okS (fn := Try.f5) [] h0 Try.func5 (by kernel_rfl) rfl Try.ntmps5 Try.results5 (by simp) ?_
  simp
  refine Inv_intro (ok_szRouteS 1 v0 _ (by omega) (by omega) f0) ?_
  simp
  refine brn_app (fun b0 => ?_) (fun b0 => ?_)
  · simp
  · simp at b0
    have e0 := szr_ge (szr_ge0 b0)
    have d0 := szr_ge0 b0
    simp
    refine Inv_intro (ok_szRouteS 1 v1 _ (by omega) (by omega) f1) ?_
    simp
    refine brn_app (fun b1 => ?_) (fun b1 => ?_)
    · simp
    · simp at b1
      have e1 := szr_ge (szr_ge0 b1)
      have d1 := szr_ge0 b1
      simp
      have hv0 : wt_RouteS v0 ≤ 1048576 := by omega
      have hlp0 : lens_RouteS v0 := lens_of_RouteS hv0
      have hcp0 := cn_le_RouteS v0
      have hv1 : wt_RouteS v1 ≤ 1048576 := by omega
      have hlp1 : lens_RouteS v1 := lens_of_RouteS hv1
      have hcp1 := cn_le_RouteS v1
      refine Inv_intro (ok_toRouteS 1 v0 hv0) ?_
      simp
      refine Inv_intro (ok_toRouteS 1 v1 hv1) ?_
      simp
      refine Inv_intro (law_sSameRoutes v0 v1 hv0 hv1) ?_
      simp
      refine Inv_intro (ok_toRouteS 1 v0 hv0) ?_
      simp
      refine Inv_intro (ok_toRouteS 1 v1 hv1) ?_
      simp
      refine Inv_intro (law_iSameRoutes v0 v1 hv0 hv1) ?_
      simp
      refine Inv_intro (ok_toRouteS 1 v0 hv0) ?_
      simp
      refine Inv_intro (ok_eqRouteS 0 0 (v0) (v0) hlp0 hlp0) ?_
      simp
      refine Inv_intro (ok_toRouteS 1 v1 hv1) ?_
      simp
      refine Inv_intro (ok_eqRouteS 0 0 (v1) (v1) hlp1 hlp1) ?_
      simp
end Go.V
