/- What functions of the seat's program do, each proved of its code, under the bounds that its theorem names. -/
import Derived.Test.YtcdlflmppicdjaaTab
set_option linter.all false
namespace Go.V
open Go.Proofs
set_option maxHeartbeats 1000000
set_option maxRecDepth 10000
set_option linter.unusedSimpArgs false
set_option linter.unusedVariables false
theorem ok_sGoodRoutes (k : Nat) (l : List GRoute) (hl : routesOK l) : CallOK Try.prog 17 [.c (rd k l.length (l.flatMap (GRoute.ci k)))] (.c (pb (goodRs l))) [.c (rd k l.length (l.flatMap (GRoute.ci k)))] := by
  obtain ⟨hll, hlx⟩ := hl
  refine okS (fn := Try.f17) [] h0 Try.func17 (by kernel_rfl) rfl Try.ntmps17 Try.results17 (by simp) ?_
  simp
  refine loopS [0, 5, 6, 7] [] (fun n st => ∃ (i : Nat), i + n = l.length ∧ routesG (prevR l i) (l.drop i) = routesG none l ∧ st = ⟨slOf 35 [(0, .t (rd k l.length (l.flatMap (GRoute.ci k)))), (5, .t (rd k l.length (l.flatMap (GRoute.ci k)))), (6, .t (pi l.length)), (7, .t (pi i))], ofL []⟩) l.length ?_ ?_
  · rintro Inv hI
    simp
    subst hI
    exact ⟨0, by omega, rfl, rfl⟩
  · rintro Inv hI n st ⟨i, hi, hg, rfl⟩
    refine ewr_sound (M := []) h0 ?_
    simp
    refine brn_app (fun a => ?_) (fun a => ?_)
    · simp at a
      have hx := hlx l[i] (List.getElem_mem a)
      rw [drop_step _ i a, routesG] at hg
      have hd := fm_drop (GRoute.ci k) 8 (fun _ => rfl) l i a
      have hlen := fm_len (GRoute.ci k) 8 (fun _ => rfl) l
      have hlt : i * 8 < l.length * 8 := by omega
      have en : prevR l (i + 1) = some l[i] := prevR_next l i a
      simp [a, hd, hlen, hlt]
      have hR := ok_sGoodRoute k l[i] hx
      by_cases c0 : i = 0
      · have e0 : ¬ 0 < i := by omega
        have ep : prevR l i = none := by simp [prevR, c0]
        rw [ep, adjR, Bool.and_true] at hg
        refine drawP (tabEnv [] _) [⟨[.op 3 3 0], allD 35, true⟩, ⟨[], allD 35, false⟩, ⟨[], allD 35, true⟩, ⟨[], allD 35, true⟩, ⟨[], allD 35, true⟩, ⟨[], allD 35, true⟩, ⟨[], allD 35, true⟩, ⟨[], allD 35, true⟩, ⟨[], allD 35, true⟩, ⟨[], allD 35, true⟩, ⟨[], allD 35, true⟩, ⟨[], allD 35, true⟩, ⟨[], allD 35, true⟩, ⟨[.op 3 3 0], allD 35, true⟩, ⟨[.op 3 3 0], allD 35, true⟩, ⟨[], allD 35, false⟩, ⟨[], allD 35, true⟩, ⟨[], allD 35, true⟩, ⟨[], allD 35, true⟩] h0 hm (tabEnv_ok (tab_cons hR tab_nil)) (by kernel_rfl) (by kernel_rfl) ?_
        cases c1 : goodR l[i] with
        | false =>
          rw [c1, Bool.false_and] at hg
          simp [c1, goodRs, ← hg]
        | true =>
          rw [c1, Bool.true_and] at hg
          simp [c1, e0]
          subst hI
          exact Less_mk (n - 1) (by omega) ⟨i + 1, by omega, by rw [en]; exact hg, by rw [wrNext i (by omega)]⟩
      · obtain ⟨j, hj⟩ : ∃ j, i = j + 1 := ⟨i - 1, by omega⟩
        have aj : j < l.length := by omega
        have ep : prevR l i = some l[j] := by subst hj; exact prevR_next l j aj
        have hdj := fm_drop (GRoute.ci k) 8 (fun _ => rfl) l j aj
        have hltj : j * 8 < l.length * 8 := by omega
        have hw : IntKind.wrap .i64 ((i : Int) - 1) = j := (wrap64 (by omega) (by omega)).trans (by omega)
        have e0 : 0 < i := by omega
        rw [ep, adjR] at hg
        refine drawP (tabEnv [] _) [⟨[.op 3 3 0], allD 35, true⟩, ⟨[], allD 35, false⟩, ⟨[], allD 35, true⟩, ⟨[], allD 35, true⟩, ⟨[], allD 35, true⟩, ⟨[], allD 35, true⟩, ⟨[], allD 35, true⟩, ⟨[], allD 35, true⟩, ⟨[], allD 35, true⟩, ⟨[], allD 35, true⟩, ⟨[], allD 35, true⟩, ⟨[], allD 35, true⟩, ⟨[], allD 35, true⟩, ⟨[.op 3 3 0], allD 35, true⟩, ⟨[.op 3 3 0], allD 35, true⟩, ⟨[], allD 35, false⟩, ⟨[], allD 35, true⟩, ⟨[], allD 35, true⟩, ⟨[], allD 35, true⟩] h0 hm (tabEnv_ok (tab_cons hR (tab_cons (ok_l1Compare l[j].Prefix l[i].Prefix) tab_nil))) (by kernel_rfl) (by kernel_rfl) ?_
        cases c1 : goodR l[i] with
        | false =>
          rw [c1, Bool.false_and, Bool.false_and] at hg
          simp [c1, goodRs, ← hg]
        | true =>
          rw [c1, Bool.true_and] at hg
          by_cases c2 : cmpPx l[j].Prefix l[i].Prefix < 0
          · have c3 : ¬ 0 ≤ cmpPx l[j].Prefix l[i].Prefix := by omega
            rw [decide_eq_true c2, Bool.true_and] at hg
            simp [c1, e0, hw, aj, hdj, hlen, hltj, c3]
            subst hI
            exact Less_mk (n - 1) (by omega) ⟨i + 1, by omega, by rw [en]; exact hg, by rw [wrNext i (by omega)]⟩
          · have c3 : 0 ≤ cmpPx l[j].Prefix l[i].Prefix := by omega
            rw [decide_eq_false c2, Bool.false_and] at hg
            simp [c1, e0, hw, aj, hdj, hlen, hltj, c3, goodRs, ← hg]
    · simp at a
      rw [List.drop_of_length_le (by omega), routesG] at hg
      simp [goodRs, ← hg]
      omega
theorem attr_ok {a : GAttrs} (h : GAttrs.wt a ≤ 1048576) : attrOK a := by
  unfold GAttrs.wt at h
  have h1 := len_wt_IntS a.Path
  have h2 := len_wt_IntS a.Comms
  exact ⟨by omega, by omega⟩
theorem route_ok {r : GRoute} (h : GRoute.wt r ≤ 1048576) : attrOK r.Attrs := attr_ok (by unfold GRoute.wt at h; omega)
theorem routes_ok {l : List GRoute} (h : wt_RouteS l ≤ 1048576) : routesOK l := by
  have := len_wt_RouteS l
  refine ⟨by omega, fun x hx => route_ok ?_⟩
  have := mem_wt_RouteS hx
  omega
def rGoodRoutes (v0 : List GRoute) : Bool := goodRs v0
theorem law_iGoodRoutes (v0 : List GRoute) (h0 : wt_RouteS v0 ≤ 1048576) : CallOK Try.prog 19 [.c (rd 0 v0.length (v0.flatMap (GRoute.ci 0)))] (.c (pb (rGoodRoutes v0))) [.c (rd 0 v0.length (v0.flatMap (GRoute.ci 0)))] := ok_iGoodRoutes 0 v0 (routes_ok h0)
theorem law_sGoodRoutes (v0 : List GRoute) (h0 : wt_RouteS v0 ≤ 1048576) : CallOK Try.prog 17 [.c (rd 0 v0.length (v0.flatMap (GRoute.ci 0)))] (.c (pb (rGoodRoutes v0))) [.c (rd 0 v0.length (v0.flatMap (GRoute.ci 0)))] := ok_sGoodRoutes 0 v0 (routes_ok h0)
theorem ok_FnExactGoodRoutes (v0 : (List GRoute)) (f0 : fits_RouteS v0) : CallOK Try.prog 4 [.c (rd 1 v0.length (v0.flatMap (GRoute.ci 1)))] (.c (pb true)) [.c (rd 1 v0.length (v0.flatMap (GRoute.ci 1)))] := by
  refine okS (fn := Try.f4) [] h0 Try.func4 (by kernel_rfl) rfl Try.ntmps4 Try.results4 (by simp) ?_
  simp
  refine Inv_intro (ok_szRouteS 1 v0 _ (by omega) (by omega) f0) ?_
  simp
  refine brn_app (fun b0 => ?_) (fun b0 => ?_)
  · simp
  · simp at b0
    have e0 := szr_ge (szr_ge0 b0)
    have d0 := szr_ge0 b0
    simp
    have hv0 : wt_RouteS v0 ≤ 1048576 := by omega
    have hlp0 : lens_RouteS v0 := lens_of_RouteS hv0
    have hcp0 := cn_le_RouteS v0
    refine Inv_intro (ok_toRouteS 1 v0 hv0) ?_
    simp
    refine Inv_intro (law_sGoodRoutes v0 hv0) ?_
    simp
    refine Inv_intro (ok_toRouteS 1 v0 hv0) ?_
    simp
    refine Inv_intro (law_iGoodRoutes v0 hv0) ?_
    simp
    refine Inv_intro (ok_toRouteS 1 v0 hv0) ?_
    simp
    refine Inv_intro (ok_eqRouteS 0 0 (v0) (v0) hlp0 hlp0) ?_
    simp
end Go.V
