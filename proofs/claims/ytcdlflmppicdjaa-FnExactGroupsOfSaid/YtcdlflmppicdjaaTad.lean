/- What functions of the seat's program do, each proved of its code, under the bounds that its theorem names. -/
import Derived.Test.YtcdlflmppicdjaaTac
set_option linter.all false
namespace Go.V
open Go.Proofs
set_option maxHeartbeats 1000000
set_option maxRecDepth 10000
set_option linter.unusedSimpArgs false
set_option linter.unusedVariables false
theorem ok_sGoodAttrs (k : Nat) (x : GAttrs) (hx : attrOK x) : CallOK Try.prog 102 [.agg (GAttrs.ci k x)] (.c (pb (goodA x))) [.agg (GAttrs.ci k x)] := by
  obtain ⟨h1, h2⟩ := hx
  refine okS (fn := Try.f102) [] h0 Try.func102 (by kernel_rfl) rfl Try.ntmps102 Try.results102 (by simp) ?_
  simp
  refine loopS [1, 8, 9, 10] [.op 0 0 0] (fun n st => ∃ (i : Nat), i + n = x.Path.length ∧ (x.Path.drop i).all isAsnB = x.Path.all isAsnB ∧ st = ⟨slOf 74 [(1, .ptr ⟨.op 0 0 0, []⟩ 0), (8, .t (rd k x.Path.length (x.Path.map pi))), (9, .t (pi x.Path.length)), (10, .t (pi i))], ofL [(.op 0 0 0, .sl 0 78 1 (GAttrs.ci k x))]⟩) x.Path.length ?_ ?_
  · rintro Inv hI
    simp
    subst hI
    exact ⟨0, by omega, rfl, rfl⟩
  · rintro Inv hI n st ⟨i, hi, hg, rfl⟩
    refine ewr_sound (M := []) h0 ?_
    simp
    refine brn_app (fun a => ?_) (fun a => ?_)
    · simp at a
      rw [drop_step _ i a, List.all_cons] at hg
      simp [a]
      refine Inv_intro (ok_l1In _ _ _) ?_
      by_cases c : 1 ≤ x.Path[i] ∧ x.Path[i] ≤ 65535
      · have c' : isAsnB x.Path[i] = true := inR_t c
        rw [c', Bool.true_and] at hg
        simp [c]
        subst hI
        exact Less_mk (n - 1) (by omega) ⟨i + 1, by omega, hg, by rw [wrNext i (by omega)]; rfl⟩
      · have c' : isAsnB x.Path[i] = false := by simp only [isAsnB, inR, decide_eq_false_iff_not]; exact c
        rw [c', Bool.false_and] at hg
        simp [c, goodA, goodPa, ← hg]
    · simp at a
      rw [List.drop_of_length_le (by omega), List.all_nil] at hg
      simp
      refine loopS [1, 19, 20, 21] [.op 0 0 0] (fun n st => ∃ (i : Nat), i + n = x.Comms.length ∧ commsG (prevI x.Comms i) (x.Comms.drop i) = commsG none x.Comms ∧ st = ⟨slOf 74 [(1, .ptr ⟨.op 0 0 0, []⟩ 0), (19, .t (rd k x.Comms.length (x.Comms.map pi))), (20, .t (pi x.Comms.length)), (21, .t (pi i))], ofL [(.op 0 0 0, .sl 0 78 1 (GAttrs.ci k x))]⟩) x.Comms.length ?_ ?_
      · rintro Inv hI
        simp
        subst hI
        exact ⟨0, by omega, rfl, rfl⟩
      · rintro Inv hI n st ⟨i, hi, hc, rfl⟩
        refine ewr_sound (M := []) h0 ?_
        simp
        refine brn_app (fun a => ?_) (fun a => ?_)
        · simp at a
          rw [drop_step _ i a, commsG] at hc
          have en : prevI x.Comms (i + 1) = some x.Comms[i] := prevI_next x.Comms i a
          simp [a]
          refine Inv_intro (ok_l1In _ _ _) ?_
          by_cases c1 : 0 ≤ x.Comms[i] ∧ x.Comms[i] ≤ 1000000
          · have c1' : isValB x.Comms[i] = true := inR_t c1
            rw [c1', Bool.true_and] at hc
            by_cases c0 : i = 0
            · have e0 : ¬ 0 < i := by omega
              have ep : prevI x.Comms i = none := by simp [prevI, c0]
              rw [ep, adjI, Bool.true_and] at hc
              simp [c1, e0]
              subst hI
              exact Less_mk (n - 1) (by omega) ⟨i + 1, by omega, by rw [en]; exact hc, by rw [wrNext i (by omega)]; rfl⟩
            · obtain ⟨j, hj⟩ : ∃ j, i = j + 1 := ⟨i - 1, by omega⟩
              have aj : j < x.Comms.length := by omega
              have ep : prevI x.Comms i = some x.Comms[j] := by subst hj; exact prevI_next x.Comms j aj
              have hw : IntKind.wrap .i64 ((i : Int) - 1) = j := (wrap64 (by omega) (by omega)).trans (by omega)
              have e0 : 0 < i := by omega
              rw [ep, adjI] at hc
              simp [c1, e0, hw, aj]
              refine brn_app (fun c => ?_) (fun c => ?_)
              · simp at c
                have c' : ¬ x.Comms[j] < x.Comms[i] := by omega
                simp [c'] at hc
                simp [goodA, goodCm, hc]
              · simp at c
                have c' : x.Comms[j] < x.Comms[i] := by omega
                simp [c'] at hc
                simp
                subst hI
                exact Less_mk (n - 1) (by omega) ⟨i + 1, by omega, by rw [en]; exact hc, by rw [wrNext i (by omega)]; rfl⟩
          · have c1' : isValB x.Comms[i] = false := by simp only [isValB, inR, decide_eq_false_iff_not]; exact c1
            rw [c1', Bool.false_and, Bool.false_and] at hc
            simp [c1, goodA, goodCm, ← hc]
        · simp at a
          rw [List.drop_of_length_le (by omega), commsG] at hc
          simp
          refine Inv_intro (ok_l1In _ _ _) ?_
          by_cases c1 : 0 ≤ x.Origin ∧ x.Origin ≤ 2
          · simp [c1]
            by_cases c2 : x.Path.length ≤ 10
            · have c2' : (x.Path.length : Int) ≤ 10 := by omega
              simp [c2']
              refine Inv_intro (ok_l1Addr _) ?_
              cases c3 : inR x.Next 0 4294967295 with
              | false => simp [goodA, c3]
              | true =>
                simp
                refine Inv_intro (ok_l1In _ _ _) ?_
                by_cases c4 : 0 ≤ x.Med ∧ x.Med ≤ 1000000
                · simp [c4]
                  refine Inv_intro (ok_l1In _ _ _) ?_
                  by_cases c5 : 0 ≤ x.Pref ∧ x.Pref ≤ 1000000
                  · have c4' : isValB x.Med = true := inR_t c4
                    have c5' : isValB x.Pref = true := inR_t c5
                    have hp : goodPa x.Path = true := by simp [goodPa, c2, ← hg]
                    have hcm : goodCm x.Comms = decide ((x.Comms.length : Int) ≤ 6) := by
                      simp only [goodCm, ← hc, Bool.true_and]
                      exact decide_eq_decide.2 (by omega)
                    simp [c5, goodA, c3, c4', c5', hp, hcm, inR_t c1]
                  · have c5' : isValB x.Pref = false := by simp only [isValB, inR, decide_eq_false_iff_not]; exact c5
                    simp [c5, goodA, c5']
                · have c4' : isValB x.Med = false := by simp only [isValB, inR, decide_eq_false_iff_not]; exact c4
                  simp [c4, goodA, c4']
            · have c2' : ¬ (x.Path.length : Int) ≤ 10 := by omega
              simp [c2', goodA, goodPa, c2]
          · have c1' : inR x.Origin 0 2 = false := by simp only [inR, decide_eq_false_iff_not]; exact c1
            simp [c1, goodA, c1']
theorem ok_sGoodRoute (k : Nat) (r : GRoute) (hx : attrOK r.Attrs) : CallOK Try.prog 51 [.agg (GRoute.ci k r)] (.c (pb (goodR r))) [.agg (GRoute.ci k r)] := by
  refine okS (fn := Try.f51) [] h0 Try.func51 (by kernel_rfl) rfl Try.ntmps51 Try.results51 (by simp) ?_
  simp
  refine Inv_intro (ok_sGoodPrefix r.Prefix) ?_
  cases c1 : goodPx r.Prefix with
  | false => simp [goodR, c1]
  | true =>
    simp
    refine Inv_intro (ok_sGoodAttrs k r.Attrs hx) ?_
    simp [goodR, c1]
theorem ok_sGoodRoutes (k : Nat) (l : List GRoute) (hl : routesOK l) : CallOK Try.prog 17 [.c (rd k l.length (l.flatMap (GRoute.ci k)))] (.c (pb (goodRs l))) [.c (rd k l.length (l.flatMap (GRoute.ci k)))] := by
  obtain ⟨hll, hlx⟩ := hl
  refine okS (fn := Try.f17) [] h0 Try.func17 (by kernel_rfl) rfl Try.ntmps17 Try.results17 (by simp) ?_
  simp
  refine loopS [0, 5, 6, 7] [] (fun n st => ∃ (i : Nat), i + n = l.length ∧ routesG (prevR l i) (l.drop i) = routesG none l ∧ st = ⟨slOf 35 [(0, .t (rd k l.length (l.flatMap (GRoute.ci k)))), (5, .t (rd k l.length (l.flatMap (GRoute.ci k)))), (6, .t (pi l.length)), (7, .t (pi i))], ofL []⟩) l.length ?_ ?_
  · rintro Inv hI
    simp
    subst hI
    exact ⟨0, by omega, rfl, rfl⟩
  · rintro Inv hI n st ⟨i, hi, hg, rfl⟩
    refine ewr_sound (M := []) h0 ?_
    simp
    refine brn_app (fun a => ?_) (fun a => ?_)
    · simp at a
      have hx := hlx l[i] (List.getElem_mem a)
      rw [drop_step _ i a, routesG] at hg
      have hd := fm_drop (GRoute.ci k) 8 (fun _ => rfl) l i a
      have hlen := fm_len (GRoute.ci k) 8 (fun _ => rfl) l
      have hlt : i * 8 < l.length * 8 := by omega
      have en : prevR l (i + 1) = some l[i] := prevR_next l i a
      simp [a, hd, hlen, hlt]
      have hR := ok_sGoodRoute k l[i] hx
      by_cases c0 : i = 0
      · have e0 : ¬ 0 < i := by omega
        have ep : prevR l i = none := by simp [prevR, c0]
        rw [ep, adjR, Bool.and_true] at hg
        refine drawP (tabEnv [] _) [⟨[.op 3 3 0], allD 35, true⟩, ⟨[], allD 35, false⟩, ⟨[], allD 35, true⟩, ⟨[], allD 35, true⟩, ⟨[], allD 35, true⟩, ⟨[], allD 35, true⟩, ⟨[], allD 35, true⟩, ⟨[], allD 35, true⟩, ⟨[], allD 35, true⟩, ⟨[], allD 35, true⟩, ⟨[], allD 35, true⟩, ⟨[], allD 35, true⟩, ⟨[], allD 35, true⟩, ⟨[.op 3 3 0], allD 35, true⟩, ⟨[.op 3 3 0], allD 35, true⟩, ⟨[], allD 35, false⟩, ⟨[], allD 35, true⟩, ⟨[], allD 35, true⟩, ⟨[], allD 35, true⟩] h0 hm (tabEnv_ok (tab_cons hR tab_nil)) (by kernel_rfl) (by kernel_rfl) ?_
        cases c1 : goodR l[i] with
        | false =>
          rw [c1, Bool.false_and] at hg
          simp [c1, goodRs, ← hg]
        | true =>
          rw [c1, Bool.true_and] at hg
          simp [c1, e0]
          subst hI
          exact Less_mk (n - 1) (by omega) ⟨i + 1, by omega, by rw [en]; exact hg, by rw [wrNext i (by omega)]⟩
      · obtain ⟨j, hj⟩ : ∃ j, i = j + 1 := ⟨i - 1, by omega⟩
        have aj : j < l.length := by omega
        have ep : prevR l i = some l[j] := by subst hj; exact prevR_next l j aj
        have hdj := fm_drop (GRoute.ci k) 8 (fun _ => rfl) l j aj
        have hltj : j * 8 < l.length * 8 := by omega
        have hw : IntKind.wrap .i64 ((i : Int) - 1) = j := (wrap64 (by omega) (by omega)).trans (by omega)
        have e0 : 0 < i := by omega
        rw [ep, adjR] at hg
        refine drawP (tabEnv [] _) [⟨[.op 3 3 0], allD 35, true⟩, ⟨[], allD 35, false⟩, ⟨[], allD 35, true⟩, ⟨[], allD 35, true⟩, ⟨[], allD 35, true⟩, ⟨[], allD 35, true⟩, ⟨[], allD 35, true⟩, ⟨[], allD 35, true⟩, ⟨[], allD 35, true⟩, ⟨[], allD 35, true⟩, ⟨[], allD 35, true⟩, ⟨[], allD 35, true⟩, ⟨[], allD 35, true⟩, ⟨[.op 3 3 0], allD 35, true⟩, ⟨[.op 3 3 0], allD 35, true⟩, ⟨[], allD 35, false⟩, ⟨[], allD 35, true⟩, ⟨[], allD 35, true⟩, ⟨[], allD 35, true⟩] h0 hm (tabEnv_ok (tab_cons hR (tab_cons (ok_l1Compare l[j].Prefix l[i].Prefix) tab_nil))) (by kernel_rfl) (by kernel_rfl) ?_
        cases c1 : goodR l[i] with
        | false =>
          rw [c1, Bool.false_and, Bool.false_and] at hg
          simp [c1, goodRs, ← hg]
        | true =>
          rw [c1, Bool.true_and] at hg
          by_cases c2 : cmpPx l[j].Prefix l[i].Prefix < 0
          · have c3 : ¬ 0 ≤ cmpPx l[j].Prefix l[i].Prefix := by omega
            rw [decide_eq_true c2, Bool.true_and] at hg
            simp [c1, e0, hw, aj, hdj, hlen, hltj, c3]
            subst hI
            exact Less_mk (n - 1) (by omega) ⟨i + 1, by omega, by rw [en]; exact hg, by rw [wrNext i (by omega)]⟩
          · have c3 : 0 ≤ cmpPx l[j].Prefix l[i].Prefix := by omega
            rw [decide_eq_false c2, Bool.false_and] at hg
            simp [c1, e0, hw, aj, hdj, hlen, hltj, c3, goodRs, ← hg]
    · simp at a
      rw [List.drop_of_length_le (by omega), routesG] at hg
      simp [goodRs, ← hg]
      omega
theorem attr_ok {a : GAttrs} (h : GAttrs.wt a ≤ 1048576) : attrOK a := by
  unfold GAttrs.wt at h
  have h1 := len_wt_IntS a.Path
  have h2 := len_wt_IntS a.Comms
  exact ⟨by omega, by omega⟩
theorem route_ok {r : GRoute} (h : GRoute.wt r ≤ 1048576) : attrOK r.Attrs := attr_ok (by unfold GRoute.wt at h; omega)
theorem routes_ok {l : List GRoute} (h : wt_RouteS l ≤ 1048576) : routesOK l := by
  have := len_wt_RouteS l
  refine ⟨by omega, fun x hx => route_ok ?_⟩
  have := mem_wt_RouteS hx
  omega
def rGoodRoutes (v0 : List GRoute) : Bool := goodRs v0
theorem law_iGoodRoutes (v0 : List GRoute) (h0 : wt_RouteS v0 ≤ 1048576) : CallOK Try.prog 19 [.c (rd 0 v0.length (v0.flatMap (GRoute.ci 0)))] (.c (pb (rGoodRoutes v0))) [.c (rd 0 v0.length (v0.flatMap (GRoute.ci 0)))] := ok_iGoodRoutes 0 v0 (routes_ok h0)
theorem law_sGoodRoutes (v0 : List GRoute) (h0 : wt_RouteS v0 ≤ 1048576) : CallOK Try.prog 17 [.c (rd 0 v0.length (v0.flatMap (GRoute.ci 0)))] (.c (pb (rGoodRoutes v0))) [.c (rd 0 v0.length (v0.flatMap (GRoute.ci 0)))] := ok_sGoodRoutes 0 v0 (routes_ok h0)
theorem ok_l10Same (k k' : Nat) (xs ys : List Int) (ha : xs.length ≤ 140737488351232) (hb : ys.length ≤ 140737488351232) : CallOK Try.prog 152 [.c (rd k xs.length (xs.map pi)), .c (rd k' ys.length (ys.map pi))] (.c (pb (decide (xs = ys)))) [.c (rd k xs.length (xs.map pi)), .c (rd k' ys.length (ys.map pi))] := by
  refine okS (fn := Try.f152) [] h0 Try.func152 (by kernel_rfl) rfl Try.ntmps152 Try.results152 (by simp) ?_
  simp
  refine brn_app (fun h => ?_) (fun h => ?_)
  · simp at h
    simp
    rintro rfl
    exact h rfl
  · simp at h
    have hl : ys.length = xs.length := by omega
    simp
    refine loopS [0, 1, 12, 13] [] (fun n st => ∃ (i : Nat), i + n = xs.length ∧ (xs.drop i = ys.drop i ↔ xs = ys) ∧ st = ⟨slOf 26 [(0, .t (rd k xs.length (xs.map pi))), (1, .t (rd k' ys.length (ys.map pi))), (12, .t (pi xs.length)), (13, .t (pi i))], ofL []⟩) xs.length ?_ ?_
    · rintro Inv hI
      simp
      subst hI
      exact ⟨0, by omega, by simp, rfl⟩
    · rintro Inv hI n st ⟨i, hi, htk, rfl⟩
      refine ewr_sound (M := []) h0 ?_
      simp
      refine brn_app (fun h => ?_) (fun h => ?_)
      · simp at h
        have hib : i < ys.length := by omega
        rw [drop_step xs i h, drop_step ys i hib, List.cons.injEq] at htk
        simp
        refine drawP E0 [⟨[], allD 26, true⟩, ⟨[], allD 26, true⟩, ⟨[], allD 26, true⟩, ⟨[], allD 26, true⟩, ⟨[], allD 26, true⟩, ⟨[], allD 26, true⟩, ⟨[], allD 26, true⟩, ⟨[], allD 26, true⟩, ⟨[], allD 26, true⟩] h0 hm (E0_ok _) (by kernel_rfl) (by kernel_rfl) ?_
        simp [h, hib]
        refine brn_app (fun h2 => ?_) (fun h2 => ?_)
        · simp at h2
          simp
          intro he
          exact h2 (htk.2 he).1
        · simp at h2
          simp
          subst hI
          exact Less_mk (n - 1) (by omega) ⟨i + 1, by omega, ⟨fun h4 => htk.1 ⟨h2, h4⟩, fun h4 => (htk.2 h4).2⟩, by rw [wrNext i (by omega)]⟩
      · simp at h
        rw [List.drop_of_length_le (by omega), List.drop_of_length_le (by omega)] at htk
        simp
        exact htk.1 rfl
theorem attrs_ext2 (a b : GAttrs) : decide (a = b) = (decide (a.Origin = b.Origin) && (decide (a.Next = b.Next) && (decide (a.Med = b.Med) && (decide (a.Pref = b.Pref) && (decide (a.Path = b.Path) && decide (a.Comms = b.Comms)))))) := by
  rw [attrs_ext]
  cases decide (a.Path = b.Path) <;> simp
theorem ok_l13SameAttrs (k k' : Nat) (a b : GAttrs) (ha : attrOK a) (hb : attrOK b) : CallOK Try.prog 110 [.agg (GAttrs.ci k a), .agg (GAttrs.ci k' b)] (.c (pb (decide (a = b)))) [.agg (GAttrs.ci k a), .agg (GAttrs.ci k' b)] := by
  refine okS (fn := Try.f110) [] h0 Try.func110 (by kernel_rfl) rfl Try.ntmps110 Try.results110 (by simp) ?_
  rw [attrs_ext2]
  by_cases c1 : a.Origin = b.Origin
  · by_cases c3 : a.Next = b.Next
    · by_cases c4 : a.Med = b.Med
      · by_cases c5 : a.Pref = b.Pref
        · simp [c1, c3, c4, c5]
          refine Inv_intro (ok_l10Same k k' a.Path b.Path ha.1 hb.1) ?_
          by_cases c2 : a.Path = b.Path
          · simp [c2]
            refine Inv_intro (ok_l10Same k k' a.Comms b.Comms ha.2 hb.2) ?_
            simp
          · simp [c2]
        · simp [c1, c3, c4, c5]
      · simp [c1, c3, c4]
    · simp [c1, c3]
  · simp [c1]
theorem ok_l14Same (k k' : Nat) (a b : GRoute) (ha : attrOK a.Attrs) (hb : attrOK b.Attrs) : CallOK Try.prog 57 [.agg (GRoute.ci k a), .agg (GRoute.ci k' b)] (.c (pb (decide (a = b)))) [.agg (GRoute.ci k a), .agg (GRoute.ci k' b)] := by
  refine okS (fn := Try.f57) [] h0 Try.func57 (by kernel_rfl) rfl Try.ntmps57 Try.results57 (by simp) ?_
  have e : decide (a = b) = (decide (a.Prefix = b.Prefix) && decide (a.Attrs = b.Attrs)) := by
    cases a
    cases b
    simp
  have e2 : decide (a.Prefix = b.Prefix) = (decide (a.Prefix.Addr = b.Prefix.Addr) && decide (a.Prefix.Len = b.Prefix.Len)) := by
    cases a.Prefix
    cases b.Prefix
    simp
  rw [e, e2]
  by_cases c1 : a.Prefix.Addr = b.Prefix.Addr
  · by_cases c2 : a.Prefix.Len = b.Prefix.Len
    · simp [c1, c2]
      refine Inv_intro (ok_l13SameAttrs k k' a.Attrs b.Attrs ha hb) ?_
      simp
    · simp [c1, c2]
  · simp [c1]
theorem ok_l14Groups (k : Nat) (l : List GRoute) (hl : routesOK l) (h20 : l.length ≤ 20) : CallOK Try.prog 66 [.c (rd k l.length (l.flatMap (GRoute.ci k)))] (.c (.sl 0 72 (groupsL l).length ((groupsL l).map cIntSo))) [.c (rd k l.length (l.flatMap (GRoute.ci k)))] := by
  refine okS (fn := Try.f66) [] h0 Try.func66 (by kernel_rfl) rfl Try.ntmps66 Try.results66 (by simp) ?_
  simp
  refine ewp_nil 3 (.op 14 4 0) 72 (by decide) rfl rfl rfl ?_
  refine loopS [0, 3, 9, 10, 11] [.op 14 4 0] (fun m st => ∃ (i : Nat), i + m = l.length ∧ st = ⟨slOf 57 [(0, .t (rd k l.length (l.flatMap (GRoute.ci k)))), (3, .ref ⟨.op 14 4 0, []⟩ 0 (groupsN l i).length), (9, .t (rd k l.length (l.flatMap (GRoute.ci k)))), (10, .t (pi l.length)), (11, .t (pi i))], ofL [(.op 14 4 0, .sl 0 72 (groupsN l i).length ((groupsN l i).map cIntSo))]⟩) l.length ?_ ?_
  · rintro Inv hI
    simp
    subst hI
    exact ⟨0, by omega, rfl⟩
  · rintro Inv hI m st ⟨i, hi, rfl⟩
    have hG := groupsN_ok l i
    have hS := groupsN_succ l i
    generalize hGe : groupsN l i = G at hG hS ⊢
    obtain ⟨hGl, hGx⟩ := hG
    refine ewr_sound (M := []) h0 ?_
    simp
    refine brn_app (fun a => ?_) (fun a => ?_)
    · simp at a
      have hd := fm_drop (GRoute.ci k) 8 (fun _ => rfl) l i a
      have hlen := fm_len (GRoute.ci k) 8 (fun _ => rfl) l
      have hlt : i * 8 < l.length * 8 := by omega
      have hr := hl.2 _ (List.getElem_mem a)
      have hS' := hS a
      have hxs : ∀ x ∈ G, x.length ≤ i := fun g hg => (hGx g hg).2.1
      simp [a, hd, hlen, hlt]
      generalize hX : l[i] = r at hr hS' ⊢
      refine loopS [0, 3, 4, 5, 6, 9, 10, 11, 16, 17, 18] [.op 14 4 0, .op 4 3 0] (fun m2 st => ∃ (j : Nat) (f : Bool) (H : List (List Int)), j + m2 = G.length ∧ (f = false ∧ H = G ∧ (∀ (q : Nat) (hq : q < j) (hl : q < G.length), pG l r.Attrs G[q] = false) ∨ f = true ∧ H = stepG l G i r.Attrs ∧ H.length = G.length) ∧ st = ⟨slOf 57 [(0, .t (rd k l.length (l.flatMap (GRoute.ci k)))), (3, .ref ⟨.op 14 4 0, []⟩ 0 G.length), (4, .t (pi i)), (5, .ptr ⟨.op 4 3 0, []⟩ 0), (6, .t (pb f)), (9, .t (rd k l.length (l.flatMap (GRoute.ci k)))), (10, .t (pi l.length)), (11, .t (pi i)), (16, .ref ⟨.op 14 4 0, []⟩ 0 G.length), (17, .t (pi G.length)), (18, .t (pi j))], ofL [(.op 14 4 0, .sl 0 72 G.length (H.map cIntSo)), (.op 4 3 0, .sl 0 80 1 (GRoute.ci k r))]⟩) G.length ?_ ?_
      · rintro Inv2 hI2
        simp
        subst hI2
        exact ⟨0, false, G, by omega, .inl ⟨rfl, rfl, by intro q hq; omega⟩, rfl⟩
      · rintro Inv2 hI2 m2 st ⟨j, f, H, hj, hf, rfl⟩
        refine ewr_sound (M := []) h0 ?_
        simp
        refine brn_app (fun b => ?_) (fun b => ?_)
        · simp at b
          rcases hf with ⟨rfl, rfl, hno⟩ | ⟨rfl, hH, hHl⟩
          · have hxq := hxs _ (List.getElem_mem b)
            obtain ⟨⟨h, t, hg⟩, _, hb⟩ := hGx _ (List.getElem_mem b)
            have hhb := hb h (by rw [hg]; simp)
            have hhl : h.toNat < l.length := by omega
            have hhl2 : h < (l.length : Int) := by omega
            have hpe : pG l r.Attrs H[j] = decide (l[h.toNat].Attrs = r.Attrs) := by rw [hg]; simp only [pG, List.getElem?_eq_getElem hhl]
            have hsp : H.map cIntSo = (H.take j).map cIntSo ++ cIntSo H[j] :: (H.drop (j + 1)).map cIntSo := by
              rw [← List.map_cons, ← List.drop_eq_getElem_cons b, ← List.map_append, List.take_append_drop]
            have hsp2 : (H.set j (H[j] ++ [(i : Int)])).map cIntSo = (H.take j).map cIntSo ++ cIntSo (H[j] ++ [(i : Int)]) :: (H.drop (j + 1)).map cIntSo := by
              rw [List.set_eq_take_append_cons_drop, if_pos b, List.map_append, List.map_cons]
            have hAl : ((H.take j).map cIntSo).length = j := by simp; omega
            have hll : H.length = ((H.take j).map cIntSo).length + ((H.drop (j + 1)).map cIntSo).length + 1 := by simp; omega
            have hb1 : (H[j].length + 1) * 8 ≤ 140737488355328 := by omega
            have hb2 : H[j].length ≤ 9223372036854775806 := by omega
            have hgl : H[j].length = t.length + 1 := by rw [hg]; rfl
            have hdh := fm_drop (GRoute.ci k) 8 (fun _ => rfl) l h.toNat hhl
            have hlth : h.toNat * 8 < l.length * 8 := by omega
            have hcall := ok_l13SameAttrs k k l[h.toNat].Attrs r.Attrs (hl.2 _ (List.getElem_mem hhl)) hr
            rw [hsp]
            generalize (H.take j).map cIntSo = A at hsp hsp2 hAl hll ⊢
            generalize (H.drop (j + 1)).map cIntSo = D at hsp hsp2 hll ⊢
            have hb1' : (t.length + 1 + 1) * 8 ≤ 140737488355328 := by omega
            have hb2' : t.length + 1 ≤ 9223372036854775806 := by omega
            simp [b, hAl, hg]
            refine drawP (tabEnv [] _) [⟨[], allD 57, true⟩, ⟨[], allD 57, true⟩, ⟨[], allD 57, true⟩, ⟨[], allD 57, true⟩, ⟨[.op 14 4 0], allD 57, true⟩, ⟨[.op 14 4 0], allD 57, true⟩, ⟨[.op 14 4 0], allD 57, true⟩, ⟨[], allD 57, true⟩, ⟨[], allD 57, true⟩, ⟨[], allD 57, true⟩, ⟨[.op 4 3 0], allD 57, true⟩, ⟨[.op 4 3 0], allD 57, true⟩, ⟨[], allD 57, false⟩, ⟨[], allD 57, true⟩] h0 hm (tabEnv_ok (tab_cons hcall tab_nil)) (by kernel_rfl) (by kernel_rfl) ?_
            simp [hAl, hhb.1, hhl2, hhl, hdh, hlen, hlth]
            refine brn_app (fun c => ?_) (fun c => ?_)
            · rw [c] at hpe
              have hfi : H.findIdx? (pG l r.Attrs) = some j := List.findIdx?_eq_some_iff_getElem.2 ⟨b, hpe, fun q hq => by simpa using hno q hq (by omega)⟩
              have hst : stepG l H i r.Attrs = H.set j (H[j] ++ [(i : Int)]) := by simp only [stepG, hfi, List.getElem?_eq_getElem b, Option.getD_some]
              have hb3' : t.length ≤ 9223372036854775805 := by omega
              simp [b, hAl, hb1', hb2', hb3']
              subst hI2
              refine Less_mk (m2 - 1) (by omega) ⟨j + 1, true, H.set j (H[j] ++ [(i : Int)]), by omega, .inr ⟨rfl, hst.symm, by simp⟩, ?_⟩
              rw [wrNext j (by omega), hsp2, hg]
              simp [cIntSo]
            · rw [c] at hpe
              simp
              subst hI2
              refine Less_mk (m2 - 1) (by omega) ⟨j + 1, false, H, by omega, .inl ⟨rfl, rfl, fun q hq hl => ?_⟩, ?_⟩
              · rcases Nat.eq_or_lt_of_le (Nat.le_of_lt_succ hq) with e | e
                · subst e; exact hpe
                · exact hno q e hl
              · rw [wrNext j (by omega), hsp, hg]
                simp [cIntSo]
          · have hjH : j < H.length := by omega
            simp [b, hHl, hjH]
            refine drawP (tabEnv [] _) [⟨[], allD 57, true⟩, ⟨[], allD 57, true⟩, ⟨[], allD 57, true⟩, ⟨[], allD 57, true⟩, ⟨[.op 14 4 0], allD 57, true⟩, ⟨[.op 14 4 0], allD 57, true⟩, ⟨[.op 14 4 0], allD 57, true⟩, ⟨[], allD 57, true⟩, ⟨[], allD 57, true⟩, ⟨[], allD 57, true⟩, ⟨[.op 4 3 0], allD 57, true⟩, ⟨[.op 4 3 0], allD 57, true⟩, ⟨[], allD 57, false⟩, ⟨[], allD 57, true⟩] h0 hm (tabEnv_ok tab_nil) (by kernel_rfl) (by kernel_rfl) ?_
            simp [b, hHl, hjH]
            subst hI2
            refine Less_mk (m2 - 1) (by omega) ⟨j + 1, true, H, by omega, .inr ⟨rfl, hH, hHl⟩, ?_⟩
            rw [wrNext j (by omega)]
            rfl
        · simp at b
          rcases hf with ⟨rfl, rfl, hno⟩ | ⟨rfl, hH, hHl⟩
          · have hfi : H.findIdx? (pG l r.Attrs) = none := by
              rw [List.findIdx?_eq_none_iff]
              intro x hx
              obtain ⟨q, hq, rfl⟩ := List.mem_iff_getElem.1 hx
              exact hno q (by omega) hq
            have hst : stepG l H i r.Attrs = H ++ [[(i : Int)]] := by simp only [stepG, hfi]
            have hb1 : (H.length + 1) * 24 ≤ 140737488355328 := by omega
            have hb2 : H.length ≤ 9223372036854775806 := by omega
            simp [hb1, hb2]
            subst hI
            refine Less_mk (m - 1) (by omega) ⟨i + 1, by omega, ?_⟩
            rw [wrNext i (by omega), hS', hst]
            simp [cIntSo]
          · simp
            subst hI
            refine Less_mk (m - 1) (by omega) ⟨i + 1, by omega, ?_⟩
            rw [wrNext i (by omega), hS', ← hH, hHl]
    · simp at a
      have hil : i = l.length := by omega
      subst hil
      have hGe' : groupsL l = G := hGe
      rw [hGe']
      simp
theorem goodRs_20 {l : List GRoute} (h : goodRs l = true) : l.length ≤ 20 := by
  simp only [goodRs, Bool.and_eq_true, decide_eq_true_eq] at h
  exact h.2
theorem law_iGroupsOf (v0 : List GRoute) (hw0 : wt_RouteS v0 ≤ 1048576) : CallOK Try.prog 28 [.c (rd 0 v0.length (v0.flatMap (GRoute.ci 0)))] (.tup [.c (.sl 0 72 (rGroupsOf v0).1.length ((rGroupsOf v0).1.map cIntSo)), .c (pb (rGroupsOf v0).2)]) [.c (rd 0 v0.length (v0.flatMap (GRoute.ci 0)))] := by
  refine okS (fn := Try.f28) [] h0 Try.func28 (by kernel_rfl) rfl Try.ntmps28 Try.results28 (by simp) ?_
  simp
  refine Inv_intro (ok_iGoodRoutes 0 v0 (routes_ok hw0)) ?_
  simp
  cases c1 : goodRs v0 with
  | false => simp [rGroupsOf, c1]
  | true =>
    have er : rGroupsOf v0 = (groupsL v0, true) := by simp [rGroupsOf, c1]
    simp
    refine Inv_intro (ok_groupsOf 0 v0 (routes_ok hw0) (goodRs_20 c1)) ?_
    simp [er]
theorem law_sGroupsOf (v0 : List GRoute) (hw0 : wt_RouteS v0 ≤ 1048576) : CallOK Try.prog 27 [.c (rd 0 v0.length (v0.flatMap (GRoute.ci 0)))] (.tup [.c (.sl 0 72 (rGroupsOf v0).1.length ((rGroupsOf v0).1.map cIntSo)), .c (pb (rGroupsOf v0).2)]) [.c (rd 0 v0.length (v0.flatMap (GRoute.ci 0)))] := by
  refine okS (fn := Try.f27) [] h0 Try.func27 (by kernel_rfl) rfl Try.ntmps27 Try.results27 (by simp) ?_
  simp
  refine Inv_intro (ok_sGoodRoutes 0 v0 (routes_ok hw0)) ?_
  simp
  cases c1 : goodRs v0 with
  | false => simp [rGroupsOf, c1]
  | true =>
    have er : rGroupsOf v0 = (groupsL v0, true) := by simp [rGroupsOf, c1]
    simp
    refine Inv_intro (ok_l14Groups 0 v0 (routes_ok hw0) (goodRs_20 c1)) ?_
    simp [er]
theorem wtR_le {α : Type} (f : α → Nat) (b : Nat) : ∀ l : List α, (∀ x ∈ l, f x ≤ b) → wtR f l ≤ l.length * (b + 1)
  | [], _ => by simp [wtR]
  | x :: l, h => by
    have ih := wtR_le f b l fun y hy => h y (by simp [hy])
    have h1 := h x (by simp)
    simp only [wtR, List.map_cons, List.length_cons, List.sum_cons, Nat.add_mul] at ih ⊢
    omega
theorem rGroupsOf_ok (v0 : List GRoute) (hw0 : wt_RouteS v0 ≤ 1048576) : lens_IntSS (rGroupsOf v0).1 ∧ cn_IntSS (rGroupsOf v0).1 ≤ 1152921504606846976 := by
  have key : wt_IntSS (rGroupsOf v0).1 ≤ 1048576 := by
    unfold rGroupsOf
    split
    · rename_i h
      have h20 := goodRs_20 h
      obtain ⟨h1, h2⟩ := groupsN_ok v0 v0.length
      have h3 := wtR_le wt_IntS 20 (groupsN v0 v0.length) fun g hg => by
        have := (h2 g hg).2.1
        show g.length ≤ 20
        omega
      have h4 : (groupsN v0 v0.length).length * (20 + 1) ≤ 20 * 21 := Nat.mul_le_mul (by omega) (by omega)
      show wtR wt_IntS (groupsL v0) ≤ 1048576
      unfold groupsL
      omega
    · exact Nat.zero_le _
  have := cn_le_IntSS (rGroupsOf v0).1
  exact ⟨lens_of_IntSS key, by omega⟩
theorem ok_FnExactGroupsOf (v0 : (List GRoute)) (f0 : fits_RouteS v0) : CallOK Try.prog 7 [.c (rd 1 v0.length (v0.flatMap (GRoute.ci 1)))] (.c (pb true)) [.c (rd 1 v0.length (v0.flatMap (GRoute.ci 1)))] := by
  refine okS (fn := Try.f7) [(31, [1,0]), (30, [1,0])] h0 Try.func7 (by kernel_rfl) rfl Try.ntmps7 Try.results7 (by simp) ?_
  simp
  refine Inv_intro (ok_szRouteS 1 v0 _ (by omega) (by omega) f0) ?_
  simp
  refine brn_app (fun b0 => ?_) (fun b0 => ?_)
  · simp
  · simp at b0
    have e0 := szr_ge (szr_ge0 b0)
    have d0 := szr_ge0 b0
    simp
    have hv0 : wt_RouteS v0 ≤ 1048576 := by omega
    have hlp0 : lens_RouteS v0 := lens_of_RouteS hv0
    have hcp0 := cn_le_RouteS v0
    have hrr := rGroupsOf_ok v0 hv0
    obtain ⟨hlr0, hcr0⟩ := hrr
    refine Inv_intro (ok_toRouteS 1 v0 hv0) ?_
    simp
    refine Inv_intro (law_sGroupsOf v0 hv0) ?_
    simp
    refine Inv_intro (ok_toRouteS 1 v0 hv0) ?_
    simp
    refine Inv_intro (law_iGroupsOf v0 hv0) ?_
    simp
    refine Inv_intro (ok_eqIntSS 0 0 ((rGroupsOf v0).1) ((rGroupsOf v0).1) hlr0 hlr0) ?_
    simp
    refine Inv_intro (ok_toRouteS 1 v0 hv0) ?_
    simp
    refine Inv_intro (ok_eqRouteS 0 0 (v0) (v0) hlp0 hlp0) ?_
    simp
    have hm0 := mk_RouteS_snd (v0) (1)
    have hn0 : ¬ (mk_RouteS (v0) (1)).2 < 0 := by omega
    have ht0 : List.take ((v0).length * 8) (((mk_RouteS (v0) (1))).1.flatMap GRoute.co) = (((mk_RouteS (v0) (1))).1.flatMap GRoute.co) := List.take_of_length_le (by rw [fm_len GRoute.co 8 (fun _ => rfl), mk_RouteS_len]; exact Nat.le_refl _)
    refine Inv_intro (ok_markRouteS (v0) (1) hlp0 (by omega) (by omega)) ?_
    simp [hn0, ht0]
    refine Inv_intro (ok_eqIntSS 0 0 ((rGroupsOf v0).1) ((rGroupsOf v0).1) hlr0 hlr0) ?_
    simp [hn0, ht0]
    have hm1 := mk_IntSS_snd ((rGroupsOf v0).1) (1)
    have hn1 : ¬ (mk_IntSS ((rGroupsOf v0).1) (1)).2 < 0 := by omega
    have ht1 : List.take ((rGroupsOf v0).1).length (((mk_IntSS ((rGroupsOf v0).1) (1))).1.map (cIntSo)) = (((mk_IntSS ((rGroupsOf v0).1) (1))).1.map (cIntSo)) := List.take_of_length_le (by rw [List.length_map, mk_IntSS_len]; exact Nat.le_refl _)
    refine Inv_intro (ok_markIntSS ((rGroupsOf v0).1) (1) hlr0 (by omega) (by omega)) ?_
    simp [hn0, ht0, hn1, ht1]
    refine Inv_intro (ok_heldIntSS 0 ((rGroupsOf v0).1) (1) hlr0 (by omega) (by omega)) ?_
    simp [hn0, ht0, hn1, ht1]
    refine Inv_intro (ok_toRouteS 1 v0 hv0) ?_
    simp [hn0, ht0, hn1, ht1]
    refine Inv_intro (law_iGroupsOf v0 hv0) ?_
    simp [hn0, ht0, hn1, ht1]
    refine Inv_intro (ok_eqIntSS 0 0 ((rGroupsOf v0).1) ((rGroupsOf v0).1) hlr0 hlr0) ?_
    simp [hn0, ht0, hn1, ht1]
    refine Inv_intro (ok_heldIntSS 0 ((rGroupsOf v0).1) (1) hlr0 (by omega) (by omega)) ?_
    simp [hn0, ht0, hn1, ht1]
end Go.V
