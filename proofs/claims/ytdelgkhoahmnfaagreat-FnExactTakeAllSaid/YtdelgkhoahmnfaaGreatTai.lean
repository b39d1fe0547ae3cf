/- What functions of the seat's program do, each proved of its code, under the bounds that its theorem names. -/
import Derived.Test.YtdelgkhoahmnfaaGreatTah
set_option linter.all false
namespace Go.V
open Go.Proofs
set_option maxHeartbeats 1000000
set_option maxRecDepth 10000
set_option linter.unusedSimpArgs false
set_option linter.unusedVariables false
theorem ok_Clone_Int (k : Nat) (xs : List Int) (hx : xs.length ≤ 1048576) : CallOK Tryz.prog 157 [.c (rd k xs.length (xs.map pi))] (.c (.sl 0 3 xs.length (xs.map pi))) [.c (rd k xs.length (xs.map pi))] := by
  refine okS (fn := Tryz.f157) [] h0 Tryz.func157 (by kernel_rfl) rfl Tryz.ntmps157 Tryz.results157 (by simp) ?_
  cases xs with
  | nil => simp
  | cons y ys =>
    simp only [List.length_cons] at hx
    have hb : (ys.length + 1) * 8 ≤ 140737488355328 ∧ ys.length + 1 ≤ 9223372036854775807 := by omega
    have hb2 : ys.length + 1 ≤ 9223372036854775807 := by omega
    have hb1 : (ys.length + 1) * 8 ≤ 140737488355328 := by omega
    simp [hb1, hb2]
theorem ok_ownAttrs (k : Nat) (a : GAttrs) (h1 : a.Path.length ≤ 1048576) (h2 : a.Comms.length ≤ 1048576) : CallOK Tryz.prog 103 [.agg (GAttrs.ci k a)] (.agg (GAttrs.co a)) [.agg (GAttrs.ci k a)] := by
  refine okS (fn := Tryz.f103) [] h0 Tryz.func103 (by kernel_rfl) rfl Tryz.ntmps103 Tryz.results103 (by simp) ?_
  simp
  refine drawP (fnEnv 157 (fL1 1048576 fun xs => .sl 0 3 xs.length (xs.map pi)) (tabEnv [] [])) [⟨[.op 0 0 0], allD 12, true⟩, ⟨[.op 0 0 0], allD 12, true⟩, ⟨[.op 1 2 0], [3, 4, 5, 6, 7, 8, 9, 10], false⟩, ⟨[.op 0 0 0], allD 12, true⟩, ⟨[.op 0 0 0], allD 12, true⟩, ⟨[.op 1 5 0], [3, 4, 5, 6, 7, 8, 9, 10], false⟩, ⟨[.op 0 0 0], allD 12, true⟩, ⟨[.op 0 0 0, .op 1 2 0], [3, 4, 5, 6, 7, 8, 9, 10], false⟩, ⟨[.op 0 0 0], allD 12, true⟩, ⟨[.op 0 0 0, .op 1 5 0], [3, 4, 5, 6, 7, 8, 9, 10], false⟩] h0 hm (fnEnv_ok (tabEnv_ok tab_nil) (fL1_ok fun k xs hx => ok_Clone_Int k xs hx)) (by kernel_rfl) (by kernel_rfl) ?_
  simp [h1, h2]
theorem ok_l4Own (k : Nat) (a : GAttrs) (h1 : a.Path.length ≤ 1048576) (h2 : a.Comms.length ≤ 1048576) : CallOK Tryz.prog 64 [.agg (GAttrs.ci k a)] (.agg (GAttrs.co a)) [.agg (GAttrs.ci k a)] := by
  have b1 : a.Path.length * 8 ≤ 140737488355328 := by omega
  have b2 : a.Path.length ≤ 9223372036854775807 := by omega
  have b3 : a.Comms.length * 8 ≤ 140737488355328 := by omega
  have b4 : a.Comms.length ≤ 9223372036854775807 := by omega
  refine okS (fn := Tryz.f64) [] h0 Tryz.func64 (by kernel_rfl) rfl Tryz.ntmps64 Tryz.results64 (by simp) ?_
  by_cases p : a.Path = []
  · by_cases c : a.Comms = []
    · simp [p, c]
    · simp [p, c, b3, b4]
  · by_cases c : a.Comms = []
    · simp [p, c, b1, b2]
    · simp [p, c, b1, b2, b3, b4]
theorem bestR_mem {r : GRib} {p : GPrefix} {o : GOffer} (h : bestR r p = some o) : ∃ x ∈ r.Rows, o ∈ x.Offers ∧ goodOs x.Offers = true := by
  unfold bestR at h
  split at h
  · split at h
    · rename_i x hx
      have := bstBy_mem h
      exact ⟨x, List.mem_of_getElem? hx, this.2, this.1⟩
    · cases h
  · cases h
theorem goodO_small {o : GOffer} (h : goodO o = true) : o.Attrs.Path.length ≤ 10 ∧ o.Attrs.Comms.length ≤ 6 := by
  simp only [goodO, goodA, goodPa, goodCm, Bool.and_eq_true, decide_eq_true_eq] at h
  exact ⟨h.2.2.1.1, h.2.2.2.2.2.2.2⟩
theorem bestR_small {r : GRib} {p : GPrefix} {o : GOffer} (h : bestR r p = some o) : o.Attrs.Path.length ≤ 10 ∧ o.Attrs.Comms.length ≤ 6 := by
  obtain ⟨x, _, h2, h3⟩ := bestR_mem h
  exact goodO_small ((offers_pw _ none h3).2.2 o h2)
theorem rib_up (k : Nat) (r : GRib) : PV.up (.agg (GRib.ci k r)) = .agg (GRib.ci 1 r) := by
  simp [PV.up, PT.up, PT.upL_eq, List.map_flatMap, Function.comp_def]
  rfl
def mk_RouteS (xs : List GRoute) (k : Int) : List GRoute × Int := mkR GRoute.mark xs k
theorem mk_RouteS_len (xs : List GRoute) (k : Int) : (mk_RouteS xs k).1.length = xs.length := mkR_len _ xs k
attribute [simp] mk_RouteS_len
theorem ok_sGoodAttrs (k : Nat) (x : GAttrs) (hx : attrOK x) : CallOK Tryz.prog 136 [.agg (GAttrs.ci k x)] (.c (pb (goodA x))) [.agg (GAttrs.ci k x)] := by
  obtain ⟨h1, h2⟩ := hx
  refine okS (fn := Tryz.f136) [] h0 Tryz.func136 (by kernel_rfl) rfl Tryz.ntmps136 Tryz.results136 (by simp) ?_
  simp
  refine loopS [1, 8, 9, 10] [.op 0 0 0] (fun n st => ∃ (i : Nat), i + n = x.Path.length ∧ (x.Path.drop i).all isAsnB = x.Path.all isAsnB ∧ st = ⟨slOf 74 [(1, .ptr ⟨.op 0 0 0, []⟩ 0), (8, .t (rd k x.Path.length (x.Path.map pi))), (9, .t (pi x.Path.length)), (10, .t (pi i))], ofL [(.op 0 0 0, .sl 0 52 1 (GAttrs.ci k x))]⟩) x.Path.length ?_ ?_
  · rintro Inv hI
    simp
    subst hI
    exact ⟨0, by omega, rfl, rfl⟩
  · rintro Inv hI n st ⟨i, hi, hg, rfl⟩
    refine ewr_sound (M := []) h0 ?_
    simp
    refine brn_app (fun a => ?_) (fun a => ?_)
    · simp at a
      rw [drop_step _ i a, List.all_cons] at hg
      simp [a]
      refine Inv_intro (ok_l1In _ _ _) ?_
      by_cases c : 1 ≤ x.Path[i] ∧ x.Path[i] ≤ 65535
      · have c' : isAsnB x.Path[i] = true := inR_t c
        rw [c', Bool.true_and] at hg
        simp [c]
        subst hI
        exact Less_mk (n - 1) (by omega) ⟨i + 1, by omega, hg, by rw [wrNext i (by omega)]; rfl⟩
      · have c' : isAsnB x.Path[i] = false := by simp only [isAsnB, inR, decide_eq_false_iff_not]; exact c
        rw [c', Bool.false_and] at hg
        simp [c, goodA, goodPa, ← hg]
    · simp at a
      rw [List.drop_of_length_le (by omega), List.all_nil] at hg
      simp
      refine loopS [1, 19, 20, 21] [.op 0 0 0] (fun n st => ∃ (i : Nat), i + n = x.Comms.length ∧ commsG (prevI x.Comms i) (x.Comms.drop i) = commsG none x.Comms ∧ st = ⟨slOf 74 [(1, .ptr ⟨.op 0 0 0, []⟩ 0), (19, .t (rd k x.Comms.length (x.Comms.map pi))), (20, .t (pi x.Comms.length)), (21, .t (pi i))], ofL [(.op 0 0 0, .sl 0 52 1 (GAttrs.ci k x))]⟩) x.Comms.length ?_ ?_
      · rintro Inv hI
        simp
        subst hI
        exact ⟨0, by omega, rfl, rfl⟩
      · rintro Inv hI n st ⟨i, hi, hc, rfl⟩
        refine ewr_sound (M := []) h0 ?_
        simp
        refine brn_app (fun a => ?_) (fun a => ?_)
        · simp at a
          rw [drop_step _ i a, commsG] at hc
          have en : prevI x.Comms (i + 1) = some x.Comms[i] := prevI_next x.Comms i a
          simp [a]
          refine Inv_intro (ok_l1In _ _ _) ?_
          by_cases c1 : 0 ≤ x.Comms[i] ∧ x.Comms[i] ≤ 1000000
          · have c1' : isValB x.Comms[i] = true := inR_t c1
            rw [c1', Bool.true_and] at hc
            by_cases c0 : i = 0
            · have e0 : ¬ 0 < i := by omega
              have ep : prevI x.Comms i = none := by simp [prevI, c0]
              rw [ep, adjI, Bool.true_and] at hc
              simp [c1, e0]
              subst hI
              exact Less_mk (n - 1) (by omega) ⟨i + 1, by omega, by rw [en]; exact hc, by rw [wrNext i (by omega)]; rfl⟩
            · obtain ⟨j, hj⟩ : ∃ j, i = j + 1 := ⟨i - 1, by omega⟩
              have aj : j < x.Comms.length := by omega
              have ep : prevI x.Comms i = some x.Comms[j] := by subst hj; exact prevI_next x.Comms j aj
              have hw : IntKind.wrap .i64 ((i : Int) - 1) = j := (wrap64 (by omega) (by omega)).trans (by omega)
              have e0 : 0 < i := by omega
              rw [ep, adjI] at hc
              simp [c1, e0, hw, aj]
              refine brn_app (fun c => ?_) (fun c => ?_)
              · simp at c
                have c' : ¬ x.Comms[j] < x.Comms[i] := by omega
                simp [c'] at hc
                simp [goodA, goodCm, hc]
              · simp at c
                have c' : x.Comms[j] < x.Comms[i] := by omega
                simp [c'] at hc
                simp
                subst hI
                exact Less_mk (n - 1) (by omega) ⟨i + 1, by omega, by rw [en]; exact hc, by rw [wrNext i (by omega)]; rfl⟩
          · have c1' : isValB x.Comms[i] = false := by simp only [isValB, inR, decide_eq_false_iff_not]; exact c1
            rw [c1', Bool.false_and, Bool.false_and] at hc
            simp [c1, goodA, goodCm, ← hc]
        · simp at a
          rw [List.drop_of_length_le (by omega), commsG] at hc
          simp
          refine Inv_intro (ok_l1In _ _ _) ?_
          by_cases c1 : 0 ≤ x.Origin ∧ x.Origin ≤ 2
          · simp [c1]
            by_cases c2 : x.Path.length ≤ 10
            · have c2' : (x.Path.length : Int) ≤ 10 := by omega
              simp [c2']
              refine Inv_intro (ok_l1Addr _) ?_
              cases c3 : inR x.Next 0 4294967295 with
              | false => simp [goodA, c3]
              | true =>
                simp
                refine Inv_intro (ok_l1In _ _ _) ?_
                by_cases c4 : 0 ≤ x.Med ∧ x.Med ≤ 1000000
                · simp [c4]
                  refine Inv_intro (ok_l1In _ _ _) ?_
                  by_cases c5 : 0 ≤ x.Pref ∧ x.Pref ≤ 1000000
                  · have c4' : isValB x.Med = true := inR_t c4
                    have c5' : isValB x.Pref = true := inR_t c5
                    have hp : goodPa x.Path = true := by simp [goodPa, c2, ← hg]
                    have hcm : goodCm x.Comms = decide ((x.Comms.length : Int) ≤ 6) := by
                      simp only [goodCm, ← hc, Bool.true_and]
                      exact decide_eq_decide.2 (by omega)
                    simp [c5, goodA, c3, c4', c5', hp, hcm, inR_t c1]
                  · have c5' : isValB x.Pref = false := by simp only [isValB, inR, decide_eq_false_iff_not]; exact c5
                    simp [c5, goodA, c5']
                · have c4' : isValB x.Med = false := by simp only [isValB, inR, decide_eq_false_iff_not]; exact c4
                  simp [c4, goodA, c4']
            · have c2' : ¬ (x.Path.length : Int) ≤ 10 := by omega
              simp [c2', goodA, goodPa, c2]
          · have c1' : inR x.Origin 0 2 = false := by simp only [inR, decide_eq_false_iff_not]; exact c1
            simp [c1, goodA, c1']
theorem ok_l13Peer (n : Int) : CallOK Tryz.prog 73 [.c (pi n)] (.c (pb (isPeerB n))) [.c (pi n)] := by
  refine okS (fn := Tryz.f73) [] h0 Tryz.func73 (by kernel_rfl) rfl Tryz.ntmps73 Tryz.results73 (by simp) ?_
  simp
  refine Inv_intro (ok_l1In _ _ _) ?_
  simp [isPeerB, inR]
theorem ok_sGoodOffers (k : Nat) (l : List GOffer) (hl : offersOK l) : CallOK Tryz.prog 100 [.c (rd k l.length (l.flatMap (GOffer.ci k)))] (.c (pb (goodOs l))) [.c (rd k l.length (l.flatMap (GOffer.ci k)))] := by
  obtain ⟨hll, hlx⟩ := hl
  refine okS (fn := Tryz.f100) [] h0 Tryz.func100 (by kernel_rfl) rfl Tryz.ntmps100 Tryz.results100 (by simp) ?_
  simp
  refine loopS [0, 5, 6, 7] [] (fun n st => ∃ (i : Nat), i + n = l.length ∧ offersG (prevO l i) (l.drop i) = offersG none l ∧ st = ⟨slOf 38 [(0, .t (rd k l.length (l.flatMap (GOffer.ci k)))), (5, .t (rd k l.length (l.flatMap (GOffer.ci k)))), (6, .t (pi l.length)), (7, .t (pi i))], ofL []⟩) l.length ?_ ?_
  · rintro Inv hI
    simp
    subst hI
    exact ⟨0, by omega, rfl, rfl⟩
  · rintro Inv hI n st ⟨i, hi, hg, rfl⟩
    refine ewr_sound (M := []) h0 ?_
    simp
    refine brn_app (fun a => ?_) (fun a => ?_)
    · simp at a
      have hx := hlx l[i] (List.getElem_mem a)
      rw [drop_step _ i a, offersG] at hg
      have hd := fm_drop (GOffer.ci k) 7 (fun _ => rfl) l i a
      have hlen := fm_len (GOffer.ci k) 7 (fun _ => rfl) l
      have hlt : i * 7 < l.length * 7 := by omega
      have en : prevO l (i + 1) = some l[i] := prevO_next l i a
      simp [a, hd, hlen, hlt]
      have hR := ok_l1In l[i].Peer 0 5
      have hR2 := ok_sGoodAttrs k l[i].Attrs hx
      by_cases c0 : i = 0
      · have e0 : ¬ 0 < i := by omega
        have ep : prevO l i = none := by simp [prevO, c0]
        rw [ep, adjO, Bool.and_true] at hg
        refine drawP (tabEnv [] _) [⟨[.op 3 3 0], allD 38, true⟩, ⟨[.op 3 3 0], allD 38, true⟩, ⟨[], allD 38, false⟩, ⟨[], allD 38, true⟩, ⟨[], allD 38, true⟩, ⟨[.op 3 3 0], allD 38, true⟩, ⟨[.op 3 3 0], allD 38, true⟩, ⟨[], allD 38, false⟩, ⟨[], allD 38, true⟩, ⟨[], allD 38, true⟩, ⟨[], allD 38, true⟩, ⟨[], allD 38, true⟩, ⟨[], allD 38, true⟩, ⟨[], allD 38, true⟩, ⟨[], allD 38, true⟩, ⟨[], allD 38, true⟩, ⟨[], allD 38, true⟩, ⟨[], allD 38, true⟩, ⟨[], allD 38, true⟩, ⟨[], allD 38, true⟩, ⟨[.op 3 3 0], allD 38, true⟩, ⟨[.op 3 3 0], allD 38, true⟩, ⟨[], allD 38, true⟩, ⟨[], allD 38, true⟩, ⟨[], allD 38, true⟩] h0 hm (tabEnv_ok (tab_cons hR (tab_cons hR2 tab_nil))) (by kernel_rfl) (by kernel_rfl) ?_
        cases c1 : goodO l[i] with
        | false =>
          rw [c1, Bool.false_and] at hg
          by_cases d1 : 0 ≤ l[i].Peer ∧ l[i].Peer ≤ 5
          · have d2 : goodA l[i].Attrs = false := by simpa [goodO, isPeerB, inR_t d1] using c1
            simp [d1, d2, goodOs, ← hg]
          · simp [d1, goodOs, ← hg]
        | true =>
          rw [c1, Bool.true_and] at hg
          have d1 : 0 ≤ l[i].Peer ∧ l[i].Peer ≤ 5 := by
            simp only [goodO, isPeerB, inR, Bool.and_eq_true, decide_eq_true_eq] at c1
            exact c1.1
          have d2 : goodA l[i].Attrs = true := by
            simp only [goodO, Bool.and_eq_true] at c1
            exact c1.2
          simp [d1, d2, e0]
          subst hI
          exact Less_mk (n - 1) (by omega) ⟨i + 1, by omega, by rw [en]; exact hg, by rw [wrNext i (by omega)]⟩
      · obtain ⟨j, hj⟩ : ∃ j, i = j + 1 := ⟨i - 1, by omega⟩
        have aj : j < l.length := by omega
        have ep : prevO l i = some l[j] := by subst hj; exact prevO_next l j aj
        have hdj := fm_drop (GOffer.ci k) 7 (fun _ => rfl) l j aj
        have hltj : j * 7 < l.length * 7 := by omega
        have hw : IntKind.wrap .i64 ((i : Int) - 1) = j := (wrap64 (by omega) (by omega)).trans (by omega)
        have e0 : 0 < i := by omega
        rw [ep, adjO] at hg
        refine drawP (tabEnv [] _) [⟨[.op 3 3 0], allD 38, true⟩, ⟨[.op 3 3 0], allD 38, true⟩, ⟨[], allD 38, false⟩, ⟨[], allD 38, true⟩, ⟨[], allD 38, true⟩, ⟨[.op 3 3 0], allD 38, true⟩, ⟨[.op 3 3 0], allD 38, true⟩, ⟨[], allD 38, false⟩, ⟨[], allD 38, true⟩, ⟨[], allD 38, true⟩, ⟨[], allD 38, true⟩, ⟨[], allD 38, true⟩, ⟨[], allD 38, true⟩, ⟨[], allD 38, true⟩, ⟨[], allD 38, true⟩, ⟨[], allD 38, true⟩, ⟨[], allD 38, true⟩, ⟨[], allD 38, true⟩, ⟨[], allD 38, true⟩, ⟨[], allD 38, true⟩, ⟨[.op 3 3 0], allD 38, true⟩, ⟨[.op 3 3 0], allD 38, true⟩, ⟨[], allD 38, true⟩, ⟨[], allD 38, true⟩, ⟨[], allD 38, true⟩] h0 hm (tabEnv_ok (tab_cons hR (tab_cons hR2 tab_nil))) (by kernel_rfl) (by kernel_rfl) ?_
        cases c1 : goodO l[i] with
        | false =>
          rw [c1, Bool.false_and, Bool.false_and] at hg
          by_cases d1 : 0 ≤ l[i].Peer ∧ l[i].Peer ≤ 5
          · have d2 : goodA l[i].Attrs = false := by simpa [goodO, isPeerB, inR_t d1] using c1
            simp [d1, d2, goodOs, ← hg]
          · simp [d1, goodOs, ← hg]
        | true =>
          rw [c1, Bool.true_and] at hg
          have d1 : 0 ≤ l[i].Peer ∧ l[i].Peer ≤ 5 := by
            simp only [goodO, isPeerB, inR, Bool.and_eq_true, decide_eq_true_eq] at c1
            exact c1.1
          have d2 : goodA l[i].Attrs = true := by
            simp only [goodO, Bool.and_eq_true] at c1
            exact c1.2
          by_cases c2 : l[j].Peer < l[i].Peer
          · have c3 : ¬ l[i].Peer ≤ l[j].Peer := by omega
            rw [decide_eq_true c2, Bool.true_and] at hg
            simp [d1, d2, e0, hw, aj, hdj, hlen, hltj, c3]
            subst hI
            exact Less_mk (n - 1) (by omega) ⟨i + 1, by omega, by rw [en]; exact hg, by rw [wrNext i (by omega)]⟩
          · have c3 : l[i].Peer ≤ l[j].Peer := by omega
            rw [decide_eq_false c2, Bool.false_and] at hg
            simp [d1, d2, e0, hw, aj, hdj, hlen, hltj, c3, goodOs, ← hg]
    · simp at a
      rw [List.drop_of_length_le (by omega), offersG] at hg
      simp [goodOs, ← hg]
theorem ok_sGoodRib (k : Nat) (r : GRib) (hl : ribOK r) : CallOK Tryz.prog 43 [.agg (GRib.ci k r)] (.c (pb (goodRib r))) [.agg (GRib.ci k r)] := by
  obtain ⟨hll, hlx⟩ := hl
  refine okS (fn := Tryz.f43) [] h0 Tryz.func43 (by kernel_rfl) rfl Tryz.ntmps43 Tryz.results43 (by simp) ?_
  simp
  refine loopS [1, 6, 7, 8] [.op 0 0 0] (fun n st => ∃ (i : Nat), i + n = r.Rows.length ∧ rowsG (prevW r.Rows i) (r.Rows.drop i) = rowsG none r.Rows ∧ st = ⟨slOf 56 [(1, .ptr ⟨.op 0 0 0, []⟩ 0), (6, .t (rd k r.Rows.length (r.Rows.flatMap (GRow.ci k)))), (7, .t (pi r.Rows.length)), (8, .t (pi i))], ofL [(.op 0 0 0, .sl 0 32 1 [pi r.Own, rd k r.Rows.length (r.Rows.flatMap (GRow.ci k))])]⟩) r.Rows.length ?_ ?_
  · rintro Inv hI
    simp
    subst hI
    exact ⟨0, by omega, rfl, rfl⟩
  · rintro Inv hI n st ⟨i, hi, hg, rfl⟩
    refine ewr_sound (M := []) h0 ?_
    simp
    refine brn_app (fun a => ?_) (fun a => ?_)
    · simp at a
      have hx := hlx r.Rows[i] (List.getElem_mem a)
      rw [drop_step _ i a, rowsG] at hg
      have hd := fm_drop (GRow.ci k) 3 (fun _ => rfl) r.Rows i a
      have hlen := fm_len (GRow.ci k) 3 (fun _ => rfl) r.Rows
      have hlt : i * 3 < r.Rows.length * 3 := by omega
      have en : prevW r.Rows (i + 1) = some r.Rows[i] := prevW_next r.Rows i a
      simp [a, hd, hlen, hlt]
      have hP := ok_sGoodPrefix r.Rows[i].Prefix
      have hO := ok_sGoodOffers k r.Rows[i].Offers hx
      by_cases c0 : i = 0
      · have e0 : ¬ 0 < i := by omega
        have ep : prevW r.Rows i = none := by simp [prevW, c0]
        rw [ep, adjW, Bool.and_true] at hg
        refine drawP (tabEnv [] _) [⟨[.op 3 3 0], allD 56, true⟩, ⟨[.op 3 3 0], allD 56, true⟩, ⟨[], allD 56, false⟩, ⟨[], allD 56, true⟩, ⟨[], allD 56, true⟩, ⟨[.op 3 3 0], allD 56, true⟩, ⟨[.op 3 3 0], allD 56, true⟩, ⟨[], allD 56, true⟩, ⟨[], allD 56, true⟩, ⟨[], allD 56, true⟩, ⟨[], allD 56, true⟩, ⟨[.op 3 3 0], allD 56, true⟩, ⟨[.op 3 3 0], allD 56, true⟩, ⟨[], allD 56, false⟩, ⟨[], allD 56, true⟩, ⟨[], allD 56, true⟩, ⟨[], allD 56, true⟩, ⟨[], allD 56, true⟩, ⟨[], allD 56, true⟩, ⟨[], allD 56, true⟩, ⟨[.op 0 0 0], allD 56, true⟩, ⟨[.op 0 0 0], allD 56, true⟩, ⟨[], allD 56, true⟩, ⟨[], allD 56, true⟩, ⟨[], allD 56, true⟩, ⟨[], allD 56, true⟩, ⟨[], allD 56, true⟩, ⟨[.op 3 3 0], allD 56, true⟩, ⟨[.op 3 3 0], allD 56, true⟩, ⟨[], allD 56, false⟩, ⟨[], allD 56, true⟩, ⟨[], allD 56, true⟩, ⟨[], allD 56, true⟩] h0 hm (tabEnv_ok (tab_cons hP (tab_cons hO tab_nil))) (by kernel_rfl) (by kernel_rfl) ?_
        cases c1 : goodPx r.Rows[i].Prefix with
        | false =>
          have hk : goodRow r.Rows[i] = false := by simp [goodRow, c1]
          rw [hk, Bool.false_and] at hg
          simp [c1, goodRib, ← hg]
        | true =>
          by_cases c2 : r.Rows[i].Offers.length = 0
          · have hk : goodRow r.Rows[i] = false := by simp [goodRow, c2]
            have c2' : r.Rows[i].Offers = [] := List.length_eq_zero_iff.1 c2
            rw [hk, Bool.false_and] at hg
            simp [c1, e0, c2', goodRib, ← hg]
          · have c2' : ¬ r.Rows[i].Offers = [] := fun e => c2 (by rw [e]; rfl)
            cases c3 : goodOs r.Rows[i].Offers with
            | false =>
              have hk : goodRow r.Rows[i] = false := by simp [goodRow, c3]
              rw [hk, Bool.false_and] at hg
              simp [c1, e0, c2', c3, goodRib, ← hg]
            | true =>
              have hk : goodRow r.Rows[i] = true := by simp [goodRow, c1, c2', c3]
              rw [hk, Bool.true_and] at hg
              simp [c1, e0, c2', c3]
              subst hI
              exact Less_mk (n - 1) (by omega) ⟨i + 1, by omega, by rw [en]; exact hg, by rw [wrNext i (by omega)]⟩
      · obtain ⟨j, hj⟩ : ∃ j, i = j + 1 := ⟨i - 1, by omega⟩
        have aj : j < r.Rows.length := by omega
        have ep : prevW r.Rows i = some r.Rows[j] := by subst hj; exact prevW_next r.Rows j aj
        have hdj := fm_drop (GRow.ci k) 3 (fun _ => rfl) r.Rows j aj
        have hltj : j * 3 < r.Rows.length * 3 := by omega
        have hw : IntKind.wrap .i64 ((i : Int) - 1) = j := (wrap64 (by omega) (by omega)).trans (by omega)
        have e0 : 0 < i := by omega
        rw [ep, adjW] at hg
        refine drawP (tabEnv [] _) [⟨[.op 3 3 0], allD 56, true⟩, ⟨[.op 3 3 0], allD 56, true⟩, ⟨[], allD 56, false⟩, ⟨[], allD 56, true⟩, ⟨[], allD 56, true⟩, ⟨[.op 3 3 0], allD 56, true⟩, ⟨[.op 3 3 0], allD 56, true⟩, ⟨[], allD 56, true⟩, ⟨[], allD 56, true⟩, ⟨[], allD 56, true⟩, ⟨[], allD 56, true⟩, ⟨[.op 3 3 0], allD 56, true⟩, ⟨[.op 3 3 0], allD 56, true⟩, ⟨[], allD 56, false⟩, ⟨[], allD 56, true⟩, ⟨[], allD 56, true⟩, ⟨[], allD 56, true⟩, ⟨[], allD 56, true⟩, ⟨[], allD 56, true⟩, ⟨[], allD 56, true⟩, ⟨[.op 0 0 0], allD 56, true⟩, ⟨[.op 0 0 0], allD 56, true⟩, ⟨[], allD 56, true⟩, ⟨[], allD 56, true⟩, ⟨[], allD 56, true⟩, ⟨[], allD 56, true⟩, ⟨[], allD 56, true⟩, ⟨[.op 3 3 0], allD 56, true⟩, ⟨[.op 3 3 0], allD 56, true⟩, ⟨[], allD 56, false⟩, ⟨[], allD 56, true⟩, ⟨[], allD 56, true⟩, ⟨[], allD 56, true⟩] h0 hm (tabEnv_ok (tab_cons hP (tab_cons hO (tab_cons (ok_l1Compare r.Rows[j].Prefix r.Rows[i].Prefix) tab_nil)))) (by kernel_rfl) (by kernel_rfl) ?_
        cases c1 : goodPx r.Rows[i].Prefix with
        | false =>
          have hk : goodRow r.Rows[i] = false := by simp [goodRow, c1]
          rw [hk, Bool.false_and, Bool.false_and] at hg
          simp [c1, goodRib, ← hg]
        | true =>
          by_cases c4 : cmpPx r.Rows[j].Prefix r.Rows[i].Prefix < 0
          · have c5 : ¬ 0 ≤ cmpPx r.Rows[j].Prefix r.Rows[i].Prefix := by omega
            rw [decide_eq_true c4, Bool.and_true] at hg
            by_cases c2 : r.Rows[i].Offers.length = 0
            · have hk : goodRow r.Rows[i] = false := by simp [goodRow, c2]
              have c2' : r.Rows[i].Offers = [] := List.length_eq_zero_iff.1 c2
              rw [hk, Bool.false_and] at hg
              simp [c1, e0, hw, aj, hdj, hlen, hltj, c5, c2', goodRib, ← hg]
            · have c2' : ¬ r.Rows[i].Offers = [] := fun e => c2 (by rw [e]; rfl)
              cases c3 : goodOs r.Rows[i].Offers with
              | false =>
                have hk : goodRow r.Rows[i] = false := by simp [goodRow, c3]
                rw [hk, Bool.false_and] at hg
                simp [c1, e0, hw, aj, hdj, hlen, hltj, c5, c2', c3, goodRib, ← hg]
              | true =>
                have hk : goodRow r.Rows[i] = true := by simp [goodRow, c1, c2', c3]
                rw [hk, Bool.true_and] at hg
                simp [c1, e0, hw, aj, hdj, hlen, hltj, c5, c2', c3]
                subst hI
                exact Less_mk (n - 1) (by omega) ⟨i + 1, by omega, by rw [en]; exact hg, by rw [wrNext i (by omega)]⟩
          · have c5 : 0 ≤ cmpPx r.Rows[j].Prefix r.Rows[i].Prefix := by omega
            rw [decide_eq_false c4, Bool.and_false, Bool.false_and] at hg
            by_cases c2' : r.Rows[i].Offers = []
            · simp [c1, e0, hw, aj, hdj, hlen, hltj, c5, c2', goodRib, ← hg]
            · cases c3 : goodOs r.Rows[i].Offers <;> simp [c1, e0, hw, aj, hdj, hlen, hltj, c5, c2', c3, goodRib, ← hg]
    · simp at a
      rw [List.drop_of_length_le (by omega), rowsG] at hg
      simp
      refine Inv_intro (ok_l1In r.Own 1 65535) ?_
      by_cases d1 : 1 ≤ r.Own ∧ r.Own ≤ 65535
      · have d1' : isAsnB r.Own = true := inR_t d1
        simp [d1, goodRib, d1', ← hg]
        omega
      · have d1' : isAsnB r.Own = false := by simp only [isAsnB, inR, decide_eq_false_iff_not]; exact d1
        simp [d1, goodRib, d1']
theorem ok_l8By (u v : Int) : CallOK Tryz.prog 186 [.c (pi u), .c (pi v)] (.c (pi (cmpI u v))) [.c (pi u), .c (pi v)] := by
  refine okS (fn := Tryz.f186) [] h0 Tryz.func186 (by kernel_rfl) rfl Tryz.ntmps186 Tryz.results186 (by simp) ?_
  by_cases a : u < v
  · simp [a, cmpI]
  · by_cases b : v < u
    · simp [a, b, cmpI]
    · simp [a, b, cmpI]
theorem orI_snoc : ∀ (l : List Int) (x : Int), orI (l ++ [x]) = if orI l = 0 then x else orI l
  | [], x => by
    show (if x = 0 then (0 : Int) else x) = if (0 : Int) = 0 then x else 0
    rw [if_pos (rfl : (0 : Int) = 0)]
    split
    · rename_i h; exact h.symm
    · rfl
  | y :: l, x => by
    show (if y = 0 then orI (l ++ [x]) else y) = _
    by_cases h : y = 0
    · have e : orI (y :: l) = orI l := if_pos h
      rw [e, if_pos h, orI_snoc l x]
    · have e : orI (y :: l) = y := if_neg h
      rw [e, if_neg h, if_neg h]
theorem ok_l8Compare (k k' : Nat) (a b : GOffer) : CallOK Tryz.prog 162 [.agg (GOffer.ci k a), .agg (GOffer.ci k' b)] (.c (pi (ordO a b))) [.agg (GOffer.ci k a), .agg (GOffer.ci k' b)] := by
  refine okS (fn := Tryz.f162) [] h0 Tryz.func162 (by kernel_rfl) rfl Tryz.ntmps162 Tryz.results162 (by simp) ?_
  simp
  refine brn_app (fun c => ?_) (fun c => ?_)
  · simp at c
    simp [ordO, c]
  · simp at c
    obtain ⟨V, hV⟩ : ∃ V, V = [cmpI b.Attrs.Pref a.Attrs.Pref, cmpI a.Attrs.Path.length b.Attrs.Path.length, cmpI a.Attrs.Origin b.Attrs.Origin, cmpI a.Attrs.Med b.Attrs.Med, cmpI a.Attrs.Next b.Attrs.Next] := ⟨_, rfl⟩
    have hV5 : V.length = 5 := by rw [hV]; rfl
    have hO : ordO a b = if orI V = 0 then cmpI a.Peer b.Peer else orI V := by
      unfold ordO
      rw [if_neg c, ← orI_snoc, hV]
      rfl
    rw [hO]
    simp
    refine drawP (fnEnv 186 (fI2 fun a b => pi (cmpI a b)) (tabEnv [] [])) [⟨[.op 0 1 0], allD 64, true⟩, ⟨[.op 0 1 0], allD 64, true⟩, ⟨[.op 0 1 0], allD 64, true⟩, ⟨[.op 0 0 0], allD 64, true⟩, ⟨[.op 0 0 0], allD 64, true⟩, ⟨[.op 0 0 0], allD 64, true⟩, ⟨[], allD 64, false⟩, ⟨[.op 0 0 0], allD 64, true⟩, ⟨[.op 0 0 0], allD 64, true⟩, ⟨[.op 0 0 0], allD 64, true⟩, ⟨[], allD 64, true⟩, ⟨[.op 0 1 0], allD 64, true⟩, ⟨[.op 0 1 0], allD 64, true⟩, ⟨[.op 0 1 0], allD 64, true⟩, ⟨[], allD 64, true⟩, ⟨[], allD 64, false⟩, ⟨[.op 0 0 0], allD 64, true⟩, ⟨[.op 0 0 0], allD 64, true⟩, ⟨[.op 0 0 0], allD 64, true⟩, ⟨[.op 0 1 0], allD 64, true⟩, ⟨[.op 0 1 0], allD 64, true⟩, ⟨[.op 0 1 0], allD 64, true⟩, ⟨[], allD 64, false⟩, ⟨[.op 0 0 0], allD 64, true⟩, ⟨[.op 0 0 0], allD 64, true⟩, ⟨[.op 0 0 0], allD 64, true⟩, ⟨[.op 0 1 0], allD 64, true⟩, ⟨[.op 0 1 0], allD 64, true⟩, ⟨[.op 0 1 0], allD 64, true⟩, ⟨[], allD 64, false⟩, ⟨[.op 0 0 0], allD 64, true⟩, ⟨[.op 0 0 0], allD 64, true⟩, ⟨[.op 0 0 0], allD 64, true⟩, ⟨[.op 0 1 0], allD 64, true⟩, ⟨[.op 0 1 0], allD 64, true⟩, ⟨[.op 0 1 0], allD 64, true⟩, ⟨[], allD 64, false⟩, ⟨[], allD 64, false⟩, ⟨[.op 3 37 0], allD 64, true⟩, ⟨[], allD 64, true⟩] h0 hm (fnEnv_ok (tabEnv_ok tab_nil) (fI2_ok ok_l8By)) (by kernel_rfl) (by kernel_rfl) ?_
    simp
    refine loopS [2, 3, 49, 50, 51] [.op 3 37 0, .op 0 0 0, .op 0 1 0] (fun n st => ∃ (i : Nat), i + n = 5 ∧ orI (V.drop i) = orI V ∧ st = ⟨slOf 64 [(2, .ptr ⟨.op 0 0 0, []⟩ 0), (3, .ptr ⟨.op 0 1 0, []⟩ 0), (49, .ref ⟨.op 3 37 0, []⟩ 0 5), (50, .t (pi 5)), (51, .t (pi i))], ofL [(.op 3 37 0, .sl 0 3 5 (V.map pi)), (.op 0 0 0, .sl 0 81 1 (GOffer.ci k a)), (.op 0 1 0, .sl 0 81 1 (GOffer.ci k' b))]⟩) 5 ?_ ?_
    · rintro Inv hI
      simp
      subst hI
      refine ⟨0, by omega, rfl, ?_⟩
      simp [hV]
    · rintro Inv hI n st ⟨i, hi, hor, rfl⟩
      refine ewr_sound (M := []) h0 ?_
      simp
      refine brn_app (fun h => ?_) (fun h => ?_)
      · simp at h
        have hiV : i < V.length := by omega
        rw [List.drop_eq_getElem_cons hiV, orI] at hor
        simp [h, hiV, hV5, List.getElem?_eq_getElem hiV]
        refine brn_app (fun h2 => ?_) (fun h2 => ?_)
        · simp at h2
          rw [if_neg h2] at hor
          have h3 : ¬ orI V = 0 := by rw [← hor]; exact h2
          simp [h3, hor]
        · simp at h2
          rw [if_pos h2] at hor
          simp
          subst hI
          exact Less_mk (n - 1) (by omega) ⟨i + 1, by omega, hor, by rw [wrNext i (by omega)]; simp⟩
      · simp at h
        have h3 : orI V = 0 := by rw [← hor, List.drop_eq_nil_of_le (by omega)]; rfl
        simp
        refine Inv_intro (ok_l8By a.Peer b.Peer) ?_
        simp [h3]
end Go.V
