/- What functions of the seat's program do, each proved of its code, under the bounds that its theorem names. -/
import Derived.Test.YtdelgkhoahmnfaaGreatTan
set_option linter.all false
namespace Go.V
open Go.Proofs
set_option maxHeartbeats 1000000
set_option maxRecDepth 10000
set_option linter.unusedSimpArgs false
set_option linter.unusedVariables false
theorem putAll_len2 (xs : List GPrefix) : (putAll [] xs).length ≤ xs.length := by
  have := putAll_len xs []
  simpa using this
set_option maxHeartbeats 4000000 in
theorem ok_l13Changed2 (ka kb : Nat) (a b : GRib) (ha : ribOK a) (hga : goodRib a = true) (hxa : ∀ x ∈ a.Rows, x.Offers.length ≤ 1048576) (hb : ribOK b) (hgb : goodRib b = true) (hxb : ∀ x ∈ b.Rows, x.Offers.length ≤ 1048576) : CallOK Tryz.prog 76 [.agg (GRib.ci (ka + 1) a), .agg (GRib.ci (kb + 1) b)] (.c (.sl 0 77 (changedG a b).length ((changedG a b).flatMap GPrefix.c))) [.agg (GRib.ci (ka + 1) a), .agg (GRib.ci (kb + 1) b)] := by
  have hna := (goodRib_gW hga).2.1
  have hnb := (goodRib_gW hgb).2.1
  refine okS (fn := Tryz.f76) [(123, [2,0])] h0 Tryz.func76 (by kernel_rfl) rfl Tryz.ntmps76 Tryz.results76 (by simp) ?_
  simp
  refine ewp_nil 5 (.op 5 3 0) 77 (by decide) rfl rfl rfl ?_
  refine loopS [2, 3, 5, 18, 19, 20] [.op 5 3 0, .op 0 0 0, .op 0 1 0] (fun m st => ∃ (i : Nat), i + m = a.Rows.length ∧ st = ⟨slOf 86 [(2, .ptr ⟨.op 0 0 0, []⟩ 0), (3, .ptr ⟨.op 0 1 0, []⟩ 0), (5, .ref ⟨.op 5 3 0, []⟩ 0 (putAll [] ((a.Rows.take i).map GRow.Prefix)).length), (18, .t (rd (ka + 1) a.Rows.length (a.Rows.flatMap (GRow.ci (ka + 1))))), (19, .t (pi a.Rows.length)), (20, .t (pi i))], ofL [(.op 5 3 0, .sl 0 77 (putAll [] ((a.Rows.take i).map GRow.Prefix)).length ((putAll [] ((a.Rows.take i).map GRow.Prefix)).flatMap GPrefix.c)), (.op 0 0 0, .sl 0 32 1 (GRib.ci (ka + 1) a)), (.op 0 1 0, .sl 0 32 1 (GRib.ci (kb + 1) b))]⟩) a.Rows.length ?_ ?_
  · rintro Inv hI
    simp
    subst hI
    exact ⟨0, by omega, rfl⟩
  · rintro Inv hI m st ⟨i, hi, rfl⟩
    have hsn : ∀ h : i < a.Rows.length, putAll [] ((a.Rows.take (i + 1)).map GRow.Prefix) = putP a.Rows[i].Prefix (putAll [] ((a.Rows.take i).map GRow.Prefix)) := fun h => by
      rw [take_step a.Rows i h, List.map_append]
      exact putAll_snoc _ _ _
    have hOl := putAll_len2 ((a.Rows.take i).map GRow.Prefix)
    rw [List.length_map, List.length_take] at hOl
    have hfin : i = a.Rows.length → putAll [] ((a.Rows.take i).map GRow.Prefix) = putAll [] (prefsOf a) := by
      rintro rfl
      rw [List.take_length]
      rfl
    generalize putAll [] ((a.Rows.take i).map GRow.Prefix) = O at hsn hOl hfin ⊢
    have hOc := fm_len GPrefix.c 2 (fun _ => rfl) O
    have htO : List.take (O.length * 2) (O.flatMap GPrefix.c) = O.flatMap GPrefix.c := List.take_of_length_le (by omega)
    refine ewr_sound (M := [(123, [2, 0])]) h0 ?_
    simp
    refine brn_app (fun c => ?_) (fun c => ?_)
    · simp at c
      have hsn' := hsn c
      have hd := fm_drop (GRow.ci (ka + 1)) 3 (fun _ => rfl) a.Rows i c
      have hlen := fm_len (GRow.ci (ka + 1)) 3 (fun _ => rfl) a.Rows
      have hlt : i * 3 < a.Rows.length * 3 := by omega
      simp [c, hd, hlen, hlt, hOc, htO]
      refine Inv_intro (ok_l4Put O a.Rows[i].Prefix (by omega)) ?_
      simp
      subst hI
      refine Less_mk (m - 1) (by omega) ⟨i + 1, by omega, ?_⟩
      rw [wrNext i (by omega), hsn']
      all_goals simp
    · simp at c
      have hin : i = a.Rows.length := by omega
      have hfin' := hfin hin
      subst hfin'
      simp
      refine ewp_sw (.op 5 3 0) (.op 10 3 0) rfl rfl ?_
      simp
      refine loopS [2, 3, 5, 30, 31, 32] [.op 10 3 0, .op 0 0 0, .op 0 1 0] (fun m st => ∃ (i : Nat), i + m = b.Rows.length ∧ st = ⟨slOf 86 [(2, .ptr ⟨.op 0 0 0, []⟩ 0), (3, .ptr ⟨.op 0 1 0, []⟩ 0), (5, .ref ⟨.op 10 3 0, []⟩ 0 (putAll [] (prefsOf a ++ (b.Rows.take i).map GRow.Prefix)).length), (30, .t (rd (kb + 1) b.Rows.length (b.Rows.flatMap (GRow.ci (kb + 1))))), (31, .t (pi b.Rows.length)), (32, .t (pi i))], ofL [(.op 10 3 0, .sl 0 77 (putAll [] (prefsOf a ++ (b.Rows.take i).map GRow.Prefix)).length ((putAll [] (prefsOf a ++ (b.Rows.take i).map GRow.Prefix)).flatMap GPrefix.c)), (.op 0 0 0, .sl 0 32 1 (GRib.ci (ka + 1) a)), (.op 0 1 0, .sl 0 32 1 (GRib.ci (kb + 1) b))]⟩) b.Rows.length ?_ ?_
      · rintro Inv2 hI2
        simp
        subst hI2
        refine ⟨0, by omega, ?_⟩
        simp
      · rintro Inv2 hI2 m2 st ⟨j, hj, rfl⟩
        have hsn2 : ∀ h : j < b.Rows.length, putAll [] (prefsOf a ++ (b.Rows.take (j + 1)).map GRow.Prefix) = putP b.Rows[j].Prefix (putAll [] (prefsOf a ++ (b.Rows.take j).map GRow.Prefix)) := fun h => by
          rw [take_step b.Rows j h, List.map_append, ← List.append_assoc]
          exact putAll_snoc _ _ _
        have hXl := putAll_len2 (prefsOf a ++ (b.Rows.take j).map GRow.Prefix)
        rw [List.length_append, List.length_map, List.length_take, prefsOf, List.length_map] at hXl
        have hfin2 : j = b.Rows.length → putAll [] (prefsOf a ++ (b.Rows.take j).map GRow.Prefix) = putAll [] (prefsOf a ++ prefsOf b) := by
          rintro rfl
          rw [List.take_length]
          rfl
        have hXl' : (putAll [] (prefsOf a ++ (b.Rows.take j).map GRow.Prefix)).length ≤ 40 := Nat.le_trans hXl (by omega)
        clear hXl
        generalize putAll [] (prefsOf a ++ (b.Rows.take j).map GRow.Prefix) = X at hsn2 hXl' hfin2 ⊢
        have hXc := fm_len GPrefix.c 2 (fun _ => rfl) X
        have htX : List.take (X.length * 2) (X.flatMap GPrefix.c) = X.flatMap GPrefix.c := List.take_of_length_le (by omega)
        refine ewr_sound (M := [(123, [2, 0])]) h0 ?_
        simp
        refine brn_app (fun e => ?_) (fun e => ?_)
        · simp at e
          have hsn' := hsn2 e
          have hd := fm_drop (GRow.ci (kb + 1)) 3 (fun _ => rfl) b.Rows j e
          have hlen := fm_len (GRow.ci (kb + 1)) 3 (fun _ => rfl) b.Rows
          have hlt : j * 3 < b.Rows.length * 3 := by omega
          simp [e, hd, hlen, hlt, hXc, htX]
          refine Inv_intro (ok_l4Put X b.Rows[j].Prefix (by omega)) ?_
          simp
          subst hI2
          refine Less_mk (m2 - 1) (by omega) ⟨j + 1, by omega, ?_⟩
          rw [wrNext j (by omega), hsn']
          all_goals simp
        · simp at e
          have hjn : j = b.Rows.length := by omega
          have hfin' := hfin2 hjn
          have hch : changedG a b = X.filter fun p => !decide (bestR a p = bestR b p) := by rw [hfin']; rfl
          rw [hch]
          clear hfin' hfin2 hsn2 hch
          simp
          refine ewp_nil 10 (.op 19 3 0) 77 (by decide) rfl rfl rfl ?_
          refine loopS [2, 3, 10, 41, 42, 43] [.op 19 3 0, .op 10 3 0, .op 0 0 0, .op 0 1 0] (fun m st => ∃ (i : Nat), i + m = X.length ∧ st = ⟨slOf 86 [(2, .ptr ⟨.op 0 0 0, []⟩ 0), (3, .ptr ⟨.op 0 1 0, []⟩ 0), (10, .ref ⟨.op 19 3 0, []⟩ 0 ((X.take i).filter fun p => !decide (bestR a p = bestR b p)).length), (41, .ref ⟨.op 10 3 0, []⟩ 0 X.length), (42, .t (pi X.length)), (43, .t (pi i))], ofL [(.op 19 3 0, .sl 0 77 ((X.take i).filter fun p => !decide (bestR a p = bestR b p)).length (((X.take i).filter fun p => !decide (bestR a p = bestR b p)).flatMap GPrefix.c)), (.op 10 3 0, .sl 0 77 X.length (X.flatMap GPrefix.c)), (.op 0 0 0, .sl 0 32 1 (GRib.ci (ka + 1) a)), (.op 0 1 0, .sl 0 32 1 (GRib.ci (kb + 1) b))]⟩) X.length ?_ ?_
          · rintro Inv3 hI3
            simp
            subst hI3
            exact ⟨0, by omega, rfl⟩
          · rintro Inv3 hI3 m3 st ⟨q, hq, rfl⟩
            have hsn3 : ∀ h : q < X.length, ((X.take (q + 1)).filter fun p => !decide (bestR a p = bestR b p)) = ((X.take q).filter fun p => !decide (bestR a p = bestR b p)) ++ (if bestR a X[q] = bestR b X[q] then [] else [X[q]]) := fun h => by
              rw [take_step X q h, List.filter_append]
              by_cases hbb : bestR a X[q] = bestR b X[q] <;> simp [hbb]
            have hOl : ((X.take q).filter fun p => !decide (bestR a p = bestR b p)).length ≤ 40 := Nat.le_trans (List.length_filter_le _ _) (by rw [List.length_take]; omega)
            have hfin3 : q = X.length → ((X.take q).filter fun p => !decide (bestR a p = bestR b p)) = X.filter fun p => !decide (bestR a p = bestR b p) := by
              rintro rfl
              rw [List.take_length]
            generalize ((X.take q).filter fun p => !decide (bestR a p = bestR b p)) = O at hsn3 hOl hfin3 ⊢
            have hOc := fm_len GPrefix.c 2 (fun _ => rfl) O
            have htO : List.take (O.length * 2) (O.flatMap GPrefix.c) = O.flatMap GPrefix.c := List.take_of_length_le (by omega)
            have hb1 : (O.length + 1) * 16 ≤ 140737488355328 := by omega
            have hb2 : O.length ≤ 9223372036854775806 := by omega
            refine ewr_sound (M := [(123, [2, 0])]) h0 ?_
            simp
            refine brn_app (fun g => ?_) (fun g => ?_)
            · simp at g
              have hs3 := hsn3 g
              have hd := fm_drop GPrefix.c 2 (fun _ => rfl) X q g
              have hlt : q * 2 < X.length * 2 := by omega
              have hle : q * 2 + 2 ≤ X.length * 2 := by omega
              generalize hpe : X[q] = p at hs3 hd
              simp [g, hd, hXc, hlt, hle]
              refine Inv_intro (ok_l13BestAt ka a p ha hxa hga) ?_
              cases h1 : bestR a p with
              | none =>
                simp [outO]
                refine Inv_intro (ok_l13BestAt kb b p hb hxb hgb) ?_
                cases h2 : bestR b p with
                | none =>
                  rw [h1, h2, if_pos rfl, List.append_nil] at hs3
                  simp [outO]
                  subst hI3
                  refine Less_mk (m3 - 1) (by omega) ⟨q + 1, by omega, ?_⟩
                  rw [wrNext q (by omega), hs3]
                  all_goals simp
                | some y =>
                  rw [h1, h2, if_neg (by simp)] at hs3
                  simp [outO, hOc, htO, hb1, hb2]
                  subst hI3
                  refine Less_mk (m3 - 1) (by omega) ⟨q + 1, by omega, ?_⟩
                  rw [wrNext q (by omega), hs3]
                  all_goals simp
              | some x =>
                have hx := bestR_small h1
                simp [outO]
                refine Inv_intro (ok_l13BestAt kb b p hb hxb hgb) ?_
                cases h2 : bestR b p with
                | none =>
                  rw [h1, h2, if_neg (by simp)] at hs3
                  simp [outO, hOc, htO, hb1, hb2]
                  subst hI3
                  refine Less_mk (m3 - 1) (by omega) ⟨q + 1, by omega, ?_⟩
                  rw [wrNext q (by omega), hs3]
                  all_goals simp
                | some y =>
                  have hy := bestR_small h2
                  by_cases hpp : x.Peer = y.Peer
                  · have hxy : x = y ↔ x.Attrs = y.Attrs := by
                      cases x; cases y
                      simp only [GOffer.mk.injEq] at hpp ⊢
                      exact ⟨fun h => h.2, fun h => ⟨hpp, h⟩⟩
                    rw [h1, h2] at hs3
                    simp [outO, hpp]
                    refine Inv_intro (ok_l13SameAttrs (ka + 1) (kb + 1) x.Attrs y.Attrs ⟨by omega, by omega⟩ ⟨by omega, by omega⟩) ?_
                    by_cases hat : x.Attrs = y.Attrs
                    · rw [if_pos (by rw [hxy.2 hat]), List.append_nil] at hs3
                      rw [decide_eq_true hat]
                      simp
                      subst hI3
                      refine Less_mk (m3 - 1) (by omega) ⟨q + 1, by omega, ?_⟩
                      rw [wrNext q (by omega), hs3]
                      all_goals simp
                    · rw [if_neg (fun h => hat (hxy.1 (Option.some.inj h)))] at hs3
                      rw [decide_eq_false hat]
                      simp [hOc, htO, hb1, hb2]
                      subst hI3
                      refine Less_mk (m3 - 1) (by omega) ⟨q + 1, by omega, ?_⟩
                      rw [wrNext q (by omega), hs3]
                      all_goals simp
                  · have hxy : ¬ x = y := fun h => hpp (by rw [h])
                    rw [h1, h2, if_neg (fun h => hxy (Option.some.inj h))] at hs3
                    simp [outO, hpp, hOc, htO, hb1, hb2]
                    subst hI3
                    refine Less_mk (m3 - 1) (by omega) ⟨q + 1, by omega, ?_⟩
                    rw [wrNext q (by omega), hs3]
                    all_goals simp
            · simp at g
              have hqn : q = X.length := by omega
              rw [hfin3 hqn] at hOc htO
              rw [← hfin3 hqn] at hOc htO ⊢
              simp [hOc, htO]
theorem ok_l13Changed (ka kb : Nat) (a b : GRib) (ha : ribOK a) (hga : goodRib a = true) (hxa : ∀ x ∈ a.Rows, x.Offers.length ≤ 1048576) (hb : ribOK b) (hgb : goodRib b = true) (hxb : ∀ x ∈ b.Rows, x.Offers.length ≤ 1048576) : CallOK Tryz.prog 76 [.agg (GRib.ci ka a), .agg (GRib.ci kb b)] (.c (.sl 0 77 (changedG a b).length ((changedG a b).flatMap GPrefix.c))) [.agg (GRib.ci ka a), .agg (GRib.ci kb b)] := by
  have h := ok_l13Changed2 0 0 a b ha hga hxa hb hgb hxb
  refine CallOK.relabel ?_ rfl ?_
  · simpa only [List.map_cons, List.map_nil, rib_up] using h
  · intro w I I' lr he hh
    refine free_c ?_ he hh
    simp only [PT.free]
    exact free_px _
theorem ok_l8Own (k : Nat) (l : List GOffer) (hl : l.length ≤ 1048576) (hx : ∀ x ∈ l, x.Attrs.Path.length ≤ 1048576 ∧ x.Attrs.Comms.length ≤ 1048576) : CallOK Tryz.prog 120 [.c (rd k l.length (l.flatMap (GOffer.ci k)))] (.c (.sl 0 81 l.length (l.flatMap GOffer.co))) [.c (rd k l.length (l.flatMap (GOffer.ci k)))] := by
  refine okS (fn := Tryz.f120) [] h0 Tryz.func120 (by kernel_rfl) rfl Tryz.ntmps120 Tryz.results120 (by simp) ?_
  simp
  refine ewp_nil 3 (.op 5 8 0) 81 (by decide) rfl rfl rfl ?_
  refine loopS [3, 6, 7, 8] [.op 5 8 0] (fun n st => ∃ (i : Nat), i + n = l.length ∧ st = ⟨slOf 23 [(3, .ref ⟨.op 5 8 0, []⟩ 0 i), (6, .t (rd k l.length (l.flatMap (GOffer.ci k)))), (7, .t (pi l.length)), (8, .t (pi i))], ofL [(.op 5 8 0, .sl 0 81 i ((l.take i).flatMap GOffer.co))]⟩) l.length ?_ ?_
  · rintro Inv hI
    simp
    subst hI
    exact ⟨0, by omega, by simp⟩
  · rintro Inv hI n st ⟨i, hi, rfl⟩
    have hA := fm_take_len GOffer.co 7 (fun _ => rfl) l i (by omega)
    generalize hAe : ((l.take i).flatMap GOffer.co) = A at hA ⊢
    refine ewr_sound (M := []) h0 ?_
    simp
    refine brn_app (fun a => ?_) (fun a => ?_)
    · simp at a
      have hd := fm_drop (GOffer.ci k) 7 (fun _ => rfl) l i a
      have hlen := fm_len (GOffer.ci k) 7 (fun _ => rfl) l
      have hlt : i * 7 < l.length * 7 := by omega
      have hb1 : (i + 1) * 88 ≤ 140737488355328 := by omega
      have hb2 : i ≤ 9223372036854775806 := by omega
      have hp := hx _ (List.getElem_mem a)
      have ht : A.take (i * 7) = A := List.take_of_length_le (by omega)
      have e3 : ((l.take (i + 1)).flatMap GOffer.co) = A ++ GOffer.co l[i] := by rw [take_step l i a, List.flatMap_append, hAe, List.flatMap_cons, List.flatMap_nil, List.append_nil]
      simp [a, hd, hlen, hlt]
      refine drawP (tabEnv [] _) [⟨[.op 5 8 0], allD 23, true⟩, ⟨[.op 4 2 0], allD 23, true⟩, ⟨[.op 4 2 0], allD 23, true⟩, ⟨[.op 4 2 0], allD 23, true⟩, ⟨[.op 4 2 0], allD 23, true⟩, ⟨[], allD 23, false⟩, ⟨[.op 5 5 1, .op 5 5 5], allD 23, true⟩, ⟨[.op 5 5 1, .op 5 5 5], [12, 13, 14, 15, 16, 17, 18, 19, 20, 3], false⟩, ⟨[.op 5 8 0, .op 5 7 0], [12, 13, 14, 15, 16, 17, 18, 19, 20, 3], false⟩, ⟨[.op 5 8 0], allD 23, true⟩] h0 hm (tabEnv_ok (tab_cons (ok_l4Own k l[i].Attrs hp.1 hp.2) tab_nil)) (by kernel_rfl) (by kernel_rfl) ?_
      simp [hA, hb1, hb2, ht]
      subst hI
      refine Less_mk (n - 1) (by omega) ⟨i + 1, by omega, ?_⟩
      rw [wrNext i (by omega), e3]
      all_goals simp
    · simp at a
      have hn : n = 0 := by omega
      subst hn
      have ht : List.take i l = l := List.take_of_length_le (by omega)
      have hil : i = l.length := by omega
      rw [← hAe, ht, hil]
      simp
theorem ok_l13Own (k : Nat) (r : GRib) (hr : r.Rows.length ≤ 1000) (hx : ∀ x ∈ r.Rows, x.Offers.length ≤ 1048576 ∧ ∀ o ∈ x.Offers, o.Attrs.Path.length ≤ 1048576 ∧ o.Attrs.Comms.length ≤ 1048576) : CallOK Tryz.prog 74 [.agg (GRib.ci k r)] (.agg (GRib.co r)) [.agg (GRib.ci k r)] := by
  obtain ⟨own, rows⟩ := r
  refine okS (fn := Tryz.f74) [] h0 Tryz.func74 (by kernel_rfl) rfl Tryz.ntmps74 Tryz.results74 (by simp) ?_
  simp
  simp only at hr hx
  refine loopS [2, 3, 10, 11, 12] [.op 0 1 0, .op 1 3 0] (fun m st => ∃ (i : Nat), i + m = rows.length ∧ st = ⟨slOf 29 [(2, .ptr ⟨.op 0 1 0, []⟩ 0), (3, .ptr ⟨.op 1 3 0, []⟩ 0), (10, .t (rd k rows.length (rows.flatMap (GRow.ci k)))), (11, .t (pi rows.length)), (12, .t (pi i))], ofL [(.op 0 1 0, .sl 0 32 1 [pi 0, .sl 0 nilE 0 []]), (.op 1 3 0, .sl 0 32 1 [pi own, .sl 0 (if i = 0 then nilE else 79) i ((rows.take i).flatMap GRow.co)])]⟩) rows.length ?_ ?_
  · rintro Inv hI
    simp
    subst hI
    exact ⟨0, by omega, rfl⟩
  · rintro Inv hI m st ⟨i, hi, rfl⟩
    have hA := fun h : i ≤ rows.length => fm_take_len GRow.co 3 (fun _ => rfl) rows i h
    have hstep := fun a : i < rows.length => (show ((rows.take (i + 1)).flatMap GRow.co) = (rows.take i).flatMap GRow.co ++ GRow.co rows[i] by rw [take_step rows i a, List.flatMap_append, List.flatMap_cons, List.flatMap_nil, List.append_nil])
    have hA0 : i = 0 → (rows.take i).flatMap GRow.co = [] := by rintro rfl; rfl
    have hfin : i = rows.length → (rows.take i).flatMap GRow.co = rows.flatMap GRow.co := by rintro rfl; rw [List.take_length]
    generalize (rows.take i).flatMap GRow.co = A at hA hstep hA0 hfin ⊢
    refine ewr_sound (M := []) h0 ?_
    simp
    refine brn_app (fun a => ?_) (fun a => ?_)
    · simp at a
      have hA' := hA (by omega)
      have e3 := hstep a
      have hp := hx _ (List.getElem_mem a)
      have hd := fm_drop (GRow.ci k) 3 (fun _ => rfl) rows i a
      have hlen := fm_len (GRow.ci k) 3 (fun _ => rfl) rows
      have hlt : i * 3 < rows.length * 3 := by omega
      have hb1 : (i + 1) * 40 ≤ 140737488355328 := by omega
      have hb2 : i ≤ 9223372036854775806 := by omega
      have ht : A.take (i * 3) = A := List.take_of_length_le (by omega)
      simp [a, hd, hlen, hlt]
      by_cases hi0 : i = 0
      · subst hi0
        have hAn := hA0 rfl
        subst hAn
        simp
        refine drawP (tabEnv [] _) [⟨[.op 1 3 0], allD 29, true⟩, ⟨[.op 1 3 0], allD 29, true⟩, ⟨[.op 4 2 0], allD 29, true⟩, ⟨[.op 4 2 0], allD 29, true⟩, ⟨[.op 4 2 0], allD 29, true⟩, ⟨[.op 4 2 0], allD 29, true⟩, ⟨[], allD 29, false⟩, ⟨[.op 5 6 0], allD 29, true⟩, ⟨[.op 5 6 0, .op 5 7 0], [16, 17, 18, 19, 20, 21, 22, 23, 24, 25, 26], false⟩, ⟨[.op 1 3 0, .op 5 8 0], [16, 17, 18, 19, 20, 21, 22, 23, 24, 25, 26], false⟩, ⟨[.op 1 3 0], allD 29, true⟩, ⟨[.op 1 3 0, .op 5 8 0, .op 5 9 0], [16, 17, 18, 19, 20, 21, 22, 23, 24, 25, 26], false⟩] h0 hm (tabEnv_ok (tab_cons (ok_l8Own k rows[0].Offers hp.1 hp.2) tab_nil)) (by kernel_rfl) (by kernel_rfl) ?_
        simp [hA', hb1, hb2, ht]
        subst hI
        refine Less_mk (m - 1) (by omega) ⟨0 + 1, by omega, ?_⟩
        rw [e3, ofL_two (a := .op 1 3 0) (b := .op 0 1 0) (by decide), show IntKind.i64.wrap 1 = 1 from rfl]
        simp
      · simp [hi0]
        refine drawP (tabEnv [] _) [⟨[.op 1 3 0], allD 29, true⟩, ⟨[.op 1 3 0], allD 29, true⟩, ⟨[.op 4 2 0], allD 29, true⟩, ⟨[.op 4 2 0], allD 29, true⟩, ⟨[.op 4 2 0], allD 29, true⟩, ⟨[.op 4 2 0], allD 29, true⟩, ⟨[], allD 29, false⟩, ⟨[.op 5 6 0], allD 29, true⟩, ⟨[.op 5 6 0, .op 5 7 0], [16, 17, 18, 19, 20, 21, 22, 23, 24, 25, 26], false⟩, ⟨[.op 1 3 0, .op 5 8 0], [16, 17, 18, 19, 20, 21, 22, 23, 24, 25, 26], false⟩, ⟨[.op 1 3 0], allD 29, true⟩, ⟨[.op 1 3 0, .op 5 8 0, .op 5 9 0], [16, 17, 18, 19, 20, 21, 22, 23, 24, 25, 26], false⟩] h0 hm (tabEnv_ok (tab_cons (ok_l8Own k rows[i].Offers hp.1 hp.2) tab_nil)) (by kernel_rfl) (by kernel_rfl) ?_
        simp [hA', hb1, hb2, ht]
        subst hI
        refine Less_mk (m - 1) (by omega) ⟨i + 1, by omega, ?_⟩
        rw [if_neg (by omega), e3, wrNext i (by omega), ofL_two (a := .op 1 3 0) (b := .op 0 1 0) (by decide)]
        simp
    · simp at a
      have hin : i = rows.length := by omega
      have hA' := hA (by omega)
      by_cases hi0 : i = 0
      · subst hi0
        have : rows = [] := List.length_eq_zero_iff.1 hin.symm
        subst this
        simp [hA0]
      · rw [hfin hin]
        subst hin
        simp [hi0]
/-! ### a drawn region with two pairs (b, c1), (b, c2) that do not change places: three orders are reckoned -/
section
open Go Go.RowKit
variable {P : Program} {ops : Array Oper} {Q : Exit → Act → World → Prop} {E : Env} {r : Nat}
def rdyX (es : List (Nat × Nat)) (ops : Array Oper) (listed : Array Bool) : List Nat := (Region.ready .any ops listed).filter fun k => es.all fun e => !(k == e.2) || listed.getD e.1 false
def anyX (es : List (Nat × Nat)) (E : Env) (P : Program) (r : Nat) (ops : Array Oper) (xs : List OI) (K : St → Prop) : Nat → Array Bool → St → Prop
  | 0, listed, st => rdyX es ops listed = [] ∧ K st
  | f + 1, listed, st => (rdyX es ops listed = [] → K st) ∧ ∀ i ∈ rdyX es ops listed, ∃ st', stMi E P r ops xs i st = some st' ∧ anyX es E P r ops xs K f (listed.setIfInBounds i true) st'
theorem mem_rdyX {es : List (Nat × Nat)} {k : Nat} {listed : Array Bool} : k ∈ rdyX es ops listed ↔ k ∈ Region.ready .any ops listed ∧ ∀ e ∈ es, k = e.2 → listed.getD e.1 false = true := by
  unfold rdyX
  rw [List.mem_filter, List.all_eq_true]
  refine and_congr_right fun _ => forall_congr' fun e => forall_congr' fun he => ?_
  by_cases h : k = e.2
  · simp [h]
  · simp [h]
theorem rdyX_mono {es : List (Nat × Nat)} {i j : Nat} {listed : Array Bool} (hj : j ∈ rdyX es ops listed) (hne : j ≠ i) : j ∈ rdyX es ops (listed.setIfInBounds i true) := by
  rw [mem_rdyX] at *
  exact ⟨ready_mono hj.1 hne, fun e he h => getD_set_true (hj.2 e he h)⟩
theorem rdyX_cons {es : List (Nat × Nat)} {a b k : Nat} {listed : Array Bool} : k ∈ rdyX ((a, b) :: es) ops listed ↔ k ∈ rdyX es ops listed ∧ (k = b → listed.getD a false = true) := by
  rw [mem_rdyX, mem_rdyX]
  constructor
  · rintro ⟨h1, h2⟩
    exact ⟨⟨h1, fun e he => h2 e (List.mem_cons_of_mem _ he)⟩, h2 (a, b) List.mem_cons_self⟩
  · rintro ⟨⟨h1, h2⟩, h3⟩
    refine ⟨h1, fun e he => ?_⟩
    rcases List.mem_cons.1 he with rfl | he
    · exact h3
    · exact h2 e he
theorem anyX_drop {es : List (Nat × Nat)} {a b : Nat} {xs : List OI} {K : St → Prop} : ∀ (f : Nat) (listed : Array Bool) (st : St), listed.getD a false = true → anyX ((a, b) :: es) E P r ops xs K f listed st → anyX es E P r ops xs K f listed st
  | 0, listed, st, hl, h => by
    refine ⟨?_, h.2⟩
    rw [List.eq_nil_iff_forall_not_mem]
    intro k hk
    have : k ∈ rdyX ((a, b) :: es) ops listed := rdyX_cons.2 ⟨hk, fun _ => hl⟩
    rw [h.1] at this
    cases this
  | f + 1, listed, st, hl, h => by
    refine ⟨fun hr => h.1 ?_, fun i hi => ?_⟩
    · rw [List.eq_nil_iff_forall_not_mem]
      intro k hk
      have := (rdyX_cons.1 hk).1
      rw [hr] at this
      cases this
    · obtain ⟨st', h1, h2⟩ := h.2 i (rdyX_cons.2 ⟨hi, fun _ => hl⟩)
      exact ⟨st', h1, anyX_drop f _ st' (getD_set_true hl) h2⟩
theorem listed_set {listed : Array Bool} {i : Nat} (hi : i ∈ Region.ready .any ops listed) : (listed.setIfInBounds i true).getD i false = true := by
  have hlt : i < listed.size := by
    rcases Nat.lt_or_ge i listed.size with h' | h'
    · exact h'
    · have := (mem_ready.1 hi).1
      simp [Array.getElem?_eq_none h'] at this
  simp [hlt]
theorem anyX_split {es : List (Nat × Nat)} {a b : Nat} {xs : List OI} {K : St → Prop} (hab : a ≠ b) : ∀ (f : Nat) (listed : Array Bool) (st : St), listed.getD a false = false → listed.getD b false = false → anyX ((a, b) :: es) E P r ops xs K f listed st → anyX ((b, a) :: es) E P r ops xs K f listed st → anyX es E P r ops xs K f listed st
  | 0, listed, st, ha, hb, h1, h2 => by
    refine ⟨?_, h1.2⟩
    rw [List.eq_nil_iff_forall_not_mem]
    intro k hk
    have g1 : k ∉ rdyX ((a, b) :: es) ops listed := by rw [h1.1]; simp
    have g2 : k ∉ rdyX ((b, a) :: es) ops listed := by rw [h2.1]; simp
    rw [rdyX_cons] at g1 g2
    have e1 : k = b := Classical.byContradiction fun h => g1 ⟨hk, fun e => absurd e h⟩
    have e2 : k = a := Classical.byContradiction fun h => g2 ⟨hk, fun e => absurd e h⟩
    exact hab (e2.symm.trans e1)
  | f + 1, listed, st, ha, hb, h1, h2 => by
    refine ⟨fun hr => h1.1 ?_, fun i hi => ?_⟩
    · rw [List.eq_nil_iff_forall_not_mem]
      intro k hk
      have := (rdyX_cons.1 hk).1
      rw [hr] at this
      cases this
    · have hrd := (mem_rdyX.1 hi).1
      by_cases hia : i = a
      · subst hia
        obtain ⟨st', g1, g2⟩ := h1.2 i (rdyX_cons.2 ⟨hi, fun e => absurd e hab⟩)
        exact ⟨st', g1, anyX_drop f _ st' (listed_set hrd) g2⟩
      · by_cases hib : i = b
        · subst hib
          obtain ⟨st', g1, g2⟩ := h2.2 i (rdyX_cons.2 ⟨hi, fun e => absurd e.symm hab⟩)
          exact ⟨st', g1, anyX_drop f _ st' (listed_set hrd) g2⟩
        · obtain ⟨st1, g1, g2⟩ := h1.2 i (rdyX_cons.2 ⟨hi, fun e => absurd e hib⟩)
          obtain ⟨st2, g3, g4⟩ := h2.2 i (rdyX_cons.2 ⟨hi, fun e => absurd e hia⟩)
          rw [g1] at g3
          cases g3
          exact ⟨st1, g1, anyX_split hab f _ st1 (by rw [getD_set_ne false hia]; exact ha) (by rw [getD_set_ne false hib]; exact hb) g2 g4⟩
theorem anyX_nil {xs : List OI} {K : St → Prop} : ∀ (f : Nat) (listed : Array Bool) (st : St), anyX [] E P r ops xs K f listed st → anyV E P r ops xs K f listed st
  | 0, listed, st, h => by
    have e : rdyX [] ops listed = Region.ready .any ops listed := by unfold rdyX; simp
    unfold anyX at h
    rw [e] at h
    exact h
  | f + 1, listed, st, h => by
    have e : rdyX [] ops listed = Region.ready .any ops listed := by unfold rdyX; simp
    unfold anyX at h
    rw [e] at h
    exact ⟨h.1, fun i hi => let ⟨st', h1, h2⟩ := h.2 i hi; ⟨st', h1, anyX_nil f _ st' h2⟩⟩
/-! waiting, by what the region asks or by the edges -/
def waitsX (es : List (Nat × Nat)) (ops : Array Oper) : Nat → Nat → Nat → Bool
  | 0, _, _ => false
  | n + 1, i, j => (match ops[j]? with
    | some o => o.after.any fun e => Region.binds .any e && (e.on == i || waitsX es ops n i e.on)
    | none => false) || es.any fun e => e.2 == j && (e.1 == i || waitsX es ops n i e.1)
def ClosedX (es : List (Nat × Nat)) (ops : Array Oper) (listed : Array Bool) : Prop := Closed ops listed ∧ ∀ e ∈ es, listed.getD e.2 false = true → listed.getD e.1 false = true
theorem not_waitsX {es : List (Nat × Nat)} {listed : Array Bool} (hc : ClosedX es ops listed) {i : Nat} (hi : listed.getD i false = false) : ∀ (n m : Nat), listed.getD m false = true → waitsX es ops n i m = false
  | 0, m, _ => rfl
  | n + 1, m, hm => by
    unfold waitsX
    rw [Bool.or_eq_false_iff]
    constructor
    · split
      · rename_i o ho
        rw [Array.any_eq_false']
        intro e he hx
        simp only [Bool.and_eq_true, Bool.or_eq_true, beq_iff_eq] at hx
        have hl := hc.1 m hm o ho e he hx.1
        rcases hx.2 with h1 | h1
        · rw [h1, hi] at hl; cases hl
        · rw [not_waitsX hc hi n e.on hl] at h1; cases h1
      · rfl
    · rw [List.any_eq_false]
      intro e he hx
      simp only [Bool.and_eq_true, Bool.or_eq_true, beq_iff_eq] at hx
      have hl := hc.2 e he (by rw [hx.1]; exact hm)
      rcases hx.2 with h1 | h1
      · rw [h1, hi] at hl; cases hl
      · rw [not_waitsX hc hi n e.1 hl] at h1; cases h1
theorem ready_waitsX {es : List (Nat × Nat)} {listed : Array Bool} (hc : ClosedX es ops listed) {i j : Nat} (hi : listed.getD i false = false) (hj : j ∈ rdyX es ops listed) : ∀ n, waitsX es ops n i j = false
  | 0 => rfl
  | n + 1 => by
    obtain ⟨hr, he0⟩ := mem_rdyX.1 hj
    obtain ⟨_, o, ho, hall⟩ := mem_ready.1 hr
    unfold waitsX
    rw [ho, Bool.or_eq_false_iff]
    constructor
    · simp only
      rw [Array.any_eq_false']
      intro e he hx
      simp only [Bool.and_eq_true, Bool.or_eq_true, beq_iff_eq] at hx
      have hl := hall e he hx.1
      rcases hx.2 with h1 | h1
      · rw [h1, hi] at hl; cases hl
      · rw [not_waitsX hc hi n e.on hl] at h1; cases h1
    · rw [List.any_eq_false]
      intro e he hx
      simp only [Bool.and_eq_true, Bool.or_eq_true, beq_iff_eq] at hx
      have hl := he0 e he hx.1.symm
      rcases hx.2 with h1 | h1
      · rw [h1, hi] at hl; cases hl
      · rw [not_waitsX hc hi n e.1 hl] at h1; cases h1
theorem ClosedX.add {es : List (Nat × Nat)} {listed : Array Bool} (hc : ClosedX es ops listed) {j : Nat} (hj : j ∈ rdyX es ops listed) : ClosedX es ops (listed.setIfInBounds j true) := by
  obtain ⟨hr, he0⟩ := mem_rdyX.1 hj
  refine ⟨hc.1.add hr, fun e he hl => ?_⟩
  refine getD_set_true ?_
  by_cases h : j = e.2
  · exact he0 e he h
  · rw [getD_set_ne false h] at hl
    exact hc.2 e he hl
theorem anyX_first {es : List (Nat × Nat)} {xs : List OI} {K : St → Prop} {i : Nat} : ∀ (f : Nat) (listed : Array Bool) (st st1 : St),
    (∀ j, j ≠ i → listed.getD j true = false → (∀ n, waitsX es ops n i j = false) → ∀ st st1 st2, stMi E P r ops xs i st = some st1 → stMi E P r ops xs j st1 = some st2 → ∃ st', stMi E P r ops xs j st = some st' ∧ stMi E P r ops xs i st' = some st2) →
    ClosedX es ops listed → i ∈ rdyX es ops listed → stMi E P r ops xs i st = some st1 → anyX es E P r ops xs K f (listed.setIfInBounds i true) st1 → anyX es E P r ops xs K (f + 1) listed st := by
  intro f
  induction f with
  | zero =>
    intro listed st st1 hcomm hc hr hm H
    refine ⟨fun h => (by rw [h] at hr; cases hr), fun j hj => ?_⟩
    by_cases hji : j = i
    · subst hji; exact ⟨st1, hm, H⟩
    · have := rdyX_mono hj hji
      rw [H.1] at this
      cases this
  | succ f ih =>
    intro listed st st1 hcomm hc hr hm H
    refine ⟨fun h => (by rw [h] at hr; cases hr), fun j hj => ?_⟩
    by_cases hji : j = i
    · subst hji; exact ⟨st1, hm, H⟩
    · obtain ⟨st2, h2, H2⟩ := H.2 j (rdyX_mono hj hji)
      have hi0 := getD_tf (mem_ready.1 (mem_rdyX.1 hr).1).1
      have hju := (mem_ready.1 (mem_rdyX.1 hj).1).1
      obtain ⟨st', h3, h4⟩ := hcomm j hji hju (ready_waitsX hc hi0 hj) st st1 st2 hm h2
      refine ⟨st', h3, ih (listed.setIfInBounds j true) st' st2 (fun k hki hun hw => ?_) (hc.add hj) (rdyX_mono hr (Ne.symm hji)) h4 ?_⟩
      · refine hcomm k hki ?_ hw
        by_cases hjk : j = k
        · subst hjk; exact hju
        · rw [getD_set_ne true hjk] at hun; exact hun
      · rw [Array.setIfInBounds_comm _ _ hji]
        exact H2
def ordX (es : List (Nat × Nat)) (ops : Array Oper) : List Nat → Array Bool → Bool
  | [], listed => (rdyX es ops listed).isEmpty
  | k :: l, listed => (rdyX es ops listed).contains k && ordX es ops l (listed.setIfInBounds k true)
theorem anyX_run {es : List (Nat × Nat)} {ms : List Nat} {xs : List OI} {K : St → Prop} {st' : St} (hK : K st')
    (hcomm : ∀ i j, ms.contains i = false → ms.contains j = false → i ≠ j → (∀ n, waitsX es ops n i j = false) → (∀ n, waitsX es ops n j i = false) → ∀ st st1 st2, stMi E P r ops xs i st = some st1 → stMi E P r ops xs j st1 = some st2 → ∃ st', stMi E P r ops xs j st = some st' ∧ stMi E P r ops xs i st' = some st2) :
    ∀ (l : List Nat) (listed : Array Bool) (st : St), (∀ j, ms.contains j = true → listed.getD j true = true) → ordX es ops l listed = true → ClosedX es ops listed → runI E P r ops xs l st = some st' → anyX es E P r ops xs K l.length listed st
  | [], listed, st, _, hB, _, hl => by
    simp only [runI, Option.some.injEq] at hl
    subst hl
    exact ⟨by simpa [ordX] using hB, hK⟩
  | k :: l, listed, st, hL, hB, hc, hl => by
    simp only [ordX, Bool.and_eq_true] at hB
    obtain ⟨hr, hB'⟩ := hB
    have hr' : k ∈ rdyX es ops listed := by simpa using hr
    have hun : listed.getD k true = false := (mem_ready.1 (mem_rdyX.1 hr').1).1
    have hmk : ms.contains k = false := by
      cases hj : ms.contains k with
      | false => rfl
      | true => rw [hL k hj] at hun; cases hun
    simp only [runI] at hl
    unfold nxt at hl
    split at hl
    · rename_i st1 hm
      refine anyX_first l.length listed st st1 (fun j hj hunj hw => hcomm k j hmk ?_ (Ne.symm hj) hw (ready_waitsX hc (getD_tf hunj) hr')) hc hr' hm ?_
      · cases hj : ms.contains j with
        | false => rfl
        | true => rw [hL j hj] at hunj; cases hunj
      · refine anyX_run hK hcomm l _ st1 (fun j hj => ?_) hB' (hc.add hr') hl
        rw [getD_set_ne true (by rintro rfl; rw [hj] at hmk; cases hmk)]
        exact hL j hj
    · simp at hl
def waitBX (es : List (Nat × Nat)) (ops : Array Oper) (i j : Nat) : Bool := waitsX es ops 1 i j || (waitsX es ops 2 i j || (waitsX es ops 3 i j || (waitsX es ops 4 i j || waitsX es ops 6 i j)))
theorem waitBX_no {es : List (Nat × Nat)} {i j : Nat} (h : ∀ n, waitsX es ops n i j = false) : waitBX es ops i j = false := by simp [waitBX, h]
def pairsX (es : List (Nat × Nat)) (r : Nat) (ops : Array Oper) (xs : List OI) (ms : List Nat) : Bool := (List.range ops.size).all fun j => (List.range j).all fun i => (ms.contains i || (ms.contains j || pairAt r ops xs i j)) || (waitBX es ops i j || waitBX es ops j i)
theorem pairsX_comm {es : List (Nat × Nat)} {id : Nat} {xs : List OI} {ms : List Nat} (hp : pairsX es id ops xs ms = true) (i j : Nat) (hmi : ms.contains i = false) (hmj : ms.contains j = false) (hij : i ≠ j) (hw1 : ∀ n, waitsX es ops n i j = false) (hw2 : ∀ n, waitsX es ops n j i = false) (st st1 st2 : St) (h1 : stMi E P id ops xs i st = some st1) (h2 : stMi E P id ops xs j st1 = some st2) : ∃ st', stMi E P id ops xs j st = some st' ∧ stMi E P id ops xs i st' = some st2 := by
  unfold stMi at h1 h2
  split at h1
  · rename_i oi xi hoi hxi
    split at h2
    · rename_i oj xj hoj hxj
      have hi := (Array.getElem?_eq_some_iff.1 hoi).1
      have hj := (Array.getElem?_eq_some_iff.1 hoj).1
      have hsep : Sep id ops i j oi oj xi xj := by
        rcases Nat.lt_or_ge i j with hlt | hge
        · have hb := List.all_eq_true.1 (List.all_eq_true.1 hp j (by simpa using hj)) i (by simpa using hlt)
          simp only [Bool.or_eq_true, pairAt, hoi, hoj, hxi, hxj, hmi, hmj, Bool.false_eq_true, false_or, waitBX_no hw1, waitBX_no hw2, or_false] at hb
          exact sepB_sound hij hb
        · have hlt : j < i := by omega
          have hb := List.all_eq_true.1 (List.all_eq_true.1 hp i (by simpa using hi)) j (by simpa using hlt)
          simp only [Bool.or_eq_true, pairAt, hoi, hoj, hxi, hxj, hmi, hmj, Bool.false_eq_true, false_or, waitBX_no hw1, waitBX_no hw2, or_false] at hb
          exact (sepB_sound (Ne.symm hij) hb).symm
      obtain ⟨st', h3, h4⟩ := stM_comm hsep h1 h2
      exact ⟨st', by unfold stMi; rw [hoj, hxj]; exact h3, by unfold stMi; rw [hoi, hxi]; exact h4⟩
    · simp at h2
  · simp at h1
def regX (ms : List Nat) (b c d : Nat) (ops : Array Oper) : Bool := Region.noSelect ops && ((idxA ms ops.size 0).length + cntK ms ops.size 0 == ops.size && ((idxB ms b c ops.size 0).length == (idxA ms ops.size 0).length && ((idxB ms b d ops.size 0).length == (idxA ms ops.size 0).length && (b != c && (b != d && match movesK ms ops ops.size 0 (Array.replicate ops.size false) with
  | some l => ordX [(b, c), (b, d)] ops (idxA ms ops.size 0) l && (ordX [(c, b), (b, d)] ops (idxB ms b c ops.size 0) l && (ordX [(d, b)] ops (idxB ms b d ops.size 0) l && (ms.all (fun j => l.getD j true) && (!l.getD b false && (!l.getD c false && !l.getD d false)))))
  | none => false)))))
/-- b stands first; c and d, in this order, look at what b turns. -/
theorem drawX {id : Nat} {Q : Exit → St → Prop} {st : St} (ms : List Nat) (b c d : Nat) (E : Env) (xs : List OI) (h0 : tsz P nilE = 0) (hm : P.follows .mixedOrders = true) (hE : EnvOK P E) (hB : regX ms b c d ops = true) (hp1 : pairsX [(b, c), (b, d)] id ops xs ms = true) (hp2 : pairsX [(c, b), (b, d)] id ops xs ms = true) (hp3 : pairsX [(d, b)] id ops xs ms = true)
    (h : onSome (preA P ms 0 ops.toList st) fun st1 => onSome (lexRunS ms E P id ops xs ops.toList 0 st1) fun st2 => Q .normal st2 ∧ (onSome (lexRunB ms b c E P id ops none xs ops.toList 0 st1) fun st3 => st3 = st2) ∧ onSome (lexRunB ms b d E P id ops none xs ops.toList 0 st1) fun st3 => st3 = st2) : ewp P (.region id ops true) Q st := by
  unfold onSome at h
  split at h
  · rename_i st1 hpre
    split at h
    · rename_i st2 hr1
      obtain ⟨hQ2, h, h'⟩ := h
      split at h
      · rename_i st3 hr2
        split at h'
        · rename_i st4 hr3
          subst h
          subst h'
          have hrx : lexRunX ms E P id ops xs 0 ops.toList st1 = some st4 := by
            rcases lexRunS_eq (ms := ms) (E := E) (P := P) (r := id) (ops := ops) xs ops.toList 0 xs st1 (fun j => by rw [Nat.zero_add]) with h2 | h2
            · rw [← h2]; exact hr1
            · rw [h2] at hr1; cases hr1
          have ra := lexRunX_run (ops := ops) ops.toList 0 st1 (fun j => by simp) hrx
          have rb := lexRunB_run (ops := ops) (ys := xs) ops.toList 0 none xs st1 (fun j => by simp) (fun j => by rw [Nat.zero_add]) (fun _ _ he => by cases he) hr2
          have rc := lexRunB_run (ops := ops) (ys := xs) ops.toList 0 none xs st1 (fun j => by simp) (fun j => by rw [Nat.zero_add]) (fun _ _ he => by cases he) hr3
          have esz : ops.toList.length = ops.size := by simp
          rw [esz] at ra rb rc
          intro I bs A w0 ac w L hs
          simp only [regX, Bool.and_eq_true, beq_iff_eq, bne_iff_ne, ne_eq] at hB
          obtain ⟨hsel, hfu, hln, hln2, hbc, hbd, hB⟩ := hB
          split at hB
          · rename_i listed1 hmv
            simp only [Bool.and_eq_true, Bool.not_eq_true'] at hB
            obtain ⟨ho1, ho2, ho3, hall, hnb, hnc, hnd⟩ := hB
            refine wp_region_any hm ?_
            have hd : Below w.heap.size w { w with drawn := w.drawn + 1 } := drew_below w
            have hs' := hs.grow hd (Nat.le_succ _)
            let Q0 : Exit → Act → World → Prop := fun e a w => e = .normal ∧ ∃ st' L', Sim (tsz P) I bs A w0 st' a w L' [] ∧ Q .normal st'
            refine wpAny_monoQ (Q := Q0) (fun e a w hh => by obtain ⟨rfl, hh⟩ := hh; exact hh) _ _ _ _ ?_
            have hcl : Closed ops (Array.replicate ops.size false) := by
              intro m hm
              exfalso
              rcases Nat.lt_or_ge m ops.size with h' | h' <;> simp [h'] at hm
            have := wpAny_movesA (Q := Q0) (f := (idxA ms ops.size 0).length) hsel (fun c a w hh => by obtain ⟨hh, _⟩ := hh; cases hh) ops.toList 0 (Array.replicate ops.size false) st st1 ac { w with drawn := w.drawn + 1 } L (fun j => by simp) (by simpa using hmv) hcl hpre hs' (by
              intro a' L' g1 g3
              refine anyV_sound (r := id) (xs := xs) (K := Q .normal) h0 hE (fun st a w L h1 h2 => ⟨rfl, st, L, h1, h2⟩) _ _ st1 a' _ L' g1 ?_
              have hL : ∀ j, ms.contains j = true → listed1.getD j true = true := fun j hj => List.all_eq_true.1 hall j (by simpa using hj)
              have cl1 : ClosedX [(b, c), (b, d)] ops listed1 := ⟨g3, fun e he hl => by
                simp only [List.mem_cons, List.not_mem_nil, or_false] at he
                rcases he with rfl | rfl
                · rw [hnc] at hl; cases hl
                · rw [hnd] at hl; cases hl⟩
              have cl2 : ClosedX [(c, b), (b, d)] ops listed1 := ⟨g3, fun e he hl => by
                simp only [List.mem_cons, List.not_mem_nil, or_false] at he
                rcases he with rfl | rfl
                · rw [hnb] at hl; cases hl
                · rw [hnd] at hl; cases hl⟩
              have cl3 : ClosedX [(d, b)] ops listed1 := ⟨g3, fun e he hl => by
                simp only [List.mem_cons, List.not_mem_nil, or_false] at he
                subst he
                rw [hnb] at hl; cases hl⟩
              have k1 := anyX_run (es := [(b, c), (b, d)]) (ms := ms) (E := E) (P := P) (r := id) (ops := ops) (xs := xs) (K := Q .normal) hQ2 (pairsX_comm hp1) _ listed1 st1 hL ho1 cl1 ra
              have k2 := anyX_run (es := [(c, b), (b, d)]) (ms := ms) (E := E) (P := P) (r := id) (ops := ops) (xs := xs) (K := Q .normal) hQ2 (pairsX_comm hp2) _ listed1 st1 hL ho2 cl2 rb
              have k3 := anyX_run (es := [(d, b)]) (ms := ms) (E := E) (P := P) (r := id) (ops := ops) (xs := xs) (K := Q .normal) hQ2 (pairsX_comm hp3) _ listed1 st1 hL ho3 cl3 rc
              rw [hln] at k2
              rw [hln2] at k3
              exact anyX_nil _ _ _ (anyX_split (Ne.symm hbd) _ listed1 st1 hnd hnb k3 (anyX_split hbc _ listed1 st1 hnb hnc k1 k2)))
            rw [show (idxA ms ops.size 0).length + cntK ms ops.toList.length 0 = ops.size by simpa using hfu] at this
            exact this
          · cases hB
        · exact h'.elim
      · exact h.elim
    · exact h.elim
  · exact h.elim
end
end Go.V
