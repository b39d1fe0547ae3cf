/- What functions of the seat's program do, each proved of its code, under the bounds that its theorem names. -/
import Derived.Test.YtnmpnjehehhjaaaGreatTah
set_option linter.all false
namespace Go.V
open Go.Proofs
set_option maxHeartbeats 1000000
set_option maxRecDepth 10000
set_option linter.unusedSimpArgs false
set_option linter.unusedVariables false
theorem bestR_good {r : GRib} {p : GPrefix} (hg : goodRib r = true) (hi : rowIs p r.Rows = true) : ∃ hl : rowAt p r.Rows < r.Rows.length, bestR r p = bestO (restO r.Own r.Rows[rowAt p r.Rows].Offers) := by
  obtain ⟨ho, _, _, hrows⟩ := goodRib_all hg
  obtain ⟨hl, he⟩ := rowIs_lt hi
  have hgx := hrows _ (List.getElem_mem hl)
  have hgo : goodOs r.Rows[rowAt p r.Rows].Offers = true := by
    simp only [goodRow, Bool.and_eq_true] at hgx
    exact hgx.2.2
  refine ⟨hl, ?_⟩
  unfold bestR
  rw [if_pos hi, List.getElem?_eq_getElem hl]
  simp only [bstBy]
  rw [if_pos ⟨hgo, ho⟩]
theorem ok_l13BestAt (k : Nat) (r : GRib) (p : GPrefix) (hr : ribOK r) (hx : ∀ x ∈ r.Rows, x.Offers.length ≤ 1048576) (hg : goodRib r = true) : CallOK Tryz.prog 26 [.agg (GRib.ci (k + 1) r), .agg p.c] (.tup [.agg (outO (k + 1) (bestR r p)), .c (pb (bestR r p).isSome)]) [.agg (GRib.ci (k + 1) r), .agg p.c] := by
  refine okS (fn := Tryz.f26) [] h0 Tryz.func26 (by kernel_rfl) rfl Tryz.ntmps26 Tryz.results26 (by simp) ?_
  simp
  refine Inv_intro (ok_l13At (k + 1) r p hr.1) ?_
  by_cases hi : rowIs p r.Rows = true
  · obtain ⟨hl, hbr⟩ := bestR_good hg hi
    rw [hbr]
    have ho := hr.2 _ (List.getElem_mem hl)
    have hol := hx _ (List.getElem_mem hl)
    generalize rowAt p r.Rows = i at *
    have hd := fm_drop (GRow.ci (k + 1)) 3 (fun _ => rfl) r.Rows i hl
    have hlen := fm_len (GRow.ci (k + 1)) 3 (fun _ => rfl) r.Rows
    have hlt : i * 3 < r.Rows.length * 3 := by omega
    have hlt2 : i * 3 + 2 < r.Rows.length * 3 := by omega
    have hB := ok_l13Best k r.Own r.Rows[i].Offers ho hol
    simp [hi]
    cases hb : bestO (restO r.Own r.Rows[i].Offers) with
    | none =>
      rw [hb] at hB
      simp [outO] at hB ⊢
      refine drawP (tabEnv [] _) [⟨[.op 0 0 0], allD 28, true⟩, ⟨[.op 0 0 0], allD 28, true⟩, ⟨[.op 0 0 0], allD 28, true⟩, ⟨[.op 0 0 0], allD 28, true⟩, ⟨[], allD 28, true⟩, ⟨[], allD 28, true⟩, ⟨[], allD 28, true⟩, ⟨[], allD 28, true⟩, ⟨[], allD 28, false⟩, ⟨[.op 4 8 2, .op 4 8 6], allD 28, true⟩, ⟨[.op 4 8 2, .op 4 8 6], allD 28, true⟩, ⟨[.op 0 2 0, .op 4 8 2, .op 4 8 6], [17, 18, 19, 20, 21, 22, 23, 24, 25, 26, 27, 5], false⟩, ⟨[], allD 28, true⟩] h0 hm (tabEnv_ok (tab_cons hB tab_nil)) (by kernel_rfl) (by kernel_rfl) ?_
      simp [hl, hd, hlen, hlt, hlt2]
    | some o =>
      rw [hb] at hB
      simp [outO] at hB ⊢
      refine drawP (tabEnv [] _) [⟨[.op 0 0 0], allD 28, true⟩, ⟨[.op 0 0 0], allD 28, true⟩, ⟨[.op 0 0 0], allD 28, true⟩, ⟨[.op 0 0 0], allD 28, true⟩, ⟨[], allD 28, true⟩, ⟨[], allD 28, true⟩, ⟨[], allD 28, true⟩, ⟨[], allD 28, true⟩, ⟨[], allD 28, false⟩, ⟨[], allD 28, true⟩, ⟨[], allD 28, true⟩, ⟨[.op 0 2 0], [17, 18, 19, 20, 21, 22, 23, 24, 25, 26, 27, 5], false⟩, ⟨[], allD 28, true⟩] h0 hm (tabEnv_ok (tab_cons hB tab_nil)) (by kernel_rfl) (by kernel_rfl) ?_
      simp [hl, hd, hlen, hlt, hlt2]
  · have hi' : rowIs p r.Rows = false := by simpa using hi
    simp [bestR, hi', outO]
theorem ok_sBestAt1 (k : Nat) (r : GRib) (p : GPrefix) (hr : ribOK r) (hx : ∀ x ∈ r.Rows, x.Offers.length ≤ 1048576) : CallOK Tryz.prog 6 [.agg (GRib.ci (k + 1) r), .agg p.c] (.tup [.agg (GOffer.co ((bestAtG r p).getD zeroO)), .c (pb (bestAtG r p).isSome)]) [.agg (GRib.ci (k + 1) r), .agg p.c] := by
  refine okS (fn := Tryz.f6) [] h0 Tryz.func6 (by kernel_rfl) rfl Tryz.ntmps6 Tryz.results6 (by simp) ?_
  simp
  refine Inv_intro (ok_sGoodRib (k + 1) r hr) ?_
  cases hg : goodRib r with
  | false => simp [bestAtG, hg, zeroO]
  | true =>
    simp
    refine Inv_intro (ok_sGoodPrefix p) ?_
    cases hp : goodPx p with
    | false => simp [bestAtG, hp, zeroO]
    | true =>
      have e : bestAtG r p = bestR r p := if_pos ⟨hg, hp⟩
      rw [e]
      simp
      refine Inv_intro (ok_l13BestAt k r p hr hx hg) ?_
      cases hb : bestR r p with
      | none =>
        simp [outO]
        refine drawP (tabEnv [] _) [⟨[.op 3 6 0], allD 30, true⟩, ⟨[.op 3 6 0], allD 30, true⟩, ⟨[.op 3 6 0], allD 30, true⟩, ⟨[.op 3 6 0], allD 30, true⟩, ⟨[.op 3 6 0], allD 30, true⟩, ⟨[.op 4 4 1, .op 4 4 5], allD 30, true⟩, ⟨[], allD 30, true⟩, ⟨[.op 0 2 0, .op 4 4 1, .op 4 4 5], [23, 24, 25, 26, 27, 28, 29, 5], false⟩, ⟨[], allD 30, true⟩] h0 hm (tabEnv_ok (tab_cons (ok_l4Own 0 zeroO.Attrs (by decide) (by decide)) tab_nil)) (by kernel_rfl) (by kernel_rfl) ?_
        simp [zeroO]
      | some o =>
        have hs := bestR_small hb
        simp [outO]
        refine drawP (tabEnv [] _) [⟨[.op 3 6 0], allD 30, true⟩, ⟨[.op 3 6 0], allD 30, true⟩, ⟨[.op 3 6 0], allD 30, true⟩, ⟨[.op 3 6 0], allD 30, true⟩, ⟨[], allD 30, false⟩, ⟨[.op 4 4 1, .op 4 4 5], allD 30, true⟩, ⟨[], allD 30, true⟩, ⟨[.op 0 2 0, .op 4 4 1, .op 4 4 5], [23, 24, 25, 26, 27, 28, 29, 5], false⟩, ⟨[], allD 30, true⟩] h0 hm (tabEnv_ok (tab_cons (ok_l4Own (k + 1) o.Attrs (by omega) (by omega)) tab_nil)) (by kernel_rfl) (by kernel_rfl) ?_
        simp
theorem ok_sBestAt (k : Nat) (r : GRib) (p : GPrefix) (hr : ribOK r) (hx : ∀ x ∈ r.Rows, x.Offers.length ≤ 1048576) : CallOK Tryz.prog 6 [.agg (GRib.ci k r), .agg p.c] (.tup [.agg (GOffer.co ((bestAtG r p).getD zeroO)), .c (pb (bestAtG r p).isSome)]) [.agg (GRib.ci k r), .agg p.c] := by
  have h := ok_sBestAt1 0 r p hr hx
  refine CallOK.relabel ?_ rfl ?_
  · have e2 : PV.up (.agg p.c) = .agg p.c := by simp [PV.up, PT.up]
    simpa only [List.map_cons, List.map_nil, rib_up, e2] using h
  · intro w I I' lr he hh
    refine free_ac ?_ rfl he hh
    simp [PT.freeL, PT.free, freeL_pi]
def rBestAt (v0 : GRib) (v1 : GPrefix) : GOffer × Bool := ((bestAtG v0 v1).getD zeroO, (bestAtG v0 v1).isSome)
theorem rows_len {v0 : GRib} (h : GRib.wt v0 ≤ 1048576) : ∀ x ∈ v0.Rows, x.Offers.length ≤ 1048576 := by
  intro x hx
  unfold GRib.wt at h
  have h1 := mem_wt_RowS hx
  unfold GRow.wt at h1
  have := len_wt_OfferS x.Offers
  omega
theorem law_iBestAt (v0 : GRib) (v1 : GPrefix) (h : GRib.wt v0 ≤ 1048576) : CallOK Tryz.prog 9 [.agg (GRib.ci 0 v0), .agg (GPrefix.c v1)] (.tup [.agg (GOffer.co (rBestAt v0 v1).1), .c (pb (rBestAt v0 v1).2)]) [.agg (GRib.ci 0 v0), .agg (GPrefix.c v1)] := ok_iBestAt 0 v0 v1 (rib_ok h)
theorem law_sBestAt (v0 : GRib) (v1 : GPrefix) (h : GRib.wt v0 ≤ 1048576) : CallOK Tryz.prog 6 [.agg (GRib.ci 0 v0), .agg (GPrefix.c v1)] (.tup [.agg (GOffer.co (rBestAt v0 v1).1), .c (pb (rBestAt v0 v1).2)]) [.agg (GRib.ci 0 v0), .agg (GPrefix.c v1)] := ok_sBestAt 0 v0 v1 (rib_ok h) (rows_len h)
theorem rBestAt_small (v0 : GRib) (v1 : GPrefix) : (rBestAt v0 v1).1.Attrs.Path.length ≤ 10 ∧ (rBestAt v0 v1).1.Attrs.Comms.length ≤ 6 := by
  unfold rBestAt bestAtG
  split
  · cases hb : bestR v0 v1 with
    | none => exact ⟨by decide, by decide⟩
    | some o => exact bestR_small hb
  · exact ⟨by decide, by decide⟩
theorem rBestAt_ok (v0 : GRib) (v1 : GPrefix) : GOffer.lens (rBestAt v0 v1).1 ∧ GOffer.cnT (rBestAt v0 v1).1 ≤ 1152921504606846976 := by
  obtain ⟨h1, h2⟩ := rBestAt_small v0 v1
  have hw : GOffer.wt (rBestAt v0 v1).1 ≤ 1048576 := by
    unfold GOffer.wt GAttrs.wt wt_IntS
    omega
  have := cn_le_Offer (rBestAt v0 v1).1
  exact ⟨lens_of_Offer hw, by omega⟩
theorem ok_FnExactBestAt (v0 : GRib) (v1 : GPrefix) (f0 : GRib.fits v0) : CallOK Tryz.prog 3 [.agg (GRib.ci 1 v0), .agg (GPrefix.c v1)] (.c (pb true)) [.agg (GRib.ci 1 v0), .agg (GPrefix.c v1)] := by
  refine okS (fn := Tryz.f3) [(13, [1,0]), (12, [1,0])] h0 Tryz.func3 (by kernel_rfl) rfl Tryz.ntmps3 Tryz.results3 (by simp) ?_
  simp
  refine Inv_intro (ok_szRib 1 v0 _ (by omega) (by omega) f0) ?_
  simp
  refine brn_app (fun b0 => ?_) (fun b0 => ?_)
  · simp
  · simp at b0
    have e0 := szr_ge (szr_ge0 b0)
    have d0 := szr_ge0 b0
    simp
    have hv0 : GRib.wt v0 ≤ 1048576 := by omega
    have hlp0 : GRib.lens v0 := lens_of_Rib hv0
    have hcp0 := cn_le_Rib v0
    have hrr := rBestAt_ok v0 v1
    obtain ⟨hlr0, hcr0⟩ := hrr
    refine drawP (tabEnv [] _) [⟨[.op 0 0 0], allD 104, true⟩, ⟨[], allD 104, false⟩, ⟨[.op 0 1 0], allD 104, true⟩, ⟨[], allD 104, false⟩, ⟨[.op 5 1 1], [22, 23, 24, 25, 26, 21, 27, 28, 6, 7], false⟩, ⟨[.op 5 4 2, .op 5 4 6], allD 104, true⟩, ⟨[.op 5 4 2, .op 5 4 6], allD 104, true⟩, ⟨[], allD 104, true⟩, ⟨[], allD 104, false⟩, ⟨[.op 5 8 0, .op 5 4 2, .op 5 4 6], [22, 23, 24, 25, 26, 21, 27, 28, 6, 7], false⟩, ⟨[], allD 104, true⟩] h0 hm (tabEnv_ok (tab_cons (ok_toRib 1 v0 hv0) (tab_cons (ok_toPrefix v1) (tab_cons (law_sBestAt v0 v1 hv0) tab_nil)))) (by kernel_rfl) (by kernel_rfl) ?_
    simp
    refine Inv_intro (ok_toRib 1 v0 hv0) ?_
    simp
    refine drawP (tabEnv [] _) [⟨[.op 6 2 0], allD 104, true⟩, ⟨[.op 0 1 0], allD 104, true⟩, ⟨[], allD 104, false⟩, ⟨[.op 6 2 0], [32, 33, 34, 35, 31, 36, 37, 9, 10], false⟩, ⟨[.op 7 3 2, .op 7 3 6], allD 104, true⟩, ⟨[.op 7 3 2, .op 7 3 6], allD 104, true⟩, ⟨[], allD 104, true⟩, ⟨[], allD 104, false⟩, ⟨[.op 7 7 0, .op 7 3 2, .op 7 3 6], [32, 33, 34, 35, 31, 36, 37, 9, 10], false⟩, ⟨[], allD 104, true⟩] h0 hm (tabEnv_ok (tab_cons (ok_toPrefix v1) (tab_cons (law_iBestAt v0 v1 hv0) tab_nil))) (by kernel_rfl) (by kernel_rfl) ?_
    simp
    refine Inv_intro (ok_eqOffer 0 0 ((rBestAt v0 v1).1) ((rBestAt v0 v1).1) hlr0 hlr0) ?_
    simp
    refine drawP (tabEnv [] _) [⟨[.op 6 2 0], allD 104, true⟩, ⟨[.op 0 0 0], allD 104, true⟩, ⟨[], allD 104, false⟩, ⟨[.op 6 2 0, .op 10 2 1], [47, 48, 49, 50, 51], false⟩, ⟨[], allD 104, true⟩] h0 hm (tabEnv_ok (tab_cons (ok_toRib 1 v0 hv0) (tab_cons (ok_eqRib 0 0 (v0) (v0) hlp0 hlp0) tab_nil))) (by kernel_rfl) (by kernel_rfl) ?_
    simp
    have hm0 := GRib.markT_snd (v0) (1)
    have hn0 : ¬ (GRib.markT (v0) (1)).2 < 0 := by omega
    refine Inv_intro (ok_markRib (v0) (1) hlp0 (by omega) (by omega)) ?_
    simp [hn0]
    refine Inv_intro (ok_eqOffer 0 0 ((rBestAt v0 v1).1) ((rBestAt v0 v1).1) hlr0 hlr0) ?_
    simp [hn0]
    have hm1 := GOffer.markT_snd ((rBestAt v0 v1).1) (1)
    have hn1 : ¬ (GOffer.markT ((rBestAt v0 v1).1) (1)).2 < 0 := by omega
    refine Inv_intro (ok_markOffer ((rBestAt v0 v1).1) (1) hlr0 (by omega) (by omega)) ?_
    simp [hn0, hn1]
    refine Inv_intro (ok_heldOffer 0 ((rBestAt v0 v1).1) (1) hlr0 (by omega) (by omega)) ?_
    simp [hn0, hn1]
    refine drawP (tabEnv [] _) [⟨[.op 0 0 0], allD 104, true⟩, ⟨[], allD 104, false⟩, ⟨[.op 0 1 0], allD 104, true⟩, ⟨[], allD 104, false⟩, ⟨[.op 24 1 1], [80, 81, 82, 83, 84, 79, 85, 86, 14, 15], false⟩, ⟨[.op 24 4 2, .op 24 4 6], allD 104, true⟩, ⟨[.op 24 4 2, .op 24 4 6], allD 104, true⟩, ⟨[], allD 104, true⟩, ⟨[], allD 104, false⟩, ⟨[.op 24 8 0, .op 24 4 2, .op 24 4 6], [80, 81, 82, 83, 84, 79, 85, 86, 14, 15], false⟩, ⟨[], allD 104, true⟩] h0 hm (tabEnv_ok (tab_cons (ok_toRib 1 v0 hv0) (tab_cons (ok_toPrefix v1) (tab_cons (law_iBestAt v0 v1 hv0) tab_nil)))) (by kernel_rfl) (by kernel_rfl) ?_
    simp [hn0, hn1]
    refine Inv_intro (ok_eqOffer 0 0 ((rBestAt v0 v1).1) ((rBestAt v0 v1).1) hlr0 hlr0) ?_
    simp [hn0, hn1]
    refine Inv_intro (ok_heldOffer 0 ((rBestAt v0 v1).1) (1) hlr0 (by omega) (by omega)) ?_
    simp [hn0, hn1]
end Go.V
