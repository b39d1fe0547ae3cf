/- What functions of the seat's program do, each proved of its code, under the bounds that its theorem names. -/
import Derived.Test.YtdelgkhoahmnfaaGreatTah
set_option linter.all false
namespace Go.V
open Go.Proofs
set_option maxHeartbeats 1000000
set_option maxRecDepth 10000
set_option linter.unusedSimpArgs false
set_option linter.unusedVariables false
theorem bestR_good {r : GRib} {p : GPrefix} (hg : goodRib r = true) (hi : rowIs p r.Rows = true) : ∃ hl : rowAt p r.Rows < r.Rows.length, bestR r p = bestO (restO r.Own r.Rows[rowAt p r.Rows].Offers) := by
  obtain ⟨ho, _, _, hrows⟩ := goodRib_all hg
  obtain ⟨hl, he⟩ := rowIs_lt hi
  have hgx := hrows _ (List.getElem_mem hl)
  have hgo : goodOs r.Rows[rowAt p r.Rows].Offers = true := by
    simp only [goodRow, Bool.and_eq_true] at hgx
    exact hgx.2.2
  refine ⟨hl, ?_⟩
  unfold bestR
  rw [if_pos hi, List.getElem?_eq_getElem hl]
  simp only [bstBy]
  rw [if_pos ⟨hgo, ho⟩]
theorem ok_l13BestAt (k : Nat) (r : GRib) (p : GPrefix) (hr : ribOK r) (hx : ∀ x ∈ r.Rows, x.Offers.length ≤ 1048576) (hg : goodRib r = true) : CallOK Tryz.prog 108 [.agg (GRib.ci (k + 1) r), .agg p.c] (.tup [.agg (outO (k + 1) (bestR r p)), .c (pb (bestR r p).isSome)]) [.agg (GRib.ci (k + 1) r), .agg p.c] := by
  refine okS (fn := Tryz.f108) [] h0 Tryz.func108 (by kernel_rfl) rfl Tryz.ntmps108 Tryz.results108 (by simp) ?_
  simp
  refine Inv_intro (ok_l13At (k + 1) r p hr.1) ?_
  by_cases hi : rowIs p r.Rows = true
  · obtain ⟨hl, hbr⟩ := bestR_good hg hi
    rw [hbr]
    have ho := hr.2 _ (List.getElem_mem hl)
    have hol := hx _ (List.getElem_mem hl)
    generalize rowAt p r.Rows = i at *
    have hd := fm_drop (GRow.ci (k + 1)) 3 (fun _ => rfl) r.Rows i hl
    have hlen := fm_len (GRow.ci (k + 1)) 3 (fun _ => rfl) r.Rows
    have hlt : i * 3 < r.Rows.length * 3 := by omega
    have hlt2 : i * 3 + 2 < r.Rows.length * 3 := by omega
    have hB := ok_l13Best k r.Own r.Rows[i].Offers ho hol
    simp [hi]
    cases hb : bestO (restO r.Own r.Rows[i].Offers) with
    | none =>
      rw [hb] at hB
      simp [outO] at hB ⊢
      refine drawP (tabEnv [] _) [⟨[.op 0 0 0], allD 28, true⟩, ⟨[.op 0 0 0], allD 28, true⟩, ⟨[.op 0 0 0], allD 28, true⟩, ⟨[.op 0 0 0], allD 28, true⟩, ⟨[], allD 28, true⟩, ⟨[], allD 28, true⟩, ⟨[], allD 28, true⟩, ⟨[], allD 28, true⟩, ⟨[], allD 28, false⟩, ⟨[.op 4 8 2, .op 4 8 6], allD 28, true⟩, ⟨[.op 4 8 2, .op 4 8 6], allD 28, true⟩, ⟨[.op 0 2 0, .op 4 8 2, .op 4 8 6], [17, 18, 19, 20, 21, 22, 23, 24, 25, 26, 27, 5], false⟩, ⟨[], allD 28, true⟩] h0 hm (tabEnv_ok (tab_cons hB tab_nil)) (by kernel_rfl) (by kernel_rfl) ?_
      simp [hl, hd, hlen, hlt, hlt2]
    | some o =>
      rw [hb] at hB
      simp [outO] at hB ⊢
      refine drawP (tabEnv [] _) [⟨[.op 0 0 0], allD 28, true⟩, ⟨[.op 0 0 0], allD 28, true⟩, ⟨[.op 0 0 0], allD 28, true⟩, ⟨[.op 0 0 0], allD 28, true⟩, ⟨[], allD 28, true⟩, ⟨[], allD 28, true⟩, ⟨[], allD 28, true⟩, ⟨[], allD 28, true⟩, ⟨[], allD 28, false⟩, ⟨[], allD 28, true⟩, ⟨[], allD 28, true⟩, ⟨[.op 0 2 0], [17, 18, 19, 20, 21, 22, 23, 24, 25, 26, 27, 5], false⟩, ⟨[], allD 28, true⟩] h0 hm (tabEnv_ok (tab_cons hB tab_nil)) (by kernel_rfl) (by kernel_rfl) ?_
      simp [hl, hd, hlen, hlt, hlt2]
  · have hi' : rowIs p r.Rows = false := by simpa using hi
    simp [bestR, hi', outO]
theorem ok_sBestAt1 (k : Nat) (r : GRib) (p : GPrefix) (hr : ribOK r) (hx : ∀ x ∈ r.Rows, x.Offers.length ≤ 1048576) : CallOK Tryz.prog 50 [.agg (GRib.ci (k + 1) r), .agg p.c] (.tup [.agg (GOffer.co ((bestAtG r p).getD zeroO)), .c (pb (bestAtG r p).isSome)]) [.agg (GRib.ci (k + 1) r), .agg p.c] := by
  refine okS (fn := Tryz.f50) [] h0 Tryz.func50 (by kernel_rfl) rfl Tryz.ntmps50 Tryz.results50 (by simp) ?_
  simp
  refine Inv_intro (ok_sGoodRib (k + 1) r hr) ?_
  cases hg : goodRib r with
  | false => simp [bestAtG, hg, zeroO]
  | true =>
    simp
    refine Inv_intro (ok_sGoodPrefix p) ?_
    cases hp : goodPx p with
    | false => simp [bestAtG, hp, zeroO]
    | true =>
      have e : bestAtG r p = bestR r p := if_pos ⟨hg, hp⟩
      rw [e]
      simp
      refine Inv_intro (ok_l13BestAt k r p hr hx hg) ?_
      cases hb : bestR r p with
      | none =>
        simp [outO]
        refine drawP (tabEnv [] _) [⟨[.op 3 6 0], allD 30, true⟩, ⟨[.op 3 6 0], allD 30, true⟩, ⟨[.op 3 6 0], allD 30, true⟩, ⟨[.op 3 6 0], allD 30, true⟩, ⟨[.op 3 6 0], allD 30, true⟩, ⟨[.op 4 4 1, .op 4 4 5], allD 30, true⟩, ⟨[], allD 30, true⟩, ⟨[.op 0 2 0, .op 4 4 1, .op 4 4 5], [23, 24, 25, 26, 27, 28, 29, 5], false⟩, ⟨[], allD 30, true⟩] h0 hm (tabEnv_ok (tab_cons (ok_l4Own 0 zeroO.Attrs (by decide) (by decide)) tab_nil)) (by kernel_rfl) (by kernel_rfl) ?_
        simp [zeroO]
      | some o =>
        have hs := bestR_small hb
        simp [outO]
        refine drawP (tabEnv [] _) [⟨[.op 3 6 0], allD 30, true⟩, ⟨[.op 3 6 0], allD 30, true⟩, ⟨[.op 3 6 0], allD 30, true⟩, ⟨[.op 3 6 0], allD 30, true⟩, ⟨[], allD 30, false⟩, ⟨[.op 4 4 1, .op 4 4 5], allD 30, true⟩, ⟨[], allD 30, true⟩, ⟨[.op 0 2 0, .op 4 4 1, .op 4 4 5], [23, 24, 25, 26, 27, 28, 29, 5], false⟩, ⟨[], allD 30, true⟩] h0 hm (tabEnv_ok (tab_cons (ok_l4Own (k + 1) o.Attrs (by omega) (by omega)) tab_nil)) (by kernel_rfl) (by kernel_rfl) ?_
        simp
theorem ok_sBestAt (k : Nat) (r : GRib) (p : GPrefix) (hr : ribOK r) (hx : ∀ x ∈ r.Rows, x.Offers.length ≤ 1048576) : CallOK Tryz.prog 50 [.agg (GRib.ci k r), .agg p.c] (.tup [.agg (GOffer.co ((bestAtG r p).getD zeroO)), .c (pb (bestAtG r p).isSome)]) [.agg (GRib.ci k r), .agg p.c] := by
  have h := ok_sBestAt1 0 r p hr hx
  refine CallOK.relabel ?_ rfl ?_
  · have e2 : PV.up (.agg p.c) = .agg p.c := by simp [PV.up, PT.up]
    simpa only [List.map_cons, List.map_nil, rib_up, e2] using h
  · intro w I I' lr he hh
    refine free_ac ?_ rfl he hh
    simp [PT.freeL, PT.free, freeL_pi]
def rBestAt (v0 : GRib) (v1 : GPrefix) : GOffer × Bool := ((bestAtG v0 v1).getD zeroO, (bestAtG v0 v1).isSome)
theorem rows_len {v0 : GRib} (h : GRib.wt v0 ≤ 1048576) : ∀ x ∈ v0.Rows, x.Offers.length ≤ 1048576 := by
  intro x hx
  unfold GRib.wt at h
  have h1 := mem_wt_RowS hx
  unfold GRow.wt at h1
  have := len_wt_OfferS x.Offers
  omega
theorem law_iBestAt (v0 : GRib) (v1 : GPrefix) (h : GRib.wt v0 ≤ 1048576) : CallOK Tryz.prog 44 [.agg (GRib.ci 0 v0), .agg (GPrefix.c v1)] (.tup [.agg (GOffer.co (rBestAt v0 v1).1), .c (pb (rBestAt v0 v1).2)]) [.agg (GRib.ci 0 v0), .agg (GPrefix.c v1)] := ok_iBestAt 0 v0 v1 (rib_ok h)
theorem law_sBestAt (v0 : GRib) (v1 : GPrefix) (h : GRib.wt v0 ≤ 1048576) : CallOK Tryz.prog 50 [.agg (GRib.ci 0 v0), .agg (GPrefix.c v1)] (.tup [.agg (GOffer.co (rBestAt v0 v1).1), .c (pb (rBestAt v0 v1).2)]) [.agg (GRib.ci 0 v0), .agg (GPrefix.c v1)] := ok_sBestAt 0 v0 v1 (rib_ok h) (rows_len h)
theorem rBestAt_small (v0 : GRib) (v1 : GPrefix) : (rBestAt v0 v1).1.Attrs.Path.length ≤ 10 ∧ (rBestAt v0 v1).1.Attrs.Comms.length ≤ 6 := by
  unfold rBestAt bestAtG
  split
  · cases hb : bestR v0 v1 with
    | none => exact ⟨by decide, by decide⟩
    | some o => exact bestR_small hb
  · exact ⟨by decide, by decide⟩
theorem rBestAt_ok (v0 : GRib) (v1 : GPrefix) : GOffer.lens (rBestAt v0 v1).1 ∧ GOffer.cnT (rBestAt v0 v1).1 ≤ 1152921504606846976 := by
  obtain ⟨h1, h2⟩ := rBestAt_small v0 v1
  have hw : GOffer.wt (rBestAt v0 v1).1 ≤ 1048576 := by
    unfold GOffer.wt GAttrs.wt wt_IntS
    omega
  have := cn_le_Offer (rBestAt v0 v1).1
  exact ⟨lens_of_Offer hw, by omega⟩
theorem ok_ownOffers (k : Nat) (l : List GOffer) (hl : l.length ≤ 1048576) (hx : ∀ x ∈ l, x.Attrs.Path.length ≤ 1048576 ∧ x.Attrs.Comms.length ≤ 1048576) : CallOK Tryz.prog 67 [.c (rd k l.length (l.flatMap (GOffer.ci k)))] (.c (.sl 0 81 l.length (l.flatMap GOffer.co))) [.c (rd k l.length (l.flatMap (GOffer.ci k)))] := by
  refine okS (fn := Tryz.f67) [] h0 Tryz.func67 (by kernel_rfl) rfl Tryz.ntmps67 Tryz.results67 (by simp) ?_
  simp
  refine ewp_sw (.op 1 0 0) (.op 5 8 0) rfl rfl ?_
  simp
  refine loopS [3, 7, 8, 9] [.op 5 8 0] (fun n st => ∃ (i : Nat), i + n = l.length ∧ st = ⟨slOf 24 [(3, .ref ⟨.op 5 8 0, []⟩ 0 i), (7, .t (rd k l.length (l.flatMap (GOffer.ci k)))), (8, .t (pi l.length)), (9, .t (pi i))], ofL [(.op 5 8 0, .sl 0 81 i ((l.take i).flatMap GOffer.co))]⟩) l.length ?_ ?_
  · rintro Inv hI
    simp
    subst hI
    exact ⟨0, by omega, by simp⟩
  · rintro Inv hI n st ⟨i, hi, rfl⟩
    have hA := fm_take_len GOffer.co 7 (fun _ => rfl) l i (by omega)
    generalize hAe : ((l.take i).flatMap GOffer.co) = A at hA ⊢
    refine ewr_sound (M := []) h0 ?_
    simp
    refine brn_app (fun a => ?_) (fun a => ?_)
    · simp at a
      have hd := fm_drop (GOffer.ci k) 7 (fun _ => rfl) l i a
      have hlen := fm_len (GOffer.ci k) 7 (fun _ => rfl) l
      have hlt : i * 7 < l.length * 7 := by omega
      have hb1 : (i + 1) * 88 ≤ 140737488355328 := by omega
      have hb2 : i ≤ 9223372036854775806 := by omega
      have hp := hx _ (List.getElem_mem a)
      have ht : A.take (i * 7) = A := List.take_of_length_le (by omega)
      have e3 : ((l.take (i + 1)).flatMap GOffer.co) = A ++ GOffer.co l[i] := by rw [take_step l i a, List.flatMap_append, hAe, List.flatMap_cons, List.flatMap_nil, List.append_nil]
      simp [a, hd, hlen, hlt]
      refine drawP (tabEnv [] _) [⟨[.op 5 8 0], allD 24, true⟩, ⟨[.op 4 2 0], allD 24, true⟩, ⟨[.op 4 2 0], allD 24, true⟩, ⟨[.op 4 2 0], allD 24, true⟩, ⟨[.op 4 2 0], allD 24, true⟩, ⟨[], allD 24, false⟩, ⟨[.op 5 5 1, .op 5 5 5], allD 24, true⟩, ⟨[.op 5 5 1, .op 5 5 5], [13, 14, 15, 16, 17, 18, 19, 20, 21, 3], false⟩, ⟨[.op 5 8 0, .op 5 7 0], [13, 14, 15, 16, 17, 18, 19, 20, 21, 3], false⟩, ⟨[.op 5 8 0], allD 24, true⟩] h0 hm (tabEnv_ok (tab_cons (ok_ownAttrs k l[i].Attrs hp.1 hp.2) tab_nil)) (by kernel_rfl) (by kernel_rfl) ?_
      simp [hA, hb1, hb2, ht]
      subst hI
      refine Less_mk (n - 1) (by omega) ⟨i + 1, by omega, ?_⟩
      rw [wrNext i (by omega), e3]
      all_goals simp
    · simp at a
      have hn : n = 0 := by omega
      subst hn
      have ht : List.take i l = l := List.take_of_length_le (by omega)
      have hil : i = l.length := by omega
      rw [← hAe, ht, hil]
      simp
def browO (own : Int) (x : GRow) : Option GOffer := bestO (restO own x.Offers)
def browsO (own : Int) (l : List GRow) : List GOffer := l.flatMap fun x => (browO own x).toList
def browsP (own : Int) (l : List GRow) : List GPrefix := l.flatMap fun x => if (browO own x).isSome = true then [x.Prefix] else []
theorem browsO_snoc (own : Int) (l : List GRow) (i : Nat) (h : i < l.length) : browsO own (l.take (i + 1)) = browsO own (l.take i) ++ (browO own l[i]).toList := by
  unfold browsO
  rw [take_step l i h, List.flatMap_append]
  simp
theorem browsP_snoc (own : Int) (l : List GRow) (i : Nat) (h : i < l.length) : browsP own (l.take (i + 1)) = browsP own (l.take i) ++ (if (browO own l[i]).isSome = true then [l[i].Prefix] else []) := by
  unfold browsP
  rw [take_step l i h, List.flatMap_append]
  simp
theorem browsO_len (own : Int) : ∀ l : List GRow, (browsO own l).length ≤ l.length
  | [] => by simp [browsO]
  | x :: l => by
    have ih := browsO_len own l
    unfold browsO at ih ⊢
    rw [List.flatMap_cons, List.length_append, List.length_cons]
    have : (browO own x).toList.length ≤ 1 := by cases browO own x <;> simp
    omega
theorem browsP_len (own : Int) : ∀ l : List GRow, (browsP own l).length ≤ l.length
  | [] => by simp [browsP]
  | x :: l => by
    have ih := browsP_len own l
    unfold browsP at ih ⊢
    rw [List.flatMap_cons, List.length_append, List.length_cons]
    have : (if (browO own x).isSome = true then [x.Prefix] else []).length ≤ 1 := by split <;> simp
    omega
theorem row_self {l : List GRow} (h : srtW l) (i : Nat) (hi : i < l.length) : rowAt l[i].Prefix l = i ∧ rowIs l[i].Prefix l = true := by
  have e : bsI (fun x : GRow => cmpPx x.Prefix l[i].Prefix) l = i := by
    refine bsI_eq _ l i (by omega) ?_ ?_
    · intro m hm hl
      exact List.pairwise_iff_getElem.1 h m i hl hi hm
    · intro _
      have := ltP_irr l[i].Prefix
      omega
  refine ⟨e, ?_⟩
  unfold rowIs bsF
  rw [e, List.getElem?_eq_getElem hi]
  simp only [decide_eq_true_eq]
  exact (cmpPx_eq _ _).2 rfl
theorem bestR_row {r : GRib} (hg : goodRib r = true) (i : Nat) (hi : i < r.Rows.length) : bestR r r.Rows[i].Prefix = browO r.Own r.Rows[i] := by
  obtain ⟨_, _, hs, _⟩ := goodRib_all hg
  obtain ⟨e1, e2⟩ := row_self hs i hi
  obtain ⟨hl, hb⟩ := bestR_good hg e2
  rw [hb]
  unfold browO
  congr 3
  have : ∀ (j : Nat) (hj : j < r.Rows.length), j = i → r.Rows[j] = r.Rows[i] := by
    rintro j hj rfl
    rfl
  exact this _ hl e1
theorem browsO_small {r : GRib} (hg : goodRib r = true) : ∀ o ∈ browsO r.Own r.Rows, o.Attrs.Path.length ≤ 10 ∧ o.Attrs.Comms.length ≤ 6 := by
  intro o ho
  obtain ⟨x, hx, hox⟩ := List.mem_flatMap.1 ho
  obtain ⟨i, hi, rfl⟩ := List.mem_iff_getElem.1 hx
  have e := bestR_row hg i hi
  have : bestR r r.Rows[i].Prefix = some o := by rw [e]; simpa using hox
  exact bestR_small this
theorem ok_iBestRows1 (k : Nat) (r : GRib) (hr : ribOK r) (hg : goodRib r = true) : CallOK Tryz.prog 12 [.agg (GRib.ci (k + 1) r)] (.tup [.c (.sl 0 81 (browsO r.Own r.Rows).length ((browsO r.Own r.Rows).flatMap GOffer.co)), .c (.sl 0 77 (browsP r.Own r.Rows).length ((browsP r.Own r.Rows).flatMap GPrefix.c)), .c (pb true)]) [.agg (GRib.ci (k + 1) r)] := by
  obtain ⟨_, h20, _, _⟩ := goodRib_all hg
  refine okS (fn := Tryz.f12) [] h0 Tryz.func12 (by kernel_rfl) rfl Tryz.ntmps12 Tryz.results12 (by simp) ?_
  simp
  refine Inv_intro (ok_iGoodRib (k + 1) r hr) ?_
  simp [hg]
  refine ewp_sw (.op 3 0 0) (.op 9 3 0) rfl rfl ?_
  refine ewp_sw (.op 3 1 0) (.op 10 4 0) rfl rfl ?_
  simp
  refine loopS [1, 5, 6, 17, 18, 19] [.op 0 0 0, .op 9 3 0, .op 10 4 0] (fun m st => ∃ (i : Nat), i + m = r.Rows.length ∧ st = ⟨slOf 44 [(1, .ptr ⟨.op 0 0 0, []⟩ 0), (5, .ref ⟨.op 9 3 0, []⟩ 0 (browsO r.Own (r.Rows.take i)).length), (6, .ref ⟨.op 10 4 0, []⟩ 0 (browsP r.Own (r.Rows.take i)).length), (17, .t (rd (k + 1) r.Rows.length (r.Rows.flatMap (GRow.ci (k + 1))))), (18, .t (pi r.Rows.length)), (19, .t (pi i))], ofL [(.op 0 0 0, .sl 0 32 1 (GRib.ci (k + 1) r)), (.op 9 3 0, .sl 0 81 (browsO r.Own (r.Rows.take i)).length ((browsO r.Own (r.Rows.take i)).flatMap (GOffer.ci (k + 1)))), (.op 10 4 0, .sl 0 77 (browsP r.Own (r.Rows.take i)).length ((browsP r.Own (r.Rows.take i)).flatMap GPrefix.c))]⟩) r.Rows.length ?_ ?_
  · rintro Inv hI
    simp
    subst hI
    refine ⟨0, by omega, ?_⟩
    simp [browsO, browsP]
  · rintro Inv hI m st ⟨i, hi, rfl⟩
    have hO : (browsO r.Own (r.Rows.take i)).length ≤ i := Nat.le_trans (browsO_len _ _) (by rw [List.length_take]; omega)
    have hP : (browsP r.Own (r.Rows.take i)).length ≤ i := Nat.le_trans (browsP_len _ _) (by rw [List.length_take]; omega)
    have hSO := browsO_snoc r.Own r.Rows i
    have hSP := browsP_snoc r.Own r.Rows i
    have hend : i = r.Rows.length → browsO r.Own (r.Rows.take i) = browsO r.Own r.Rows ∧ browsP r.Own (r.Rows.take i) = browsP r.Own r.Rows := fun h => by rw [List.take_of_length_le (by omega)]; exact ⟨rfl, rfl⟩
    generalize browsO r.Own (r.Rows.take i) = O at hO hSO hend ⊢
    generalize browsP r.Own (r.Rows.take i) = P at hP hSP hend ⊢
    refine ewr_sound (M := []) h0 ?_
    simp
    refine brn_app (fun a => ?_) (fun a => ?_)
    · simp at a
      have hSO' := hSO a
      have hSP' := hSP a
      have hd := fm_drop (GRow.ci (k + 1)) 3 (fun _ => rfl) r.Rows i a
      have hlen := fm_len (GRow.ci (k + 1)) 3 (fun _ => rfl) r.Rows
      have hlt : i * 3 < r.Rows.length * 3 := by omega
      simp [a, hd, hlen, hlt]
      have hB := ok_bestAt k r r.Rows[i].Prefix hr hg
      rw [bestR_row hg i a] at hB
      refine Inv_intro hB ?_
      cases hb : browO r.Own r.Rows[i] with
      | none =>
        rw [hb] at hSO' hSP'
        simp at hSO' hSP'
        simp [outO]
        subst hI
        refine Less_mk (m - 1) (by omega) ⟨i + 1, by omega, ?_⟩
        rw [wrNext i (by omega), hSO', hSP']
        all_goals simp
      | some o =>
        rw [hb] at hSO' hSP'
        simp at hSO' hSP'
        have hA := fm_len (GOffer.ci (k + 1)) 7 (fun _ => rfl) O
        have ht : List.take (O.length * 7) (O.flatMap (GOffer.ci (k + 1))) = O.flatMap (GOffer.ci (k + 1)) := List.take_of_length_le (by omega)
        have hb1 : (O.length + 1) * 88 ≤ 140737488355328 := by omega
        have hb2 : O.length ≤ 9223372036854775806 := by omega
        have hA' := fm_len GPrefix.c 2 (fun _ => rfl) P
        have ht' : List.take (P.length * 2) (P.flatMap GPrefix.c) = P.flatMap GPrefix.c := List.take_of_length_le (by omega)
        have hb1' : (P.length + 1) * 16 ≤ 140737488355328 := by omega
        have hb2' : P.length ≤ 9223372036854775806 := by omega
        simp [outO, hA, ht, hb1, hb2, hA', ht', hb1', hb2']
        subst hI
        refine Less_mk (m - 1) (by omega) ⟨i + 1, by omega, ?_⟩
        rw [wrNext i (by omega), hSO', hSP']
        all_goals simp
    · simp at a
      have hil : i = r.Rows.length := by omega
      obtain ⟨e1, e2⟩ := hend hil
      subst e1
      subst e2
      have hsm := browsO_small hg
      have hOO := ok_ownOffers 0 (browsO r.Own r.Rows) (by omega) (fun x hx => by have := hsm x hx; omega)
      generalize browsO r.Own r.Rows = O at hO hOO ⊢
      generalize browsP r.Own r.Rows = P at hP ⊢
      simp
      refine Inv_intro hOO ?_
      have hA' := fm_len GPrefix.c 2 (fun _ => rfl) P
      have ht' : List.take (P.length * 2) (P.flatMap GPrefix.c) = P.flatMap GPrefix.c := List.take_of_length_le (by omega)
      simp [hA', ht']
def bestRowsG (r : GRib) : List GOffer × List GPrefix × Bool := if goodRib r = true then (browsO r.Own r.Rows, browsP r.Own r.Rows, true) else ([], [], false)
theorem ok_iBestRows2 (k : Nat) (r : GRib) (hr : ribOK r) : CallOK Tryz.prog 12 [.agg (GRib.ci (k + 1) r)] (.tup [.c (.sl 0 81 (bestRowsG r).1.length ((bestRowsG r).1.flatMap GOffer.co)), .c (.sl 0 77 (bestRowsG r).2.1.length ((bestRowsG r).2.1.flatMap GPrefix.c)), .c (pb (bestRowsG r).2.2)]) [.agg (GRib.ci (k + 1) r)] := by
  by_cases hg : goodRib r = true
  · have := ok_iBestRows1 k r hr hg
    unfold bestRowsG
    rw [if_pos hg]
    exact this
  · unfold bestRowsG
    rw [if_neg hg]
    have hg' : goodRib r = false := by simpa using hg
    refine okS (fn := Tryz.f12) [] h0 Tryz.func12 (by kernel_rfl) rfl Tryz.ntmps12 Tryz.results12 (by simp) ?_
    simp
    refine Inv_intro (ok_iGoodRib (k + 1) r hr) ?_
    simp [hg']
theorem free_off (l : List GOffer) : PT.freeL (l.flatMap GOffer.co) = true := freeL_fm _ _ fun o => by simp [PT.freeL, PT.free, freeL_pi]
theorem free_px (l : List GPrefix) : PT.freeL (l.flatMap GPrefix.c) = true := freeL_fm _ _ fun o => by simp [PT.freeL, PT.free]
theorem ok_iBestRows (k : Nat) (r : GRib) (hr : ribOK r) : CallOK Tryz.prog 12 [.agg (GRib.ci k r)] (.tup [.c (.sl 0 81 (bestRowsG r).1.length ((bestRowsG r).1.flatMap GOffer.co)), .c (.sl 0 77 (bestRowsG r).2.1.length ((bestRowsG r).2.1.flatMap GPrefix.c)), .c (pb (bestRowsG r).2.2)]) [.agg (GRib.ci k r)] := by
  have h := ok_iBestRows2 0 r hr
  refine CallOK.relabel ?_ rfl ?_
  · simpa only [List.map_cons, List.map_nil, rib_up] using h
  · intro w I I' lr he hh
    refine free_ccc ?_ ?_ rfl he hh
    · simp only [PT.free]; exact free_off _
    · simp only [PT.free]; exact free_px _
theorem ok_sBestRows1 (k : Nat) (r : GRib) (hr : ribOK r) (hx : ∀ x ∈ r.Rows, x.Offers.length ≤ 1048576) (hg : goodRib r = true) : CallOK Tryz.prog 10 [.agg (GRib.ci (k + 1) r)] (.tup [.c (.sl 0 81 (browsO r.Own r.Rows).length ((browsO r.Own r.Rows).flatMap GOffer.co)), .c (.sl 0 77 (browsP r.Own r.Rows).length ((browsP r.Own r.Rows).flatMap GPrefix.c)), .c (pb true)]) [.agg (GRib.ci (k + 1) r)] := by
  obtain ⟨_, h20, _, _⟩ := goodRib_all hg
  have hsm := browsO_small hg
  refine okS (fn := Tryz.f10) [] h0 Tryz.func10 (by kernel_rfl) rfl Tryz.ntmps10 Tryz.results10 (by simp) ?_
  simp
  refine Inv_intro (ok_sGoodRib (k + 1) r hr) ?_
  simp [hg]
  refine ewp_nil 6 (.op 11 4 0) 77 (by decide) rfl rfl rfl ?_
  refine ewp_nil 5 (.op 10 8 0) 81 (by decide) rfl rfl rfl ?_
  refine loopS [1, 5, 6, 15, 16, 17] [.op 10 8 0, .op 11 4 0, .op 0 0 0] (fun m st => ∃ (i : Nat), i + m = r.Rows.length ∧ st = ⟨slOf 47 [(1, .ptr ⟨.op 0 0 0, []⟩ 0), (5, .ref ⟨.op 10 8 0, []⟩ 0 (browsO r.Own (r.Rows.take i)).length), (6, .ref ⟨.op 11 4 0, []⟩ 0 (browsP r.Own (r.Rows.take i)).length), (15, .t (rd (k + 1) r.Rows.length (r.Rows.flatMap (GRow.ci (k + 1))))), (16, .t (pi r.Rows.length)), (17, .t (pi i))], ofL [(.op 10 8 0, .sl 0 81 (browsO r.Own (r.Rows.take i)).length ((browsO r.Own (r.Rows.take i)).flatMap GOffer.co)), (.op 11 4 0, .sl 0 77 (browsP r.Own (r.Rows.take i)).length ((browsP r.Own (r.Rows.take i)).flatMap GPrefix.c)), (.op 0 0 0, .sl 0 32 1 (GRib.ci (k + 1) r))]⟩) r.Rows.length ?_ ?_
  · rintro Inv hI
    simp
    subst hI
    refine ⟨0, by omega, ?_⟩
    simp [browsO, browsP]
  · rintro Inv hI m st ⟨i, hi, rfl⟩
    have hO : (browsO r.Own (r.Rows.take i)).length ≤ i := Nat.le_trans (browsO_len _ _) (by rw [List.length_take]; omega)
    have hP : (browsP r.Own (r.Rows.take i)).length ≤ i := Nat.le_trans (browsP_len _ _) (by rw [List.length_take]; omega)
    have hSO := browsO_snoc r.Own r.Rows i
    have hSP := browsP_snoc r.Own r.Rows i
    have hend : i = r.Rows.length → browsO r.Own (r.Rows.take i) = browsO r.Own r.Rows ∧ browsP r.Own (r.Rows.take i) = browsP r.Own r.Rows := fun h => by rw [List.take_of_length_le (by omega)]; exact ⟨rfl, rfl⟩
    generalize browsO r.Own (r.Rows.take i) = O at hO hSO hend ⊢
    generalize browsP r.Own (r.Rows.take i) = P at hP hSP hend ⊢
    refine ewr_sound (M := []) h0 ?_
    simp
    refine brn_app (fun a => ?_) (fun a => ?_)
    · simp at a
      have hSO' := hSO a
      have hSP' := hSP a
      have hd := fm_drop (GRow.ci (k + 1)) 3 (fun _ => rfl) r.Rows i a
      have hlen := fm_len (GRow.ci (k + 1)) 3 (fun _ => rfl) r.Rows
      have hlt : i * 3 < r.Rows.length * 3 := by omega
      have hB := ok_l13Best k r.Own r.Rows[i].Offers (hr.2 _ (List.getElem_mem a)) (hx _ (List.getElem_mem a))
      change CallOK _ _ _ (.tup [.agg (outO (k + 1) (browO r.Own r.Rows[i])), .c (pb (browO r.Own r.Rows[i]).isSome)]) _ at hB
      simp [a, hd, hlen, hlt]
      refine Inv_intro hB ?_
      cases hb : browO r.Own r.Rows[i] with
      | none =>
        rw [hb] at hSO' hSP'
        simp at hSO' hSP'
        simp [outO]
        subst hI
        refine Less_mk (m - 1) (by omega) ⟨i + 1, by omega, ?_⟩
        rw [wrNext i (by omega), hSO', hSP']
        all_goals simp
      | some o =>
        have hos : o.Attrs.Path.length ≤ 10 ∧ o.Attrs.Comms.length ≤ 6 := hsm o (List.mem_flatMap.2 ⟨r.Rows[i], List.getElem_mem a, by rw [hb]; simp⟩)
        rw [hb] at hSO' hSP'
        simp at hSO' hSP'
        have hA := fm_len GOffer.co 7 (fun _ => rfl) O
        have ht : List.take (O.length * 7) (O.flatMap GOffer.co) = O.flatMap GOffer.co := List.take_of_length_le (by omega)
        have hb1 : (O.length + 1) * 88 ≤ 140737488355328 := by omega
        have hb2 : O.length ≤ 9223372036854775806 := by omega
        have hA' := fm_len GPrefix.c 2 (fun _ => rfl) P
        have ht' : List.take (P.length * 2) (P.flatMap GPrefix.c) = P.flatMap GPrefix.c := List.take_of_length_le (by omega)
        have hb1' : (P.length + 1) * 16 ≤ 140737488355328 := by omega
        have hb2' : P.length ≤ 9223372036854775806 := by omega
        simp [outO]
        refine drawP (tabEnv [] _) [⟨[.op 10 8 0], allD 47, true⟩, ⟨[.op 8 8 0], allD 47, true⟩, ⟨[.op 8 8 0], allD 47, true⟩, ⟨[.op 8 8 0], allD 47, true⟩, ⟨[.op 8 8 0], allD 47, true⟩, ⟨[], allD 47, false⟩, ⟨[.op 10 5 1, .op 10 5 5], allD 47, true⟩, ⟨[.op 10 5 1, .op 10 5 5], [30, 31, 32, 33, 34, 35, 36, 37, 38, 5], false⟩, ⟨[.op 10 8 0, .op 10 7 0], [30, 31, 32, 33, 34, 35, 36, 37, 38, 5], false⟩, ⟨[.op 10 8 0], allD 47, true⟩] h0 hm (tabEnv_ok (tab_cons (ok_l4Own (k + 1) o.Attrs (by omega) (by omega)) tab_nil)) (by kernel_rfl) (by kernel_rfl) ?_
        simp [hA, ht, hb1, hb2, hA', ht', hb1', hb2']
        subst hI
        refine Less_mk (m - 1) (by omega) ⟨i + 1, by omega, ?_⟩
        rw [wrNext i (by omega), hSO', hSP']
        all_goals simp
    · simp at a
      have hil : i = r.Rows.length := by omega
      obtain ⟨e1, e2⟩ := hend hil
      subst e1
      subst e2
      generalize browsO r.Own r.Rows = O at hO ⊢
      generalize browsP r.Own r.Rows = P at hP ⊢
      have hA := fm_len GOffer.co 7 (fun _ => rfl) O
      have ht : List.take (O.length * 7) (O.flatMap GOffer.co) = O.flatMap GOffer.co := List.take_of_length_le (by omega)
      have hA' := fm_len GPrefix.c 2 (fun _ => rfl) P
      have ht' : List.take (P.length * 2) (P.flatMap GPrefix.c) = P.flatMap GPrefix.c := List.take_of_length_le (by omega)
      simp [hA, ht, hA', ht']
theorem ok_sBestRows2 (k : Nat) (r : GRib) (hr : ribOK r) (hx : ∀ x ∈ r.Rows, x.Offers.length ≤ 1048576) : CallOK Tryz.prog 10 [.agg (GRib.ci (k + 1) r)] (.tup [.c (.sl 0 81 (bestRowsG r).1.length ((bestRowsG r).1.flatMap GOffer.co)), .c (.sl 0 77 (bestRowsG r).2.1.length ((bestRowsG r).2.1.flatMap GPrefix.c)), .c (pb (bestRowsG r).2.2)]) [.agg (GRib.ci (k + 1) r)] := by
  by_cases hg : goodRib r = true
  · have := ok_sBestRows1 k r hr hx hg
    unfold bestRowsG
    rw [if_pos hg]
    exact this
  · unfold bestRowsG
    rw [if_neg hg]
    have hg' : goodRib r = false := by simpa using hg
    refine okS (fn := Tryz.f10) [] h0 Tryz.func10 (by kernel_rfl) rfl Tryz.ntmps10 Tryz.results10 (by simp) ?_
    simp
    refine Inv_intro (ok_sGoodRib (k + 1) r hr) ?_
    simp [hg']
theorem ok_sBestRows (k : Nat) (r : GRib) (hr : ribOK r) (hx : ∀ x ∈ r.Rows, x.Offers.length ≤ 1048576) : CallOK Tryz.prog 10 [.agg (GRib.ci k r)] (.tup [.c (.sl 0 81 (bestRowsG r).1.length ((bestRowsG r).1.flatMap GOffer.co)), .c (.sl 0 77 (bestRowsG r).2.1.length ((bestRowsG r).2.1.flatMap GPrefix.c)), .c (pb (bestRowsG r).2.2)]) [.agg (GRib.ci k r)] := by
  have h := ok_sBestRows2 0 r hr hx
  refine CallOK.relabel ?_ rfl ?_
  · simpa only [List.map_cons, List.map_nil, rib_up] using h
  · intro w I I' lr he hh
    refine free_ccc ?_ ?_ rfl he hh
    · simp only [PT.free]; exact free_off _
    · simp only [PT.free]; exact free_px _
def rBestRows (v0 : GRib) : List GOffer × List GPrefix × Bool := bestRowsG v0
theorem law_iBestRows (v0 : GRib) (h : GRib.wt v0 ≤ 1048576) : CallOK Tryz.prog 12 [.agg (GRib.ci 0 v0)] (.tup [.c (.sl 0 81 (rBestRows v0).1.length ((rBestRows v0).1.flatMap GOffer.co)), .c (.sl 0 77 (rBestRows v0).2.1.length ((rBestRows v0).2.1.flatMap GPrefix.c)), .c (pb (rBestRows v0).2.2)]) [.agg (GRib.ci 0 v0)] := ok_iBestRows 0 v0 (rib_ok h)
theorem law_sBestRows (v0 : GRib) (h : GRib.wt v0 ≤ 1048576) : CallOK Tryz.prog 10 [.agg (GRib.ci 0 v0)] (.tup [.c (.sl 0 81 (rBestRows v0).1.length ((rBestRows v0).1.flatMap GOffer.co)), .c (.sl 0 77 (rBestRows v0).2.1.length ((rBestRows v0).2.1.flatMap GPrefix.c)), .c (pb (rBestRows v0).2.2)]) [.agg (GRib.ci 0 v0)] := ok_sBestRows 0 v0 (rib_ok h) (rows_len h)
theorem sum_le {α : Type} (f : α → Nat) (c : Nat) : ∀ xs : List α, (∀ x ∈ xs, f x ≤ c) → (xs.map f).sum ≤ xs.length * c
  | [], _ => by simp
  | x :: xs, h => by
    have ih := sum_le f c xs fun y hy => h y (List.mem_cons_of_mem _ hy)
    have hx := h x List.mem_cons_self
    simp only [List.map_cons, List.sum_cons, List.length_cons, Nat.add_mul]
    omega
theorem rBestRows_ok (v0 : GRib) (hw : GRib.wt v0 ≤ 1048576) : (lens_OfferS (rBestRows v0).1 ∧ cn_OfferS (rBestRows v0).1 ≤ 33554432) ∧ (lens_PrefixS (rBestRows v0).2.1 ∧ cn_PrefixS (rBestRows v0).2.1 ≤ 33554432) := by
  have k1 : wt_OfferS (rBestRows v0).1 ≤ 1048576 := by
    unfold rBestRows bestRowsG
    split
    · rename_i hg
      have hs := browsO_small hg
      obtain ⟨_, h20, _, _⟩ := goodRib_all hg
      have hl := browsO_len v0.Own v0.Rows
      have := sum_le GOffer.wt 16 (browsO v0.Own v0.Rows) fun o ho => by
        have := hs o ho
        unfold GOffer.wt GAttrs.wt wt_IntS
        omega
      unfold wt_OfferS wtR
      simp only
      omega
    · exact Nat.zero_le _
  have k2 : wt_PrefixS (rBestRows v0).2.1 ≤ 1048576 := by
    unfold rBestRows bestRowsG
    split
    · rename_i hg
      obtain ⟨_, h20, _, _⟩ := goodRib_all hg
      have hl := browsP_len v0.Own v0.Rows
      unfold wt_PrefixS
      simp only
      omega
    · exact Nat.zero_le _
  have c1 := cn_le_OfferS (rBestRows v0).1
  have c2 := cn_le_PrefixS (rBestRows v0).2.1
  exact ⟨⟨lens_of_OfferS k1, by omega⟩, ⟨lens_of_PrefixS k2, by omega⟩⟩
theorem ok_FnExactBestRows (v0 : GRib) (f0 : GRib.fits v0) : CallOK Tryz.prog 3 [.agg (GRib.ci 1 v0)] (.c (pb true)) [.agg (GRib.ci 1 v0)] := by
  refine okS (fn := Tryz.f3) [(17, [1,0]), (18, [1,0]), (16, [1,0])] h0 Tryz.func3 (by kernel_rfl) rfl Tryz.ntmps3 Tryz.results3 (by simp) ?_
  simp
  refine Inv_intro (ok_szRib 1 v0 _ (by omega) (by omega) f0) ?_
  simp
  refine brn_app (fun b0 => ?_) (fun b0 => ?_)
  · simp
  · simp at b0
    have e0 := szr_ge (szr_ge0 b0)
    have d0 := szr_ge0 b0
    simp
    have hv0 : GRib.wt v0 ≤ 1048576 := by omega
    have hlp0 : GRib.lens v0 := lens_of_Rib hv0
    have hcp0 := cn_le_Rib v0
    have hrr := rBestRows_ok v0 hv0
    obtain ⟨hlr0, hcr0⟩ := hrr.1
    obtain ⟨hlr1, hcr1⟩ := hrr.2
    refine Inv_intro (ok_toRib 1 v0 hv0) ?_
    simp
    refine Inv_intro (law_sBestRows v0 hv0) ?_
    simp
    refine Inv_intro (ok_toRib 1 v0 hv0) ?_
    simp
    refine Inv_intro (law_iBestRows v0 hv0) ?_
    simp
    refine Inv_intro (ok_eqOfferS 0 0 ((rBestRows v0).1) ((rBestRows v0).1) hlr0 hlr0) ?_
    simp
    refine Inv_intro (ok_eqPrefixS 0 0 ((rBestRows v0).2.1) ((rBestRows v0).2.1) hlr1 hlr1) ?_
    simp
    refine drawP (tabEnv [] _) [⟨[.op 6 2 0], allD 133, true⟩, ⟨[.op 0 0 0], allD 133, true⟩, ⟨[], allD 133, false⟩, ⟨[.op 6 2 0, .op 10 2 1], [52, 53, 54, 55, 56], false⟩, ⟨[], allD 133, true⟩] h0 hm (tabEnv_ok (tab_cons (ok_toRib 1 v0 hv0) (tab_cons (ok_eqRib 0 0 (v0) (v0) hlp0 hlp0) tab_nil))) (by kernel_rfl) (by kernel_rfl) ?_
    simp
    have hm0 := GRib.markT_snd (v0) (1)
    have hn0 : ¬ (GRib.markT (v0) (1)).2 < 0 := by omega
    refine Inv_intro (ok_markRib (v0) (1) hlp0 (by omega) (by omega)) ?_
    simp [hn0]
    refine Inv_intro (ok_eqOfferS 0 0 ((rBestRows v0).1) ((rBestRows v0).1) hlr0 hlr0) ?_
    simp [hn0]
    refine Inv_intro (ok_eqPrefixS 0 0 ((rBestRows v0).2.1) ((rBestRows v0).2.1) hlr1 hlr1) ?_
    simp [hn0]
    have hm1 := mk_OfferS_snd ((rBestRows v0).1) (1)
    have hn1 : ¬ (mk_OfferS ((rBestRows v0).1) (1)).2 < 0 := by omega
    have ht1 : List.take (((rBestRows v0).1).length * 7) (((mk_OfferS ((rBestRows v0).1) (1))).1.flatMap GOffer.co) = (((mk_OfferS ((rBestRows v0).1) (1))).1.flatMap GOffer.co) := List.take_of_length_le (by rw [fm_len GOffer.co 7 (fun _ => rfl), mk_OfferS_len]; exact Nat.le_refl _)
    refine Inv_intro (ok_markOfferS ((rBestRows v0).1) (1) hlr0 (by omega) (by omega)) ?_
    simp [hn0, hn1, ht1]
    have hm2 := mk_PrefixS_snd ((rBestRows v0).2.1) ((mk_OfferS ((rBestRows v0).1) (1)).2)
    have hn2 : ¬ (mk_PrefixS ((rBestRows v0).2.1) ((mk_OfferS ((rBestRows v0).1) (1)).2)).2 < 0 := by omega
    have ht2 : List.take (((rBestRows v0).2.1).length * 2) (((mk_PrefixS ((rBestRows v0).2.1) ((mk_OfferS ((rBestRows v0).1) (1)).2))).1.flatMap GPrefix.c) = (((mk_PrefixS ((rBestRows v0).2.1) ((mk_OfferS ((rBestRows v0).1) (1)).2))).1.flatMap GPrefix.c) := List.take_of_length_le (by rw [fm_len GPrefix.c 2 (fun _ => rfl), mk_PrefixS_len]; exact Nat.le_refl _)
    refine Inv_intro (ok_markPrefixS ((rBestRows v0).2.1) ((mk_OfferS ((rBestRows v0).1) (1)).2) hlr1 (by omega) (by omega)) ?_
    simp [hn0, hn1, ht1, hn2, ht2]
    refine Inv_intro (ok_heldOfferS 0 ((rBestRows v0).1) (1) hlr0 (by omega) (by omega)) ?_
    simp [hn0, hn1, ht1, hn2, ht2]
    refine Inv_intro (ok_heldPrefixS 0 ((rBestRows v0).2.1) ((mk_OfferS ((rBestRows v0).1) (1)).2) hlr1 (by omega) (by omega)) ?_
    simp [hn0, hn1, ht1, hn2, ht2]
    refine Inv_intro (ok_toRib 1 v0 hv0) ?_
    simp [hn0, hn1, ht1, hn2, ht2]
    refine Inv_intro (law_iBestRows v0 hv0) ?_
    simp [hn0, hn1, ht1, hn2, ht2]
    refine Inv_intro (ok_eqOfferS 0 0 ((rBestRows v0).1) ((rBestRows v0).1) hlr0 hlr0) ?_
    simp [hn0, hn1, ht1, hn2, ht2]
    refine Inv_intro (ok_eqPrefixS 0 0 ((rBestRows v0).2.1) ((rBestRows v0).2.1) hlr1 hlr1) ?_
    simp [hn0, hn1, ht1, hn2, ht2]
    refine Inv_intro (ok_heldOfferS 0 ((rBestRows v0).1) (1) hlr0 (by omega) (by omega)) ?_
    simp [hn0, hn1, ht1, hn2, ht2]
    refine Inv_intro (ok_heldPrefixS 0 ((rBestRows v0).2.1) ((mk_OfferS ((rBestRows v0).1) (1)).2) hlr1 (by omega) (by omega)) ?_
    simp [hn0, hn1, ht1, hn2, ht2]
end Go.V
