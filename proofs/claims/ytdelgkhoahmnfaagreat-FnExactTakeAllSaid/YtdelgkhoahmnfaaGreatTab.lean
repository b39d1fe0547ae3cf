/- What functions of the seat's program do, each proved of its code, under the bounds that its theorem names. -/
import Derived.Test.YtdelgkhoahmnfaaGreatTaa
set_option linter.all false
namespace Go.V
open Go.Proofs
set_option maxHeartbeats 1000000
set_option maxRecDepth 10000
set_option linter.unusedSimpArgs false
set_option linter.unusedVariables false
theorem ok_eqPrefix (x y : GPrefix) : CallOK Tryz.prog 69 [.agg (GPrefix.c x), .agg (GPrefix.c y)] (.c (pb (decide (x = y)))) [.agg (GPrefix.c x), .agg (GPrefix.c y)] := by
  refine okS (fn := Tryz.f69) [] h0 Tryz.func69 (by kernel_rfl) rfl Tryz.ntmps69 Tryz.results69 (by simp) ?_
  simp
  refine brn_app (fun a0 => ?_) (fun a0 => ?_)
  · simp at a0
    simp
    rintro rfl
    exact a0 rfl
  · simp at a0
    simp
    refine brn_app (fun a1 => ?_) (fun a1 => ?_)
    · simp at a1
      simp
      rintro rfl
      exact a1 rfl
    · simp at a1
      simp
      cases x
      cases y
      simp_all
structure GRow where
  Prefix : GPrefix
  Offers : (List GOffer)
  deriving DecidableEq
def GRow.co (x : GRow) : List PT := [pi x.Prefix.Addr, pi x.Prefix.Len, .sl 0 81 x.Offers.length (x.Offers.flatMap GOffer.co)]
def GRow.ci (k : Nat) (x : GRow) : List PT := [pi x.Prefix.Addr, pi x.Prefix.Len, rd k x.Offers.length (x.Offers.flatMap (GOffer.ci k))]
attribute [simp] GRow.co GRow.ci
theorem GRow.len_i (k : Nat) (x : GRow) : (x.ci k).length = 3 := rfl
theorem GRow.un1 (x : GRow) : PT.unownL x.co = x.ci 0 := by simp [rd]
theorem GRow.uni1 (k : Nat) (x : GRow) : PT.unownL (x.ci k) = x.ci 0 := by simp [rd]
theorem GRow.un (xs : List GRow) : PT.unownL (xs.flatMap GRow.co) = xs.flatMap (GRow.ci 0) := by
  rw [unownL_fm]
  congr 1
  funext x
  exact GRow.un1 x
theorem GRow.uni (k : Nat) (xs : List GRow) : PT.unownL (xs.flatMap (GRow.ci k)) = xs.flatMap (GRow.ci 0) := by
  rw [unownL_fm]
  congr 1
  funext x
  exact GRow.uni1 k x
theorem GRow.nt (xs : List GRow) : PT.noTmpL (xs.flatMap GRow.co) = true := noTmpL_fm _ xs fun x => by simp
theorem GRow.nti (k : Nat) (xs : List GRow) : PT.noTmpL (xs.flatMap (GRow.ci (k + 1))) = true := noTmpL_fm _ xs fun x => by simp [rd]
attribute [simp] GRow.un GRow.uni GRow.nt GRow.nti
theorem GRow.lenR (xs : List GRow) : (xs.flatMap GRow.co).length = xs.length * 3 := fm_len _ 3 (fun _ => rfl) xs
theorem GRow.lenRi (k : Nat) (xs : List GRow) : (xs.flatMap (GRow.ci k)).length = xs.length * 3 := fm_len _ 3 (fun _ => rfl) xs
theorem GRow.tkR (xs : List GRow) : (xs.flatMap GRow.co).take (xs.length * 3) = xs.flatMap GRow.co := List.take_of_length_le (by rw [GRow.lenR]; exact Nat.le_refl _)
theorem GRow.tkRi (k : Nat) (xs : List GRow) : (xs.flatMap (GRow.ci k)).take (xs.length * 3) = xs.flatMap (GRow.ci k) := List.take_of_length_le (by rw [GRow.lenRi]; exact Nat.le_refl _)
attribute [simp high] GRow.lenR GRow.tkR GRow.lenRi GRow.tkRi
def GRow.wt (x : GRow) : Nat := wt_OfferS x.Offers
def GRow.fits (x : GRow) : Prop := fits_OfferS x.Offers
def GRow.lens (x : GRow) : Prop := lens_OfferS x.Offers
def GRow.mark (x : GRow) (k : Int) : GRow × Int := (⟨⟨k, (k + 1)⟩, (mk_OfferS x.Offers ((k + 1) + 1)).1⟩, (mk_OfferS x.Offers ((k + 1) + 1)).2)
def GRow.cn (x : GRow) : Nat := 1 + 1 + cn_OfferS x.Offers
theorem GRow.mark_snd (x : GRow) (k : Int) : (GRow.mark x k).2 = k + GRow.cn x := by
  simp only [GRow.mark, GRow.cn, mk_OfferS_snd] <;> omega
def GRow.markT (x : GRow) (k : Int) : GRow × Int := (⟨⟨x.Prefix.Addr, x.Prefix.Len⟩, (mk_OfferS x.Offers k).1⟩, (mk_OfferS x.Offers k).2)
def GRow.cnT (x : GRow) : Nat := cn_OfferS x.Offers
theorem GRow.markT_snd (x : GRow) (k : Int) : (GRow.markT x k).2 = k + GRow.cnT x := by
  simp only [GRow.markT, GRow.cnT, mk_OfferS_snd] <;> omega
theorem lens_of_Row {x : GRow} (h : GRow.wt x ≤ 1048576) : GRow.lens x := by
  unfold GRow.wt at h
  exact lens_of_OfferS (by omega)
theorem cnE_le_Row (x : GRow) : GRow.cn x ≤ 32 * GRow.wt x + 16 := by
  unfold GRow.cn GRow.wt
  have := cn_le_OfferS x.Offers
  omega
theorem ok_eqRow (k k' : Nat) (x y : GRow) (ha : GRow.lens x) (hb : GRow.lens y) : CallOK Tryz.prog 119 [.agg (GRow.ci k x), .agg (GRow.ci k' y)] (.c (pb (decide (x = y)))) [.agg (GRow.ci k x), .agg (GRow.ci k' y)] := by
  simp only [GRow.lens] at ha hb
  refine okS (fn := Tryz.f119) [] h0 Tryz.func119 (by kernel_rfl) rfl Tryz.ntmps119 Tryz.results119 (by simp) ?_
  simp
  refine Inv_intro (ok_eqPrefix x.Prefix y.Prefix) ?_
  simp
  refine brn_app (fun a0 => ?_) (fun a0 => ?_)
  · simp at a0
    simp
    rintro rfl
    exact a0 rfl
  · simp at a0
    simp
    refine Inv_intro (ok_eqOfferS k k' x.Offers y.Offers (ha) (hb)) ?_
    simp
    refine brn_app (fun a1 => ?_) (fun a1 => ?_)
    · simp at a1
      simp
      rintro rfl
      exact a1 rfl
    · simp at a1
      simp
      cases x
      cases y
      simp_all
def wt_RowS (xs : List GRow) : Nat := wtR GRow.wt xs
theorem len_wt_RowS (xs : List GRow) : xs.length ≤ wt_RowS xs := by unfold wt_RowS wtR; omega
theorem mem_wt_RowS {xs : List GRow} {x : GRow} (h : x ∈ xs) : GRow.wt x ≤ wt_RowS xs := by
  have := wt_mem GRow.wt h
  unfold wt_RowS wtR
  omega
def fits_RowS (xs : List GRow) : Prop := xs.length ≤ 140737488351232 ∧ ∀ x ∈ xs, GRow.fits x
def lens_RowS (xs : List GRow) : Prop := xs.length ≤ 140737488351232 ∧ ∀ x ∈ xs, GRow.lens x
def mk_RowS (xs : List GRow) (k : Int) : List GRow × Int := mkR GRow.mark xs k
def cn_RowS (xs : List GRow) : Nat := cnR GRow.cn xs
theorem mk_RowS_len (xs : List GRow) (k : Int) : (mk_RowS xs k).1.length = xs.length := mkR_len _ xs k
attribute [simp] mk_RowS_len
theorem mk_RowS_snd (xs : List GRow) (k : Int) : (mk_RowS xs k).2 = k + cn_RowS xs := mkR_snd (GRow.mark_snd) xs k
theorem lens_of_RowS {xs : List GRow} (h : wt_RowS xs ≤ 1048576) : lens_RowS xs := by
  have hl := len_wt_RowS xs
  exact ⟨by omega, fun x hx => lens_of_Row (by have := mem_wt_RowS hx; omega)⟩
theorem cn_le_RowS (xs : List GRow) : cn_RowS xs ≤ 32 * wt_RowS xs := cnR_le (fun x => by have := cnE_le_Row x; omega) xs
theorem ok_eqRowS (k k' : Nat) (xs ys : List GRow) (ha : lens_RowS xs) (hb : lens_RowS ys) : CallOK Tryz.prog 70 [.c (rd k xs.length (xs.flatMap (GRow.ci k))), .c (rd k' ys.length (ys.flatMap (GRow.ci k')))] (.c (pb (decide (xs = ys)))) [.c (rd k xs.length (xs.flatMap (GRow.ci k))), .c (rd k' ys.length (ys.flatMap (GRow.ci k')))] := by
  obtain ⟨ha, hax⟩ := ha
  obtain ⟨hb, hbx⟩ := hb
  refine okS (fn := Tryz.f70) [] h0 Tryz.func70 (by kernel_rfl) rfl Tryz.ntmps70 Tryz.results70 (by simp) ?_
  simp
  refine brn_app (fun h => ?_) (fun h => ?_)
  · simp at h
    simp
    rintro rfl
    exact h rfl
  · simp at h
    have hl : ys.length = xs.length := by omega
    simp
    refine loopS [0, 1, 5] [] (fun n st => ∃ (i : Nat), i + n = xs.length ∧ (xs.drop i = ys.drop i ↔ xs = ys) ∧ st = ⟨slOf 27 [(0, .t (rd k xs.length (xs.flatMap (GRow.ci k)))), (1, .t (rd k' ys.length (ys.flatMap (GRow.ci k')))), (5, .t (pi i))], ofL []⟩) xs.length ?_ ?_
    · rintro Inv hI
      simp
      subst hI
      exact ⟨0, by omega, by simp, rfl⟩
    · rintro Inv hI n st ⟨i, hi, htk, rfl⟩
      refine ewr_sound (M := []) h0 ?_
      simp
      refine brn_app (fun h => ?_) (fun h => ?_)
      · simp at h
        have hib : i < ys.length := by omega
        rw [drop_step xs i h, drop_step ys i hib, List.cons.injEq] at htk
        simp
        have hd := fm_drop (GRow.ci k) 3 (fun _ => rfl) xs i h
        have hd' := fm_drop (GRow.ci k') 3 (fun _ => rfl) ys i hib
        have hlen := fm_len (GRow.ci k) 3 (fun _ => rfl) xs
        have hlen' := fm_len (GRow.ci k') 3 (fun _ => rfl) ys
        have hlt : i * 3 < xs.length * 3 := by omega
        have hlt' : i * 3 < ys.length * 3 := by omega
        have hE := ok_eqRow k k' xs[i] ys[i] (hax _ (List.getElem_mem h)) (hbx _ (List.getElem_mem hib))
        refine drawP (tabEnv [] [(119, [.agg (GRow.ci k xs[i]), .agg (GRow.ci k' ys[i])], .c (pb (decide (xs[i] = ys[i]))), [.agg (GRow.ci k xs[i]), .agg (GRow.ci k' ys[i])])]) [⟨[], allD 27, true⟩, ⟨[], allD 27, true⟩, ⟨[], allD 27, true⟩, ⟨[], allD 27, true⟩, ⟨[], allD 27, true⟩, ⟨[], allD 27, true⟩, ⟨[], allD 27, true⟩, ⟨[], allD 27, true⟩, ⟨[], allD 27, false⟩, ⟨[], allD 27, true⟩] h0 hm (tabEnv_ok (by intro x hx; simp only [List.mem_singleton] at hx; subst hx; exact hE)) (by kernel_rfl) (by kernel_rfl) ?_
        simp [h, hib, hd, hd', hlen, hlen', hlt, hlt']
        refine brn_app (fun h2 => ?_) (fun h2 => ?_)
        · simp at h2
          simp
          intro he
          exact h2 (htk.2 he).1
        · simp at h2
          simp
          subst hI
          exact Less_mk (n - 1) (by omega) ⟨i + 1, by omega, ⟨fun h4 => htk.1 ⟨h2, h4⟩, fun h4 => (htk.2 h4).2⟩, by rw [wrNext i (by omega)]⟩
      · simp at h
        rw [List.drop_of_length_le (by omega), List.drop_of_length_le (by omega)] at htk
        simp
        exact htk.1 rfl
structure GRib where
  Own : Int
  Rows : (List GRow)
  deriving DecidableEq
def GRib.co (x : GRib) : List PT := [pi x.Own, .sl 0 79 x.Rows.length (x.Rows.flatMap GRow.co)]
def GRib.ci (k : Nat) (x : GRib) : List PT := [pi x.Own, rd k x.Rows.length (x.Rows.flatMap (GRow.ci k))]
attribute [simp] GRib.co GRib.ci
theorem GRib.len_i (k : Nat) (x : GRib) : (x.ci k).length = 2 := rfl
theorem GRib.un1 (x : GRib) : PT.unownL x.co = x.ci 0 := by simp [rd]
theorem GRib.uni1 (k : Nat) (x : GRib) : PT.unownL (x.ci k) = x.ci 0 := by simp [rd]
theorem GRib.un (xs : List GRib) : PT.unownL (xs.flatMap GRib.co) = xs.flatMap (GRib.ci 0) := by
  rw [unownL_fm]
  congr 1
  funext x
  exact GRib.un1 x
theorem GRib.uni (k : Nat) (xs : List GRib) : PT.unownL (xs.flatMap (GRib.ci k)) = xs.flatMap (GRib.ci 0) := by
  rw [unownL_fm]
  congr 1
  funext x
  exact GRib.uni1 k x
theorem GRib.nt (xs : List GRib) : PT.noTmpL (xs.flatMap GRib.co) = true := noTmpL_fm _ xs fun x => by simp
theorem GRib.nti (k : Nat) (xs : List GRib) : PT.noTmpL (xs.flatMap (GRib.ci (k + 1))) = true := noTmpL_fm _ xs fun x => by simp [rd]
attribute [simp] GRib.un GRib.uni GRib.nt GRib.nti
theorem GRib.lenR (xs : List GRib) : (xs.flatMap GRib.co).length = xs.length * 2 := fm_len _ 2 (fun _ => rfl) xs
theorem GRib.lenRi (k : Nat) (xs : List GRib) : (xs.flatMap (GRib.ci k)).length = xs.length * 2 := fm_len _ 2 (fun _ => rfl) xs
theorem GRib.tkR (xs : List GRib) : (xs.flatMap GRib.co).take (xs.length * 2) = xs.flatMap GRib.co := List.take_of_length_le (by rw [GRib.lenR]; exact Nat.le_refl _)
theorem GRib.tkRi (k : Nat) (xs : List GRib) : (xs.flatMap (GRib.ci k)).take (xs.length * 2) = xs.flatMap (GRib.ci k) := List.take_of_length_le (by rw [GRib.lenRi]; exact Nat.le_refl _)
attribute [simp high] GRib.lenR GRib.tkR GRib.lenRi GRib.tkRi
def GRib.wt (x : GRib) : Nat := wt_RowS x.Rows
def GRib.fits (x : GRib) : Prop := fits_RowS x.Rows
def GRib.lens (x : GRib) : Prop := lens_RowS x.Rows
def GRib.mark (x : GRib) (k : Int) : GRib × Int := (⟨k, (mk_RowS x.Rows (k + 1)).1⟩, (mk_RowS x.Rows (k + 1)).2)
def GRib.cn (x : GRib) : Nat := 1 + cn_RowS x.Rows
theorem GRib.mark_snd (x : GRib) (k : Int) : (GRib.mark x k).2 = k + GRib.cn x := by
  simp only [GRib.mark, GRib.cn, mk_RowS_snd] <;> omega
def GRib.markT (x : GRib) (k : Int) : GRib × Int := (⟨x.Own, (mk_RowS x.Rows k).1⟩, (mk_RowS x.Rows k).2)
def GRib.cnT (x : GRib) : Nat := cn_RowS x.Rows
theorem GRib.markT_snd (x : GRib) (k : Int) : (GRib.markT x k).2 = k + GRib.cnT x := by
  simp only [GRib.markT, GRib.cnT, mk_RowS_snd] <;> omega
theorem lens_of_Rib {x : GRib} (h : GRib.wt x ≤ 1048576) : GRib.lens x := by
  unfold GRib.wt at h
  exact lens_of_RowS (by omega)
theorem cn_le_Rib (x : GRib) : GRib.cnT x ≤ 32 * GRib.wt x := by
  unfold GRib.cnT GRib.wt
  have := cn_le_RowS x.Rows
  omega
theorem ok_eqRib (k k' : Nat) (x y : GRib) (ha : GRib.lens x) (hb : GRib.lens y) : CallOK Tryz.prog 15 [.agg (GRib.ci k x), .agg (GRib.ci k' y)] (.c (pb (decide (x = y)))) [.agg (GRib.ci k x), .agg (GRib.ci k' y)] := by
  simp only [GRib.lens] at ha hb
  refine okS (fn := Tryz.f15) [] h0 Tryz.func15 (by kernel_rfl) rfl Tryz.ntmps15 Tryz.results15 (by simp) ?_
  simp
  refine brn_app (fun a0 => ?_) (fun a0 => ?_)
  · simp at a0
    simp
    rintro rfl
    exact a0 rfl
  · simp at a0
    simp
    refine Inv_intro (ok_eqRowS k k' x.Rows y.Rows (ha) (hb)) ?_
    simp
    refine brn_app (fun a1 => ?_) (fun a1 => ?_)
    · simp at a1
      simp
      rintro rfl
      exact a1 rfl
    · simp at a1
      simp
      cases x
      cases y
      simp_all
theorem ok_eqPrefixS (k k' : Nat) (xs ys : List GPrefix) (ha : lens_PrefixS xs) (hb : lens_PrefixS ys) : CallOK Tryz.prog 14 [.c (rd k xs.length (xs.flatMap GPrefix.c)), .c (rd k' ys.length (ys.flatMap GPrefix.c))] (.c (pb (decide (xs = ys)))) [.c (rd k xs.length (xs.flatMap GPrefix.c)), .c (rd k' ys.length (ys.flatMap GPrefix.c))] := by
  obtain ⟨ha, hax⟩ := ha
  obtain ⟨hb, hbx⟩ := hb
  refine okS (fn := Tryz.f14) [] h0 Tryz.func14 (by kernel_rfl) rfl Tryz.ntmps14 Tryz.results14 (by simp) ?_
  simp
  refine brn_app (fun h => ?_) (fun h => ?_)
  · simp at h
    simp
    rintro rfl
    exact h rfl
  · simp at h
    have hl : ys.length = xs.length := by omega
    simp
    refine loopS [0, 1, 5] [] (fun n st => ∃ (i : Nat), i + n = xs.length ∧ (xs.drop i = ys.drop i ↔ xs = ys) ∧ st = ⟨slOf 27 [(0, .t (rd k xs.length (xs.flatMap GPrefix.c))), (1, .t (rd k' ys.length (ys.flatMap GPrefix.c))), (5, .t (pi i))], ofL []⟩) xs.length ?_ ?_
    · rintro Inv hI
      simp
      subst hI
      exact ⟨0, by omega, by simp, rfl⟩
    · rintro Inv hI n st ⟨i, hi, htk, rfl⟩
      refine ewr_sound (M := []) h0 ?_
      simp
      refine brn_app (fun h => ?_) (fun h => ?_)
      · simp at h
        have hib : i < ys.length := by omega
        rw [drop_step xs i h, drop_step ys i hib, List.cons.injEq] at htk
        simp
        have hd := fm_drop GPrefix.c 2 (fun _ => rfl) xs i h
        have hd' := fm_drop GPrefix.c 2 (fun _ => rfl) ys i hib
        have hlen := fm_len GPrefix.c 2 (fun _ => rfl) xs
        have hlen' := fm_len GPrefix.c 2 (fun _ => rfl) ys
        have hlt : i * 2 < xs.length * 2 := by omega
        have hlt' : i * 2 < ys.length * 2 := by omega
        have hE := ok_eqPrefix xs[i] ys[i]
        refine drawP (tabEnv [] [(69, [.agg (GPrefix.c xs[i]), .agg (GPrefix.c ys[i])], .c (pb (decide (xs[i] = ys[i]))), [.agg (GPrefix.c xs[i]), .agg (GPrefix.c ys[i])])]) [⟨[], allD 27, true⟩, ⟨[], allD 27, true⟩, ⟨[], allD 27, true⟩, ⟨[], allD 27, true⟩, ⟨[], allD 27, true⟩, ⟨[], allD 27, true⟩, ⟨[], allD 27, true⟩, ⟨[], allD 27, true⟩, ⟨[], allD 27, false⟩, ⟨[], allD 27, true⟩] h0 hm (tabEnv_ok (by intro x hx; simp only [List.mem_singleton] at hx; subst hx; exact hE)) (by kernel_rfl) (by kernel_rfl) ?_
        simp [h, hib, hd, hd', hlen, hlen', hlt, hlt']
        refine brn_app (fun h2 => ?_) (fun h2 => ?_)
        · simp at h2
          simp
          intro he
          exact h2 (htk.2 he).1
        · simp at h2
          simp
          subst hI
          exact Less_mk (n - 1) (by omega) ⟨i + 1, by omega, ⟨fun h4 => htk.1 ⟨h2, h4⟩, fun h4 => (htk.2 h4).2⟩, by rw [wrNext i (by omega)]⟩
      · simp at h
        rw [List.drop_of_length_le (by omega), List.drop_of_length_le (by omega)] at htk
        simp
        exact htk.1 rfl
theorem ok_eqUpdate (k k' : Nat) (x y : GUpdate) (ha : GUpdate.lens x) (hb : GUpdate.lens y) : CallOK Tryz.prog 28 [.agg (GUpdate.ci k x), .agg (GUpdate.ci k' y)] (.c (pb (decide (x = y)))) [.agg (GUpdate.ci k x), .agg (GUpdate.ci k' y)] := by
  simp only [GUpdate.lens] at ha hb
  refine okS (fn := Tryz.f28) [] h0 Tryz.func28 (by kernel_rfl) rfl Tryz.ntmps28 Tryz.results28 (by simp) ?_
  simp
  refine Inv_intro (ok_eqPrefixS k k' x.Gone y.Gone (ha.1) (hb.1)) ?_
  simp
  refine brn_app (fun a0 => ?_) (fun a0 => ?_)
  · simp at a0
    simp
    rintro rfl
    exact a0 rfl
  · simp at a0
    simp
    refine Inv_intro (ok_eqAttrs k k' x.Attrs y.Attrs (ha.2.1) (hb.2.1)) ?_
    simp
    refine brn_app (fun a1 => ?_) (fun a1 => ?_)
    · simp at a1
      simp
      rintro rfl
      exact a1 rfl
    · simp at a1
      simp
      refine Inv_intro (ok_eqPrefixS k k' x.Come y.Come (ha.2.2) (hb.2.2)) ?_
      simp
      refine brn_app (fun a2 => ?_) (fun a2 => ?_)
      · simp at a2
        simp
        rintro rfl
        exact a2 rfl
      · simp at a2
        simp
        cases x
        cases y
        simp_all
theorem ok_eqUpdateS (k k' : Nat) (xs ys : List GUpdate) (ha : lens_UpdateS xs) (hb : lens_UpdateS ys) : CallOK Tryz.prog 36 [.c (rd k xs.length (xs.flatMap (GUpdate.ci k))), .c (rd k' ys.length (ys.flatMap (GUpdate.ci k')))] (.c (pb (decide (xs = ys)))) [.c (rd k xs.length (xs.flatMap (GUpdate.ci k))), .c (rd k' ys.length (ys.flatMap (GUpdate.ci k')))] := by
  obtain ⟨ha, hax⟩ := ha
  obtain ⟨hb, hbx⟩ := hb
  refine okS (fn := Tryz.f36) [] h0 Tryz.func36 (by kernel_rfl) rfl Tryz.ntmps36 Tryz.results36 (by simp) ?_
  simp
  refine brn_app (fun h => ?_) (fun h => ?_)
  · simp at h
    simp
    rintro rfl
    exact h rfl
  · simp at h
    have hl : ys.length = xs.length := by omega
    simp
    refine loopS [0, 1, 5] [] (fun n st => ∃ (i : Nat), i + n = xs.length ∧ (xs.drop i = ys.drop i ↔ xs = ys) ∧ st = ⟨slOf 27 [(0, .t (rd k xs.length (xs.flatMap (GUpdate.ci k)))), (1, .t (rd k' ys.length (ys.flatMap (GUpdate.ci k')))), (5, .t (pi i))], ofL []⟩) xs.length ?_ ?_
    · rintro Inv hI
      simp
      subst hI
      exact ⟨0, by omega, by simp, rfl⟩
    · rintro Inv hI n st ⟨i, hi, htk, rfl⟩
      refine ewr_sound (M := []) h0 ?_
      simp
      refine brn_app (fun h => ?_) (fun h => ?_)
      · simp at h
        have hib : i < ys.length := by omega
        rw [drop_step xs i h, drop_step ys i hib, List.cons.injEq] at htk
        simp
        have hd := fm_drop (GUpdate.ci k) 8 (fun _ => rfl) xs i h
        have hd' := fm_drop (GUpdate.ci k') 8 (fun _ => rfl) ys i hib
        have hlen := fm_len (GUpdate.ci k) 8 (fun _ => rfl) xs
        have hlen' := fm_len (GUpdate.ci k') 8 (fun _ => rfl) ys
        have hlt : i * 8 < xs.length * 8 := by omega
        have hlt' : i * 8 < ys.length * 8 := by omega
        have hE := ok_eqUpdate k k' xs[i] ys[i] (hax _ (List.getElem_mem h)) (hbx _ (List.getElem_mem hib))
        refine drawP (tabEnv [] [(28, [.agg (GUpdate.ci k xs[i]), .agg (GUpdate.ci k' ys[i])], .c (pb (decide (xs[i] = ys[i]))), [.agg (GUpdate.ci k xs[i]), .agg (GUpdate.ci k' ys[i])])]) [⟨[], allD 27, true⟩, ⟨[], allD 27, true⟩, ⟨[], allD 27, true⟩, ⟨[], allD 27, true⟩, ⟨[], allD 27, true⟩, ⟨[], allD 27, true⟩, ⟨[], allD 27, true⟩, ⟨[], allD 27, true⟩, ⟨[], allD 27, false⟩, ⟨[], allD 27, true⟩] h0 hm (tabEnv_ok (by intro x hx; simp only [List.mem_singleton] at hx; subst hx; exact hE)) (by kernel_rfl) (by kernel_rfl) ?_
        simp [h, hib, hd, hd', hlen, hlen', hlt, hlt']
        refine brn_app (fun h2 => ?_) (fun h2 => ?_)
        · simp at h2
          simp
          intro he
          exact h2 (htk.2 he).1
        · simp at h2
          simp
          subst hI
          exact Less_mk (n - 1) (by omega) ⟨i + 1, by omega, ⟨fun h4 => htk.1 ⟨h2, h4⟩, fun h4 => (htk.2 h4).2⟩, by rw [wrNext i (by omega)]⟩
      · simp at h
        rw [List.drop_of_length_le (by omega), List.drop_of_length_le (by omega)] at htk
        simp
        exact htk.1 rfl
theorem ok_heldIntS (q : Nat) (xs : List Int) (k : Int) (hls : lens_IntS xs) (hk : 0 < k) (hk2 : k + cn_IntS xs ≤ 2305843009213693952) : CallOK Tryz.prog 72 [.c (rd q xs.length ((mk_IntS xs k).1.map pi)), .c (pi k)] (.c (pi (mk_IntS xs k).2)) [.c (rd q xs.length ((mk_IntS xs k).1.map pi)), .c (pi k)] := by
  obtain ⟨hl0, hlx⟩ := hls
  unfold mk_IntS
  unfold cn_IntS at hk2
  have hyl := mkR_len (fun (_ : Int) k => (k, k + 1)) xs k
  have hyi : ∀ (i : Nat) (h : i < xs.length) (h' : i < (mkR (fun (_ : Int) k => (k, k + 1)) xs k).1.length), (mkR (fun (_ : Int) k => (k, k + 1)) xs k).1[i] = ((fun (_ : Int) k => (k, k + 1)) xs[i] (mkR (fun (_ : Int) k => (k, k + 1)) (xs.take i) k).2).1 := fun i h _ => mkR_get (fun (_ : Int) k => (k, k + 1)) xs i h k
  have hend : (mkR (fun (_ : Int) k => (k, k + 1)) xs k).2 = k + cnR (fun (_ : Int) => 1) xs := mkR_snd (f := (fun (_ : Int) k => (k, k + 1))) (g := (fun (_ : Int) => 1)) (fun _ _ => rfl) xs k
  generalize hY : (mkR (fun (_ : Int) k => (k, k + 1)) xs k).1 = ys at hyl hyi ⊢
  refine okS (fn := Tryz.f72) [] h0 Tryz.func72 (by kernel_rfl) rfl Tryz.ntmps72 Tryz.results72 (by simp) ?_
  simp
  refine loopS [0, 1, 5] [] (fun n st => ∃ (i : Nat), i + n = xs.length ∧ st = ⟨slOf 21 [(0, .t (rd q xs.length (ys.map pi))), (1, .t (pi (mkR (fun (_ : Int) k => (k, k + 1)) (xs.take i) k).2)), (5, .t (pi i))], ofL []⟩) xs.length ?_ ?_
  · rintro Inv hI
    simp
    subst hI
    exact ⟨0, by omega, rfl⟩
  · rintro Inv hI n st ⟨i, hi, rfl⟩
    have hKb := mkR_snd (f := (fun (_ : Int) k => (k, k + 1))) (g := (fun (_ : Int) => 1)) (fun _ _ => rfl) (xs.take i) k
    have hyK : ∀ (h : i < xs.length), ys[i]'(by omega) = ((fun (_ : Int) k => (k, k + 1)) xs[i] (mkR (fun (_ : Int) k => (k, k + 1)) (xs.take i) k).2).1 := fun h => hyi i h (by omega)
    generalize hK : (mkR (fun (_ : Int) k => (k, k + 1)) (xs.take i) k).2 = K at hKb hyK ⊢
    refine ewr_sound (M := []) h0 ?_
    simp
    refine brn_app (fun h => ?_) (fun h => ?_)
    · simp at h
      obtain ⟨m, rfl⟩ : ∃ m, n = m + 1 := ⟨n - 1, by omega⟩
      have hcn := cnR_take (fun (_ : Int) => 1) xs i h
      have hb : i < ys.length := by omega
      have ey := hyK h
      have hw0 : IntKind.wrap .i64 (K + 1) = K + 1 := wrap64 (by omega) (by omega)
      simp [h, hb, ey, hw0]
      have e4 := mkR_take (fun (_ : Int) k => (k, k + 1)) xs i h k
      rw [hK] at e4
      subst hI
      refine Less_mk m (by omega) ⟨i + 1, by omega, ?_⟩
      rw [wrNext i (by omega), e4]
      all_goals rfl
    · simp at h
      have hx : xs.take i = xs := List.take_of_length_le (by omega)
      rw [hx] at hK
      simp [hK]
theorem ok_heldOfferS (q : Nat) (xs : List GOffer) (k : Int) (hls : lens_OfferS xs) (hk : 0 < k) (hk2 : k + cn_OfferS xs ≤ 2305843009213693952) : CallOK Tryz.prog 19 [.c (rd q xs.length ((mk_OfferS xs k).1.flatMap (GOffer.ci q))), .c (pi k)] (.c (pi (mk_OfferS xs k).2)) [.c (rd q xs.length ((mk_OfferS xs k).1.flatMap (GOffer.ci q))), .c (pi k)] := by
  obtain ⟨hl0, hlx⟩ := hls
  unfold mk_OfferS
  unfold cn_OfferS at hk2
  have hyl := mkR_len GOffer.mark xs k
  have hyi : ∀ (i : Nat) (h : i < xs.length) (h' : i < (mkR GOffer.mark xs k).1.length), (mkR GOffer.mark xs k).1[i] = (GOffer.mark xs[i] (mkR GOffer.mark (xs.take i) k).2).1 := fun i h _ => mkR_get GOffer.mark xs i h k
  have hend : (mkR GOffer.mark xs k).2 = k + cnR GOffer.cn xs := mkR_snd (f := GOffer.mark) (g := GOffer.cn) (GOffer.mark_snd) xs k
  generalize hY : (mkR GOffer.mark xs k).1 = ys at hyl hyi ⊢
  refine okS (fn := Tryz.f19) [] h0 Tryz.func19 (by kernel_rfl) rfl Tryz.ntmps19 Tryz.results19 (by simp) ?_
  simp
  refine loopS [0, 1, 5] [] (fun n st => ∃ (i : Nat), i + n = xs.length ∧ st = ⟨slOf 82 [(0, .t (rd q xs.length (ys.flatMap (GOffer.ci q)))), (1, .t (pi (mkR GOffer.mark (xs.take i) k).2)), (5, .t (pi i))], ofL []⟩) xs.length ?_ ?_
  · rintro Inv hI
    simp
    subst hI
    exact ⟨0, by omega, rfl⟩
  · rintro Inv hI n st ⟨i, hi, rfl⟩
    have hKb := mkR_snd (f := GOffer.mark) (g := GOffer.cn) (GOffer.mark_snd) (xs.take i) k
    have hyK : ∀ (h : i < xs.length), ys[i]'(by omega) = (GOffer.mark xs[i] (mkR GOffer.mark (xs.take i) k).2).1 := fun h => hyi i h (by omega)
    generalize hK : (mkR GOffer.mark (xs.take i) k).2 = K at hKb hyK ⊢
    refine ewr_sound (M := []) h0 ?_
    simp
    refine brn_app (fun h => ?_) (fun h => ?_)
    · simp at h
      obtain ⟨m, rfl⟩ : ∃ m, n = m + 1 := ⟨n - 1, by omega⟩
      have hcn := cnR_take GOffer.cn xs i h
      have hb : i < ys.length := by omega
      have ey := hyK h
      have hd := fm_drop (GOffer.ci q) 7 (fun _ => rfl) ys i hb
      have hlen := fm_len (GOffer.ci q) 7 (fun _ => rfl) ys
      have hlt : i * 7 < ys.length * 7 := by omega
      rw [ey] at hd
      simp only [GOffer.cn] at hcn
      have hxl := hlx _ (List.getElem_mem h)
      have hw0 : IntKind.wrap .i64 (K + 1) = K + 1 := wrap64 (by omega) (by omega)
      have hw1 : IntKind.wrap .i64 ((K + 1) + 1) = (K + 1) + 1 := wrap64 (by omega) (by omega)
      have hs2 := mk_IntS_snd xs[i].Attrs.Path ((K + 1) + 1)
      have hn2 : ¬ (mk_IntS xs[i].Attrs.Path ((K + 1) + 1)).2 < 0 := by omega
      have hw3 : IntKind.wrap .i64 ((mk_IntS xs[i].Attrs.Path ((K + 1) + 1)).2 + 1) = (mk_IntS xs[i].Attrs.Path ((K + 1) + 1)).2 + 1 := wrap64 (by omega) (by omega)
      have hw4 : IntKind.wrap .i64 (((mk_IntS xs[i].Attrs.Path ((K + 1) + 1)).2 + 1) + 1) = ((mk_IntS xs[i].Attrs.Path ((K + 1) + 1)).2 + 1) + 1 := wrap64 (by omega) (by omega)
      have hw5 : IntKind.wrap .i64 ((((mk_IntS xs[i].Attrs.Path ((K + 1) + 1)).2 + 1) + 1) + 1) = (((mk_IntS xs[i].Attrs.Path ((K + 1) + 1)).2 + 1) + 1) + 1 := wrap64 (by omega) (by omega)
      have hs6 := mk_IntS_snd xs[i].Attrs.Comms ((((mk_IntS xs[i].Attrs.Path ((K + 1) + 1)).2 + 1) + 1) + 1)
      have hn6 : ¬ (mk_IntS xs[i].Attrs.Comms ((((mk_IntS xs[i].Attrs.Path ((K + 1) + 1)).2 + 1) + 1) + 1)).2 < 0 := by omega
      simp [h, hb, hd, hlen, hlt, GOffer.mark, hw0, hw1, hn2, hw3, hw4, hw5, hn6]
      refine Inv_intro (ok_heldIntS q xs[i].Attrs.Path (((K + 1) + 1)) hxl.1 (by omega) (by omega)) ?_
      simp [h, hb, hd, hlen, hlt, GOffer.mark, hw0, hw1, hn2, hw3, hw4, hw5, hn6]
      refine Inv_intro (ok_heldIntS q xs[i].Attrs.Comms (((((mk_IntS xs[i].Attrs.Path ((K + 1) + 1)).2 + 1) + 1) + 1)) hxl.2 (by omega) (by omega)) ?_
      simp [h, hb, hd, hlen, hlt, GOffer.mark, hw0, hw1, hn2, hw3, hw4, hw5, hn6]
      have e4 := mkR_take GOffer.mark xs i h k
      rw [hK] at e4
      subst hI
      refine Less_mk m (by omega) ⟨i + 1, by omega, ?_⟩
      rw [wrNext i (by omega), e4]
      all_goals rfl
    · simp at h
      have hx : xs.take i = xs := List.take_of_length_le (by omega)
      rw [hx] at hK
      simp [hK]
theorem ok_heldRowS (q : Nat) (xs : List GRow) (k : Int) (hls : lens_RowS xs) (hk : 0 < k) (hk2 : k + cn_RowS xs ≤ 2305843009213693952) : CallOK Tryz.prog 81 [.c (rd q xs.length ((mk_RowS xs k).1.flatMap (GRow.ci q))), .c (pi k)] (.c (pi (mk_RowS xs k).2)) [.c (rd q xs.length ((mk_RowS xs k).1.flatMap (GRow.ci q))), .c (pi k)] := by
  obtain ⟨hl0, hlx⟩ := hls
  unfold mk_RowS
  unfold cn_RowS at hk2
  have hyl := mkR_len GRow.mark xs k
  have hyi : ∀ (i : Nat) (h : i < xs.length) (h' : i < (mkR GRow.mark xs k).1.length), (mkR GRow.mark xs k).1[i] = (GRow.mark xs[i] (mkR GRow.mark (xs.take i) k).2).1 := fun i h _ => mkR_get GRow.mark xs i h k
  have hend : (mkR GRow.mark xs k).2 = k + cnR GRow.cn xs := mkR_snd (f := GRow.mark) (g := GRow.cn) (GRow.mark_snd) xs k
  generalize hY : (mkR GRow.mark xs k).1 = ys at hyl hyi ⊢
  refine okS (fn := Tryz.f81) [] h0 Tryz.func81 (by kernel_rfl) rfl Tryz.ntmps81 Tryz.results81 (by simp) ?_
  simp
  refine loopS [0, 1, 5] [] (fun n st => ∃ (i : Nat), i + n = xs.length ∧ st = ⟨slOf 42 [(0, .t (rd q xs.length (ys.flatMap (GRow.ci q)))), (1, .t (pi (mkR GRow.mark (xs.take i) k).2)), (5, .t (pi i))], ofL []⟩) xs.length ?_ ?_
  · rintro Inv hI
    simp
    subst hI
    exact ⟨0, by omega, rfl⟩
  · rintro Inv hI n st ⟨i, hi, rfl⟩
    have hKb := mkR_snd (f := GRow.mark) (g := GRow.cn) (GRow.mark_snd) (xs.take i) k
    have hyK : ∀ (h : i < xs.length), ys[i]'(by omega) = (GRow.mark xs[i] (mkR GRow.mark (xs.take i) k).2).1 := fun h => hyi i h (by omega)
    generalize hK : (mkR GRow.mark (xs.take i) k).2 = K at hKb hyK ⊢
    refine ewr_sound (M := []) h0 ?_
    simp
    refine brn_app (fun h => ?_) (fun h => ?_)
    · simp at h
      obtain ⟨m, rfl⟩ : ∃ m, n = m + 1 := ⟨n - 1, by omega⟩
      have hcn := cnR_take GRow.cn xs i h
      have hb : i < ys.length := by omega
      have ey := hyK h
      have hd := fm_drop (GRow.ci q) 3 (fun _ => rfl) ys i hb
      have hlen := fm_len (GRow.ci q) 3 (fun _ => rfl) ys
      have hlt : i * 3 < ys.length * 3 := by omega
      rw [ey] at hd
      simp only [GRow.cn] at hcn
      have hxl := hlx _ (List.getElem_mem h)
      have hw0 : IntKind.wrap .i64 (K + 1) = K + 1 := wrap64 (by omega) (by omega)
      have hw1 : IntKind.wrap .i64 ((K + 1) + 1) = (K + 1) + 1 := wrap64 (by omega) (by omega)
      have hs2 := mk_OfferS_snd xs[i].Offers ((K + 1) + 1)
      have hn2 : ¬ (mk_OfferS xs[i].Offers ((K + 1) + 1)).2 < 0 := by omega
      simp [h, hb, hd, hlen, hlt, GRow.mark, hw0, hw1, hn2]
      refine Inv_intro (ok_heldOfferS q xs[i].Offers (((K + 1) + 1)) hxl (by omega) (by omega)) ?_
      simp [h, hb, hd, hlen, hlt, GRow.mark, hw0, hw1, hn2]
      have e4 := mkR_take GRow.mark xs i h k
      rw [hK] at e4
      subst hI
      refine Less_mk m (by omega) ⟨i + 1, by omega, ?_⟩
      rw [wrNext i (by omega), e4]
      all_goals rfl
    · simp at h
      have hx : xs.take i = xs := List.take_of_length_le (by omega)
      rw [hx] at hK
      simp [hK]
theorem ok_heldRib (q : Nat) (x : GRib) (k : Int) (hls : GRib.lens x) (hk : 0 < k) (hk2 : k + GRib.cnT x ≤ 2305843009213693952) : CallOK Tryz.prog 23 [.agg (GRib.ci q (GRib.markT x k).1), .c (pi k)] (.c (pi (GRib.markT x k).2)) [.agg (GRib.ci q (GRib.markT x k).1), .c (pi k)] := by
  unfold GRib.cnT at hk2
  unfold GRib.markT
  have hs0 := mk_RowS_snd x.Rows k
  have hn0 : ¬ (mk_RowS x.Rows k).2 < 0 := by omega
  refine okS (fn := Tryz.f23) [] h0 Tryz.func23 (by kernel_rfl) rfl Tryz.ntmps23 Tryz.results23 (by simp) ?_
  simp
  refine Inv_intro (ok_heldRowS q x.Rows (k) (hls) (by omega) (by omega)) ?_
  simp [hn0]
end Go.V
