/- What functions of the seat's program do, each proved of its code, under the bounds that its theorem names. -/
import Derived.Test.YtondobhlgnojeaaTab
set_option linter.all false
namespace Go.V
open Go.Proofs
set_option maxHeartbeats 1000000
set_option maxRecDepth 10000
set_option linter.unusedSimpArgs false
set_option linter.unusedVariables false
theorem ok_eqStringS (k k' : Nat) (xs ys : List ByteArray) (ha : lens_StringS xs) (hb : lens_StringS ys) : CallOK Try.prog 28 [.c (rd k xs.length (xs.map ps)), .c (rd k' ys.length (ys.map ps))] (.c (pb (decide (xs = ys)))) [.c (rd k xs.length (xs.map ps)), .c (rd k' ys.length (ys.map ps))] := by
  obtain ⟨ha, hax⟩ := ha
  obtain ⟨hb, hbx⟩ := hb
  refine okS (fn := Try.f28) [] h0 Try.func28 (by kernel_rfl) rfl Try.ntmps28 Try.results28 (by simp) ?_
  simp
  refine brn_app (fun h => ?_) (fun h => ?_)
  · simp at h
    simp
    rintro rfl
    exact h rfl
  · simp at h
    have hl : ys.length = xs.length := by omega
    simp
    refine loopS [0, 1, 5] [] (fun n st => ∃ (i : Nat), i + n = xs.length ∧ (xs.drop i = ys.drop i ↔ xs = ys) ∧ st = ⟨slOf 26 [(0, .t (rd k xs.length (xs.map ps))), (1, .t (rd k' ys.length (ys.map ps))), (5, .t (pi i))], ofL []⟩) xs.length ?_ ?_
    · rintro Inv hI
      simp
      subst hI
      exact ⟨0, by omega, by simp, rfl⟩
    · rintro Inv hI n st ⟨i, hi, htk, rfl⟩
      refine ewr_sound (M := []) h0 ?_
      simp
      refine brn_app (fun h => ?_) (fun h => ?_)
      · simp at h
        have hib : i < ys.length := by omega
        rw [drop_step xs i h, drop_step ys i hib, List.cons.injEq] at htk
        simp
        refine drawP E0 [⟨[], allD 26, true⟩, ⟨[], allD 26, true⟩, ⟨[], allD 26, true⟩, ⟨[], allD 26, true⟩, ⟨[], allD 26, true⟩, ⟨[], allD 26, true⟩, ⟨[], allD 26, true⟩, ⟨[], allD 26, true⟩, ⟨[], allD 26, true⟩] h0 hm (E0_ok _) (by kernel_rfl) (by kernel_rfl) ?_
        simp [h, hib]
        refine brn_app (fun h2 => ?_) (fun h2 => ?_)
        · simp at h2
          simp
          intro he
          exact h2 (htk.2 he).1
        · simp at h2
          simp
          subst hI
          exact Less_mk (n - 1) (by omega) ⟨i + 1, by omega, ⟨fun h4 => htk.1 ⟨h2, h4⟩, fun h4 => (htk.2 h4).2⟩, by rw [wrNext i (by omega)]⟩
      · simp at h
        rw [List.drop_of_length_le (by omega), List.drop_of_length_le (by omega)] at htk
        simp
        exact htk.1 rfl
theorem ok_eqLeaf (k k' : Nat) (x y : GLeaf) (ha : GLeaf.lens x) (hb : GLeaf.lens y) : CallOK Try.prog 67 [.agg (GLeaf.ci k x), .agg (GLeaf.ci k' y)] (.c (pb (decide (x = y)))) [.agg (GLeaf.ci k x), .agg (GLeaf.ci k' y)] := by
  simp only [GLeaf.lens] at ha hb
  refine okS (fn := Try.f67) [] h0 Try.func67 (by kernel_rfl) rfl Try.ntmps67 Try.results67 (by simp) ?_
  simp
  refine Inv_intro (ok_eqStringS k k' x.Path y.Path (ha) (hb)) ?_
  simp
  refine brn_app (fun a0 => ?_) (fun a0 => ?_)
  · simp at a0
    simp
    rintro rfl
    exact a0 rfl
  · simp at a0
    simp
    refine brn_app (fun a1 => ?_) (fun a1 => ?_)
    · simp at a1
      simp
      rintro rfl
      exact a1 rfl
    · simp at a1
      simp
      cases x
      cases y
      simp_all
theorem ok_eqLeafS (k k' : Nat) (xs ys : List GLeaf) (ha : lens_LeafS xs) (hb : lens_LeafS ys) : CallOK Try.prog 23 [.c (rd k xs.length (xs.flatMap (GLeaf.ci k))), .c (rd k' ys.length (ys.flatMap (GLeaf.ci k')))] (.c (pb (decide (xs = ys)))) [.c (rd k xs.length (xs.flatMap (GLeaf.ci k))), .c (rd k' ys.length (ys.flatMap (GLeaf.ci k')))] := by
  obtain ⟨ha, hax⟩ := ha
  obtain ⟨hb, hbx⟩ := hb
  refine okS (fn := Try.f23) [] h0 Try.func23 (by kernel_rfl) rfl Try.ntmps23 Try.results23 (by simp) ?_
  simp
  refine brn_app (fun h => ?_) (fun h => ?_)
  · simp at h
    simp
    rintro rfl
    exact h rfl
  · simp at h
    have hl : ys.length = xs.length := by omega
    simp
    refine loopS [0, 1, 5] [] (fun n st => ∃ (i : Nat), i + n = xs.length ∧ (xs.drop i = ys.drop i ↔ xs = ys) ∧ st = ⟨slOf 27 [(0, .t (rd k xs.length (xs.flatMap (GLeaf.ci k)))), (1, .t (rd k' ys.length (ys.flatMap (GLeaf.ci k')))), (5, .t (pi i))], ofL []⟩) xs.length ?_ ?_
    · rintro Inv hI
      simp
      subst hI
      exact ⟨0, by omega, by simp, rfl⟩
    · rintro Inv hI n st ⟨i, hi, htk, rfl⟩
      refine ewr_sound (M := []) h0 ?_
      simp
      refine brn_app (fun h => ?_) (fun h => ?_)
      · simp at h
        have hib : i < ys.length := by omega
        rw [drop_step xs i h, drop_step ys i hib, List.cons.injEq] at htk
        simp
        have hd := fm_drop (GLeaf.ci k) 2 (fun _ => rfl) xs i h
        have hd' := fm_drop (GLeaf.ci k') 2 (fun _ => rfl) ys i hib
        have hlen := fm_len (GLeaf.ci k) 2 (fun _ => rfl) xs
        have hlen' := fm_len (GLeaf.ci k') 2 (fun _ => rfl) ys
        have hlt : i * 2 < xs.length * 2 := by omega
        have hlt' : i * 2 < ys.length * 2 := by omega
        have hE := ok_eqLeaf k k' xs[i] ys[i] (hax _ (List.getElem_mem h)) (hbx _ (List.getElem_mem hib))
        refine drawP (tabEnv [] [(67, [.agg (GLeaf.ci k xs[i]), .agg (GLeaf.ci k' ys[i])], .c (pb (decide (xs[i] = ys[i]))), [.agg (GLeaf.ci k xs[i]), .agg (GLeaf.ci k' ys[i])])]) [⟨[], allD 27, true⟩, ⟨[], allD 27, true⟩, ⟨[], allD 27, true⟩, ⟨[], allD 27, true⟩, ⟨[], allD 27, true⟩, ⟨[], allD 27, true⟩, ⟨[], allD 27, true⟩, ⟨[], allD 27, true⟩, ⟨[], allD 27, false⟩, ⟨[], allD 27, true⟩] h0 hm (tabEnv_ok (by intro x hx; simp only [List.mem_singleton] at hx; subst hx; exact hE)) (by kernel_rfl) (by kernel_rfl) ?_
        simp [h, hib, hd, hd', hlen, hlen', hlt, hlt']
        refine brn_app (fun h2 => ?_) (fun h2 => ?_)
        · simp at h2
          simp
          intro he
          exact h2 (htk.2 he).1
        · simp at h2
          simp
          subst hI
          exact Less_mk (n - 1) (by omega) ⟨i + 1, by omega, ⟨fun h4 => htk.1 ⟨h2, h4⟩, fun h4 => (htk.2 h4).2⟩, by rw [wrNext i (by omega)]⟩
      · simp at h
        rw [List.drop_of_length_le (by omega), List.drop_of_length_le (by omega)] at htk
        simp
        exact htk.1 rfl
theorem ok_szStringS (k : Nat) (xs : List ByteArray) (left : Int) (h1 : 0 ≤ left) (h2 : left ≤ 1048576) (hf : fits_StringS xs) : CallOK Try.prog 24 [.c (rd k xs.length (xs.map ps)), .c (pi left)] (.c (pi (szr left (wt_StringS xs)))) [.c (rd k xs.length (xs.map ps)), .c (pi left)] := by
  obtain ⟨hl, hx⟩ := hf
  refine okS (fn := Try.f24) [] h0 Try.func24 (by kernel_rfl) rfl Try.ntmps24 Try.results24 (by simp) ?_
  have hw : IntKind.wrap .i64 (left - xs.length) = left - xs.length := wrap64 (by omega) (by omega)
  have hwl := len_wt_StringS xs
  simp [hw]
  refine brn_app (fun h => ?_) (fun h => ?_)
  · simp at h
    have e1 : szr left (wt_StringS xs) = -1 := szr_neg (by omega)
    simp [e1]
  · simp at h
    simp
    refine loopS [0, 1, 5] [] (fun n st => ∃ (i : Nat) (m : Int), i + n = xs.length ∧ 0 ≤ m ∧ m ≤ 1048576 ∧ szr m (((xs.drop i).map ByteArray.size).sum) = szr left (wt_StringS xs) ∧ st = ⟨slOf 28 [(0, .t (rd k xs.length (xs.map ps))), (1, .t (pi m)), (5, .t (pi i))], ofL []⟩) xs.length ?_ ?_
    · rintro Inv hI
      simp
      subst hI
      exact ⟨0, left - xs.length, by omega, by omega, by omega, by rw [List.drop_zero, wt_StringS, wtR, szr_add (by omega)], rfl⟩
    · rintro Inv hI n st ⟨i, m, hi, hm1, hm2, hg, rfl⟩
      refine ewr_sound (M := []) h0 ?_
      simp
      refine brn_app (fun h3 => ?_) (fun h3 => ?_)
      · simp at h3
        have hxi := hx xs[i] (List.getElem_mem h3)
        rw [drop_step xs i h3, List.map_cons, List.sum_cons] at hg
        have hw2 : IntKind.wrap .i64 (m - xs[i].size) = m - xs[i].size := wrap64 (by omega) (by omega)
        simp [h3, hw2]
        refine brn_app (fun h4 => ?_) (fun h4 => ?_)
        · simp at h4
          rw [szr_add_neg (by omega)] at hg
          simp [← hg]
        · simp at h4
          rw [szr_add (by omega)] at hg
          simp
          subst hI
          exact Less_mk (n - 1) (by omega) ⟨i + 1, m - xs[i].size, by omega, by omega, by omega, hg, by rw [wrNext i (by omega)]⟩
      · simp at h3
        rw [List.drop_of_length_le (by omega), List.map_nil, List.sum_nil, szr_zero hm1] at hg
        simp [hg]
theorem ok_szLeaf (k : Nat) (x : GLeaf) (left : Int) (h1 : 0 ≤ left) (h2 : left ≤ 1048576) (hf : GLeaf.fits x) : CallOK Try.prog 61 [.agg (GLeaf.ci k x), .c (pi left)] (.c (pi (szr left (GLeaf.wt x)))) [.agg (GLeaf.ci k x), .c (pi left)] := by
  simp only [GLeaf.fits] at hf
  obtain ⟨hf0, hf1⟩ := hf
  refine okS (fn := Try.f61) [] h0 Try.func61 (by kernel_rfl) rfl Try.ntmps61 Try.results61 (by simp) ?_
  simp
  refine Inv_intro (ok_szStringS k x.Path (left) (by omega) (by omega) hf0) ?_
  simp
  refine brn_app (fun a0 => ?_) (fun a0 => ?_)
  · simp at a0
    have b0 := szr_lt0 a0 (by omega)
    have e : szr left (GLeaf.wt x) = -1 := szr_neg (by unfold GLeaf.wt; omega)
    simp [e]
  · simp at a0
    have b0 := szr_ge0 a0
    have e0 := szr_ge b0
    simp only [e0]
    have hw1 : IntKind.wrap .i64 (left - (wt_StringS x.Path : Nat) - x.Value.size) = left - (wt_StringS x.Path : Nat) - x.Value.size := wrap64 (by omega) (by omega)
    simp [hw1]
    refine brn_app (fun a1 => ?_) (fun a1 => ?_)
    · simp at a1
      have e : szr left (GLeaf.wt x) = -1 := szr_neg (by unfold GLeaf.wt; omega)
      simp [e]
    · simp at a1
      have e : szr left (GLeaf.wt x) = left - (wt_StringS x.Path : Nat) - x.Value.size := by
        rw [szr_ge (by unfold GLeaf.wt; omega)]
        unfold GLeaf.wt
        omega
      simp [e]
theorem ok_szLeafS (k : Nat) (xs : List GLeaf) (left : Int) (h1 : 0 ≤ left) (h2 : left ≤ 1048576) (hf : fits_LeafS xs) : CallOK Try.prog 19 [.c (rd k xs.length (xs.flatMap (GLeaf.ci k))), .c (pi left)] (.c (pi (szr left (wt_LeafS xs)))) [.c (rd k xs.length (xs.flatMap (GLeaf.ci k))), .c (pi left)] := by
  obtain ⟨hl, hx⟩ := hf
  refine okS (fn := Try.f19) [] h0 Try.func19 (by kernel_rfl) rfl Try.ntmps19 Try.results19 (by simp) ?_
  have hw : IntKind.wrap .i64 (left - xs.length) = left - xs.length := wrap64 (by omega) (by omega)
  have hwl := len_wt_LeafS xs
  simp [hw]
  refine brn_app (fun h => ?_) (fun h => ?_)
  · simp at h
    have e1 : szr left (wt_LeafS xs) = -1 := szr_neg (by omega)
    simp [e1]
  · simp at h
    simp
    refine loopS [0, 1, 5] [] (fun n st => ∃ (i : Nat) (m : Int), i + n = xs.length ∧ 0 ≤ m ∧ m ≤ 1048576 ∧ szr m (((xs.drop i).map GLeaf.wt).sum) = szr left (wt_LeafS xs) ∧ st = ⟨slOf 27 [(0, .t (rd k xs.length (xs.flatMap (GLeaf.ci k)))), (1, .t (pi m)), (5, .t (pi i))], ofL []⟩) xs.length ?_ ?_
    · rintro Inv hI
      simp
      subst hI
      exact ⟨0, left - xs.length, by omega, by omega, by omega, by rw [List.drop_zero, wt_LeafS, wtR, szr_add (by omega)], rfl⟩
    · rintro Inv hI n st ⟨i, m, hi, hm1, hm2, hg, rfl⟩
      refine ewr_sound (M := []) h0 ?_
      simp
      refine brn_app (fun h3 => ?_) (fun h3 => ?_)
      · simp at h3
        have hxi := hx xs[i] (List.getElem_mem h3)
        rw [drop_step xs i h3, List.map_cons, List.sum_cons] at hg
        have hd := fm_drop (GLeaf.ci k) 2 (fun _ => rfl) xs i h3
        have hlen := fm_len (GLeaf.ci k) 2 (fun _ => rfl) xs
        have hlt : i * 2 < xs.length * 2 := by omega
        simp [h3, hd, hlen, hlt]
        refine Inv_intro (ok_szLeaf k xs[i] m hm1 hm2 hxi) ?_
        simp
        refine brn_app (fun h4 => ?_) (fun h4 => ?_)
        · simp at h4
          have h5 := szr_lt0 h4 hm1
          rw [szr_add_neg h5] at hg
          simp [← hg]
        · simp at h4
          have h5 := szr_ge0 h4
          have e5 := szr_ge h5
          rw [szr_add h5, ← e5] at hg
          simp
          subst hI
          exact Less_mk (n - 1) (by omega) ⟨i + 1, szr m (GLeaf.wt xs[i]), by omega, by omega, by omega, hg, by rw [wrNext i (by omega)]⟩
      · simp at h3
        rw [List.drop_of_length_le (by omega), List.map_nil, List.sum_nil, szr_zero hm1] at hg
        simp [hg]
theorem ok_toStringS (k : Nat) (xs : List ByteArray) (hwt : wt_StringS xs ≤ 1048576) : CallOK Try.prog 26 [.c (rd k xs.length (xs.map ps))] (.c (.sl 0 9 xs.length (xs.map ps))) [.c (rd k xs.length (xs.map ps))] := by
  have hl := len_wt_StringS xs
  refine okS (fn := Try.f26) [] h0 Try.func26 (by kernel_rfl) rfl Try.ntmps26 Try.results26 (by simp) ?_
  have hb1 : (xs.length : Int) ≤ 281474976710656 := by omega
  have hb2 : 16 * (xs.length : Int) ≤ 281474976710656 := by omega
  simp [hb1, hb2]
  refine loopS [0, 3, 4] [.op 1 2 0] (fun n st => ∃ (i : Nat), i + n = xs.length ∧ st = ⟨slOf 22 [(0, .t (rd k xs.length (xs.map ps))), (3, .ref ⟨.op 1 2 0, []⟩ 0 xs.length), (4, .t (pi i))], ofL [(.op 1 2 0, .sl 0 9 xs.length (((xs.take i).map ps) ++ List.replicate n (.raw (.string ByteArray.empty))))]⟩) xs.length ?_ ?_
  · rintro Inv hI
    simp
    subst hI
    exact ⟨0, by omega, by simp⟩
  · rintro Inv hI n st ⟨i, hi, rfl⟩
    have hA := map_take_len ps xs i (by omega)
    generalize hAe : ((xs.take i).map ps) = A at hA ⊢
    refine ewr_sound (M := []) h0 ?_
    simp
    refine brn_app (fun h => ?_) (fun h => ?_)
    · simp at h
      obtain ⟨m, rfl⟩ : ∃ m, n = m + 1 := ⟨n - 1, by omega⟩
      simp [h, hA, List.replicate_succ]
      have e3 : ((xs.take (i + 1)).map ps) = A ++ [ps xs[i]] := by rw [take_step xs i h, List.map_append, hAe]; rfl
      subst hI
      refine Less_mk m (by omega) ⟨i + 1, by omega, ?_⟩
      rw [wrNext i (by omega), e3, List.append_assoc]
      all_goals rfl
    · simp at h
      have hn : n = 0 := by omega
      subst hn
      have ht : List.take i xs = xs := List.take_of_length_le (by omega)
      have ht2 : List.take (xs.length) (xs.map ps) = (xs.map ps) := List.take_of_length_le (by simp)
      rw [← hAe, ht]
      simp [ht2]
theorem ok_toLeaf (k : Nat) (x : GLeaf) (hwt : GLeaf.wt x ≤ 1048576) : CallOK Try.prog 64 [.agg (GLeaf.ci k x)] (.agg (GLeaf.co x)) [.agg (GLeaf.ci k x)] := by
  unfold GLeaf.wt at hwt
  refine okS (fn := Try.f64) [] h0 Try.func64 (by kernel_rfl) rfl Try.ntmps64 Try.results64 (by simp) ?_
  simp
  refine Inv_intro (ok_toStringS k x.Path (by omega)) ?_
  simp
theorem ok_toLeafS (k : Nat) (xs : List GLeaf) (hwt : wt_LeafS xs ≤ 1048576) : CallOK Try.prog 21 [.c (rd k xs.length (xs.flatMap (GLeaf.ci k)))] (.c (.sl 0 76 xs.length (xs.flatMap GLeaf.co))) [.c (rd k xs.length (xs.flatMap (GLeaf.ci k)))] := by
  have hl := len_wt_LeafS xs
  refine okS (fn := Try.f21) [] h0 Try.func21 (by kernel_rfl) rfl Try.ntmps21 Try.results21 (by simp) ?_
  have hb1 : (xs.length : Int) ≤ 281474976710656 := by omega
  have hb2 : 40 * (xs.length : Int) ≤ 281474976710656 := by omega
  simp [hb1, hb2]
  refine loopS [0, 3, 4] [.op 1 2 0] (fun n st => ∃ (i : Nat), i + n = xs.length ∧ st = ⟨slOf 23 [(0, .t (rd k xs.length (xs.flatMap (GLeaf.ci k)))), (3, .ref ⟨.op 1 2 0, []⟩ 0 xs.length), (4, .t (pi i))], ofL [(.op 1 2 0, .sl 0 76 xs.length (((xs.take i).flatMap GLeaf.co) ++ (List.replicate n [.sl 0 nilE 0 [], .raw (.string ByteArray.empty)]).flatten))]⟩) xs.length ?_ ?_
  · rintro Inv hI
    simp
    subst hI
    exact ⟨0, by omega, by simp⟩
  · rintro Inv hI n st ⟨i, hi, rfl⟩
    have hA := fm_take_len GLeaf.co 2 (fun _ => rfl) xs i (by omega)
    generalize hAe : ((xs.take i).flatMap GLeaf.co) = A at hA ⊢
    refine ewr_sound (M := []) h0 ?_
    simp
    refine brn_app (fun h => ?_) (fun h => ?_)
    · simp at h
      obtain ⟨m, rfl⟩ : ∃ m, n = m + 1 := ⟨n - 1, by omega⟩
      have hd := fm_drop (GLeaf.ci k) 2 (fun _ => rfl) xs i h
      have hlen := fm_len (GLeaf.ci k) 2 (fun _ => rfl) xs
      have hlt : i * 2 < xs.length * 2 := by omega
      simp [h, hd, hlen, hlt]
      refine Inv_intro (ok_toLeaf k xs[i] (by have := mem_wt_LeafS (List.getElem_mem h); omega)) ?_
      simp [h, hA, List.replicate_succ]
      have e3 : ((xs.take (i + 1)).flatMap GLeaf.co) = A ++ GLeaf.co xs[i] := by rw [take_step xs i h, List.flatMap_append, hAe, List.flatMap_cons, List.flatMap_nil, List.append_nil]
      subst hI
      refine Less_mk m (by omega) ⟨i + 1, by omega, ?_⟩
      rw [wrNext i (by omega), e3, List.append_assoc]
      all_goals rfl
    · simp at h
      have hn : n = 0 := by omega
      subst hn
      have ht : List.take i xs = xs := List.take_of_length_le (by omega)
      have ht2 : List.take (xs.length * 2) (xs.flatMap GLeaf.co) = (xs.flatMap GLeaf.co) := List.take_of_length_le (by rw [fm_len GLeaf.co 2 (fun _ => rfl)]; exact Nat.le_refl _)
      have hlo := fm_len GLeaf.co 2 (fun _ => rfl) xs
      rw [← hAe, ht]
      simp [ht2, hlo, -List.length_flatMap]
theorem ok_FnExactGetAt (v0 : (List GLeaf)) (v1 : (List ByteArray)) (f0 : fits_LeafS v0) (f1 : fits_StringS v1) : CallOK Try.prog 5 [.c (rd 1 v0.length (v0.flatMap (GLeaf.ci 1))), .c (rd 1 v1.length (v1.map ps))] (.c (pb true)) [.c (rd 1 v0.length (v0.flatMap (GLeaf.ci 1))), .c (rd 1 v1.length (v1.map ps))] := by
  refine okS (fn := Try.f5) [] h0 Try.func5 (by kernel_rfl) rfl Try.ntmps5 Try.results5 (by simp) ?_
  simp
  refine Inv_intro (ok_szLeafS 1 v0 _ (by omega) (by omega) f0) ?_
  simp
  refine brn_app (fun b0 => ?_) (fun b0 => ?_)
  · simp
  · simp at b0
    have e0 := szr_ge (szr_ge0 b0)
    have d0 := szr_ge0 b0
    simp
    refine Inv_intro (ok_szStringS 1 v1 _ (by omega) (by omega) f1) ?_
    simp
    refine brn_app (fun b1 => ?_) (fun b1 => ?_)
    · simp
    · simp at b1
      have e1 := szr_ge (szr_ge0 b1)
      have d1 := szr_ge0 b1
      simp
      have hv0 : wt_LeafS v0 ≤ 1048576 := by omega
      have hlp0 : lens_LeafS v0 := lens_of_LeafS hv0
      have hcp0 := cn_le_LeafS v0
      have hv1 : wt_StringS v1 ≤ 1048576 := by omega
      have hlp1 : lens_StringS v1 := lens_of_StringS hv1
      have hcp1 := cn_le_StringS v1
      refine Inv_intro (ok_toLeafS 1 v0 hv0) ?_
      simp
      refine Inv_intro (ok_toStringS 1 v1 hv1) ?_
      simp
      refine Inv_intro (law_sGetAt v0 v1 hv0 hv1) ?_
      simp
      refine Inv_intro (ok_toLeafS 1 v0 hv0) ?_
      simp
      refine Inv_intro (ok_toStringS 1 v1 hv1) ?_
      simp
      refine Inv_intro (law_iGetAt v0 v1 hv0 hv1) ?_
      simp
      refine Inv_intro (ok_toLeafS 1 v0 hv0) ?_
      simp
      refine Inv_intro (ok_eqLeafS 0 0 (v0) (v0) hlp0 hlp0) ?_
      simp
      refine Inv_intro (ok_toStringS 1 v1 hv1) ?_
      simp
      refine Inv_intro (ok_eqStringS 0 0 (v1) (v1) hlp1 hlp1) ?_
      simp
end Go.V
