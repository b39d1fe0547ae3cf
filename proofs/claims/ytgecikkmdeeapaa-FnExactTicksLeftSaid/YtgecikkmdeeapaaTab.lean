/- What functions of the seat's program do, each proved of its code, under the bounds that its theorem names. -/
import Derived.Test.YtgecikkmdeeapaaTaa
set_option linter.all false
namespace Go.V
open Go.Proofs
set_option maxHeartbeats 1000000
set_option maxRecDepth 10000
set_option linter.unusedSimpArgs false
set_option linter.unusedVariables false
theorem open_Store {n : Nat} {qs : List PT} (h : TyC Try.prog (n + 6) 33 qs) : ∃ x : GStore, qs = GStore.ci 1 x ∧ GStore.fits x := by
  unfold TyC at h
  rw [Try.underlying33] at h
  simp only [TyFs] at h
  obtain ⟨p0, q0, rfl, h0, ⟨p1, q1, rfl, h1, ⟨p2, q2, rfl, h2, ⟨p3, q3, rfl, h3, rfl⟩⟩⟩⟩ := h
  obtain ⟨x0, rfl, y0⟩ := open_LeafS (n := n + 1) h0
  obtain ⟨x1, rfl, y1⟩ := open_LeafS (n := n + 1) h1
  obtain ⟨x2, rfl, y2⟩ := open_LeafSS (n := n + 0) h2
  obtain ⟨x3, rfl, y3⟩ := open_Int (n := n + 4) h3
  exact ⟨⟨x0, x1, x2, x3⟩, rfl, ⟨y0, y1, y2⟩⟩
theorem ok_eqStringS (k k' : Nat) (xs ys : List ByteArray) (ha : lens_StringS xs) (hb : lens_StringS ys) : CallOK Try.prog 84 [.c (rd k xs.length (xs.map ps)), .c (rd k' ys.length (ys.map ps))] (.c (pb (decide (xs = ys)))) [.c (rd k xs.length (xs.map ps)), .c (rd k' ys.length (ys.map ps))] := by
  obtain ⟨ha, hax⟩ := ha
  obtain ⟨hb, hbx⟩ := hb
  refine okS (fn := Try.f84) [] h0 Try.func84 (by kernel_rfl) rfl Try.ntmps84 Try.results84 (by simp) ?_
  simp
  refine brn_app (fun h => ?_) (fun h => ?_)
  · simp at h
    simp
    rintro rfl
    exact h rfl
  · simp at h
    have hl : ys.length = xs.length := by omega
    simp
    refine loopS [0, 1, 5] [] (fun n st => ∃ (i : Nat), i + n = xs.length ∧ (xs.drop i = ys.drop i ↔ xs = ys) ∧ st = ⟨slOf 26 [(0, .t (rd k xs.length (xs.map ps))), (1, .t (rd k' ys.length (ys.map ps))), (5, .t (pi i))], ofL []⟩) xs.length ?_ ?_
    · rintro Inv hI
      simp
      subst hI
      exact ⟨0, by omega, by simp, rfl⟩
    · rintro Inv hI n st ⟨i, hi, htk, rfl⟩
      refine ewr_sound (M := []) h0 ?_
      simp
      refine brn_app (fun h => ?_) (fun h => ?_)
      · simp at h
        have hib : i < ys.length := by omega
        rw [drop_step xs i h, drop_step ys i hib, List.cons.injEq] at htk
        simp
        refine drawP E0 [⟨[], allD 26, true⟩, ⟨[], allD 26, true⟩, ⟨[], allD 26, true⟩, ⟨[], allD 26, true⟩, ⟨[], allD 26, true⟩, ⟨[], allD 26, true⟩, ⟨[], allD 26, true⟩, ⟨[], allD 26, true⟩, ⟨[], allD 26, true⟩] h0 hm (E0_ok _) (by kernel_rfl) (by kernel_rfl) ?_
        simp [h, hib]
        refine brn_app (fun h2 => ?_) (fun h2 => ?_)
        · simp at h2
          simp
          intro he
          exact h2 (htk.2 he).1
        · simp at h2
          simp
          subst hI
          exact Less_mk (n - 1) (by omega) ⟨i + 1, by omega, ⟨fun h4 => htk.1 ⟨h2, h4⟩, fun h4 => (htk.2 h4).2⟩, by rw [wrNext i (by omega)]⟩
      · simp at h
        rw [List.drop_of_length_le (by omega), List.drop_of_length_le (by omega)] at htk
        simp
        exact htk.1 rfl
theorem ok_eqLeaf (k k' : Nat) (x y : GLeaf) (ha : GLeaf.lens x) (hb : GLeaf.lens y) : CallOK Try.prog 70 [.agg (GLeaf.ci k x), .agg (GLeaf.ci k' y)] (.c (pb (decide (x = y)))) [.agg (GLeaf.ci k x), .agg (GLeaf.ci k' y)] := by
  simp only [GLeaf.lens] at ha hb
  refine okS (fn := Try.f70) [] h0 Try.func70 (by kernel_rfl) rfl Try.ntmps70 Try.results70 (by simp) ?_
  simp
  refine Inv_intro (ok_eqStringS k k' x.Path y.Path (ha) (hb)) ?_
  simp
  refine brn_app (fun a0 => ?_) (fun a0 => ?_)
  · simp at a0
    simp
    rintro rfl
    exact a0 rfl
  · simp at a0
    simp
    refine brn_app (fun a1 => ?_) (fun a1 => ?_)
    · simp at a1
      simp
      rintro rfl
      exact a1 rfl
    · simp at a1
      simp
      cases x
      cases y
      simp_all
theorem ok_eqLeafS (k k' : Nat) (xs ys : List GLeaf) (ha : lens_LeafS xs) (hb : lens_LeafS ys) : CallOK Try.prog 24 [.c (rd k xs.length (xs.flatMap (GLeaf.ci k))), .c (rd k' ys.length (ys.flatMap (GLeaf.ci k')))] (.c (pb (decide (xs = ys)))) [.c (rd k xs.length (xs.flatMap (GLeaf.ci k))), .c (rd k' ys.length (ys.flatMap (GLeaf.ci k')))] := by
  obtain ⟨ha, hax⟩ := ha
  obtain ⟨hb, hbx⟩ := hb
  refine okS (fn := Try.f24) [] h0 Try.func24 (by kernel_rfl) rfl Try.ntmps24 Try.results24 (by simp) ?_
  simp
  refine brn_app (fun h => ?_) (fun h => ?_)
  · simp at h
    simp
    rintro rfl
    exact h rfl
  · simp at h
    have hl : ys.length = xs.length := by omega
    simp
    refine loopS [0, 1, 5] [] (fun n st => ∃ (i : Nat), i + n = xs.length ∧ (xs.drop i = ys.drop i ↔ xs = ys) ∧ st = ⟨slOf 27 [(0, .t (rd k xs.length (xs.flatMap (GLeaf.ci k)))), (1, .t (rd k' ys.length (ys.flatMap (GLeaf.ci k')))), (5, .t (pi i))], ofL []⟩) xs.length ?_ ?_
    · rintro Inv hI
      simp
      subst hI
      exact ⟨0, by omega, by simp, rfl⟩
    · rintro Inv hI n st ⟨i, hi, htk, rfl⟩
      refine ewr_sound (M := []) h0 ?_
      simp
      refine brn_app (fun h => ?_) (fun h => ?_)
      · simp at h
        have hib : i < ys.length := by omega
        rw [drop_step xs i h, drop_step ys i hib, List.cons.injEq] at htk
        simp
        have hd := fm_drop (GLeaf.ci k) 2 (fun _ => rfl) xs i h
        have hd' := fm_drop (GLeaf.ci k') 2 (fun _ => rfl) ys i hib
        have hlen := fm_len (GLeaf.ci k) 2 (fun _ => rfl) xs
        have hlen' := fm_len (GLeaf.ci k') 2 (fun _ => rfl) ys
        have hlt : i * 2 < xs.length * 2 := by omega
        have hlt' : i * 2 < ys.length * 2 := by omega
        have hE := ok_eqLeaf k k' xs[i] ys[i] (hax _ (List.getElem_mem h)) (hbx _ (List.getElem_mem hib))
        refine drawP (tabEnv [] [(70, [.agg (GLeaf.ci k xs[i]), .agg (GLeaf.ci k' ys[i])], .c (pb (decide (xs[i] = ys[i]))), [.agg (GLeaf.ci k xs[i]), .agg (GLeaf.ci k' ys[i])])]) [⟨[], allD 27, true⟩, ⟨[], allD 27, true⟩, ⟨[], allD 27, true⟩, ⟨[], allD 27, true⟩, ⟨[], allD 27, true⟩, ⟨[], allD 27, true⟩, ⟨[], allD 27, true⟩, ⟨[], allD 27, true⟩, ⟨[], allD 27, false⟩, ⟨[], allD 27, true⟩] h0 hm (tabEnv_ok (by intro x hx; simp only [List.mem_singleton] at hx; subst hx; exact hE)) (by kernel_rfl) (by kernel_rfl) ?_
        simp [h, hib, hd, hd', hlen, hlen', hlt, hlt']
        refine brn_app (fun h2 => ?_) (fun h2 => ?_)
        · simp at h2
          simp
          intro he
          exact h2 (htk.2 he).1
        · simp at h2
          simp
          subst hI
          exact Less_mk (n - 1) (by omega) ⟨i + 1, by omega, ⟨fun h4 => htk.1 ⟨h2, h4⟩, fun h4 => (htk.2 h4).2⟩, by rw [wrNext i (by omega)]⟩
      · simp at h
        rw [List.drop_of_length_le (by omega), List.drop_of_length_le (by omega)] at htk
        simp
        exact htk.1 rfl
theorem ok_eqLeafSS (k k' : Nat) (xs ys : List (List GLeaf)) (ha : lens_LeafSS xs) (hb : lens_LeafSS ys) : CallOK Try.prog 53 [.c (rd k xs.length (xs.map (cLeafSi k))), .c (rd k' ys.length (ys.map (cLeafSi k')))] (.c (pb (decide (xs = ys)))) [.c (rd k xs.length (xs.map (cLeafSi k))), .c (rd k' ys.length (ys.map (cLeafSi k')))] := by
  obtain ⟨ha, hax⟩ := ha
  obtain ⟨hb, hbx⟩ := hb
  refine okS (fn := Try.f53) [] h0 Try.func53 (by kernel_rfl) rfl Try.ntmps53 Try.results53 (by simp) ?_
  simp
  refine brn_app (fun h => ?_) (fun h => ?_)
  · simp at h
    simp
    rintro rfl
    exact h rfl
  · simp at h
    have hl : ys.length = xs.length := by omega
    simp
    refine loopS [0, 1, 5] [] (fun n st => ∃ (i : Nat), i + n = xs.length ∧ (xs.drop i = ys.drop i ↔ xs = ys) ∧ st = ⟨slOf 27 [(0, .t (rd k xs.length (xs.map (cLeafSi k)))), (1, .t (rd k' ys.length (ys.map (cLeafSi k')))), (5, .t (pi i))], ofL []⟩) xs.length ?_ ?_
    · rintro Inv hI
      simp
      subst hI
      exact ⟨0, by omega, by simp, rfl⟩
    · rintro Inv hI n st ⟨i, hi, htk, rfl⟩
      refine ewr_sound (M := []) h0 ?_
      simp
      refine brn_app (fun h => ?_) (fun h => ?_)
      · simp at h
        have hib : i < ys.length := by omega
        rw [drop_step xs i h, drop_step ys i hib, List.cons.injEq] at htk
        simp
        have hE := ok_eqLeafS k k' xs[i] ys[i] (hax _ (List.getElem_mem h)) (hbx _ (List.getElem_mem hib))
        refine drawP (tabEnv [] [(24, [.c (rd k xs[i].length (xs[i].flatMap (GLeaf.ci k))), .c (rd k' ys[i].length (ys[i].flatMap (GLeaf.ci k')))], .c (pb (decide (xs[i] = ys[i]))), [.c (rd k xs[i].length (xs[i].flatMap (GLeaf.ci k))), .c (rd k' ys[i].length (ys[i].flatMap (GLeaf.ci k')))])]) [⟨[], allD 27, true⟩, ⟨[], allD 27, true⟩, ⟨[], allD 27, true⟩, ⟨[], allD 27, true⟩, ⟨[], allD 27, true⟩, ⟨[], allD 27, true⟩, ⟨[], allD 27, true⟩, ⟨[], allD 27, true⟩, ⟨[], allD 27, false⟩, ⟨[], allD 27, true⟩] h0 hm (tabEnv_ok (by intro x hx; simp only [List.mem_singleton] at hx; subst hx; exact hE)) (by kernel_rfl) (by kernel_rfl) ?_
        simp [h, hib]
        refine brn_app (fun h2 => ?_) (fun h2 => ?_)
        · simp at h2
          simp
          intro he
          exact h2 (htk.2 he).1
        · simp at h2
          simp
          subst hI
          exact Less_mk (n - 1) (by omega) ⟨i + 1, by omega, ⟨fun h4 => htk.1 ⟨h2, h4⟩, fun h4 => (htk.2 h4).2⟩, by rw [wrNext i (by omega)]⟩
      · simp at h
        rw [List.drop_of_length_le (by omega), List.drop_of_length_le (by omega)] at htk
        simp
        exact htk.1 rfl
theorem ok_eqStore (k k' : Nat) (x y : GStore) (ha : GStore.lens x) (hb : GStore.lens y) : CallOK Try.prog 13 [.agg (GStore.ci k x), .agg (GStore.ci k' y)] (.c (pb (decide (x = y)))) [.agg (GStore.ci k x), .agg (GStore.ci k' y)] := by
  simp only [GStore.lens] at ha hb
  refine okS (fn := Try.f13) [] h0 Try.func13 (by kernel_rfl) rfl Try.ntmps13 Try.results13 (by simp) ?_
  simp
  refine Inv_intro (ok_eqLeafS k k' x.Candidate y.Candidate (ha.1) (hb.1)) ?_
  simp
  refine brn_app (fun a0 => ?_) (fun a0 => ?_)
  · simp at a0
    simp
    rintro rfl
    exact a0 rfl
  · simp at a0
    simp
    refine Inv_intro (ok_eqLeafS k k' x.Running y.Running (ha.2.1) (hb.2.1)) ?_
    simp
    refine brn_app (fun a1 => ?_) (fun a1 => ?_)
    · simp at a1
      simp
      rintro rfl
      exact a1 rfl
    · simp at a1
      simp
      refine Inv_intro (ok_eqLeafSS k k' x.History y.History (ha.2.2) (hb.2.2)) ?_
      simp
      refine brn_app (fun a2 => ?_) (fun a2 => ?_)
      · simp at a2
        simp
        rintro rfl
        exact a2 rfl
      · simp at a2
        simp
        refine brn_app (fun a3 => ?_) (fun a3 => ?_)
        · simp at a3
          simp
          rintro rfl
          exact a3 rfl
        · simp at a3
          simp
          cases x
          cases y
          simp_all
theorem ok_szStringS (k : Nat) (xs : List ByteArray) (left : Int) (h1 : 0 ≤ left) (h2 : left ≤ 1048576) (hf : fits_StringS xs) : CallOK Try.prog 82 [.c (rd k xs.length (xs.map ps)), .c (pi left)] (.c (pi (szr left (wt_StringS xs)))) [.c (rd k xs.length (xs.map ps)), .c (pi left)] := by
  obtain ⟨hl, hx⟩ := hf
  refine okS (fn := Try.f82) [] h0 Try.func82 (by kernel_rfl) rfl Try.ntmps82 Try.results82 (by simp) ?_
  have hw : IntKind.wrap .i64 (left - xs.length) = left - xs.length := wrap64 (by omega) (by omega)
  have hwl := len_wt_StringS xs
  simp [hw]
  refine brn_app (fun h => ?_) (fun h => ?_)
  · simp at h
    have e1 : szr left (wt_StringS xs) = -1 := szr_neg (by omega)
    simp [e1]
  · simp at h
    simp
    refine loopS [0, 1, 5] [] (fun n st => ∃ (i : Nat) (m : Int), i + n = xs.length ∧ 0 ≤ m ∧ m ≤ 1048576 ∧ szr m (((xs.drop i).map ByteArray.size).sum) = szr left (wt_StringS xs) ∧ st = ⟨slOf 28 [(0, .t (rd k xs.length (xs.map ps))), (1, .t (pi m)), (5, .t (pi i))], ofL []⟩) xs.length ?_ ?_
    · rintro Inv hI
      simp
      subst hI
      exact ⟨0, left - xs.length, by omega, by omega, by omega, by rw [List.drop_zero, wt_StringS, wtR, szr_add (by omega)], rfl⟩
    · rintro Inv hI n st ⟨i, m, hi, hm1, hm2, hg, rfl⟩
      refine ewr_sound (M := []) h0 ?_
      simp
      refine brn_app (fun h3 => ?_) (fun h3 => ?_)
      · simp at h3
        have hxi := hx xs[i] (List.getElem_mem h3)
        rw [drop_step xs i h3, List.map_cons, List.sum_cons] at hg
        have hw2 : IntKind.wrap .i64 (m - xs[i].size) = m - xs[i].size := wrap64 (by omega) (by omega)
        simp [h3, hw2]
        refine brn_app (fun h4 => ?_) (fun h4 => ?_)
        · simp at h4
          rw [szr_add_neg (by omega)] at hg
          simp [← hg]
        · simp at h4
          rw [szr_add (by omega)] at hg
          simp
          subst hI
          exact Less_mk (n - 1) (by omega) ⟨i + 1, m - xs[i].size, by omega, by omega, by omega, hg, by rw [wrNext i (by omega)]⟩
      · simp at h3
        rw [List.drop_of_length_le (by omega), List.map_nil, List.sum_nil, szr_zero hm1] at hg
        simp [hg]
theorem ok_szLeaf (k : Nat) (x : GLeaf) (left : Int) (h1 : 0 ≤ left) (h2 : left ≤ 1048576) (hf : GLeaf.fits x) : CallOK Try.prog 85 [.agg (GLeaf.ci k x), .c (pi left)] (.c (pi (szr left (GLeaf.wt x)))) [.agg (GLeaf.ci k x), .c (pi left)] := by
  simp only [GLeaf.fits] at hf
  obtain ⟨hf0, hf1⟩ := hf
  refine okS (fn := Try.f85) [] h0 Try.func85 (by kernel_rfl) rfl Try.ntmps85 Try.results85 (by simp) ?_
  simp
  refine Inv_intro (ok_szStringS k x.Path (left) (by omega) (by omega) hf0) ?_
  simp
  refine brn_app (fun a0 => ?_) (fun a0 => ?_)
  · simp at a0
    have b0 := szr_lt0 a0 (by omega)
    have e : szr left (GLeaf.wt x) = -1 := szr_neg (by unfold GLeaf.wt; omega)
    simp [e]
  · simp at a0
    have b0 := szr_ge0 a0
    have e0 := szr_ge b0
    simp only [e0]
    have hw1 : IntKind.wrap .i64 (left - (wt_StringS x.Path : Nat) - x.Value.size) = left - (wt_StringS x.Path : Nat) - x.Value.size := wrap64 (by omega) (by omega)
    simp [hw1]
    refine brn_app (fun a1 => ?_) (fun a1 => ?_)
    · simp at a1
      have e : szr left (GLeaf.wt x) = -1 := szr_neg (by unfold GLeaf.wt; omega)
      simp [e]
    · simp at a1
      have e : szr left (GLeaf.wt x) = left - (wt_StringS x.Path : Nat) - x.Value.size := by
        rw [szr_ge (by unfold GLeaf.wt; omega)]
        unfold GLeaf.wt
        omega
      simp [e]
theorem ok_szLeafS (k : Nat) (xs : List GLeaf) (left : Int) (h1 : 0 ≤ left) (h2 : left ≤ 1048576) (hf : fits_LeafS xs) : CallOK Try.prog 56 [.c (rd k xs.length (xs.flatMap (GLeaf.ci k))), .c (pi left)] (.c (pi (szr left (wt_LeafS xs)))) [.c (rd k xs.length (xs.flatMap (GLeaf.ci k))), .c (pi left)] := by
  obtain ⟨hl, hx⟩ := hf
  refine okS (fn := Try.f56) [] h0 Try.func56 (by kernel_rfl) rfl Try.ntmps56 Try.results56 (by simp) ?_
  have hw : IntKind.wrap .i64 (left - xs.length) = left - xs.length := wrap64 (by omega) (by omega)
  have hwl := len_wt_LeafS xs
  simp [hw]
  refine brn_app (fun h => ?_) (fun h => ?_)
  · simp at h
    have e1 : szr left (wt_LeafS xs) = -1 := szr_neg (by omega)
    simp [e1]
  · simp at h
    simp
    refine loopS [0, 1, 5] [] (fun n st => ∃ (i : Nat) (m : Int), i + n = xs.length ∧ 0 ≤ m ∧ m ≤ 1048576 ∧ szr m (((xs.drop i).map GLeaf.wt).sum) = szr left (wt_LeafS xs) ∧ st = ⟨slOf 27 [(0, .t (rd k xs.length (xs.flatMap (GLeaf.ci k)))), (1, .t (pi m)), (5, .t (pi i))], ofL []⟩) xs.length ?_ ?_
    · rintro Inv hI
      simp
      subst hI
      exact ⟨0, left - xs.length, by omega, by omega, by omega, by rw [List.drop_zero, wt_LeafS, wtR, szr_add (by omega)], rfl⟩
    · rintro Inv hI n st ⟨i, m, hi, hm1, hm2, hg, rfl⟩
      refine ewr_sound (M := []) h0 ?_
      simp
      refine brn_app (fun h3 => ?_) (fun h3 => ?_)
      · simp at h3
        have hxi := hx xs[i] (List.getElem_mem h3)
        rw [drop_step xs i h3, List.map_cons, List.sum_cons] at hg
        have hd := fm_drop (GLeaf.ci k) 2 (fun _ => rfl) xs i h3
        have hlen := fm_len (GLeaf.ci k) 2 (fun _ => rfl) xs
        have hlt : i * 2 < xs.length * 2 := by omega
        simp [h3, hd, hlen, hlt]
        refine Inv_intro (ok_szLeaf k xs[i] m hm1 hm2 hxi) ?_
        simp
        refine brn_app (fun h4 => ?_) (fun h4 => ?_)
        · simp at h4
          have h5 := szr_lt0 h4 hm1
          rw [szr_add_neg h5] at hg
          simp [← hg]
        · simp at h4
          have h5 := szr_ge0 h4
          have e5 := szr_ge h5
          rw [szr_add h5, ← e5] at hg
          simp
          subst hI
          exact Less_mk (n - 1) (by omega) ⟨i + 1, szr m (GLeaf.wt xs[i]), by omega, by omega, by omega, hg, by rw [wrNext i (by omega)]⟩
      · simp at h3
        rw [List.drop_of_length_le (by omega), List.map_nil, List.sum_nil, szr_zero hm1] at hg
        simp [hg]
theorem ok_szLeafSS (k : Nat) (xs : List (List GLeaf)) (left : Int) (h1 : 0 ≤ left) (h2 : left ≤ 1048576) (hf : fits_LeafSS xs) : CallOK Try.prog 57 [.c (rd k xs.length (xs.map (cLeafSi k))), .c (pi left)] (.c (pi (szr left (wt_LeafSS xs)))) [.c (rd k xs.length (xs.map (cLeafSi k))), .c (pi left)] := by
  obtain ⟨hl, hx⟩ := hf
  refine okS (fn := Try.f57) [] h0 Try.func57 (by kernel_rfl) rfl Try.ntmps57 Try.results57 (by simp) ?_
  have hw : IntKind.wrap .i64 (left - xs.length) = left - xs.length := wrap64 (by omega) (by omega)
  have hwl := len_wt_LeafSS xs
  simp [hw]
  refine brn_app (fun h => ?_) (fun h => ?_)
  · simp at h
    have e1 : szr left (wt_LeafSS xs) = -1 := szr_neg (by omega)
    simp [e1]
  · simp at h
    simp
    refine loopS [0, 1, 5] [] (fun n st => ∃ (i : Nat) (m : Int), i + n = xs.length ∧ 0 ≤ m ∧ m ≤ 1048576 ∧ szr m (((xs.drop i).map wt_LeafS).sum) = szr left (wt_LeafSS xs) ∧ st = ⟨slOf 27 [(0, .t (rd k xs.length (xs.map (cLeafSi k)))), (1, .t (pi m)), (5, .t (pi i))], ofL []⟩) xs.length ?_ ?_
    · rintro Inv hI
      simp
      subst hI
      exact ⟨0, left - xs.length, by omega, by omega, by omega, by rw [List.drop_zero, wt_LeafSS, wtR, szr_add (by omega)], rfl⟩
    · rintro Inv hI n st ⟨i, m, hi, hm1, hm2, hg, rfl⟩
      refine ewr_sound (M := []) h0 ?_
      simp
      refine brn_app (fun h3 => ?_) (fun h3 => ?_)
      · simp at h3
        have hxi := hx xs[i] (List.getElem_mem h3)
        rw [drop_step xs i h3, List.map_cons, List.sum_cons] at hg
        simp [h3]
        refine Inv_intro (ok_szLeafS k xs[i] m hm1 hm2 hxi) ?_
        simp
        refine brn_app (fun h4 => ?_) (fun h4 => ?_)
        · simp at h4
          have h5 := szr_lt0 h4 hm1
          rw [szr_add_neg h5] at hg
          simp [← hg]
        · simp at h4
          have h5 := szr_ge0 h4
          have e5 := szr_ge h5
          rw [szr_add h5, ← e5] at hg
          simp
          subst hI
          exact Less_mk (n - 1) (by omega) ⟨i + 1, szr m (wt_LeafS xs[i]), by omega, by omega, by omega, hg, by rw [wrNext i (by omega)]⟩
      · simp at h3
        rw [List.drop_of_length_le (by omega), List.map_nil, List.sum_nil, szr_zero hm1] at hg
        simp [hg]
theorem ok_szStore (k : Nat) (x : GStore) (left : Int) (h1 : 0 ≤ left) (h2 : left ≤ 1048576) (hf : GStore.fits x) : CallOK Try.prog 16 [.agg (GStore.ci k x), .c (pi left)] (.c (pi (szr left (GStore.wt x)))) [.agg (GStore.ci k x), .c (pi left)] := by
  simp only [GStore.fits] at hf
  obtain ⟨hf0, hf1, hf2⟩ := hf
  refine okS (fn := Try.f16) [] h0 Try.func16 (by kernel_rfl) rfl Try.ntmps16 Try.results16 (by simp) ?_
  simp
  refine Inv_intro (ok_szLeafS k x.Candidate (left) (by omega) (by omega) hf0) ?_
  simp
  refine brn_app (fun a0 => ?_) (fun a0 => ?_)
  · simp at a0
    have b0 := szr_lt0 a0 (by omega)
    have e : szr left (GStore.wt x) = -1 := szr_neg (by unfold GStore.wt; omega)
    simp [e]
  · simp at a0
    have b0 := szr_ge0 a0
    have e0 := szr_ge b0
    simp only [e0]
    simp
    refine Inv_intro (ok_szLeafS k x.Running (left - (wt_LeafS x.Candidate : Nat)) (by omega) (by omega) hf1) ?_
    simp
    refine brn_app (fun a1 => ?_) (fun a1 => ?_)
    · simp at a1
      have b1 := szr_lt0 a1 (by omega)
      have e : szr left (GStore.wt x) = -1 := szr_neg (by unfold GStore.wt; omega)
      simp [e]
    · simp at a1
      have b1 := szr_ge0 a1
      have e1 := szr_ge b1
      simp only [e1]
      simp
      refine Inv_intro (ok_szLeafSS k x.History (left - (wt_LeafS x.Candidate : Nat) - (wt_LeafS x.Running : Nat)) (by omega) (by omega) hf2) ?_
      simp
      refine brn_app (fun a2 => ?_) (fun a2 => ?_)
      · simp at a2
        have b2 := szr_lt0 a2 (by omega)
        have e : szr left (GStore.wt x) = -1 := szr_neg (by unfold GStore.wt; omega)
        simp [e]
      · simp at a2
        have b2 := szr_ge0 a2
        have e2 := szr_ge b2
        simp only [e2]
        have e : szr left (GStore.wt x) = left - (wt_LeafS x.Candidate : Nat) - (wt_LeafS x.Running : Nat) - (wt_LeafSS x.History : Nat) := by
          rw [szr_ge (by unfold GStore.wt; omega)]
          unfold GStore.wt
          omega
        simp [e]
theorem ok_toStringS (k : Nat) (xs : List ByteArray) (hwt : wt_StringS xs ≤ 1048576) : CallOK Try.prog 83 [.c (rd k xs.length (xs.map ps))] (.c (.sl 0 9 xs.length (xs.map ps))) [.c (rd k xs.length (xs.map ps))] := by
  have hl := len_wt_StringS xs
  refine okS (fn := Try.f83) [] h0 Try.func83 (by kernel_rfl) rfl Try.ntmps83 Try.results83 (by simp) ?_
  have hb1 : (xs.length : Int) ≤ 281474976710656 := by omega
  have hb2 : 16 * (xs.length : Int) ≤ 281474976710656 := by omega
  simp [hb1, hb2]
  refine loopS [0, 3, 4] [.op 1 2 0] (fun n st => ∃ (i : Nat), i + n = xs.length ∧ st = ⟨slOf 22 [(0, .t (rd k xs.length (xs.map ps))), (3, .ref ⟨.op 1 2 0, []⟩ 0 xs.length), (4, .t (pi i))], ofL [(.op 1 2 0, .sl 0 9 xs.length (((xs.take i).map ps) ++ List.replicate n (.raw (.string ByteArray.empty))))]⟩) xs.length ?_ ?_
  · rintro Inv hI
    simp
    subst hI
    exact ⟨0, by omega, by simp⟩
  · rintro Inv hI n st ⟨i, hi, rfl⟩
    have hA := map_take_len ps xs i (by omega)
    generalize hAe : ((xs.take i).map ps) = A at hA ⊢
    refine ewr_sound (M := []) h0 ?_
    simp
    refine brn_app (fun h => ?_) (fun h => ?_)
    · simp at h
      obtain ⟨m, rfl⟩ : ∃ m, n = m + 1 := ⟨n - 1, by omega⟩
      simp [h, hA, List.replicate_succ]
      have e3 : ((xs.take (i + 1)).map ps) = A ++ [ps xs[i]] := by rw [take_step xs i h, List.map_append, hAe]; rfl
      subst hI
      refine Less_mk m (by omega) ⟨i + 1, by omega, ?_⟩
      rw [wrNext i (by omega), e3, List.append_assoc]
      all_goals rfl
    · simp at h
      have hn : n = 0 := by omega
      subst hn
      have ht : List.take i xs = xs := List.take_of_length_le (by omega)
      have ht2 : List.take (xs.length) (xs.map ps) = (xs.map ps) := List.take_of_length_le (by simp)
      rw [← hAe, ht]
      simp [ht2]
theorem ok_toLeaf (k : Nat) (x : GLeaf) (hwt : GLeaf.wt x ≤ 1048576) : CallOK Try.prog 91 [.agg (GLeaf.ci k x)] (.agg (GLeaf.co x)) [.agg (GLeaf.ci k x)] := by
  unfold GLeaf.wt at hwt
  refine okS (fn := Try.f91) [] h0 Try.func91 (by kernel_rfl) rfl Try.ntmps91 Try.results91 (by simp) ?_
  simp
  refine Inv_intro (ok_toStringS k x.Path (by omega)) ?_
  simp
theorem ok_toLeafS (k : Nat) (xs : List GLeaf) (hwt : wt_LeafS xs ≤ 1048576) : CallOK Try.prog 61 [.c (rd k xs.length (xs.flatMap (GLeaf.ci k)))] (.c (.sl 0 88 xs.length (xs.flatMap GLeaf.co))) [.c (rd k xs.length (xs.flatMap (GLeaf.ci k)))] := by
  have hl := len_wt_LeafS xs
  refine okS (fn := Try.f61) [] h0 Try.func61 (by kernel_rfl) rfl Try.ntmps61 Try.results61 (by simp) ?_
  have hb1 : (xs.length : Int) ≤ 281474976710656 := by omega
  have hb2 : 40 * (xs.length : Int) ≤ 281474976710656 := by omega
  simp [hb1, hb2]
  refine loopS [0, 3, 4] [.op 1 2 0] (fun n st => ∃ (i : Nat), i + n = xs.length ∧ st = ⟨slOf 23 [(0, .t (rd k xs.length (xs.flatMap (GLeaf.ci k)))), (3, .ref ⟨.op 1 2 0, []⟩ 0 xs.length), (4, .t (pi i))], ofL [(.op 1 2 0, .sl 0 88 xs.length (((xs.take i).flatMap GLeaf.co) ++ (List.replicate n [.sl 0 nilE 0 [], .raw (.string ByteArray.empty)]).flatten))]⟩) xs.length ?_ ?_
  · rintro Inv hI
    simp
    subst hI
    exact ⟨0, by omega, by simp⟩
  · rintro Inv hI n st ⟨i, hi, rfl⟩
    have hA := fm_take_len GLeaf.co 2 (fun _ => rfl) xs i (by omega)
    generalize hAe : ((xs.take i).flatMap GLeaf.co) = A at hA ⊢
    refine ewr_sound (M := []) h0 ?_
    simp
    refine brn_app (fun h => ?_) (fun h => ?_)
    · simp at h
      obtain ⟨m, rfl⟩ : ∃ m, n = m + 1 := ⟨n - 1, by omega⟩
      have hd := fm_drop (GLeaf.ci k) 2 (fun _ => rfl) xs i h
      have hlen := fm_len (GLeaf.ci k) 2 (fun _ => rfl) xs
      have hlt : i * 2 < xs.length * 2 := by omega
      simp [h, hd, hlen, hlt]
      refine Inv_intro (ok_toLeaf k xs[i] (by have := mem_wt_LeafS (List.getElem_mem h); omega)) ?_
      simp [h, hA, List.replicate_succ]
      have e3 : ((xs.take (i + 1)).flatMap GLeaf.co) = A ++ GLeaf.co xs[i] := by rw [take_step xs i h, List.flatMap_append, hAe, List.flatMap_cons, List.flatMap_nil, List.append_nil]
      subst hI
      refine Less_mk m (by omega) ⟨i + 1, by omega, ?_⟩
      rw [wrNext i (by omega), e3, List.append_assoc]
      all_goals rfl
    · simp at h
      have hn : n = 0 := by omega
      subst hn
      have ht : List.take i xs = xs := List.take_of_length_le (by omega)
      have ht2 : List.take (xs.length * 2) (xs.flatMap GLeaf.co) = (xs.flatMap GLeaf.co) := List.take_of_length_le (by rw [fm_len GLeaf.co 2 (fun _ => rfl)]; exact Nat.le_refl _)
      have hlo := fm_len GLeaf.co 2 (fun _ => rfl) xs
      rw [← hAe, ht]
      simp [ht2, hlo, -List.length_flatMap]
theorem ok_toLeafSS (k : Nat) (xs : List (List GLeaf)) (hwt : wt_LeafSS xs ≤ 1048576) : CallOK Try.prog 62 [.c (rd k xs.length (xs.map (cLeafSi k)))] (.c (.sl 0 22 xs.length (xs.map (cLeafSo)))) [.c (rd k xs.length (xs.map (cLeafSi k)))] := by
  have hl := len_wt_LeafSS xs
  refine okS (fn := Try.f62) [] h0 Try.func62 (by kernel_rfl) rfl Try.ntmps62 Try.results62 (by simp) ?_
  have hb1 : (xs.length : Int) ≤ 281474976710656 := by omega
  have hb2 : 24 * (xs.length : Int) ≤ 281474976710656 := by omega
  simp [hb1, hb2]
  refine loopS [0, 3, 4] [.op 1 2 0] (fun n st => ∃ (i : Nat), i + n = xs.length ∧ st = ⟨slOf 23 [(0, .t (rd k xs.length (xs.map (cLeafSi k)))), (3, .ref ⟨.op 1 2 0, []⟩ 0 xs.length), (4, .t (pi i))], ofL [(.op 1 2 0, .sl 0 22 xs.length (((xs.take i).map (cLeafSo)) ++ List.replicate n (.sl 0 nilE 0 [])))]⟩) xs.length ?_ ?_
  · rintro Inv hI
    simp
    subst hI
    exact ⟨0, by omega, by simp⟩
  · rintro Inv hI n st ⟨i, hi, rfl⟩
    have hA := map_take_len (cLeafSo) xs i (by omega)
    generalize hAe : ((xs.take i).map (cLeafSo)) = A at hA ⊢
    refine ewr_sound (M := []) h0 ?_
    simp
    refine brn_app (fun h => ?_) (fun h => ?_)
    · simp at h
      obtain ⟨m, rfl⟩ : ∃ m, n = m + 1 := ⟨n - 1, by omega⟩
      simp [h]
      refine Inv_intro (ok_toLeafS k xs[i] (by have := mem_wt_LeafSS (List.getElem_mem h); omega)) ?_
      simp [h, hA, List.replicate_succ]
      have e3 : ((xs.take (i + 1)).map (cLeafSo)) = A ++ [cLeafSo xs[i]] := by rw [take_step xs i h, List.map_append, hAe]; rfl
      subst hI
      refine Less_mk m (by omega) ⟨i + 1, by omega, ?_⟩
      rw [wrNext i (by omega), e3, List.append_assoc]
      all_goals rfl
    · simp at h
      have hn : n = 0 := by omega
      subst hn
      have ht : List.take i xs = xs := List.take_of_length_le (by omega)
      have ht2 : List.take (xs.length) (xs.map (cLeafSo)) = (xs.map (cLeafSo)) := List.take_of_length_le (by simp)
      rw [← hAe, ht]
      simp [ht2]
theorem ok_toStore (k : Nat) (x : GStore) (hwt : GStore.wt x ≤ 1048576) : CallOK Try.prog 18 [.agg (GStore.ci k x)] (.agg (GStore.co x)) [.agg (GStore.ci k x)] := by
  unfold GStore.wt at hwt
  refine okS (fn := Try.f18) [] h0 Try.func18 (by kernel_rfl) rfl Try.ntmps18 Try.results18 (by simp) ?_
  simp
  refine Inv_intro (ok_toLeafS k x.Candidate (by omega)) ?_
  simp
  refine Inv_intro (ok_toLeafS k x.Running (by omega)) ?_
  simp
  refine Inv_intro (ok_toLeafSS k x.History (by omega)) ?_
  simp
theorem byteAt_list (s : ByteArray) (i : Nat) (h : i < s.size) : byteAt s i = ((s.data.toList[i]'(by simpa using h)).toNat : Int) := by
  unfold byteAt
  have : s[i]? = some s[i] := by simp [h]
  rw [this]
  rfl
def wb (c : Int) : Bool := decide (97 ≤ c ∧ c ≤ 122) || decide (48 ≤ c ∧ c ≤ 57) || decide (c = 45)
theorem ok_isWordByte (c : Int) : CallOK Try.prog 133 [.c (pu c)] (.c (pb (wb c))) [.c (pu c)] := by
  refine okS (fn := Try.f133) [] h0 Try.func133 (by kernel_rfl) rfl Try.ntmps133 Try.results133 (by simp) ?_
  simp
  refine gT (fun a => ?_) (fun a => ?_)
  · simp [a]
    refine gF (fun b => ?_) (fun b => ?_)
    · simp [b]
      refine gT (fun d => ?_) (fun d => ?_)
      · simp [d]
        refine gF (fun e => ?_) (fun e => ?_)
        · simp [e]
          simp only [decide_eq_true_eq, decide_eq_false_iff_not] at a b d e; simp [wb]; omega
        · simp [e]
          simp only [decide_eq_true_eq, decide_eq_false_iff_not] at a b d e; simp [wb]; omega
      · simp [d]
        simp only [decide_eq_true_eq, decide_eq_false_iff_not] at a b d; simp [wb]; omega
    · simp [b]
      simp only [decide_eq_true_eq, decide_eq_false_iff_not] at a b; simp [wb]; omega
  · simp [a]
    refine gT (fun d => ?_) (fun d => ?_)
    · simp [d]
      refine gF (fun e => ?_) (fun e => ?_)
      · simp [e]
        simp only [decide_eq_true_eq, decide_eq_false_iff_not] at a d e; simp [wb]; omega
      · simp [e]
        simp only [decide_eq_true_eq, decide_eq_false_iff_not] at a d e; simp [wb]; omega
    · simp [d]
      simp only [decide_eq_true_eq, decide_eq_false_iff_not] at a d; simp [wb]; omega
theorem ok_l15Byte (c : Int) : CallOK Try.prog 115 [.c (pu c)] (.c (pb (wb c))) [.c (pu c)] := by
  refine okS (fn := Try.f115) [] h0 Try.func115 (by kernel_rfl) rfl Try.ntmps115 Try.results115 (by simp) ?_
  simp
  refine gT (fun a => ?_) (fun a => ?_)
  · simp [a]
    refine gF (fun b => ?_) (fun b => ?_)
    · simp [b]
      refine gT (fun d => ?_) (fun d => ?_)
      · simp [d]
        refine gF (fun e => ?_) (fun e => ?_)
        · simp [e]
          simp only [decide_eq_true_eq, decide_eq_false_iff_not] at a b d e; simp [wb]; omega
        · simp [e]
          simp only [decide_eq_true_eq, decide_eq_false_iff_not] at a b d e; simp [wb]; omega
      · simp [d]
        simp only [decide_eq_true_eq, decide_eq_false_iff_not] at a b d; simp [wb]; omega
    · simp [b]
      simp only [decide_eq_true_eq, decide_eq_false_iff_not] at a b; simp [wb]; omega
  · simp [a]
    refine gT (fun d => ?_) (fun d => ?_)
    · simp [d]
      refine gF (fun e => ?_) (fun e => ?_)
      · simp [e]
        simp only [decide_eq_true_eq, decide_eq_false_iff_not] at a d e; simp [wb]; omega
      · simp [e]
        simp only [decide_eq_true_eq, decide_eq_false_iff_not] at a d e; simp [wb]; omega
    · simp [d]
      simp only [decide_eq_true_eq, decide_eq_false_iff_not] at a d; simp [wb]; omega

def wbs (s : ByteArray) (i : Nat) : Bool := wb (byteAt s i)
/-- How many bytes of words a text begins with. -/
def wlen (s : ByteArray) : Nat := (s.data.toList.takeWhile (fun b => wb b.toNat)).length
def wAll (s : ByteArray) : Bool := s.data.toList.all (fun b => wb b.toNat)
def isW (s : ByteArray) : Bool := decide ((1 : Int) ≤ s.size ∧ (s.size : Int) ≤ 8) && wAll s
def isP (p : List ByteArray) : Bool := decide ((1 : Int) ≤ p.length ∧ (p.length : Int) ≤ 5) && p.all isW
theorem wlen_drop (s : ByteArray) (i : Nat) (h : i < s.size) : (s.data.toList.drop i).takeWhile (fun b => wb b.toNat) = if wb (byteAt s i) = true then s.data.toList[i]'(by simpa using h) :: (s.data.toList.drop (i + 1)).takeWhile (fun b => wb b.toNat) else [] := by
  have hl : i < s.data.toList.length := by simpa using h
  rw [List.drop_eq_getElem_cons hl, List.takeWhile_cons, byteAt_list s i h]
theorem ok_wordAt (s : ByteArray) (hs : s.size ≤ 140737488355328) : CallOK Try.prog 118 [.c (ps s)] (.c (ps (s.extract 0 (wlen s)))) [.c (ps s)] := by
  refine okS (fn := Try.f118) [] h0 Try.func118 (by kernel_rfl) rfl Try.ntmps118 Try.results118 (by simp) ?_
  simp
  refine loopS [0, 3] [] (fun n st => ∃ (i : Nat), i + n = s.size ∧ i + ((s.data.toList.drop i).takeWhile (fun b => wb b.toNat)).length = wlen s ∧ st = ⟨slOf 19 [(0, .t (ps s)), (3, .t (pi i))], ofL []⟩) s.size ?_ ?_
  · rintro Inv hI
    simp
    subst hI
    exact ⟨0, by omega, by simp [wlen], rfl⟩
  · rintro Inv hI n st ⟨i, hi, hw, rfl⟩
    refine ewr_sound (M := []) h0 ?_
    simp
    refine gT (fun a => ?_) (fun a => ?_)
    · have a1 : i < s.size := by simpa using a
      simp [a, a1]
      rw [wlen_drop s i a1] at hw
      refine Inv_intro (ok_isWordByte _) ?_
      simp
      refine brn_app (fun b => ?_) (fun b => ?_)
      · simp
        rw [if_pos b, List.length_cons] at hw
        subst hI
        refine Less_mk (n - 1) (by omega) ⟨i + 1, by omega, by omega, by rw [wrNext i (by omega)]⟩
      · simp
        rw [if_neg (by simpa using b)] at hw
        have hw' : i = wlen s := hw
        subst hw'
        have hle : (wlen s : Int) ≤ s.size := by omega
        simp [hle]
    · simp [a]
      simp at a
      rw [List.drop_of_length_le (by simp; omega)] at hw
      have hw' : i = wlen s := hw
      subst hw'
      have hle : (wlen s : Int) ≤ s.size := by omega
      simp [hle]
end Go.V
