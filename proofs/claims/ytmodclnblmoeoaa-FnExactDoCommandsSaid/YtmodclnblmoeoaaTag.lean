/- What functions of the seat's program do, each proved of its code, under the bounds that its theorem names. -/
import Derived.Test.YtmodclnblmoeoaaTaf
set_option linter.all false
namespace Go.V
open Go.Proofs
set_option maxHeartbeats 1000000
set_option maxRecDepth 10000
set_option linter.unusedSimpArgs false
set_option linter.unusedVariables false
theorem ok_markCommandS (xs : List GCommand) (k : Int) (hls : lens_CommandS xs) (hk : 0 < k) (hk2 : k + cn_CommandS xs ≤ 2305843009213693952) : CallOK Try.prog 36 [.c (.sl 0 28 xs.length (xs.flatMap GCommand.co)), .c (pi k)] (.c (pi (mk_CommandS xs k).2)) [.c (.sl 0 28 xs.length ((mk_CommandS xs k).1.flatMap GCommand.co)), .c (pi k)] := by
  obtain ⟨hl0, hlx⟩ := hls
  unfold mk_CommandS
  unfold cn_CommandS at hk2
  refine okS (fn := Try.f36) [(29, [1,0])] h0 Try.func36 (by kernel_rfl) rfl Try.ntmps36 Try.results36 (by simp) ?_
  simp
  refine loopS [0, 1, 5] [] (fun n st => ∃ (i : Nat), i + n = xs.length ∧ st = ⟨slOf 37 [(0, .ref ⟨.arg 0 0, []⟩ 0 xs.length), (1, .t (pi (mkR GCommand.mark (xs.take i) k).2)), (5, .t (pi i))], ofL [(.arg 0 0, .sl 0 28 xs.length (((mkR GCommand.mark (xs.take i) k).1.flatMap GCommand.co) ++ ((xs.drop i).flatMap GCommand.co)))]⟩) xs.length ?_ ?_
  · rintro Inv hI
    simp
    subst hI
    exact ⟨0, by omega, rfl⟩
  · rintro Inv hI n st ⟨i, hi, rfl⟩
    have hAl : (((mkR GCommand.mark (xs.take i) k).1.flatMap GCommand.co)).length = i * 3 := by rw [fm_len GCommand.co 3 (fun _ => rfl), mkR_len, len_take xs i (by omega)]
    have hKb := mkR_snd (f := GCommand.mark) (g := GCommand.cn) (GCommand.mark_snd) (xs.take i) k
    generalize hA : ((mkR GCommand.mark (xs.take i) k).1.flatMap GCommand.co) = A at hAl ⊢
    generalize hK : (mkR GCommand.mark (xs.take i) k).2 = K at hKb ⊢
    generalize hB : ((xs.drop i).flatMap GCommand.co) = B
    refine ewr_sound (M := [(29, [1, 0])]) h0 ?_
    simp
    refine brn_app (fun h => ?_) (fun h => ?_)
    · simp at h
      obtain ⟨m, rfl⟩ : ∃ m, n = m + 1 := ⟨n - 1, by omega⟩
      have hcn := cnR_take GCommand.cn xs i h
      have hBe : B = [pb xs[i].Set, .sl 0 9 xs[i].Path.length (xs[i].Path.map ps), ps xs[i].Value] ++ ((xs.drop (i + 1)).flatMap GCommand.co) := by rw [← hB, drop_step xs i h]; rfl
      generalize hC : ((xs.drop (i + 1)).flatMap GCommand.co) = D at hBe
      subst hBe
      have hxl := hlx _ (List.getElem_mem h)
      simp only [GCommand.cn] at hcn
      have hw0 : IntKind.wrap .i64 (K + 1) = K + 1 := wrap64 (by omega) (by omega)
      have hs1 := mk_StringS_snd xs[i].Path (K + 1)
      have hw2 : IntKind.wrap .i64 ((mk_StringS xs[i].Path (K + 1)).2 + 1) = (mk_StringS xs[i].Path (K + 1)).2 + 1 := wrap64 (by omega) (by omega)
      simp [h, hAl, hw0, hw2]
      refine Inv_intro (ok_markStringS xs[i].Path ((K + 1)) hxl (by omega) (by omega)) ?_
      simp [h, hAl, hw0, hw2]
      refine Inv_intro (ok_markText ((mk_StringS xs[i].Path (K + 1)).2) (by omega)) ?_
      simp [h, hAl, hw0, hw2]
      have e4 := mkR_take GCommand.mark xs i h k
      rw [hK] at e4
      have e3 : ((mkR GCommand.mark (xs.take (i + 1)) k).1.flatMap GCommand.co) = A ++ GCommand.co (GCommand.mark xs[i] K).1 := by rw [e4, List.flatMap_append, hA, List.flatMap_cons, List.flatMap_nil, List.append_nil]
      subst hI
      refine Less_mk m (by omega) ⟨i + 1, by omega, ?_⟩
      rw [wrNext i (by omega), e3, e4, hC, List.append_assoc]
      all_goals first | rfl | simp [GCommand.mark] | simp
    · simp at h
      have hx : xs.take i = xs := List.take_of_length_le (by omega)
      have hBn : B = [] := by rw [← hB, List.drop_of_length_le (by omega)]; rfl
      subst hBn
      rw [hx] at hA hK
      subst hK
      subst hA
      simp
theorem ok_markLeafS (xs : List GLeaf) (k : Int) (hls : lens_LeafS xs) (hk : 0 < k) (hk2 : k + cn_LeafS xs ≤ 2305843009213693952) : CallOK Try.prog 28 [.c (.sl 0 103 xs.length (xs.flatMap GLeaf.co)), .c (pi k)] (.c (pi (mk_LeafS xs k).2)) [.c (.sl 0 103 xs.length ((mk_LeafS xs k).1.flatMap GLeaf.co)), .c (pi k)] := by
  obtain ⟨hl0, hlx⟩ := hls
  unfold mk_LeafS
  unfold cn_LeafS at hk2
  refine okS (fn := Try.f28) [(29, [1,0])] h0 Try.func28 (by kernel_rfl) rfl Try.ntmps28 Try.results28 (by simp) ?_
  simp
  refine loopS [0, 1, 5] [] (fun n st => ∃ (i : Nat), i + n = xs.length ∧ st = ⟨slOf 28 [(0, .ref ⟨.arg 0 0, []⟩ 0 xs.length), (1, .t (pi (mkR GLeaf.mark (xs.take i) k).2)), (5, .t (pi i))], ofL [(.arg 0 0, .sl 0 103 xs.length (((mkR GLeaf.mark (xs.take i) k).1.flatMap GLeaf.co) ++ ((xs.drop i).flatMap GLeaf.co)))]⟩) xs.length ?_ ?_
  · rintro Inv hI
    simp
    subst hI
    exact ⟨0, by omega, rfl⟩
  · rintro Inv hI n st ⟨i, hi, rfl⟩
    have hAl : (((mkR GLeaf.mark (xs.take i) k).1.flatMap GLeaf.co)).length = i * 2 := by rw [fm_len GLeaf.co 2 (fun _ => rfl), mkR_len, len_take xs i (by omega)]
    have hKb := mkR_snd (f := GLeaf.mark) (g := GLeaf.cn) (GLeaf.mark_snd) (xs.take i) k
    generalize hA : ((mkR GLeaf.mark (xs.take i) k).1.flatMap GLeaf.co) = A at hAl ⊢
    generalize hK : (mkR GLeaf.mark (xs.take i) k).2 = K at hKb ⊢
    generalize hB : ((xs.drop i).flatMap GLeaf.co) = B
    refine ewr_sound (M := [(29, [1, 0])]) h0 ?_
    simp
    refine brn_app (fun h => ?_) (fun h => ?_)
    · simp at h
      obtain ⟨m, rfl⟩ : ∃ m, n = m + 1 := ⟨n - 1, by omega⟩
      have hcn := cnR_take GLeaf.cn xs i h
      have hBe : B = [.sl 0 9 xs[i].Path.length (xs[i].Path.map ps), ps xs[i].Value] ++ ((xs.drop (i + 1)).flatMap GLeaf.co) := by rw [← hB, drop_step xs i h]; rfl
      generalize hC : ((xs.drop (i + 1)).flatMap GLeaf.co) = D at hBe
      subst hBe
      have hxl := hlx _ (List.getElem_mem h)
      simp only [GLeaf.cn] at hcn
      have hs0 := mk_StringS_snd xs[i].Path K
      have hw1 : IntKind.wrap .i64 ((mk_StringS xs[i].Path K).2 + 1) = (mk_StringS xs[i].Path K).2 + 1 := wrap64 (by omega) (by omega)
      simp [h, hAl, hw1]
      refine Inv_intro (ok_markStringS xs[i].Path (K) hxl (by omega) (by omega)) ?_
      simp [h, hAl, hw1]
      refine Inv_intro (ok_markText ((mk_StringS xs[i].Path K).2) (by omega)) ?_
      simp [h, hAl, hw1]
      have e4 := mkR_take GLeaf.mark xs i h k
      rw [hK] at e4
      have e3 : ((mkR GLeaf.mark (xs.take (i + 1)) k).1.flatMap GLeaf.co) = A ++ GLeaf.co (GLeaf.mark xs[i] K).1 := by rw [e4, List.flatMap_append, hA, List.flatMap_cons, List.flatMap_nil, List.append_nil]
      subst hI
      refine Less_mk m (by omega) ⟨i + 1, by omega, ?_⟩
      rw [wrNext i (by omega), e3, e4, hC, List.append_assoc]
      all_goals first | rfl | simp [GLeaf.mark] | simp
    · simp at h
      have hx : xs.take i = xs := List.take_of_length_le (by omega)
      have hBn : B = [] := by rw [← hB, List.drop_of_length_le (by omega)]; rfl
      subst hBn
      rw [hx] at hA hK
      subst hK
      subst hA
      simp
theorem ok_szStringS (k : Nat) (xs : List ByteArray) (left : Int) (h1 : 0 ≤ left) (h2 : left ≤ 1048576) (hf : fits_StringS xs) : CallOK Try.prog 21 [.c (rd k xs.length (xs.map ps)), .c (pi left)] (.c (pi (szr left (wt_StringS xs)))) [.c (rd k xs.length (xs.map ps)), .c (pi left)] := by
  obtain ⟨hl, hx⟩ := hf
  refine okS (fn := Try.f21) [] h0 Try.func21 (by kernel_rfl) rfl Try.ntmps21 Try.results21 (by simp) ?_
  have hw : IntKind.wrap .i64 (left - xs.length) = left - xs.length := wrap64 (by omega) (by omega)
  have hwl := len_wt_StringS xs
  simp [hw]
  refine brn_app (fun h => ?_) (fun h => ?_)
  · simp at h
    have e1 : szr left (wt_StringS xs) = -1 := szr_neg (by omega)
    simp [e1]
  · simp at h
    simp
    refine loopS [0, 1, 5] [] (fun n st => ∃ (i : Nat) (m : Int), i + n = xs.length ∧ 0 ≤ m ∧ m ≤ 1048576 ∧ szr m (((xs.drop i).map ByteArray.size).sum) = szr left (wt_StringS xs) ∧ st = ⟨slOf 28 [(0, .t (rd k xs.length (xs.map ps))), (1, .t (pi m)), (5, .t (pi i))], ofL []⟩) xs.length ?_ ?_
    · rintro Inv hI
      simp
      subst hI
      exact ⟨0, left - xs.length, by omega, by omega, by omega, by rw [List.drop_zero, wt_StringS, wtR, szr_add (by omega)], rfl⟩
    · rintro Inv hI n st ⟨i, m, hi, hm1, hm2, hg, rfl⟩
      refine ewr_sound (M := []) h0 ?_
      simp
      refine brn_app (fun h3 => ?_) (fun h3 => ?_)
      · simp at h3
        have hxi := hx xs[i] (List.getElem_mem h3)
        rw [drop_step xs i h3, List.map_cons, List.sum_cons] at hg
        have hw2 : IntKind.wrap .i64 (m - xs[i].size) = m - xs[i].size := wrap64 (by omega) (by omega)
        simp [h3, hw2]
        refine brn_app (fun h4 => ?_) (fun h4 => ?_)
        · simp at h4
          rw [szr_add_neg (by omega)] at hg
          simp [← hg]
        · simp at h4
          rw [szr_add (by omega)] at hg
          simp
          subst hI
          exact Less_mk (n - 1) (by omega) ⟨i + 1, m - xs[i].size, by omega, by omega, by omega, hg, by rw [wrNext i (by omega)]⟩
      · simp at h3
        rw [List.drop_of_length_le (by omega), List.map_nil, List.sum_nil, szr_zero hm1] at hg
        simp [hg]
theorem ok_szCommand (k : Nat) (x : GCommand) (left : Int) (h1 : 0 ≤ left) (h2 : left ≤ 1048576) (hf : GCommand.fits x) : CallOK Try.prog 15 [.agg (GCommand.ci k x), .c (pi left)] (.c (pi (szr left (GCommand.wt x)))) [.agg (GCommand.ci k x), .c (pi left)] := by
  simp only [GCommand.fits] at hf
  obtain ⟨hf0, hf1⟩ := hf
  refine okS (fn := Try.f15) [] h0 Try.func15 (by kernel_rfl) rfl Try.ntmps15 Try.results15 (by simp) ?_
  simp
  refine Inv_intro (ok_szStringS k x.Path (left) (by omega) (by omega) hf0) ?_
  simp
  refine brn_app (fun a0 => ?_) (fun a0 => ?_)
  · simp at a0
    have b0 := szr_lt0 a0 (by omega)
    have e : szr left (GCommand.wt x) = -1 := szr_neg (by unfold GCommand.wt; omega)
    simp [e]
  · simp at a0
    have b0 := szr_ge0 a0
    have e0 := szr_ge b0
    simp only [e0]
    have hw1 : IntKind.wrap .i64 (left - (wt_StringS x.Path : Nat) - x.Value.size) = left - (wt_StringS x.Path : Nat) - x.Value.size := wrap64 (by omega) (by omega)
    simp [hw1]
    refine brn_app (fun a1 => ?_) (fun a1 => ?_)
    · simp at a1
      have e : szr left (GCommand.wt x) = -1 := szr_neg (by unfold GCommand.wt; omega)
      simp [e]
    · simp at a1
      have e : szr left (GCommand.wt x) = left - (wt_StringS x.Path : Nat) - x.Value.size := by
        rw [szr_ge (by unfold GCommand.wt; omega)]
        unfold GCommand.wt
        omega
      simp [e]
theorem ok_szCommandS (k : Nat) (xs : List GCommand) (left : Int) (h1 : 0 ≤ left) (h2 : left ≤ 1048576) (hf : fits_CommandS xs) : CallOK Try.prog 52 [.c (rd k xs.length (xs.flatMap (GCommand.ci k))), .c (pi left)] (.c (pi (szr left (wt_CommandS xs)))) [.c (rd k xs.length (xs.flatMap (GCommand.ci k))), .c (pi left)] := by
  obtain ⟨hl, hx⟩ := hf
  refine okS (fn := Try.f52) [] h0 Try.func52 (by kernel_rfl) rfl Try.ntmps52 Try.results52 (by simp) ?_
  have hw : IntKind.wrap .i64 (left - xs.length) = left - xs.length := wrap64 (by omega) (by omega)
  have hwl := len_wt_CommandS xs
  simp [hw]
  refine brn_app (fun h => ?_) (fun h => ?_)
  · simp at h
    have e1 : szr left (wt_CommandS xs) = -1 := szr_neg (by omega)
    simp [e1]
  · simp at h
    simp
    refine loopS [0, 1, 5] [] (fun n st => ∃ (i : Nat) (m : Int), i + n = xs.length ∧ 0 ≤ m ∧ m ≤ 1048576 ∧ szr m (((xs.drop i).map GCommand.wt).sum) = szr left (wt_CommandS xs) ∧ st = ⟨slOf 27 [(0, .t (rd k xs.length (xs.flatMap (GCommand.ci k)))), (1, .t (pi m)), (5, .t (pi i))], ofL []⟩) xs.length ?_ ?_
    · rintro Inv hI
      simp
      subst hI
      exact ⟨0, left - xs.length, by omega, by omega, by omega, by rw [List.drop_zero, wt_CommandS, wtR, szr_add (by omega)], rfl⟩
    · rintro Inv hI n st ⟨i, m, hi, hm1, hm2, hg, rfl⟩
      refine ewr_sound (M := []) h0 ?_
      simp
      refine brn_app (fun h3 => ?_) (fun h3 => ?_)
      · simp at h3
        have hxi := hx xs[i] (List.getElem_mem h3)
        rw [drop_step xs i h3, List.map_cons, List.sum_cons] at hg
        have hd := fm_drop (GCommand.ci k) 3 (fun _ => rfl) xs i h3
        have hlen := fm_len (GCommand.ci k) 3 (fun _ => rfl) xs
        have hlt : i * 3 < xs.length * 3 := by omega
        simp [h3, hd, hlen, hlt]
        refine Inv_intro (ok_szCommand k xs[i] m hm1 hm2 hxi) ?_
        simp
        refine brn_app (fun h4 => ?_) (fun h4 => ?_)
        · simp at h4
          have h5 := szr_lt0 h4 hm1
          rw [szr_add_neg h5] at hg
          simp [← hg]
        · simp at h4
          have h5 := szr_ge0 h4
          have e5 := szr_ge h5
          rw [szr_add h5, ← e5] at hg
          simp
          subst hI
          exact Less_mk (n - 1) (by omega) ⟨i + 1, szr m (GCommand.wt xs[i]), by omega, by omega, by omega, hg, by rw [wrNext i (by omega)]⟩
      · simp at h3
        rw [List.drop_of_length_le (by omega), List.map_nil, List.sum_nil, szr_zero hm1] at hg
        simp [hg]
theorem ok_szLeaf (k : Nat) (x : GLeaf) (left : Int) (h1 : 0 ≤ left) (h2 : left ≤ 1048576) (hf : GLeaf.fits x) : CallOK Try.prog 77 [.agg (GLeaf.ci k x), .c (pi left)] (.c (pi (szr left (GLeaf.wt x)))) [.agg (GLeaf.ci k x), .c (pi left)] := by
  simp only [GLeaf.fits] at hf
  obtain ⟨hf0, hf1⟩ := hf
  refine okS (fn := Try.f77) [] h0 Try.func77 (by kernel_rfl) rfl Try.ntmps77 Try.results77 (by simp) ?_
  simp
  refine Inv_intro (ok_szStringS k x.Path (left) (by omega) (by omega) hf0) ?_
  simp
  refine brn_app (fun a0 => ?_) (fun a0 => ?_)
  · simp at a0
    have b0 := szr_lt0 a0 (by omega)
    have e : szr left (GLeaf.wt x) = -1 := szr_neg (by unfold GLeaf.wt; omega)
    simp [e]
  · simp at a0
    have b0 := szr_ge0 a0
    have e0 := szr_ge b0
    simp only [e0]
    have hw1 : IntKind.wrap .i64 (left - (wt_StringS x.Path : Nat) - x.Value.size) = left - (wt_StringS x.Path : Nat) - x.Value.size := wrap64 (by omega) (by omega)
    simp [hw1]
    refine brn_app (fun a1 => ?_) (fun a1 => ?_)
    · simp at a1
      have e : szr left (GLeaf.wt x) = -1 := szr_neg (by unfold GLeaf.wt; omega)
      simp [e]
    · simp at a1
      have e : szr left (GLeaf.wt x) = left - (wt_StringS x.Path : Nat) - x.Value.size := by
        rw [szr_ge (by unfold GLeaf.wt; omega)]
        unfold GLeaf.wt
        omega
      simp [e]
theorem ok_szLeafS (k : Nat) (xs : List GLeaf) (left : Int) (h1 : 0 ≤ left) (h2 : left ≤ 1048576) (hf : fits_LeafS xs) : CallOK Try.prog 20 [.c (rd k xs.length (xs.flatMap (GLeaf.ci k))), .c (pi left)] (.c (pi (szr left (wt_LeafS xs)))) [.c (rd k xs.length (xs.flatMap (GLeaf.ci k))), .c (pi left)] := by
  obtain ⟨hl, hx⟩ := hf
  refine okS (fn := Try.f20) [] h0 Try.func20 (by kernel_rfl) rfl Try.ntmps20 Try.results20 (by simp) ?_
  have hw : IntKind.wrap .i64 (left - xs.length) = left - xs.length := wrap64 (by omega) (by omega)
  have hwl := len_wt_LeafS xs
  simp [hw]
  refine brn_app (fun h => ?_) (fun h => ?_)
  · simp at h
    have e1 : szr left (wt_LeafS xs) = -1 := szr_neg (by omega)
    simp [e1]
  · simp at h
    simp
    refine loopS [0, 1, 5] [] (fun n st => ∃ (i : Nat) (m : Int), i + n = xs.length ∧ 0 ≤ m ∧ m ≤ 1048576 ∧ szr m (((xs.drop i).map GLeaf.wt).sum) = szr left (wt_LeafS xs) ∧ st = ⟨slOf 27 [(0, .t (rd k xs.length (xs.flatMap (GLeaf.ci k)))), (1, .t (pi m)), (5, .t (pi i))], ofL []⟩) xs.length ?_ ?_
    · rintro Inv hI
      simp
      subst hI
      exact ⟨0, left - xs.length, by omega, by omega, by omega, by rw [List.drop_zero, wt_LeafS, wtR, szr_add (by omega)], rfl⟩
    · rintro Inv hI n st ⟨i, m, hi, hm1, hm2, hg, rfl⟩
      refine ewr_sound (M := []) h0 ?_
      simp
      refine brn_app (fun h3 => ?_) (fun h3 => ?_)
      · simp at h3
        have hxi := hx xs[i] (List.getElem_mem h3)
        rw [drop_step xs i h3, List.map_cons, List.sum_cons] at hg
        have hd := fm_drop (GLeaf.ci k) 2 (fun _ => rfl) xs i h3
        have hlen := fm_len (GLeaf.ci k) 2 (fun _ => rfl) xs
        have hlt : i * 2 < xs.length * 2 := by omega
        simp [h3, hd, hlen, hlt]
        refine Inv_intro (ok_szLeaf k xs[i] m hm1 hm2 hxi) ?_
        simp
        refine brn_app (fun h4 => ?_) (fun h4 => ?_)
        · simp at h4
          have h5 := szr_lt0 h4 hm1
          rw [szr_add_neg h5] at hg
          simp [← hg]
        · simp at h4
          have h5 := szr_ge0 h4
          have e5 := szr_ge h5
          rw [szr_add h5, ← e5] at hg
          simp
          subst hI
          exact Less_mk (n - 1) (by omega) ⟨i + 1, szr m (GLeaf.wt xs[i]), by omega, by omega, by omega, hg, by rw [wrNext i (by omega)]⟩
      · simp at h3
        rw [List.drop_of_length_le (by omega), List.map_nil, List.sum_nil, szr_zero hm1] at hg
        simp [hg]
theorem ok_toStringS (k : Nat) (xs : List ByteArray) (hwt : wt_StringS xs ≤ 1048576) : CallOK Try.prog 24 [.c (rd k xs.length (xs.map ps))] (.c (.sl 0 9 xs.length (xs.map ps))) [.c (rd k xs.length (xs.map ps))] := by
  have hl := len_wt_StringS xs
  refine okS (fn := Try.f24) [] h0 Try.func24 (by kernel_rfl) rfl Try.ntmps24 Try.results24 (by simp) ?_
  have hb1 : (xs.length : Int) ≤ 281474976710656 := by omega
  have hb2 : 16 * (xs.length : Int) ≤ 281474976710656 := by omega
  simp [hb1, hb2]
  refine loopS [0, 3, 4] [.op 1 2 0] (fun n st => ∃ (i : Nat), i + n = xs.length ∧ st = ⟨slOf 22 [(0, .t (rd k xs.length (xs.map ps))), (3, .ref ⟨.op 1 2 0, []⟩ 0 xs.length), (4, .t (pi i))], ofL [(.op 1 2 0, .sl 0 9 xs.length (((xs.take i).map ps) ++ List.replicate n (.raw (.string ByteArray.empty))))]⟩) xs.length ?_ ?_
  · rintro Inv hI
    simp
    subst hI
    exact ⟨0, by omega, by simp⟩
  · rintro Inv hI n st ⟨i, hi, rfl⟩
    have hA := map_take_len ps xs i (by omega)
    generalize hAe : ((xs.take i).map ps) = A at hA ⊢
    refine ewr_sound (M := []) h0 ?_
    simp
    refine brn_app (fun h => ?_) (fun h => ?_)
    · simp at h
      obtain ⟨m, rfl⟩ : ∃ m, n = m + 1 := ⟨n - 1, by omega⟩
      simp [h, hA, List.replicate_succ]
      have e3 : ((xs.take (i + 1)).map ps) = A ++ [ps xs[i]] := by rw [take_step xs i h, List.map_append, hAe]; rfl
      subst hI
      refine Less_mk m (by omega) ⟨i + 1, by omega, ?_⟩
      rw [wrNext i (by omega), e3, List.append_assoc]
      all_goals rfl
    · simp at h
      have hn : n = 0 := by omega
      subst hn
      have ht : List.take i xs = xs := List.take_of_length_le (by omega)
      have ht2 : List.take (xs.length) (xs.map ps) = (xs.map ps) := List.take_of_length_le (by simp)
      rw [← hAe, ht]
      simp [ht2]
theorem ok_toCommand (k : Nat) (x : GCommand) (hwt : GCommand.wt x ≤ 1048576) : CallOK Try.prog 17 [.agg (GCommand.ci k x)] (.agg (GCommand.co x)) [.agg (GCommand.ci k x)] := by
  unfold GCommand.wt at hwt
  refine okS (fn := Try.f17) [] h0 Try.func17 (by kernel_rfl) rfl Try.ntmps17 Try.results17 (by simp) ?_
  simp
  refine Inv_intro (ok_toStringS k x.Path (by omega)) ?_
  simp
theorem ok_toCommandS (k : Nat) (xs : List GCommand) (hwt : wt_CommandS xs ≤ 1048576) : CallOK Try.prog 54 [.c (rd k xs.length (xs.flatMap (GCommand.ci k)))] (.c (.sl 0 28 xs.length (xs.flatMap GCommand.co))) [.c (rd k xs.length (xs.flatMap (GCommand.ci k)))] := by
  have hl := len_wt_CommandS xs
  refine okS (fn := Try.f54) [] h0 Try.func54 (by kernel_rfl) rfl Try.ntmps54 Try.results54 (by simp) ?_
  have hb1 : (xs.length : Int) ≤ 281474976710656 := by omega
  have hb2 : 48 * (xs.length : Int) ≤ 281474976710656 := by omega
  simp [hb1, hb2]
  refine loopS [0, 3, 4] [.op 1 2 0] (fun n st => ∃ (i : Nat), i + n = xs.length ∧ st = ⟨slOf 23 [(0, .t (rd k xs.length (xs.flatMap (GCommand.ci k)))), (3, .ref ⟨.op 1 2 0, []⟩ 0 xs.length), (4, .t (pi i))], ofL [(.op 1 2 0, .sl 0 28 xs.length (((xs.take i).flatMap GCommand.co) ++ (List.replicate n [.raw (.bool false), .sl 0 nilE 0 [], .raw (.string ByteArray.empty)]).flatten))]⟩) xs.length ?_ ?_
  · rintro Inv hI
    simp
    subst hI
    exact ⟨0, by omega, by simp⟩
  · rintro Inv hI n st ⟨i, hi, rfl⟩
    have hA := fm_take_len GCommand.co 3 (fun _ => rfl) xs i (by omega)
    generalize hAe : ((xs.take i).flatMap GCommand.co) = A at hA ⊢
    refine ewr_sound (M := []) h0 ?_
    simp
    refine brn_app (fun h => ?_) (fun h => ?_)
    · simp at h
      obtain ⟨m, rfl⟩ : ∃ m, n = m + 1 := ⟨n - 1, by omega⟩
      have hd := fm_drop (GCommand.ci k) 3 (fun _ => rfl) xs i h
      have hlen := fm_len (GCommand.ci k) 3 (fun _ => rfl) xs
      have hlt : i * 3 < xs.length * 3 := by omega
      simp [h, hd, hlen, hlt]
      refine Inv_intro (ok_toCommand k xs[i] (by have := mem_wt_CommandS (List.getElem_mem h); omega)) ?_
      simp [h, hA, List.replicate_succ]
      have e3 : ((xs.take (i + 1)).flatMap GCommand.co) = A ++ GCommand.co xs[i] := by rw [take_step xs i h, List.flatMap_append, hAe, List.flatMap_cons, List.flatMap_nil, List.append_nil]
      subst hI
      refine Less_mk m (by omega) ⟨i + 1, by omega, ?_⟩
      rw [wrNext i (by omega), e3, List.append_assoc]
      all_goals rfl
    · simp at h
      have hn : n = 0 := by omega
      subst hn
      have ht : List.take i xs = xs := List.take_of_length_le (by omega)
      have ht2 : List.take (xs.length * 3) (xs.flatMap GCommand.co) = (xs.flatMap GCommand.co) := List.take_of_length_le (by rw [fm_len GCommand.co 3 (fun _ => rfl)]; exact Nat.le_refl _)
      have hlo := fm_len GCommand.co 3 (fun _ => rfl) xs
      rw [← hAe, ht]
      simp [ht2, hlo, -List.length_flatMap]
theorem ok_toLeaf (k : Nat) (x : GLeaf) (hwt : GLeaf.wt x ≤ 1048576) : CallOK Try.prog 80 [.agg (GLeaf.ci k x)] (.agg (GLeaf.co x)) [.agg (GLeaf.ci k x)] := by
  unfold GLeaf.wt at hwt
  refine okS (fn := Try.f80) [] h0 Try.func80 (by kernel_rfl) rfl Try.ntmps80 Try.results80 (by simp) ?_
  simp
  refine Inv_intro (ok_toStringS k x.Path (by omega)) ?_
  simp
theorem ok_toLeafS (k : Nat) (xs : List GLeaf) (hwt : wt_LeafS xs ≤ 1048576) : CallOK Try.prog 23 [.c (rd k xs.length (xs.flatMap (GLeaf.ci k)))] (.c (.sl 0 103 xs.length (xs.flatMap GLeaf.co))) [.c (rd k xs.length (xs.flatMap (GLeaf.ci k)))] := by
  have hl := len_wt_LeafS xs
  refine okS (fn := Try.f23) [] h0 Try.func23 (by kernel_rfl) rfl Try.ntmps23 Try.results23 (by simp) ?_
  have hb1 : (xs.length : Int) ≤ 281474976710656 := by omega
  have hb2 : 40 * (xs.length : Int) ≤ 281474976710656 := by omega
  simp [hb1, hb2]
  refine loopS [0, 3, 4] [.op 1 2 0] (fun n st => ∃ (i : Nat), i + n = xs.length ∧ st = ⟨slOf 23 [(0, .t (rd k xs.length (xs.flatMap (GLeaf.ci k)))), (3, .ref ⟨.op 1 2 0, []⟩ 0 xs.length), (4, .t (pi i))], ofL [(.op 1 2 0, .sl 0 103 xs.length (((xs.take i).flatMap GLeaf.co) ++ (List.replicate n [.sl 0 nilE 0 [], .raw (.string ByteArray.empty)]).flatten))]⟩) xs.length ?_ ?_
  · rintro Inv hI
    simp
    subst hI
    exact ⟨0, by omega, by simp⟩
  · rintro Inv hI n st ⟨i, hi, rfl⟩
    have hA := fm_take_len GLeaf.co 2 (fun _ => rfl) xs i (by omega)
    generalize hAe : ((xs.take i).flatMap GLeaf.co) = A at hA ⊢
    refine ewr_sound (M := []) h0 ?_
    simp
    refine brn_app (fun h => ?_) (fun h => ?_)
    · simp at h
      obtain ⟨m, rfl⟩ : ∃ m, n = m + 1 := ⟨n - 1, by omega⟩
      have hd := fm_drop (GLeaf.ci k) 2 (fun _ => rfl) xs i h
      have hlen := fm_len (GLeaf.ci k) 2 (fun _ => rfl) xs
      have hlt : i * 2 < xs.length * 2 := by omega
      simp [h, hd, hlen, hlt]
      refine Inv_intro (ok_toLeaf k xs[i] (by have := mem_wt_LeafS (List.getElem_mem h); omega)) ?_
      simp [h, hA, List.replicate_succ]
      have e3 : ((xs.take (i + 1)).flatMap GLeaf.co) = A ++ GLeaf.co xs[i] := by rw [take_step xs i h, List.flatMap_append, hAe, List.flatMap_cons, List.flatMap_nil, List.append_nil]
      subst hI
      refine Less_mk m (by omega) ⟨i + 1, by omega, ?_⟩
      rw [wrNext i (by omega), e3, List.append_assoc]
      all_goals rfl
    · simp at h
      have hn : n = 0 := by omega
      subst hn
      have ht : List.take i xs = xs := List.take_of_length_le (by omega)
      have ht2 : List.take (xs.length * 2) (xs.flatMap GLeaf.co) = (xs.flatMap GLeaf.co) := List.take_of_length_le (by rw [fm_len GLeaf.co 2 (fun _ => rfl)]; exact Nat.le_refl _)
      have hlo := fm_len GLeaf.co 2 (fun _ => rfl) xs
      rw [← hAe, ht]
      simp [ht2, hlo, -List.length_flatMap]
theorem ok_FnExactDoCommands (v0 : (List GLeaf)) (v1 : (List GCommand)) (f0 : fits_LeafS v0) (f1 : fits_CommandS v1) : CallOK Try.prog 12 [.c (rd 1 v0.length (v0.flatMap (GLeaf.ci 1))), .c (rd 1 v1.length (v1.flatMap (GCommand.ci 1)))] (.c (pb true)) [.c (rd 1 v0.length (v0.flatMap (GLeaf.ci 1))), .c (rd 1 v1.length (v1.flatMap (GCommand.ci 1)))] := by
  refine okS (fn := Try.f12) [(36, [1,0]), (28, [1,0])] h0 Try.func12 (by kernel_rfl) rfl Try.ntmps12 Try.results12 (by simp) ?_
  simp
  refine Inv_intro (ok_szLeafS 1 v0 _ (by omega) (by omega) f0) ?_
  simp
  refine brn_app (fun b0 => ?_) (fun b0 => ?_)
  · simp
  · simp at b0
    have e0 := szr_ge (szr_ge0 b0)
    have d0 := szr_ge0 b0
    simp
    refine Inv_intro (ok_szCommandS 1 v1 _ (by omega) (by omega) f1) ?_
    simp
    refine brn_app (fun b1 => ?_) (fun b1 => ?_)
    · simp
    · simp at b1
      have e1 := szr_ge (szr_ge0 b1)
      have d1 := szr_ge0 b1
      simp
      have hv0 : wt_LeafS v0 ≤ 1048576 := by omega
      have hlp0 : lens_LeafS v0 := lens_of_LeafS hv0
      have hcp0 := cn_le_LeafS v0
      have hv1 : wt_CommandS v1 ≤ 1048576 := by omega
      have hlp1 : lens_CommandS v1 := lens_of_CommandS hv1
      have hcp1 := cn_le_CommandS v1
      have hrr := rDoCommands_ok v0 v1 hv0 hv1
      obtain ⟨hlr0, hcr0⟩ := hrr
      refine Inv_intro (ok_toLeafS 1 v0 hv0) ?_
      simp
      refine Inv_intro (ok_toCommandS 1 v1 hv1) ?_
      simp
      refine Inv_intro (law_sDoCommands v0 v1 hv0 hv1) ?_
      simp
      refine Inv_intro (ok_toLeafS 1 v0 hv0) ?_
      simp
      refine Inv_intro (ok_toCommandS 1 v1 hv1) ?_
      simp
      refine Inv_intro (law_iDoCommands v0 v1 hv0 hv1) ?_
      simp
      refine Inv_intro (ok_eqLeafS 0 0 ((rDoCommands v0 v1).1) ((rDoCommands v0 v1).1) hlr0 hlr0) ?_
      simp
      refine Inv_intro (ok_toLeafS 1 v0 hv0) ?_
      simp
      refine Inv_intro (ok_eqLeafS 0 0 (v0) (v0) hlp0 hlp0) ?_
      simp
      refine Inv_intro (ok_toCommandS 1 v1 hv1) ?_
      simp
      refine Inv_intro (ok_eqCommandS 0 0 (v1) (v1) hlp1 hlp1) ?_
      simp
      have hm0 := mk_LeafS_snd (v0) (1)
      have hn0 : ¬ (mk_LeafS (v0) (1)).2 < 0 := by omega
      have ht0 : List.take ((v0).length * 2) (((mk_LeafS (v0) (1))).1.flatMap GLeaf.co) = (((mk_LeafS (v0) (1))).1.flatMap GLeaf.co) := List.take_of_length_le (by rw [fm_len GLeaf.co 2 (fun _ => rfl), mk_LeafS_len]; exact Nat.le_refl _)
      refine Inv_intro (ok_markLeafS (v0) (1) hlp0 (by omega) (by omega)) ?_
      simp [hn0, ht0]
      have hm1 := mk_CommandS_snd (v1) ((mk_LeafS (v0) (1)).2)
      have hn1 : ¬ (mk_CommandS (v1) ((mk_LeafS (v0) (1)).2)).2 < 0 := by omega
      have ht1 : List.take ((v1).length * 3) (((mk_CommandS (v1) ((mk_LeafS (v0) (1)).2))).1.flatMap GCommand.co) = (((mk_CommandS (v1) ((mk_LeafS (v0) (1)).2))).1.flatMap GCommand.co) := List.take_of_length_le (by rw [fm_len GCommand.co 3 (fun _ => rfl), mk_CommandS_len]; exact Nat.le_refl _)
      refine Inv_intro (ok_markCommandS (v1) ((mk_LeafS (v0) (1)).2) hlp1 (by omega) (by omega)) ?_
      simp [hn0, ht0, hn1, ht1]
      refine Inv_intro (ok_eqLeafS 0 0 ((rDoCommands v0 v1).1) ((rDoCommands v0 v1).1) hlr0 hlr0) ?_
      simp [hn0, ht0, hn1, ht1]
      have hm2 := mk_LeafS_snd ((rDoCommands v0 v1).1) (1)
      have hn2 : ¬ (mk_LeafS ((rDoCommands v0 v1).1) (1)).2 < 0 := by omega
      have ht2 : List.take (((rDoCommands v0 v1).1).length * 2) (((mk_LeafS ((rDoCommands v0 v1).1) (1))).1.flatMap GLeaf.co) = (((mk_LeafS ((rDoCommands v0 v1).1) (1))).1.flatMap GLeaf.co) := List.take_of_length_le (by rw [fm_len GLeaf.co 2 (fun _ => rfl), mk_LeafS_len]; exact Nat.le_refl _)
      refine Inv_intro (ok_markLeafS ((rDoCommands v0 v1).1) (1) hlr0 (by omega) (by omega)) ?_
      simp [hn0, ht0, hn1, ht1, hn2, ht2]
      refine Inv_intro (ok_heldLeafS 0 ((rDoCommands v0 v1).1) (1) hlr0 (by omega) (by omega)) ?_
      simp [hn0, ht0, hn1, ht1, hn2, ht2]
      refine Inv_intro (ok_toLeafS 1 v0 hv0) ?_
      simp [hn0, ht0, hn1, ht1, hn2, ht2]
      refine Inv_intro (ok_toCommandS 1 v1 hv1) ?_
      simp [hn0, ht0, hn1, ht1, hn2, ht2]
      refine Inv_intro (law_iDoCommands v0 v1 hv0 hv1) ?_
      simp [hn0, ht0, hn1, ht1, hn2, ht2]
      refine Inv_intro (ok_eqLeafS 0 0 ((rDoCommands v0 v1).1) ((rDoCommands v0 v1).1) hlr0 hlr0) ?_
      simp [hn0, ht0, hn1, ht1, hn2, ht2]
      refine Inv_intro (ok_heldLeafS 0 ((rDoCommands v0 v1).1) (1) hlr0 (by omega) (by omega)) ?_
      simp [hn0, ht0, hn1, ht1, hn2, ht2]
end Go.V
