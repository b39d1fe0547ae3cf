/- What functions of the seat's program do, each proved of its code, under the bounds that its theorem names. -/
import Derived.Test.YtmodclnblmoeoaaTab
set_option linter.all false
namespace Go.V
open Go.Proofs
set_option maxHeartbeats 1000000
set_option maxRecDepth 10000
set_option linter.unusedSimpArgs false
set_option linter.unusedVariables false
theorem ok_szLeaf (k : Nat) (x : GLeaf) (left : Int) (h1 : 0 ≤ left) (h2 : left ≤ 1048576) (hf : GLeaf.fits x) : CallOK Try.prog 77 [.agg (GLeaf.ci k x), .c (pi left)] (.c (pi (szr left (GLeaf.wt x)))) [.agg (GLeaf.ci k x), .c (pi left)] := by
  simp only [GLeaf.fits] at hf
  obtain ⟨hf0, hf1⟩ := hf
  refine okS (fn := Try.f77) [] h0 Try.func77 (by kernel_rfl) rfl Try.ntmps77 Try.results77 (by simp) ?_
  simp
  refine Inv_intro (ok_szStringS k x.Path (left) (by omega) (by omega) hf0) ?_
  simp
  refine brn_app (fun a0 => ?_) (fun a0 => ?_)
  · simp at a0
    have b0 := szr_lt0 a0 (by omega)
    have e : szr left (GLeaf.wt x) = -1 := szr_neg (by unfold GLeaf.wt; omega)
    simp [e]
  · simp at a0
    have b0 := szr_ge0 a0
    have e0 := szr_ge b0
    simp only [e0]
    have hw1 : IntKind.wrap .i64 (left - (wt_StringS x.Path : Nat) - x.Value.size) = left - (wt_StringS x.Path : Nat) - x.Value.size := wrap64 (by omega) (by omega)
    simp [hw1]
    refine brn_app (fun a1 => ?_) (fun a1 => ?_)
    · simp at a1
      have e : szr left (GLeaf.wt x) = -1 := szr_neg (by unfold GLeaf.wt; omega)
      simp [e]
    · simp at a1
      have e : szr left (GLeaf.wt x) = left - (wt_StringS x.Path : Nat) - x.Value.size := by
        rw [szr_ge (by unfold GLeaf.wt; omega)]
        unfold GLeaf.wt
        omega
      simp [e]
theorem ok_szLeafS (k : Nat) (xs : List GLeaf) (left : Int) (h1 : 0 ≤ left) (h2 : left ≤ 1048576) (hf : fits_LeafS xs) : CallOK Try.prog 20 [.c (rd k xs.length (xs.flatMap (GLeaf.ci k))), .c (pi left)] (.c (pi (szr left (wt_LeafS xs)))) [.c (rd k xs.length (xs.flatMap (GLeaf.ci k))), .c (pi left)] := by
  obtain ⟨hl, hx⟩ := hf
  refine okS (fn := Try.f20) [] h0 Try.func20 (by kernel_rfl) rfl Try.ntmps20 Try.results20 (by simp) ?_
  have hw : IntKind.wrap .i64 (left - xs.length) = left - xs.length := wrap64 (by omega) (by omega)
  have hwl := len_wt_LeafS xs
  simp [hw]
  refine brn_app (fun h => ?_) (fun h => ?_)
  · simp at h
    have e1 : szr left (wt_LeafS xs) = -1 := szr_neg (by omega)
    simp [e1]
  · simp at h
    simp
    refine loopS [0, 1, 5] [] (fun n st => ∃ (i : Nat) (m : Int), i + n = xs.length ∧ 0 ≤ m ∧ m ≤ 1048576 ∧ szr m (((xs.drop i).map GLeaf.wt).sum) = szr left (wt_LeafS xs) ∧ st = ⟨slOf 27 [(0, .t (rd k xs.length (xs.flatMap (GLeaf.ci k)))), (1, .t (pi m)), (5, .t (pi i))], ofL []⟩) xs.length ?_ ?_
    · rintro Inv hI
      simp
      subst hI
      exact ⟨0, left - xs.length, by omega, by omega, by omega, by rw [List.drop_zero, wt_LeafS, wtR, szr_add (by omega)], rfl⟩
    · rintro Inv hI n st ⟨i, m, hi, hm1, hm2, hg, rfl⟩
      refine ewr_sound (M := []) h0 ?_
      simp
      refine brn_app (fun h3 => ?_) (fun h3 => ?_)
      · simp at h3
        have hxi := hx xs[i] (List.getElem_mem h3)
        rw [drop_step xs i h3, List.map_cons, List.sum_cons] at hg
        have hd := fm_drop (GLeaf.ci k) 2 (fun _ => rfl) xs i h3
        have hlen := fm_len (GLeaf.ci k) 2 (fun _ => rfl) xs
        have hlt : i * 2 < xs.length * 2 := by omega
        simp [h3, hd, hlen, hlt]
        refine Inv_intro (ok_szLeaf k xs[i] m hm1 hm2 hxi) ?_
        simp
        refine brn_app (fun h4 => ?_) (fun h4 => ?_)
        · simp at h4
          have h5 := szr_lt0 h4 hm1
          rw [szr_add_neg h5] at hg
          simp [← hg]
        · simp at h4
          have h5 := szr_ge0 h4
          have e5 := szr_ge h5
          rw [szr_add h5, ← e5] at hg
          simp
          subst hI
          exact Less_mk (n - 1) (by omega) ⟨i + 1, szr m (GLeaf.wt xs[i]), by omega, by omega, by omega, hg, by rw [wrNext i (by omega)]⟩
      · simp at h3
        rw [List.drop_of_length_le (by omega), List.map_nil, List.sum_nil, szr_zero hm1] at hg
        simp [hg]
theorem ok_szLeafSS (k : Nat) (xs : List (List GLeaf)) (left : Int) (h1 : 0 ≤ left) (h2 : left ≤ 1048576) (hf : fits_LeafSS xs) : CallOK Try.prog 93 [.c (rd k xs.length (xs.map (cLeafSi k))), .c (pi left)] (.c (pi (szr left (wt_LeafSS xs)))) [.c (rd k xs.length (xs.map (cLeafSi k))), .c (pi left)] := by
  obtain ⟨hl, hx⟩ := hf
  refine okS (fn := Try.f93) [] h0 Try.func93 (by kernel_rfl) rfl Try.ntmps93 Try.results93 (by simp) ?_
  have hw : IntKind.wrap .i64 (left - xs.length) = left - xs.length := wrap64 (by omega) (by omega)
  have hwl := len_wt_LeafSS xs
  simp [hw]
  refine brn_app (fun h => ?_) (fun h => ?_)
  · simp at h
    have e1 : szr left (wt_LeafSS xs) = -1 := szr_neg (by omega)
    simp [e1]
  · simp at h
    simp
    refine loopS [0, 1, 5] [] (fun n st => ∃ (i : Nat) (m : Int), i + n = xs.length ∧ 0 ≤ m ∧ m ≤ 1048576 ∧ szr m (((xs.drop i).map wt_LeafS).sum) = szr left (wt_LeafSS xs) ∧ st = ⟨slOf 27 [(0, .t (rd k xs.length (xs.map (cLeafSi k)))), (1, .t (pi m)), (5, .t (pi i))], ofL []⟩) xs.length ?_ ?_
    · rintro Inv hI
      simp
      subst hI
      exact ⟨0, left - xs.length, by omega, by omega, by omega, by rw [List.drop_zero, wt_LeafSS, wtR, szr_add (by omega)], rfl⟩
    · rintro Inv hI n st ⟨i, m, hi, hm1, hm2, hg, rfl⟩
      refine ewr_sound (M := []) h0 ?_
      simp
      refine brn_app (fun h3 => ?_) (fun h3 => ?_)
      · simp at h3
        have hxi := hx xs[i] (List.getElem_mem h3)
        rw [drop_step xs i h3, List.map_cons, List.sum_cons] at hg
        simp [h3]
        refine Inv_intro (ok_szLeafS k xs[i] m hm1 hm2 hxi) ?_
        simp
        refine brn_app (fun h4 => ?_) (fun h4 => ?_)
        · simp at h4
          have h5 := szr_lt0 h4 hm1
          rw [szr_add_neg h5] at hg
          simp [← hg]
        · simp at h4
          have h5 := szr_ge0 h4
          have e5 := szr_ge h5
          rw [szr_add h5, ← e5] at hg
          simp
          subst hI
          exact Less_mk (n - 1) (by omega) ⟨i + 1, szr m (wt_LeafS xs[i]), by omega, by omega, by omega, hg, by rw [wrNext i (by omega)]⟩
      · simp at h3
        rw [List.drop_of_length_le (by omega), List.map_nil, List.sum_nil, szr_zero hm1] at hg
        simp [hg]
theorem ok_szStore (k : Nat) (x : GStore) (left : Int) (h1 : 0 ≤ left) (h2 : left ≤ 1048576) (hf : GStore.fits x) : CallOK Try.prog 38 [.agg (GStore.ci k x), .c (pi left)] (.c (pi (szr left (GStore.wt x)))) [.agg (GStore.ci k x), .c (pi left)] := by
  simp only [GStore.fits] at hf
  obtain ⟨hf0, hf1, hf2⟩ := hf
  refine okS (fn := Try.f38) [] h0 Try.func38 (by kernel_rfl) rfl Try.ntmps38 Try.results38 (by simp) ?_
  simp
  refine Inv_intro (ok_szLeafS k x.Candidate (left) (by omega) (by omega) hf0) ?_
  simp
  refine brn_app (fun a0 => ?_) (fun a0 => ?_)
  · simp at a0
    have b0 := szr_lt0 a0 (by omega)
    have e : szr left (GStore.wt x) = -1 := szr_neg (by unfold GStore.wt; omega)
    simp [e]
  · simp at a0
    have b0 := szr_ge0 a0
    have e0 := szr_ge b0
    simp only [e0]
    simp
    refine Inv_intro (ok_szLeafS k x.Running (left - (wt_LeafS x.Candidate : Nat)) (by omega) (by omega) hf1) ?_
    simp
    refine brn_app (fun a1 => ?_) (fun a1 => ?_)
    · simp at a1
      have b1 := szr_lt0 a1 (by omega)
      have e : szr left (GStore.wt x) = -1 := szr_neg (by unfold GStore.wt; omega)
      simp [e]
    · simp at a1
      have b1 := szr_ge0 a1
      have e1 := szr_ge b1
      simp only [e1]
      simp
      refine Inv_intro (ok_szLeafSS k x.History (left - (wt_LeafS x.Candidate : Nat) - (wt_LeafS x.Running : Nat)) (by omega) (by omega) hf2) ?_
      simp
      refine brn_app (fun a2 => ?_) (fun a2 => ?_)
      · simp at a2
        have b2 := szr_lt0 a2 (by omega)
        have e : szr left (GStore.wt x) = -1 := szr_neg (by unfold GStore.wt; omega)
        simp [e]
      · simp at a2
        have b2 := szr_ge0 a2
        have e2 := szr_ge b2
        simp only [e2]
        have e : szr left (GStore.wt x) = left - (wt_LeafS x.Candidate : Nat) - (wt_LeafS x.Running : Nat) - (wt_LeafSS x.History : Nat) := by
          rw [szr_ge (by unfold GStore.wt; omega)]
          unfold GStore.wt
          omega
        simp [e]
theorem ok_toStringS (k : Nat) (xs : List ByteArray) (hwt : wt_StringS xs ≤ 1048576) : CallOK Try.prog 24 [.c (rd k xs.length (xs.map ps))] (.c (.sl 0 9 xs.length (xs.map ps))) [.c (rd k xs.length (xs.map ps))] := by
  have hl := len_wt_StringS xs
  refine okS (fn := Try.f24) [] h0 Try.func24 (by kernel_rfl) rfl Try.ntmps24 Try.results24 (by simp) ?_
  have hb1 : (xs.length : Int) ≤ 281474976710656 := by omega
  have hb2 : 16 * (xs.length : Int) ≤ 281474976710656 := by omega
  simp [hb1, hb2]
  refine loopS [0, 3, 4] [.op 1 2 0] (fun n st => ∃ (i : Nat), i + n = xs.length ∧ st = ⟨slOf 22 [(0, .t (rd k xs.length (xs.map ps))), (3, .ref ⟨.op 1 2 0, []⟩ 0 xs.length), (4, .t (pi i))], ofL [(.op 1 2 0, .sl 0 9 xs.length (((xs.take i).map ps) ++ List.replicate n (.raw (.string ByteArray.empty))))]⟩) xs.length ?_ ?_
  · rintro Inv hI
    simp
    subst hI
    exact ⟨0, by omega, by simp⟩
  · rintro Inv hI n st ⟨i, hi, rfl⟩
    have hA := map_take_len ps xs i (by omega)
    generalize hAe : ((xs.take i).map ps) = A at hA ⊢
    refine ewr_sound (M := []) h0 ?_
    simp
    refine brn_app (fun h => ?_) (fun h => ?_)
    · simp at h
      obtain ⟨m, rfl⟩ : ∃ m, n = m + 1 := ⟨n - 1, by omega⟩
      simp [h, hA, List.replicate_succ]
      have e3 : ((xs.take (i + 1)).map ps) = A ++ [ps xs[i]] := by rw [take_step xs i h, List.map_append, hAe]; rfl
      subst hI
      refine Less_mk m (by omega) ⟨i + 1, by omega, ?_⟩
      rw [wrNext i (by omega), e3, List.append_assoc]
      all_goals rfl
    · simp at h
      have hn : n = 0 := by omega
      subst hn
      have ht : List.take i xs = xs := List.take_of_length_le (by omega)
      have ht2 : List.take (xs.length) (xs.map ps) = (xs.map ps) := List.take_of_length_le (by simp)
      rw [← hAe, ht]
      simp [ht2]
theorem ok_toLeaf (k : Nat) (x : GLeaf) (hwt : GLeaf.wt x ≤ 1048576) : CallOK Try.prog 80 [.agg (GLeaf.ci k x)] (.agg (GLeaf.co x)) [.agg (GLeaf.ci k x)] := by
  unfold GLeaf.wt at hwt
  refine okS (fn := Try.f80) [] h0 Try.func80 (by kernel_rfl) rfl Try.ntmps80 Try.results80 (by simp) ?_
  simp
  refine Inv_intro (ok_toStringS k x.Path (by omega)) ?_
  simp
theorem ok_toLeafS (k : Nat) (xs : List GLeaf) (hwt : wt_LeafS xs ≤ 1048576) : CallOK Try.prog 23 [.c (rd k xs.length (xs.flatMap (GLeaf.ci k)))] (.c (.sl 0 103 xs.length (xs.flatMap GLeaf.co))) [.c (rd k xs.length (xs.flatMap (GLeaf.ci k)))] := by
  have hl := len_wt_LeafS xs
  refine okS (fn := Try.f23) [] h0 Try.func23 (by kernel_rfl) rfl Try.ntmps23 Try.results23 (by simp) ?_
  have hb1 : (xs.length : Int) ≤ 281474976710656 := by omega
  have hb2 : 40 * (xs.length : Int) ≤ 281474976710656 := by omega
  simp [hb1, hb2]
  refine loopS [0, 3, 4] [.op 1 2 0] (fun n st => ∃ (i : Nat), i + n = xs.length ∧ st = ⟨slOf 23 [(0, .t (rd k xs.length (xs.flatMap (GLeaf.ci k)))), (3, .ref ⟨.op 1 2 0, []⟩ 0 xs.length), (4, .t (pi i))], ofL [(.op 1 2 0, .sl 0 103 xs.length (((xs.take i).flatMap GLeaf.co) ++ (List.replicate n [.sl 0 nilE 0 [], .raw (.string ByteArray.empty)]).flatten))]⟩) xs.length ?_ ?_
  · rintro Inv hI
    simp
    subst hI
    exact ⟨0, by omega, by simp⟩
  · rintro Inv hI n st ⟨i, hi, rfl⟩
    have hA := fm_take_len GLeaf.co 2 (fun _ => rfl) xs i (by omega)
    generalize hAe : ((xs.take i).flatMap GLeaf.co) = A at hA ⊢
    refine ewr_sound (M := []) h0 ?_
    simp
    refine brn_app (fun h => ?_) (fun h => ?_)
    · simp at h
      obtain ⟨m, rfl⟩ : ∃ m, n = m + 1 := ⟨n - 1, by omega⟩
      have hd := fm_drop (GLeaf.ci k) 2 (fun _ => rfl) xs i h
      have hlen := fm_len (GLeaf.ci k) 2 (fun _ => rfl) xs
      have hlt : i * 2 < xs.length * 2 := by omega
      simp [h, hd, hlen, hlt]
      refine Inv_intro (ok_toLeaf k xs[i] (by have := mem_wt_LeafS (List.getElem_mem h); omega)) ?_
      simp [h, hA, List.replicate_succ]
      have e3 : ((xs.take (i + 1)).flatMap GLeaf.co) = A ++ GLeaf.co xs[i] := by rw [take_step xs i h, List.flatMap_append, hAe, List.flatMap_cons, List.flatMap_nil, List.append_nil]
      subst hI
      refine Less_mk m (by omega) ⟨i + 1, by omega, ?_⟩
      rw [wrNext i (by omega), e3, List.append_assoc]
      all_goals rfl
    · simp at h
      have hn : n = 0 := by omega
      subst hn
      have ht : List.take i xs = xs := List.take_of_length_le (by omega)
      have ht2 : List.take (xs.length * 2) (xs.flatMap GLeaf.co) = (xs.flatMap GLeaf.co) := List.take_of_length_le (by rw [fm_len GLeaf.co 2 (fun _ => rfl)]; exact Nat.le_refl _)
      have hlo := fm_len GLeaf.co 2 (fun _ => rfl) xs
      rw [← hAe, ht]
      simp [ht2, hlo, -List.length_flatMap]
theorem ok_toLeafSS (k : Nat) (xs : List (List GLeaf)) (hwt : wt_LeafSS xs ≤ 1048576) : CallOK Try.prog 95 [.c (rd k xs.length (xs.map (cLeafSi k)))] (.c (.sl 0 35 xs.length (xs.map (cLeafSo)))) [.c (rd k xs.length (xs.map (cLeafSi k)))] := by
  have hl := len_wt_LeafSS xs
  refine okS (fn := Try.f95) [] h0 Try.func95 (by kernel_rfl) rfl Try.ntmps95 Try.results95 (by simp) ?_
  have hb1 : (xs.length : Int) ≤ 281474976710656 := by omega
  have hb2 : 24 * (xs.length : Int) ≤ 281474976710656 := by omega
  simp [hb1, hb2]
  refine loopS [0, 3, 4] [.op 1 2 0] (fun n st => ∃ (i : Nat), i + n = xs.length ∧ st = ⟨slOf 23 [(0, .t (rd k xs.length (xs.map (cLeafSi k)))), (3, .ref ⟨.op 1 2 0, []⟩ 0 xs.length), (4, .t (pi i))], ofL [(.op 1 2 0, .sl 0 35 xs.length (((xs.take i).map (cLeafSo)) ++ List.replicate n (.sl 0 nilE 0 [])))]⟩) xs.length ?_ ?_
  · rintro Inv hI
    simp
    subst hI
    exact ⟨0, by omega, by simp⟩
  · rintro Inv hI n st ⟨i, hi, rfl⟩
    have hA := map_take_len (cLeafSo) xs i (by omega)
    generalize hAe : ((xs.take i).map (cLeafSo)) = A at hA ⊢
    refine ewr_sound (M := []) h0 ?_
    simp
    refine brn_app (fun h => ?_) (fun h => ?_)
    · simp at h
      obtain ⟨m, rfl⟩ : ∃ m, n = m + 1 := ⟨n - 1, by omega⟩
      simp [h]
      refine Inv_intro (ok_toLeafS k xs[i] (by have := mem_wt_LeafSS (List.getElem_mem h); omega)) ?_
      simp [h, hA, List.replicate_succ]
      have e3 : ((xs.take (i + 1)).map (cLeafSo)) = A ++ [cLeafSo xs[i]] := by rw [take_step xs i h, List.map_append, hAe]; rfl
      subst hI
      refine Less_mk m (by omega) ⟨i + 1, by omega, ?_⟩
      rw [wrNext i (by omega), e3, List.append_assoc]
      all_goals rfl
    · simp at h
      have hn : n = 0 := by omega
      subst hn
      have ht : List.take i xs = xs := List.take_of_length_le (by omega)
      have ht2 : List.take (xs.length) (xs.map (cLeafSo)) = (xs.map (cLeafSo)) := List.take_of_length_le (by simp)
      rw [← hAe, ht]
      simp [ht2]
theorem ok_toStore (k : Nat) (x : GStore) (hwt : GStore.wt x ≤ 1048576) : CallOK Try.prog 40 [.agg (GStore.ci k x)] (.agg (GStore.co x)) [.agg (GStore.ci k x)] := by
  unfold GStore.wt at hwt
  refine okS (fn := Try.f40) [] h0 Try.func40 (by kernel_rfl) rfl Try.ntmps40 Try.results40 (by simp) ?_
  simp
  refine Inv_intro (ok_toLeafS k x.Candidate (by omega)) ?_
  simp
  refine Inv_intro (ok_toLeafS k x.Running (by omega)) ?_
  simp
  refine Inv_intro (ok_toLeafSS k x.History (by omega)) ?_
  simp
theorem byteAt_list (s : ByteArray) (i : Nat) (h : i < s.size) : byteAt s i = ((s.data.toList[i]'(by simpa using h)).toNat : Int) := by
  unfold byteAt
  have : s[i]? = some s[i] := by simp [h]
  rw [this]
  rfl
def wb (c : Int) : Bool := decide (97 ≤ c ∧ c ≤ 122) || decide (48 ≤ c ∧ c ≤ 57) || decide (c = 45)
theorem ok_isWordByte (c : Int) : CallOK Try.prog 155 [.c (pu c)] (.c (pb (wb c))) [.c (pu c)] := by
  refine okS (fn := Try.f155) [] h0 Try.func155 (by kernel_rfl) rfl Try.ntmps155 Try.results155 (by simp) ?_
  simp
  refine gT (fun a => ?_) (fun a => ?_)
  · simp [a]
    refine gF (fun b => ?_) (fun b => ?_)
    · simp [b]
      refine gT (fun d => ?_) (fun d => ?_)
      · simp [d]
        refine gF (fun e => ?_) (fun e => ?_)
        · simp [e]
          simp only [decide_eq_true_eq, decide_eq_false_iff_not] at a b d e; simp [wb]; omega
        · simp [e]
          simp only [decide_eq_true_eq, decide_eq_false_iff_not] at a b d e; simp [wb]; omega
      · simp [d]
        simp only [decide_eq_true_eq, decide_eq_false_iff_not] at a b d; simp [wb]; omega
    · simp [b]
      simp only [decide_eq_true_eq, decide_eq_false_iff_not] at a b; simp [wb]; omega
  · simp [a]
    refine gT (fun d => ?_) (fun d => ?_)
    · simp [d]
      refine gF (fun e => ?_) (fun e => ?_)
      · simp [e]
        simp only [decide_eq_true_eq, decide_eq_false_iff_not] at a d e; simp [wb]; omega
      · simp [e]
        simp only [decide_eq_true_eq, decide_eq_false_iff_not] at a d e; simp [wb]; omega
    · simp [d]
      simp only [decide_eq_true_eq, decide_eq_false_iff_not] at a d; simp [wb]; omega
theorem ok_l15Byte (c : Int) : CallOK Try.prog 117 [.c (pu c)] (.c (pb (wb c))) [.c (pu c)] := by
  refine okS (fn := Try.f117) [] h0 Try.func117 (by kernel_rfl) rfl Try.ntmps117 Try.results117 (by simp) ?_
  simp
  refine gT (fun a => ?_) (fun a => ?_)
  · simp [a]
    refine gF (fun b => ?_) (fun b => ?_)
    · simp [b]
      refine gT (fun d => ?_) (fun d => ?_)
      · simp [d]
        refine gF (fun e => ?_) (fun e => ?_)
        · simp [e]
          simp only [decide_eq_true_eq, decide_eq_false_iff_not] at a b d e; simp [wb]; omega
        · simp [e]
          simp only [decide_eq_true_eq, decide_eq_false_iff_not] at a b d e; simp [wb]; omega
      · simp [d]
        simp only [decide_eq_true_eq, decide_eq_false_iff_not] at a b d; simp [wb]; omega
    · simp [b]
      simp only [decide_eq_true_eq, decide_eq_false_iff_not] at a b; simp [wb]; omega
  · simp [a]
    refine gT (fun d => ?_) (fun d => ?_)
    · simp [d]
      refine gF (fun e => ?_) (fun e => ?_)
      · simp [e]
        simp only [decide_eq_true_eq, decide_eq_false_iff_not] at a d e; simp [wb]; omega
      · simp [e]
        simp only [decide_eq_true_eq, decide_eq_false_iff_not] at a d e; simp [wb]; omega
    · simp [d]
      simp only [decide_eq_true_eq, decide_eq_false_iff_not] at a d; simp [wb]; omega

def wbs (s : ByteArray) (i : Nat) : Bool := wb (byteAt s i)
/-- How many bytes of words a text begins with. -/
def wlen (s : ByteArray) : Nat := (s.data.toList.takeWhile (fun b => wb b.toNat)).length
def wAll (s : ByteArray) : Bool := s.data.toList.all (fun b => wb b.toNat)
def isW (s : ByteArray) : Bool := decide ((1 : Int) ≤ s.size ∧ (s.size : Int) ≤ 8) && wAll s
def isP (p : List ByteArray) : Bool := decide ((1 : Int) ≤ p.length ∧ (p.length : Int) ≤ 5) && p.all isW
theorem wlen_drop (s : ByteArray) (i : Nat) (h : i < s.size) : (s.data.toList.drop i).takeWhile (fun b => wb b.toNat) = if wb (byteAt s i) = true then s.data.toList[i]'(by simpa using h) :: (s.data.toList.drop (i + 1)).takeWhile (fun b => wb b.toNat) else [] := by
  have hl : i < s.data.toList.length := by simpa using h
  rw [List.drop_eq_getElem_cons hl, List.takeWhile_cons, byteAt_list s i h]
theorem ok_wordAt (s : ByteArray) (hs : s.size ≤ 140737488355328) : CallOK Try.prog 121 [.c (ps s)] (.c (ps (s.extract 0 (wlen s)))) [.c (ps s)] := by
  refine okS (fn := Try.f121) [] h0 Try.func121 (by kernel_rfl) rfl Try.ntmps121 Try.results121 (by simp) ?_
  simp
  refine loopS [0, 3] [] (fun n st => ∃ (i : Nat), i + n = s.size ∧ i + ((s.data.toList.drop i).takeWhile (fun b => wb b.toNat)).length = wlen s ∧ st = ⟨slOf 19 [(0, .t (ps s)), (3, .t (pi i))], ofL []⟩) s.size ?_ ?_
  · rintro Inv hI
    simp
    subst hI
    exact ⟨0, by omega, by simp [wlen], rfl⟩
  · rintro Inv hI n st ⟨i, hi, hw, rfl⟩
    refine ewr_sound (M := []) h0 ?_
    simp
    refine gT (fun a => ?_) (fun a => ?_)
    · have a1 : i < s.size := by simpa using a
      simp [a, a1]
      rw [wlen_drop s i a1] at hw
      refine Inv_intro (ok_isWordByte _) ?_
      simp
      refine brn_app (fun b => ?_) (fun b => ?_)
      · simp
        rw [if_pos b, List.length_cons] at hw
        subst hI
        refine Less_mk (n - 1) (by omega) ⟨i + 1, by omega, by omega, by rw [wrNext i (by omega)]⟩
      · simp
        rw [if_neg (by simpa using b)] at hw
        have hw' : i = wlen s := hw
        subst hw'
        have hle : (wlen s : Int) ≤ s.size := by omega
        simp [hle]
    · simp [a]
      simp at a
      rw [List.drop_of_length_le (by simp; omega)] at hw
      have hw' : i = wlen s := hw
      subst hw'
      have hle : (wlen s : Int) ≤ s.size := by omega
      simp [hle]
def okLeaf (x : GLeaf) : Bool := isP x.Path && isW x.Value
def adjC (q : Option GLeaf) (x : GLeaf) : Bool := match q with
  | none => true
  | some q => lessP q.Path x.Path && !begP q.Path x.Path
def goodG : Option GLeaf → List GLeaf → Bool
  | _, [] => true
  | q, x :: xs => okLeaf x && adjC q x && goodG (some x) xs
def goodC (l : List GLeaf) : Bool := goodG none l && decide (l.length ≤ 30)
def prevC (l : List GLeaf) (i : Nat) : Option GLeaf := if i = 0 then none else l[i - 1]?
theorem prevC_next (l : List GLeaf) (i : Nat) (h : i < l.length) : prevC l (i + 1) = some l[i] := by simp [prevC, h]
def strsOK (p : List ByteArray) : Prop := p.length ≤ 140737488351232 ∧ ∀ s ∈ p, s.size ≤ 140737488355328
def leafOK (x : GLeaf) : Prop := strsOK x.Path ∧ x.Value.size ≤ 140737488355328
def confOK (l : List GLeaf) : Prop := l.length ≤ 140737488351232 ∧ ∀ x ∈ l, leafOK x
theorem ok_within (n lo hi : Int) : CallOK Try.prog 118 [.c (pi n), .c (pi lo), .c (pi hi)] (.c (pb (decide (lo ≤ n ∧ n ≤ hi)))) [.c (pi n), .c (pi lo), .c (pi hi)] := by
  refine okS (fn := Try.f118) [] h0 Try.func118 (by kernel_rfl) rfl Try.ntmps118 Try.results118 (by simp) ?_
  simp
  refine gT (fun h => ?_) (fun h => ?_) <;> simp [h]
/-- Where a condition holds first, or -1. -/
def idxOf {α : Type} (p : α → Bool) (xs : List α) : Int := match xs.findIdx? p with | some i => i | none => -1
theorem idxOf_hit {α : Type} (p : α → Bool) (xs : List α) (i : Nat) (h : i < xs.length) (hp : p xs[i] = true) (hall : ∀ (j : Nat) (hj : j < i), p (xs[j]'(by omega)) = false) : idxOf p xs = i := by
  unfold idxOf
  rw [(List.findIdx?_eq_some_iff_getElem (i := i)).2 ⟨h, hp, fun j hj => by simp [hall j hj]⟩]
theorem idxOf_no {α : Type} (p : α → Bool) (xs : List α) (hall : ∀ (j : Nat) (hj : j < xs.length), p xs[j] = false) : idxOf p xs = -1 := by
  unfold idxOf
  rw [List.findIdx?_eq_none_iff.2 (fun s hs => by
    obtain ⟨j, hj, rfl⟩ := List.getElem_of_mem hs
    simp [hall j hj])]
theorem idxOf_any {α : Type} (p : α → Bool) (xs : List α) : decide (0 ≤ idxOf p xs) = xs.any p := by
  unfold idxOf
  cases h : xs.findIdx? p with
  | none =>
    rw [List.findIdx?_eq_none_iff] at h
    simp
    exact fun x hx => by simpa using h x hx
  | some i =>
    rw [List.findIdx?_eq_some_iff_getElem] at h
    obtain ⟨h1, h2, _⟩ := h
    simp
    exact ⟨_, List.getElem_mem h1, h2⟩
theorem ok_IndexFunc_String (k q g : Nat) (caps : List (List PT)) (p : ByteArray → Bool) (xs : List ByteArray) (ha : xs.length ≤ 140737488351232)
    (hg : ∀ x ∈ xs, CallOK Try.prog g (.c (ps x) :: caps.map (PV.ip q)) (.c (pb (p x))) (.c (ps x) :: caps.map (PV.ip q))) :
    CallOK Try.prog 154 [.c (rd k xs.length (xs.map ps)), .c (.fn q g caps)] (.c (pi (idxOf p xs))) [.c (rd k xs.length (xs.map ps)), .c (.fn q g caps)] := by
  refine okS (fn := Try.f154) [] h0 Try.func154 (by kernel_rfl) rfl Try.ntmps154 Try.results154 (by simp) ?_
  simp
  refine loopS [0, 1, 7, 8] [] (fun n st => ∃ (i : Nat), i + n = xs.length ∧ (∀ (j : Nat) (hj : j < i) (hj' : j < xs.length), p xs[j] = false) ∧ st = ⟨slOf 19 [(0, .t (rd k xs.length (xs.map ps))), (1, .t (.fn q g caps)), (7, .t (pi xs.length)), (8, .t (pi i))], ofL []⟩) xs.length ?_ ?_
  · rintro Inv hI
    simp
    subst hI
    exact ⟨0, by omega, by intro j hj; omega, rfl⟩
  · rintro Inv hI n st ⟨i, hi, hall, rfl⟩
    refine ewr_sound (M := []) h0 ?_
    simp
    refine brn_app (fun h => ?_) (fun h => ?_)
    · simp at h
      simp [h]
      refine Inv_intro (hg _ (List.getElem_mem h)) ?_
      simp
      refine brn_app (fun h2 => ?_) (fun h2 => ?_)
      · simp
        exact (idxOf_hit p xs i h h2 fun j hj => hall j hj (by omega)).symm
      · simp
        subst hI
        refine Less_mk (n - 1) (by omega) ⟨i + 1, by omega, ?_, by rw [wrNext i (by omega)]⟩
        intro j hj hj'
        by_cases hji : j = i
        · subst hji; exact h2
        · exact hall j (by omega) hj'
    · simp at h
      simp
      exact (idxOf_no p xs fun j hj => hall j (by omega) hj).symm
theorem ok_ContainsFunc_String (k q g : Nat) (caps : List (List PT)) (p : ByteArray → Bool) (xs : List ByteArray) (ha : xs.length ≤ 140737488351232)
    (hg : ∀ x ∈ xs, CallOK Try.prog g (.c (ps x) :: caps.map (PV.ip q)) (.c (pb (p x))) (.c (ps x) :: caps.map (PV.ip q))) :
    CallOK Try.prog 119 [.c (rd k xs.length (xs.map ps)), .c (.fn q g caps)] (.c (pb (xs.any p))) [.c (rd k xs.length (xs.map ps)), .c (.fn q g caps)] := by
  refine okS (fn := Try.f119) [] h0 Try.func119 (by kernel_rfl) rfl Try.ntmps119 Try.results119 (by simp) ?_
  simp
  refine Inv_intro (ok_IndexFunc_String k q g caps p xs ha hg) ?_
  simp [idxOf_any]
theorem any_not {α : Type} (p : α → Bool) (xs : List α) : xs.any (fun x => !p x) = !xs.all p := by
  induction xs with
  | nil => rfl
  | cons x xs ih => simp [ih]
theorem ok_l1In (n lo hi : Int) : CallOK Try.prog 116 [.c (pi n), .c (pi lo), .c (pi hi)] (.c (pb (decide (lo ≤ n ∧ n ≤ hi)))) [.c (pi n), .c (pi lo), .c (pi hi)] := by
  refine okS (fn := Try.f116) [] h0 Try.func116 (by kernel_rfl) rfl Try.ntmps116 Try.results116 (by simp) ?_
  simp
  refine gT (fun h => ?_) (fun h => ?_) <;> simp [h]
theorem wlen_le (s : ByteArray) : wlen s ≤ s.size := by
  unfold wlen
  have := List.Sublist.length_le (List.takeWhile_sublist (fun b : UInt8 => wb b.toNat) (l := s.data.toList))
  simpa using this
theorem tw_all {α : Type} (p : α → Bool) : ∀ l : List α, ((l.takeWhile p).length = l.length) = (l.all p = true)
  | [] => by simp
  | x :: l => by
    rw [List.takeWhile_cons, List.all_cons]
    cases h : p x with
    | true => simpa using tw_all p l
    | false => simp
theorem word_all (s : ByteArray) : decide (s.extract 0 (wlen s) = s) = wAll s := by
  have h := wlen_le s
  have hA := tw_all (fun b : UInt8 => wb b.toNat) s.data.toList
  have hl : s.data.toList.length = s.size := by simp
  rw [hl] at hA
  have hB : (s.extract 0 (wlen s) = s) = (wlen s = s.size) := by
    apply propext
    constructor
    · intro e
      have := congrArg ByteArray.size e
      simp at this
      omega
    · intro e
      rw [e]
      exact ext_all s
  rw [Bool.eq_iff_iff, decide_eq_true_eq, hB, wAll, ← hA]
  rfl
theorem ok_isWord (s : ByteArray) (hs : s.size ≤ 140737488355328) : CallOK Try.prog 75 [.c (ps s)] (.c (pb (isW s))) [.c (ps s)] := by
  refine okS (fn := Try.f75) [] h0 Try.func75 (by kernel_rfl) rfl Try.ntmps75 Try.results75 (by simp) ?_
  simp
  refine Inv_intro (ok_within _ _ _) ?_
  simp
  refine gT (fun a => ?_) (fun a => ?_)
  · simp [a]
    refine Inv_intro (ok_wordAt s hs) ?_
    simp [isW, word_all, a]
  · simp [a, isW]
theorem ok_areWords1 (s : ByteArray) (hs : s.size ≤ 140737488355328) : CallOK Try.prog 120 [.c (ps s)] (.c (pb (!isW s))) [.c (ps s)] := by
  refine okS (fn := Try.f120) [] h0 Try.func120 (by kernel_rfl) rfl Try.ntmps120 Try.results120 (by simp) ?_
  simp
  refine Inv_intro (ok_isWord s hs) ?_
  simp
theorem ok_areWords (k : Nat) (p : List ByteArray) (hl : p.length ≤ 140737488351232) (hs : ∀ s ∈ p, s.size ≤ 140737488355328) : CallOK Try.prog 74 [.c (rd k p.length (p.map ps))] (.c (pb (isP p))) [.c (rd k p.length (p.map ps))] := by
  refine okS (fn := Try.f74) [] h0 Try.func74 (by kernel_rfl) rfl Try.ntmps74 Try.results74 (by simp) ?_
  simp
  refine Inv_intro (ok_within _ _ _) ?_
  simp
  refine gT (fun a => ?_) (fun a => ?_)
  · simp [a]
    refine Inv_intro (ok_ContainsFunc_String k 0 120 [] (fun s => !isW s) p hl fun x hx => ok_areWords1 x (hs x hx)) ?_
    simp [isP, any_not, a]
  · simp [a, isP]
theorem ok_l15Word (s : ByteArray) (hs : s.size ≤ 140737488355328) : CallOK Try.prog 73 [.c (ps s)] (.c (pb (isW s))) [.c (ps s)] := by
  refine okS (fn := Try.f73) [] h0 Try.func73 (by kernel_rfl) rfl Try.ntmps73 Try.results73 (by simp) ?_
  simp
  refine loopS [0, 3] [] (fun n st => ∃ (i : Nat), i + n = s.size ∧ (s.data.toList.drop i).all (fun b => wb b.toNat) = wAll s ∧ st = ⟨slOf 18 [(0, .t (ps s)), (3, .t (pi i))], ofL []⟩) s.size ?_ ?_
  · rintro Inv hI
    simp
    subst hI
    exact ⟨0, by omega, rfl, rfl⟩
  · rintro Inv hI n st ⟨i, hi, hw, rfl⟩
    refine ewr_sound (M := []) h0 ?_
    simp
    refine brn_app (fun a => ?_) (fun a => ?_)
    · simp at a
      have hl : i < s.data.toList.length := by simpa using a
      rw [List.drop_eq_getElem_cons hl, List.all_cons] at hw
      rw [← byteAt_list s i a] at hw
      simp [a]
      refine Inv_intro (ok_l15Byte _) ?_
      simp
      refine brn_app (fun b => ?_) (fun b => ?_)
      · simp at b
        rw [b, Bool.false_and] at hw
        simp [isW, ← hw]
      · simp at b
        rw [b, Bool.true_and] at hw
        simp
        subst hI
        exact Less_mk (n - 1) (by omega) ⟨i + 1, by omega, hw, by rw [wrNext i (by omega)]⟩
    · simp at a
      rw [List.drop_of_length_le (by simp; omega), List.all_nil] at hw
      simp
      refine Inv_intro (ok_l1In _ _ _) ?_
      simp [isW, ← hw]
theorem ok_l15Path (k : Nat) (p : List ByteArray) (hl : p.length ≤ 140737488351232) (hs : ∀ s ∈ p, s.size ≤ 140737488355328) : CallOK Try.prog 72 [.c (rd k p.length (p.map ps))] (.c (pb (isP p))) [.c (rd k p.length (p.map ps))] := by
  refine okS (fn := Try.f72) [] h0 Try.func72 (by kernel_rfl) rfl Try.ntmps72 Try.results72 (by simp) ?_
  simp
  refine loopS [0, 5, 6, 7] [] (fun n st => ∃ (i : Nat), i + n = p.length ∧ (p.drop i).all isW = p.all isW ∧ st = ⟨slOf 18 [(0, .t (rd k p.length (p.map ps))), (5, .t (rd k p.length (p.map ps))), (6, .t (pi p.length)), (7, .t (pi i))], ofL []⟩) p.length ?_ ?_
  · rintro Inv hI
    simp
    subst hI
    exact ⟨0, by omega, rfl, rfl⟩
  · rintro Inv hI n st ⟨i, hi, hw, rfl⟩
    refine ewr_sound (M := []) h0 ?_
    simp
    refine brn_app (fun a => ?_) (fun a => ?_)
    · simp at a
      rw [drop_step _ i a, List.all_cons] at hw
      simp [a]
      refine Inv_intro (ok_l15Word _ (hs _ (List.getElem_mem a))) ?_
      simp
      refine brn_app (fun b => ?_) (fun b => ?_)
      · simp at b
        rw [b, Bool.false_and] at hw
        simp [isP, ← hw]
      · simp at b
        rw [b, Bool.true_and] at hw
        simp
        subst hI
        exact Less_mk (n - 1) (by omega) ⟨i + 1, by omega, hw, by rw [wrNext i (by omega)]⟩
    · simp at a
      rw [List.drop_of_length_le (by omega), List.all_nil] at hw
      simp
      refine Inv_intro (ok_l1In _ _ _) ?_
      simp [isP, ← hw]
end Go.V
