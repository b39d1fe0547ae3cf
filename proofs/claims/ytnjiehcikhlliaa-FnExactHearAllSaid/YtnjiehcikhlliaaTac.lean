/- What functions of the seat's program do, each proved of its code, under the bounds that its theorem names. -/
import Derived.Test.YtnjiehcikhlliaaTab
set_option linter.all false
namespace Go.V
open Go.Proofs
set_option maxHeartbeats 1000000
set_option maxRecDepth 10000
set_option linter.unusedSimpArgs false
set_option linter.unusedVariables false
theorem ok_szIntS (k : Nat) (xs : List Int) (left : Int) (h1 : 0 ≤ left) (h2 : left ≤ 1048576) (hf : fits_IntS xs) : CallOK Try.prog 67 [.c (rd k xs.length (xs.map pi)), .c (pi left)] (.c (pi (szr left (wt_IntS xs)))) [.c (rd k xs.length (xs.map pi)), .c (pi left)] := by
  obtain ⟨hl, hx⟩ := hf
  refine okS (fn := Try.f67) [] h0 Try.func67 (by kernel_rfl) rfl Try.ntmps67 Try.results67 (by simp) ?_
  have hw : IntKind.wrap .i64 (left - xs.length) = left - xs.length := wrap64 (by omega) (by omega)
  have hwl := len_wt_IntS xs
  simp [hw]
  refine brn_app (fun h => ?_) (fun h => ?_)
  · simp at h
    have e1 : szr left (wt_IntS xs) = -1 := szr_neg (by omega)
    simp [e1]
  · simp at h
    have e1 : szr left (wt_IntS xs) = left - xs.length := by unfold wt_IntS; exact szr_ge (by omega)
    simp [e1]
theorem ok_szAttrs (k : Nat) (x : GAttrs) (left : Int) (h1 : 0 ≤ left) (h2 : left ≤ 1048576) (hf : GAttrs.fits x) : CallOK Try.prog 36 [.agg (GAttrs.ci k x), .c (pi left)] (.c (pi (szr left (GAttrs.wt x)))) [.agg (GAttrs.ci k x), .c (pi left)] := by
  simp only [GAttrs.fits] at hf
  obtain ⟨hf0, hf1⟩ := hf
  refine okS (fn := Try.f36) [] h0 Try.func36 (by kernel_rfl) rfl Try.ntmps36 Try.results36 (by simp) ?_
  simp
  refine Inv_intro (ok_szIntS k x.Path (left) (by omega) (by omega) hf0) ?_
  simp
  refine brn_app (fun a0 => ?_) (fun a0 => ?_)
  · simp at a0
    have b0 := szr_lt0 a0 (by omega)
    have e : szr left (GAttrs.wt x) = -1 := szr_neg (by unfold GAttrs.wt; omega)
    simp [e]
  · simp at a0
    have b0 := szr_ge0 a0
    have e0 := szr_ge b0
    simp only [e0]
    simp
    refine Inv_intro (ok_szIntS k x.Comms (left - (wt_IntS x.Path : Nat)) (by omega) (by omega) hf1) ?_
    simp
    refine brn_app (fun a1 => ?_) (fun a1 => ?_)
    · simp at a1
      have b1 := szr_lt0 a1 (by omega)
      have e : szr left (GAttrs.wt x) = -1 := szr_neg (by unfold GAttrs.wt; omega)
      simp [e]
    · simp at a1
      have b1 := szr_ge0 a1
      have e1 := szr_ge b1
      simp only [e1]
      have e : szr left (GAttrs.wt x) = left - (wt_IntS x.Path : Nat) - (wt_IntS x.Comms : Nat) := by
        rw [szr_ge (by unfold GAttrs.wt; omega)]
        unfold GAttrs.wt
        omega
      simp [e]
theorem ok_szRoute (k : Nat) (x : GRoute) (left : Int) (h1 : 0 ≤ left) (h2 : left ≤ 1048576) (hf : GRoute.fits x) : CallOK Try.prog 15 [.agg (GRoute.ci k x), .c (pi left)] (.c (pi (szr left (GRoute.wt x)))) [.agg (GRoute.ci k x), .c (pi left)] := by
  simp only [GRoute.fits] at hf
  have hf0 := hf
  refine okS (fn := Try.f15) [] h0 Try.func15 (by kernel_rfl) rfl Try.ntmps15 Try.results15 (by simp) ?_
  simp
  refine Inv_intro (ok_szAttrs k x.Attrs (left) (by omega) (by omega) hf0) ?_
  simp
  refine brn_app (fun a0 => ?_) (fun a0 => ?_)
  · simp at a0
    have b0 := szr_lt0 a0 (by omega)
    have e : szr left (GRoute.wt x) = -1 := szr_neg (by unfold GRoute.wt; omega)
    simp [e]
  · simp at a0
    have b0 := szr_ge0 a0
    have e0 := szr_ge b0
    simp only [e0]
    have e : szr left (GRoute.wt x) = left - (GAttrs.wt x.Attrs : Nat) := by
      rw [szr_ge (by unfold GRoute.wt; omega)]
      unfold GRoute.wt
      omega
    simp [e]
theorem ok_szRouteS (k : Nat) (xs : List GRoute) (left : Int) (h1 : 0 ≤ left) (h2 : left ≤ 1048576) (hf : fits_RouteS xs) : CallOK Try.prog 4 [.c (rd k xs.length (xs.flatMap (GRoute.ci k))), .c (pi left)] (.c (pi (szr left (wt_RouteS xs)))) [.c (rd k xs.length (xs.flatMap (GRoute.ci k))), .c (pi left)] := by
  obtain ⟨hl, hx⟩ := hf
  refine okS (fn := Try.f4) [] h0 Try.func4 (by kernel_rfl) rfl Try.ntmps4 Try.results4 (by simp) ?_
  have hw : IntKind.wrap .i64 (left - xs.length) = left - xs.length := wrap64 (by omega) (by omega)
  have hwl := len_wt_RouteS xs
  simp [hw]
  refine brn_app (fun h => ?_) (fun h => ?_)
  · simp at h
    have e1 : szr left (wt_RouteS xs) = -1 := szr_neg (by omega)
    simp [e1]
  · simp at h
    simp
    refine loopS [0, 1, 5] [] (fun n st => ∃ (i : Nat) (m : Int), i + n = xs.length ∧ 0 ≤ m ∧ m ≤ 1048576 ∧ szr m (((xs.drop i).map GRoute.wt).sum) = szr left (wt_RouteS xs) ∧ st = ⟨slOf 27 [(0, .t (rd k xs.length (xs.flatMap (GRoute.ci k)))), (1, .t (pi m)), (5, .t (pi i))], ofL []⟩) xs.length ?_ ?_
    · rintro Inv hI
      simp
      subst hI
      exact ⟨0, left - xs.length, by omega, by omega, by omega, by rw [List.drop_zero, wt_RouteS, wtR, szr_add (by omega)], rfl⟩
    · rintro Inv hI n st ⟨i, m, hi, hm1, hm2, hg, rfl⟩
      refine ewr_sound (M := []) h0 ?_
      simp
      refine brn_app (fun h3 => ?_) (fun h3 => ?_)
      · simp at h3
        have hxi := hx xs[i] (List.getElem_mem h3)
        rw [drop_step xs i h3, List.map_cons, List.sum_cons] at hg
        have hd := fm_drop (GRoute.ci k) 8 (fun _ => rfl) xs i h3
        have hlen := fm_len (GRoute.ci k) 8 (fun _ => rfl) xs
        have hlt : i * 8 < xs.length * 8 := by omega
        simp [h3, hd, hlen, hlt]
        refine Inv_intro (ok_szRoute k xs[i] m hm1 hm2 hxi) ?_
        simp
        refine brn_app (fun h4 => ?_) (fun h4 => ?_)
        · simp at h4
          have h5 := szr_lt0 h4 hm1
          rw [szr_add_neg h5] at hg
          simp [← hg]
        · simp at h4
          have h5 := szr_ge0 h4
          have e5 := szr_ge h5
          rw [szr_add h5, ← e5] at hg
          simp
          subst hI
          exact Less_mk (n - 1) (by omega) ⟨i + 1, szr m (GRoute.wt xs[i]), by omega, by omega, by omega, hg, by rw [wrNext i (by omega)]⟩
      · simp at h3
        rw [List.drop_of_length_le (by omega), List.map_nil, List.sum_nil, szr_zero hm1] at hg
        simp [hg]
theorem ok_szPrefixS (k : Nat) (xs : List GPrefix) (left : Int) (h1 : 0 ≤ left) (h2 : left ≤ 1048576) (hf : fits_PrefixS xs) : CallOK Try.prog 37 [.c (rd k xs.length (xs.flatMap GPrefix.c)), .c (pi left)] (.c (pi (szr left (wt_PrefixS xs)))) [.c (rd k xs.length (xs.flatMap GPrefix.c)), .c (pi left)] := by
  obtain ⟨hl, hx⟩ := hf
  refine okS (fn := Try.f37) [] h0 Try.func37 (by kernel_rfl) rfl Try.ntmps37 Try.results37 (by simp) ?_
  have hw : IntKind.wrap .i64 (left - xs.length) = left - xs.length := wrap64 (by omega) (by omega)
  have hwl := len_wt_PrefixS xs
  simp [hw]
  refine brn_app (fun h => ?_) (fun h => ?_)
  · simp at h
    have e1 : szr left (wt_PrefixS xs) = -1 := szr_neg (by omega)
    simp [e1]
  · simp at h
    have e1 : szr left (wt_PrefixS xs) = left - xs.length := by unfold wt_PrefixS; exact szr_ge (by omega)
    simp [e1]
theorem ok_szUpdate (k : Nat) (x : GUpdate) (left : Int) (h1 : 0 ≤ left) (h2 : left ≤ 1048576) (hf : GUpdate.fits x) : CallOK Try.prog 16 [.agg (GUpdate.ci k x), .c (pi left)] (.c (pi (szr left (GUpdate.wt x)))) [.agg (GUpdate.ci k x), .c (pi left)] := by
  simp only [GUpdate.fits] at hf
  obtain ⟨hf0, hf1, hf2⟩ := hf
  refine okS (fn := Try.f16) [] h0 Try.func16 (by kernel_rfl) rfl Try.ntmps16 Try.results16 (by simp) ?_
  simp
  refine Inv_intro (ok_szPrefixS k x.Gone (left) (by omega) (by omega) hf0) ?_
  simp
  refine brn_app (fun a0 => ?_) (fun a0 => ?_)
  · simp at a0
    have b0 := szr_lt0 a0 (by omega)
    have e : szr left (GUpdate.wt x) = -1 := szr_neg (by unfold GUpdate.wt; omega)
    simp [e]
  · simp at a0
    have b0 := szr_ge0 a0
    have e0 := szr_ge b0
    simp only [e0]
    simp
    refine Inv_intro (ok_szAttrs k x.Attrs (left - (wt_PrefixS x.Gone : Nat)) (by omega) (by omega) hf1) ?_
    simp
    refine brn_app (fun a1 => ?_) (fun a1 => ?_)
    · simp at a1
      have b1 := szr_lt0 a1 (by omega)
      have e : szr left (GUpdate.wt x) = -1 := szr_neg (by unfold GUpdate.wt; omega)
      simp [e]
    · simp at a1
      have b1 := szr_ge0 a1
      have e1 := szr_ge b1
      simp only [e1]
      simp
      refine Inv_intro (ok_szPrefixS k x.Come (left - (wt_PrefixS x.Gone : Nat) - (GAttrs.wt x.Attrs : Nat)) (by omega) (by omega) hf2) ?_
      simp
      refine brn_app (fun a2 => ?_) (fun a2 => ?_)
      · simp at a2
        have b2 := szr_lt0 a2 (by omega)
        have e : szr left (GUpdate.wt x) = -1 := szr_neg (by unfold GUpdate.wt; omega)
        simp [e]
      · simp at a2
        have b2 := szr_ge0 a2
        have e2 := szr_ge b2
        simp only [e2]
        have e : szr left (GUpdate.wt x) = left - (wt_PrefixS x.Gone : Nat) - (GAttrs.wt x.Attrs : Nat) - (wt_PrefixS x.Come : Nat) := by
          rw [szr_ge (by unfold GUpdate.wt; omega)]
          unfold GUpdate.wt
          omega
        simp [e]
theorem ok_szUpdateS (k : Nat) (xs : List GUpdate) (left : Int) (h1 : 0 ≤ left) (h2 : left ≤ 1048576) (hf : fits_UpdateS xs) : CallOK Try.prog 5 [.c (rd k xs.length (xs.flatMap (GUpdate.ci k))), .c (pi left)] (.c (pi (szr left (wt_UpdateS xs)))) [.c (rd k xs.length (xs.flatMap (GUpdate.ci k))), .c (pi left)] := by
  obtain ⟨hl, hx⟩ := hf
  refine okS (fn := Try.f5) [] h0 Try.func5 (by kernel_rfl) rfl Try.ntmps5 Try.results5 (by simp) ?_
  have hw : IntKind.wrap .i64 (left - xs.length) = left - xs.length := wrap64 (by omega) (by omega)
  have hwl := len_wt_UpdateS xs
  simp [hw]
  refine brn_app (fun h => ?_) (fun h => ?_)
  · simp at h
    have e1 : szr left (wt_UpdateS xs) = -1 := szr_neg (by omega)
    simp [e1]
  · simp at h
    simp
    refine loopS [0, 1, 5] [] (fun n st => ∃ (i : Nat) (m : Int), i + n = xs.length ∧ 0 ≤ m ∧ m ≤ 1048576 ∧ szr m (((xs.drop i).map GUpdate.wt).sum) = szr left (wt_UpdateS xs) ∧ st = ⟨slOf 27 [(0, .t (rd k xs.length (xs.flatMap (GUpdate.ci k)))), (1, .t (pi m)), (5, .t (pi i))], ofL []⟩) xs.length ?_ ?_
    · rintro Inv hI
      simp
      subst hI
      exact ⟨0, left - xs.length, by omega, by omega, by omega, by rw [List.drop_zero, wt_UpdateS, wtR, szr_add (by omega)], rfl⟩
    · rintro Inv hI n st ⟨i, m, hi, hm1, hm2, hg, rfl⟩
      refine ewr_sound (M := []) h0 ?_
      simp
      refine brn_app (fun h3 => ?_) (fun h3 => ?_)
      · simp at h3
        have hxi := hx xs[i] (List.getElem_mem h3)
        rw [drop_step xs i h3, List.map_cons, List.sum_cons] at hg
        have hd := fm_drop (GUpdate.ci k) 8 (fun _ => rfl) xs i h3
        have hlen := fm_len (GUpdate.ci k) 8 (fun _ => rfl) xs
        have hlt : i * 8 < xs.length * 8 := by omega
        simp [h3, hd, hlen, hlt]
        refine Inv_intro (ok_szUpdate k xs[i] m hm1 hm2 hxi) ?_
        simp
        refine brn_app (fun h4 => ?_) (fun h4 => ?_)
        · simp at h4
          have h5 := szr_lt0 h4 hm1
          rw [szr_add_neg h5] at hg
          simp [← hg]
        · simp at h4
          have h5 := szr_ge0 h4
          have e5 := szr_ge h5
          rw [szr_add h5, ← e5] at hg
          simp
          subst hI
          exact Less_mk (n - 1) (by omega) ⟨i + 1, szr m (GUpdate.wt xs[i]), by omega, by omega, by omega, hg, by rw [wrNext i (by omega)]⟩
      · simp at h3
        rw [List.drop_of_length_le (by omega), List.map_nil, List.sum_nil, szr_zero hm1] at hg
        simp [hg]
theorem ok_toIntS (k : Nat) (xs : List Int) (hwt : wt_IntS xs ≤ 1048576) : CallOK Try.prog 71 [.c (rd k xs.length (xs.map pi))] (.c (.sl 0 3 xs.length (xs.map pi))) [.c (rd k xs.length (xs.map pi))] := by
  have hl := len_wt_IntS xs
  refine okS (fn := Try.f71) [] h0 Try.func71 (by kernel_rfl) rfl Try.ntmps71 Try.results71 (by simp) ?_
  have hb1 : (xs.length : Int) ≤ 281474976710656 := by omega
  have hb2 : 8 * (xs.length : Int) ≤ 281474976710656 := by omega
  simp [hb1, hb2]
  refine loopS [0, 3, 4] [.op 1 2 0] (fun n st => ∃ (i : Nat), i + n = xs.length ∧ st = ⟨slOf 22 [(0, .t (rd k xs.length (xs.map pi))), (3, .ref ⟨.op 1 2 0, []⟩ 0 xs.length), (4, .t (pi i))], ofL [(.op 1 2 0, .sl 0 3 xs.length (((xs.take i).map pi) ++ List.replicate n (.raw (.int .i64 0))))]⟩) xs.length ?_ ?_
  · rintro Inv hI
    simp
    subst hI
    exact ⟨0, by omega, by simp⟩
  · rintro Inv hI n st ⟨i, hi, rfl⟩
    have hA := map_take_len pi xs i (by omega)
    generalize hAe : ((xs.take i).map pi) = A at hA ⊢
    refine ewr_sound (M := []) h0 ?_
    simp
    refine brn_app (fun h => ?_) (fun h => ?_)
    · simp at h
      obtain ⟨m, rfl⟩ : ∃ m, n = m + 1 := ⟨n - 1, by omega⟩
      simp [h, hA, List.replicate_succ]
      have e3 : ((xs.take (i + 1)).map pi) = A ++ [pi xs[i]] := by rw [take_step xs i h, List.map_append, hAe]; rfl
      subst hI
      refine Less_mk m (by omega) ⟨i + 1, by omega, ?_⟩
      rw [wrNext i (by omega), e3, List.append_assoc]
      all_goals rfl
    · simp at h
      have hn : n = 0 := by omega
      subst hn
      have ht : List.take i xs = xs := List.take_of_length_le (by omega)
      have ht2 : List.take (xs.length) (xs.map pi) = (xs.map pi) := List.take_of_length_le (by simp)
      rw [← hAe, ht]
      simp [ht2]
theorem ok_toAttrs (k : Nat) (x : GAttrs) (hwt : GAttrs.wt x ≤ 1048576) : CallOK Try.prog 48 [.agg (GAttrs.ci k x)] (.agg (GAttrs.co x)) [.agg (GAttrs.ci k x)] := by
  unfold GAttrs.wt at hwt
  refine okS (fn := Try.f48) [] h0 Try.func48 (by kernel_rfl) rfl Try.ntmps48 Try.results48 (by simp) ?_
  simp
  refine Inv_intro (ok_toIntS k x.Path (by omega)) ?_
  simp
  refine Inv_intro (ok_toIntS k x.Comms (by omega)) ?_
  simp
theorem ok_toPrefix (x : GPrefix) : CallOK Try.prog 47 [.agg (GPrefix.c x)] (.agg (GPrefix.c x)) [.agg (GPrefix.c x)] := by
  refine okS (fn := Try.f47) [] h0 Try.func47 (by kernel_rfl) rfl Try.ntmps47 Try.results47 (by simp) ?_
  simp
theorem ok_toRoute (k : Nat) (x : GRoute) (hwt : GRoute.wt x ≤ 1048576) : CallOK Try.prog 20 [.agg (GRoute.ci k x)] (.agg (GRoute.co x)) [.agg (GRoute.ci k x)] := by
  unfold GRoute.wt at hwt
  refine okS (fn := Try.f20) [] h0 Try.func20 (by kernel_rfl) rfl Try.ntmps20 Try.results20 (by simp) ?_
  simp
  refine Inv_intro (ok_toPrefix x.Prefix) ?_
  simp
  refine Inv_intro (ok_toAttrs k x.Attrs (by omega)) ?_
  simp
theorem ok_toRouteS (k : Nat) (xs : List GRoute) (hwt : wt_RouteS xs ≤ 1048576) : CallOK Try.prog 7 [.c (rd k xs.length (xs.flatMap (GRoute.ci k)))] (.c (.sl 0 58 xs.length (xs.flatMap GRoute.co))) [.c (rd k xs.length (xs.flatMap (GRoute.ci k)))] := by
  have hl := len_wt_RouteS xs
  refine okS (fn := Try.f7) [] h0 Try.func7 (by kernel_rfl) rfl Try.ntmps7 Try.results7 (by simp) ?_
  have hb1 : (xs.length : Int) ≤ 281474976710656 := by omega
  have hb2 : 96 * (xs.length : Int) ≤ 281474976710656 := by omega
  simp [hb1, hb2]
  refine loopS [0, 3, 4] [.op 1 2 0] (fun n st => ∃ (i : Nat), i + n = xs.length ∧ st = ⟨slOf 23 [(0, .t (rd k xs.length (xs.flatMap (GRoute.ci k)))), (3, .ref ⟨.op 1 2 0, []⟩ 0 xs.length), (4, .t (pi i))], ofL [(.op 1 2 0, .sl 0 58 xs.length (((xs.take i).flatMap GRoute.co) ++ (List.replicate n [.raw (.int .i64 0), .raw (.int .i64 0), .raw (.int .i64 0), .sl 0 nilE 0 [], .raw (.int .i64 0), .raw (.int .i64 0), .raw (.int .i64 0), .sl 0 nilE 0 []]).flatten))]⟩) xs.length ?_ ?_
  · rintro Inv hI
    simp
    subst hI
    exact ⟨0, by omega, by simp⟩
  · rintro Inv hI n st ⟨i, hi, rfl⟩
    have hA := fm_take_len GRoute.co 8 (fun _ => rfl) xs i (by omega)
    generalize hAe : ((xs.take i).flatMap GRoute.co) = A at hA ⊢
    refine ewr_sound (M := []) h0 ?_
    simp
    refine brn_app (fun h => ?_) (fun h => ?_)
    · simp at h
      obtain ⟨m, rfl⟩ : ∃ m, n = m + 1 := ⟨n - 1, by omega⟩
      have hd := fm_drop (GRoute.ci k) 8 (fun _ => rfl) xs i h
      have hlen := fm_len (GRoute.ci k) 8 (fun _ => rfl) xs
      have hlt : i * 8 < xs.length * 8 := by omega
      simp [h, hd, hlen, hlt]
      refine Inv_intro (ok_toRoute k xs[i] (by have := mem_wt_RouteS (List.getElem_mem h); omega)) ?_
      simp [h, hA, List.replicate_succ]
      have e3 : ((xs.take (i + 1)).flatMap GRoute.co) = A ++ GRoute.co xs[i] := by rw [take_step xs i h, List.flatMap_append, hAe, List.flatMap_cons, List.flatMap_nil, List.append_nil]
      subst hI
      refine Less_mk m (by omega) ⟨i + 1, by omega, ?_⟩
      rw [wrNext i (by omega), e3, List.append_assoc]
      all_goals rfl
    · simp at h
      have hn : n = 0 := by omega
      subst hn
      have ht : List.take i xs = xs := List.take_of_length_le (by omega)
      have ht2 : List.take (xs.length * 8) (xs.flatMap GRoute.co) = (xs.flatMap GRoute.co) := List.take_of_length_le (by rw [fm_len GRoute.co 8 (fun _ => rfl)]; exact Nat.le_refl _)
      have hlo := fm_len GRoute.co 8 (fun _ => rfl) xs
      rw [← hAe, ht]
      simp [ht2, hlo, -List.length_flatMap]
theorem ok_toPrefixS (k : Nat) (xs : List GPrefix) (hwt : wt_PrefixS xs ≤ 1048576) : CallOK Try.prog 49 [.c (rd k xs.length (xs.flatMap GPrefix.c))] (.c (.sl 0 56 xs.length (xs.flatMap GPrefix.c))) [.c (rd k xs.length (xs.flatMap GPrefix.c))] := by
  have hl := len_wt_PrefixS xs
  refine okS (fn := Try.f49) [] h0 Try.func49 (by kernel_rfl) rfl Try.ntmps49 Try.results49 (by simp) ?_
  have hb1 : (xs.length : Int) ≤ 281474976710656 := by omega
  have hb2 : 16 * (xs.length : Int) ≤ 281474976710656 := by omega
  simp [hb1, hb2]
  refine loopS [0, 3, 4] [.op 1 2 0] (fun n st => ∃ (i : Nat), i + n = xs.length ∧ st = ⟨slOf 23 [(0, .t (rd k xs.length (xs.flatMap GPrefix.c))), (3, .ref ⟨.op 1 2 0, []⟩ 0 xs.length), (4, .t (pi i))], ofL [(.op 1 2 0, .sl 0 56 xs.length (((xs.take i).flatMap GPrefix.c) ++ (List.replicate n [.raw (.int .i64 0), .raw (.int .i64 0)]).flatten))]⟩) xs.length ?_ ?_
  · rintro Inv hI
    simp
    subst hI
    exact ⟨0, by omega, by simp⟩
  · rintro Inv hI n st ⟨i, hi, rfl⟩
    have hA := fm_take_len GPrefix.c 2 (fun _ => rfl) xs i (by omega)
    generalize hAe : ((xs.take i).flatMap GPrefix.c) = A at hA ⊢
    refine ewr_sound (M := []) h0 ?_
    simp
    refine brn_app (fun h => ?_) (fun h => ?_)
    · simp at h
      obtain ⟨m, rfl⟩ : ∃ m, n = m + 1 := ⟨n - 1, by omega⟩
      have hd := fm_drop GPrefix.c 2 (fun _ => rfl) xs i h
      have hlen := fm_len GPrefix.c 2 (fun _ => rfl) xs
      have hlt : i * 2 < xs.length * 2 := by omega
      simp [h, hd, hlen, hlt]
      refine Inv_intro (ok_toPrefix xs[i]) ?_
      simp [h, hA, List.replicate_succ]
      have e3 : ((xs.take (i + 1)).flatMap GPrefix.c) = A ++ GPrefix.c xs[i] := by rw [take_step xs i h, List.flatMap_append, hAe, List.flatMap_cons, List.flatMap_nil, List.append_nil]
      subst hI
      refine Less_mk m (by omega) ⟨i + 1, by omega, ?_⟩
      rw [wrNext i (by omega), e3, List.append_assoc]
      all_goals rfl
    · simp at h
      have hn : n = 0 := by omega
      subst hn
      have ht : List.take i xs = xs := List.take_of_length_le (by omega)
      have ht2 : List.take (xs.length * 2) (xs.flatMap GPrefix.c) = (xs.flatMap GPrefix.c) := List.take_of_length_le (by rw [fm_len GPrefix.c 2 (fun _ => rfl)]; exact Nat.le_refl _)
      have hlo := fm_len GPrefix.c 2 (fun _ => rfl) xs
      rw [← hAe, ht]
      simp [ht2, hlo, -List.length_flatMap]
theorem ok_toUpdate (k : Nat) (x : GUpdate) (hwt : GUpdate.wt x ≤ 1048576) : CallOK Try.prog 21 [.agg (GUpdate.ci k x)] (.agg (GUpdate.co x)) [.agg (GUpdate.ci k x)] := by
  unfold GUpdate.wt at hwt
  refine okS (fn := Try.f21) [] h0 Try.func21 (by kernel_rfl) rfl Try.ntmps21 Try.results21 (by simp) ?_
  simp
  refine Inv_intro (ok_toPrefixS k x.Gone (by omega)) ?_
  simp
  refine Inv_intro (ok_toAttrs k x.Attrs (by omega)) ?_
  simp
  refine Inv_intro (ok_toPrefixS k x.Come (by omega)) ?_
  simp
theorem ok_toUpdateS (k : Nat) (xs : List GUpdate) (hwt : wt_UpdateS xs ≤ 1048576) : CallOK Try.prog 8 [.c (rd k xs.length (xs.flatMap (GUpdate.ci k)))] (.c (.sl 0 54 xs.length (xs.flatMap GUpdate.co))) [.c (rd k xs.length (xs.flatMap (GUpdate.ci k)))] := by
  have hl := len_wt_UpdateS xs
  refine okS (fn := Try.f8) [] h0 Try.func8 (by kernel_rfl) rfl Try.ntmps8 Try.results8 (by simp) ?_
  have hb1 : (xs.length : Int) ≤ 281474976710656 := by omega
  have hb2 : 128 * (xs.length : Int) ≤ 281474976710656 := by omega
  simp [hb1, hb2]
  refine loopS [0, 3, 4] [.op 1 2 0] (fun n st => ∃ (i : Nat), i + n = xs.length ∧ st = ⟨slOf 23 [(0, .t (rd k xs.length (xs.flatMap (GUpdate.ci k)))), (3, .ref ⟨.op 1 2 0, []⟩ 0 xs.length), (4, .t (pi i))], ofL [(.op 1 2 0, .sl 0 54 xs.length (((xs.take i).flatMap GUpdate.co) ++ (List.replicate n [.sl 0 nilE 0 [], .raw (.int .i64 0), .sl 0 nilE 0 [], .raw (.int .i64 0), .raw (.int .i64 0), .raw (.int .i64 0), .sl 0 nilE 0 [], .sl 0 nilE 0 []]).flatten))]⟩) xs.length ?_ ?_
  · rintro Inv hI
    simp
    subst hI
    exact ⟨0, by omega, by simp⟩
  · rintro Inv hI n st ⟨i, hi, rfl⟩
    have hA := fm_take_len GUpdate.co 8 (fun _ => rfl) xs i (by omega)
    generalize hAe : ((xs.take i).flatMap GUpdate.co) = A at hA ⊢
    refine ewr_sound (M := []) h0 ?_
    simp
    refine brn_app (fun h => ?_) (fun h => ?_)
    · simp at h
      obtain ⟨m, rfl⟩ : ∃ m, n = m + 1 := ⟨n - 1, by omega⟩
      have hd := fm_drop (GUpdate.ci k) 8 (fun _ => rfl) xs i h
      have hlen := fm_len (GUpdate.ci k) 8 (fun _ => rfl) xs
      have hlt : i * 8 < xs.length * 8 := by omega
      simp [h, hd, hlen, hlt]
      refine Inv_intro (ok_toUpdate k xs[i] (by have := mem_wt_UpdateS (List.getElem_mem h); omega)) ?_
      simp [h, hA, List.replicate_succ]
      have e3 : ((xs.take (i + 1)).flatMap GUpdate.co) = A ++ GUpdate.co xs[i] := by rw [take_step xs i h, List.flatMap_append, hAe, List.flatMap_cons, List.flatMap_nil, List.append_nil]
      subst hI
      refine Less_mk m (by omega) ⟨i + 1, by omega, ?_⟩
      rw [wrNext i (by omega), e3, List.append_assoc]
      all_goals rfl
    · simp at h
      have hn : n = 0 := by omega
      subst hn
      have ht : List.take i xs = xs := List.take_of_length_le (by omega)
      have ht2 : List.take (xs.length * 8) (xs.flatMap GUpdate.co) = (xs.flatMap GUpdate.co) := List.take_of_length_le (by rw [fm_len GUpdate.co 8 (fun _ => rfl)]; exact Nat.le_refl _)
      have hlo := fm_len GUpdate.co 8 (fun _ => rfl) xs
      rw [← hAe, ht]
      simp [ht2, hlo, -List.length_flatMap]
def inR (n lo hi : Int) : Bool := decide (lo ≤ n ∧ n ≤ hi)
def szP (n : Int) : Int := 2 ^ (32 - n).toNat
theorem shl_pow (m : Nat) (h : m ≤ 32) : IntKind.wrap .i64 (1 * 2 ^ min m IntKind.i64.bits) = 2 ^ m := by
  have : ∀ m : Fin 33, IntKind.wrap .i64 (1 * 2 ^ min m.1 IntKind.i64.bits) = 2 ^ m.1 := by decide
  exact this ⟨m, by omega⟩
theorem pow_ne (m : Nat) : ¬ (2 : Int) ^ m = 0 := by
  have : (0 : Int) < 2 ^ m := Int.pow_pos (by decide)
  omega
def goodPx (p : GPrefix) : Bool := inR p.Len 0 32 && (inR p.Addr 0 4294967295 && decide (p.Addr.tmod (szP p.Len) = 0))
def cmpI (a b : Int) : Int := if a < b then -1 else if b < a then 1 else 0
def cmpPx (p q : GPrefix) : Int := if cmpI p.Addr q.Addr = 0 then cmpI p.Len q.Len else cmpI p.Addr q.Addr
def orI : List Int → Int
  | [] => 0
  | x :: xs => if x = 0 then orI xs else x
def isAsnB (n : Int) : Bool := inR n 1 65535
def isValB (n : Int) : Bool := inR n 0 1000000
def adjI (q : Option Int) (x : Int) : Bool := match q with
  | none => true
  | some q => decide (q < x)
def commsG : Option Int → List Int → Bool
  | _, [] => true
  | q, x :: xs => isValB x && adjI q x && commsG (some x) xs
def goodCm (l : List Int) : Bool := commsG none l && decide (l.length ≤ 6)
def goodPa (l : List Int) : Bool := decide (l.length ≤ 10) && l.all isAsnB
def goodA (a : GAttrs) : Bool := inR a.Origin 0 2 && (goodPa a.Path && (inR a.Next 0 4294967295 && (isValB a.Med && (isValB a.Pref && goodCm a.Comms))))
def prevI (l : List Int) (i : Nat) : Option Int := if i = 0 then none else l[i - 1]?
theorem prevI_next (l : List Int) (i : Nat) (h : i < l.length) : prevI l (i + 1) = some l[i] := by simp [prevI, h]
def attrOK (a : GAttrs) : Prop := a.Path.length ≤ 140737488351232 ∧ a.Comms.length ≤ 140737488351232
def goodR (r : GRoute) : Bool := goodPx r.Prefix && goodA r.Attrs
def adjR (q : Option GRoute) (x : GRoute) : Bool := match q with
  | none => true
  | some q => decide (cmpPx q.Prefix x.Prefix < 0)
def routesG : Option GRoute → List GRoute → Bool
  | _, [] => true
  | q, x :: xs => goodR x && adjR q x && routesG (some x) xs
def goodRs (l : List GRoute) : Bool := routesG none l && decide (l.length ≤ 20)
def prevR (l : List GRoute) (i : Nat) : Option GRoute := if i = 0 then none else l[i - 1]?
theorem prevR_next (l : List GRoute) (i : Nat) (h : i < l.length) : prevR l (i + 1) = some l[i] := by simp [prevR, h]
def routesOK (l : List GRoute) : Prop := l.length ≤ 140737488351232 ∧ ∀ r ∈ l, attrOK r.Attrs
theorem cmpPx_lt (p q : GPrefix) : cmpPx p q < 0 ↔ (p.Addr < q.Addr ∨ (p.Addr = q.Addr ∧ p.Len < q.Len)) := by
  unfold cmpPx cmpI
  by_cases h1 : p.Addr < q.Addr
  · simp [h1]
  · by_cases h2 : q.Addr < p.Addr
    · simp [h1, h2]; omega
    · have h3 : p.Addr = q.Addr := by omega
      by_cases h4 : p.Len < q.Len
      · simp [h3, h4]
      · by_cases h5 : q.Len < p.Len <;> simp [h3, h4, h5]
theorem px_ext (p q : GPrefix) : p = q ↔ p.Addr = q.Addr ∧ p.Len = q.Len := by
  obtain ⟨pa, pl⟩ := p
  obtain ⟨qa, ql⟩ := q
  simp
theorem cmpPx_eq (p q : GPrefix) : cmpPx p q = 0 ↔ p = q := by
  rw [px_ext]
  unfold cmpPx cmpI
  by_cases h1 : p.Addr < q.Addr
  · simp [h1]; omega
  · by_cases h2 : q.Addr < p.Addr
    · simp [h1, h2]; omega
    · have h3 : p.Addr = q.Addr := by omega
      by_cases h4 : p.Len < q.Len
      · simp [h3, h4]; omega
      · by_cases h5 : q.Len < p.Len
        · simp [h3, h4, h5]; omega
        · simp [h3, h4, h5]; omega
theorem cmpPx_gt (p q : GPrefix) : 0 < cmpPx p q ↔ cmpPx q p < 0 := by
  have h1 := cmpPx_lt p q
  have h2 := cmpPx_lt q p
  have h3 := cmpPx_eq p q
  rw [px_ext] at h3
  omega
theorem ltP_trans {p q r : GPrefix} (h1 : cmpPx p q < 0) (h2 : cmpPx q r < 0) : cmpPx p r < 0 := by
  rw [cmpPx_lt] at *
  omega
theorem ltP_irr (p : GPrefix) : ¬ cmpPx p p < 0 := by rw [cmpPx_lt]; omega
def srtP (l : List GPrefix) : Prop := l.Pairwise (fun a b => cmpPx a b < 0)
def srt (l : List GRoute) : Prop := l.Pairwise (fun a b => cmpPx a.Prefix b.Prefix < 0)
def lows (p : GPrefix) (l : List GRoute) : List GRoute := l.filter fun x => decide (cmpPx x.Prefix p < 0)
def highs (p : GPrefix) (l : List GRoute) : List GRoute := l.filter fun x => decide (cmpPx p x.Prefix < 0)
def delR (p : GPrefix) (l : List GRoute) : List GRoute := l.filter fun x => !decide (x.Prefix = p)
def putR (r : GRoute) (l : List GRoute) : List GRoute := lows r.Prefix l ++ r :: highs r.Prefix l
def kAt (p : GPrefix) (l : List GRoute) : Nat := bsI (fun x : GRoute => cmpPx x.Prefix p) l
def fnd (p : GPrefix) (l : List GRoute) : Bool := bsF (fun x : GRoute => cmpPx x.Prefix p) l
theorem above_all {p : GPrefix} : ∀ {l : List GRoute}, (∀ x ∈ l, cmpPx p x.Prefix < 0) → lows p l = [] ∧ highs p l = l ∧ delR p l = l
  | [], _ => ⟨rfl, rfl, rfl⟩
  | x :: l, h => by
    obtain ⟨h1, h2, h3⟩ := above_all (p := p) (l := l) fun y hy => h y (by simp [hy])
    have hx := h x (by simp)
    have hn : ¬ cmpPx x.Prefix p < 0 := fun h' => ltP_irr p (ltP_trans hx h')
    have hne : ¬ x.Prefix = p := fun e => by rw [e] at hx; exact ltP_irr p hx
    unfold lows highs delR at *
    refine ⟨?_, ?_, ?_⟩
    · rw [List.filter_cons, if_neg (by simpa using hn), h1]
    · rw [List.filter_cons, if_pos (by simpa using hx), h2]
    · rw [List.filter_cons, if_pos (by simpa using hne), h3]
theorem srt_split (p : GPrefix) : ∀ (l : List GRoute), srt l → l.take (kAt p l) = lows p l ∧ l.drop (if fnd p l = true then kAt p l + 1 else kAt p l) = highs p l ∧ delR p l = lows p l ++ highs p l ∧ kAt p l ≤ l.length ∧ (fnd p l = true → kAt p l < l.length) ∧ (fnd p l = false → delR p l = l)
  | [], _ => by simp [kAt, fnd, bsI, bsF, lows, highs, delR]
  | x :: l, h => by
    obtain ⟨h1, h2⟩ := List.pairwise_cons.1 h
    by_cases c : cmpPx x.Prefix p < 0
    · obtain ⟨i1, i2, i3, i4, i5, i6⟩ := srt_split p l h2
      have e1 : kAt p (x :: l) = kAt p l + 1 := by simp [kAt, bsI, List.takeWhile_cons, c]
      have e2 : fnd p (x :: l) = fnd p l := by
        have e1' : bsI (fun x : GRoute => cmpPx x.Prefix p) (x :: l) = bsI (fun x : GRoute => cmpPx x.Prefix p) l + 1 := e1
        simp only [fnd, bsF, e1', List.getElem?_cons_succ]
      have f1 : lows p (x :: l) = x :: lows p l := by unfold lows; rw [List.filter_cons, if_pos (by simpa using c)]
      have hn : ¬ cmpPx p x.Prefix < 0 := fun h' => ltP_irr p (ltP_trans h' c)
      have f2 : highs p (x :: l) = highs p l := by unfold highs; rw [List.filter_cons, if_neg (by simpa using hn)]
      have hne : ¬ x.Prefix = p := fun e => by rw [e] at c; exact ltP_irr p c
      have f3 : delR p (x :: l) = x :: delR p l := by unfold delR; rw [List.filter_cons, if_pos (by simpa using hne)]
      rw [e1, e2, f1, f2, f3]
      refine ⟨by rw [List.take_succ_cons, i1], ?_, by rw [i3]; rfl, by simp only [List.length_cons]; omega, fun hh => by have := i5 hh; simp only [List.length_cons]; omega, fun hh => by rw [i6 hh]⟩
      rw [← i2]
      split <;> rfl
    · have e1 : kAt p (x :: l) = 0 := by simp [kAt, bsI, List.takeWhile_cons, c]
      have e2 : fnd p (x :: l) = decide (cmpPx x.Prefix p = 0) := by
        have e1' : bsI (fun x : GRoute => cmpPx x.Prefix p) (x :: l) = 0 := e1
        simp only [fnd, bsF, e1', List.getElem?_cons_zero]
      by_cases d : cmpPx x.Prefix p = 0
      · have hp := (cmpPx_eq _ _).1 d
        obtain ⟨a1, a2, a3⟩ := above_all (p := p) (l := l) fun y hy => by rw [← hp]; exact h1 y hy
        have f1 : lows p (x :: l) = [] := by unfold lows at a1 ⊢; rw [List.filter_cons, if_neg (by simpa using c), a1]
        have hn : ¬ cmpPx p x.Prefix < 0 := fun h' => by rw [hp] at h'; exact ltP_irr p h'
        have f2 : highs p (x :: l) = l := by unfold highs at a2 ⊢; rw [List.filter_cons, if_neg (by simpa using hn), a2]
        have f3 : delR p (x :: l) = l := by unfold delR at a3 ⊢; rw [List.filter_cons, if_neg (by simp [hp]), a3]
        rw [e1, e2, f1, f2, f3, decide_eq_true d]
        simp
      · have hx : cmpPx p x.Prefix < 0 := by rw [← cmpPx_gt]; omega
        obtain ⟨a1, a2, a3⟩ := above_all (p := p) (l := x :: l) fun y hy => by
          rcases List.mem_cons.1 hy with rfl | hy
          · exact hx
          · exact ltP_trans hx (h1 y hy)
        rw [e1, e2, a1, a2, a3, decide_eq_false d]
        simp
theorem srt_mono {p : GPrefix} {l : List GRoute} (h : srt l) (i j : Nat) (hij : i < j) (hj : j < l.length) (hc : cmpPx l[j].Prefix p < 0) : cmpPx l[i].Prefix p < 0 :=
  ltP_trans (List.pairwise_iff_getElem.1 h i j (by omega) hj hij) hc
theorem srt_del {l : List GRoute} (h : srt l) (f : GRoute → Bool) : srt (l.filter f) := List.Pairwise.filter f h
theorem srt_put {l : List GRoute} (h : srt l) (r : GRoute) : srt (putR r l) := by
  unfold putR srt
  refine List.pairwise_append.2 ⟨srt_del h _, List.pairwise_cons.2 ⟨fun x hx => ?_, srt_del h _⟩, fun a ha b hb => ?_⟩
  · simpa [highs] using (List.mem_filter.1 hx).2
  · have h1 : cmpPx a.Prefix r.Prefix < 0 := by simpa using (List.mem_filter.1 ha).2
    rcases List.mem_cons.1 hb with rfl | hb
    · exact h1
    · exact ltP_trans h1 (by simpa using (List.mem_filter.1 hb).2)
theorem mem_put {r x : GRoute} {l : List GRoute} (h : x ∈ putR r l) : x = r ∨ x ∈ l := by
  unfold putR lows highs at h
  rcases List.mem_append.1 h with h | h
  · exact .inr (List.mem_filter.1 h).1
  · rcases List.mem_cons.1 h with h | h
    · exact .inl h
    · exact .inr (List.mem_filter.1 h).1
theorem put_len (r : GRoute) {l : List GRoute} (h : srt l) : (putR r l).length ≤ l.length + 1 := by
  obtain ⟨h1, h2, h3, h4, h5, h6⟩ := srt_split r.Prefix l h
  unfold putR
  rw [← h1, ← h2, List.length_append, List.length_cons, List.length_take, List.length_drop]
  split <;> omega
theorem routesG_pw : ∀ (q : Option GRoute) (l : List GRoute), routesG q l = true → srt l ∧ ∀ x ∈ l, adjR q x = true ∧ goodR x = true
  | _, [], _ => by simp [srt]
  | q, x :: l, h => by
    simp only [routesG, Bool.and_eq_true] at h
    obtain ⟨⟨h1, h2⟩, h3⟩ := h
    obtain ⟨g1, g2⟩ := routesG_pw (some x) l h3
    refine ⟨List.pairwise_cons.2 ⟨fun y hy => by simpa [adjR] using (g2 y hy).1, g1⟩, fun y hy => ?_⟩
    rcases List.mem_cons.1 hy with rfl | hy
    · exact ⟨h2, h1⟩
    · refine ⟨?_, (g2 y hy).2⟩
      have h4 := (g2 y hy).1
      cases q with
      | none => rfl
      | some q =>
        simp only [adjR, decide_eq_true_eq] at h2 h4 ⊢
        exact ltP_trans h2 h4
theorem routesG_of : ∀ (q : Option GRoute) (l : List GRoute), srt l → (∀ x ∈ l, goodR x = true) → (∀ x ∈ l, adjR q x = true) → routesG q l = true
  | _, [], _, _, _ => rfl
  | q, x :: l, h, hg, ha => by
    obtain ⟨h1, h2⟩ := List.pairwise_cons.1 h
    simp only [routesG, Bool.and_eq_true]
    exact ⟨⟨hg x (by simp), ha x (by simp)⟩, routesG_of (some x) l h2 (fun y hy => hg y (by simp [hy])) fun y hy => by simpa [adjR] using h1 y hy⟩
def goodL (l : List GRoute) : Prop := srt l ∧ ∀ x ∈ l, goodR x = true
theorem goodRs_L {l : List GRoute} (h : goodRs l = true) : goodL l ∧ l.length ≤ 20 := by
  simp only [goodRs, Bool.and_eq_true, decide_eq_true_eq] at h
  obtain ⟨h1, h2⟩ := routesG_pw none l h.1
  exact ⟨⟨h1, fun x hx => (h2 x hx).2⟩, h.2⟩
theorem goodL_Rs {l : List GRoute} (h : goodL l) : goodRs l = decide (l.length ≤ 20) := by
  simp only [goodRs, routesG_of none l h.1 h.2 (fun _ _ => rfl), Bool.true_and]
end Go.V
