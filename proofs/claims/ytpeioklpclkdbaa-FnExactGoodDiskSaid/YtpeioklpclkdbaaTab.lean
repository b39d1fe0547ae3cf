/- What functions of the seat's program do, each proved of its code, under the bounds that its theorem names. -/
import Derived.Test.YtpeioklpclkdbaaTaa
set_option linter.all false
namespace Go.V
open Go.Proofs
set_option maxHeartbeats 1000000
set_option maxRecDepth 10000
set_option linter.unusedSimpArgs false
set_option linter.unusedVariables false
theorem ok_szWrite (x : GWrite) (left : Int) (h1 : 0 ≤ left) (h2 : left ≤ 1048576) (hf : GWrite.fits x) : CallOK Try.prog 96 [.agg (GWrite.c x), .c (pi left)] (.c (pi (szr left (GWrite.wt x)))) [.agg (GWrite.c x), .c (pi left)] := by
  simp only [GWrite.fits] at hf
  have hf0 := hf
  refine okS (fn := Try.f96) [] h0 Try.func96 (by kernel_rfl) rfl Try.ntmps96 Try.results96 (by simp) ?_
  have hw0 : IntKind.wrap .i64 (left - x.Data.size) = left - x.Data.size := wrap64 (by omega) (by omega)
  simp [hw0]
  refine brn_app (fun a0 => ?_) (fun a0 => ?_)
  · simp at a0
    have e : szr left (GWrite.wt x) = -1 := szr_neg (by unfold GWrite.wt; omega)
    simp [e]
  · simp at a0
    have e : szr left (GWrite.wt x) = left - x.Data.size := by
      rw [szr_ge (by unfold GWrite.wt; omega)]
      unfold GWrite.wt
      omega
    simp [e]
theorem ok_szWriteS (k : Nat) (xs : List GWrite) (left : Int) (h1 : 0 ≤ left) (h2 : left ≤ 1048576) (hf : fits_WriteS xs) : CallOK Try.prog 58 [.c (rd k xs.length (xs.flatMap GWrite.c)), .c (pi left)] (.c (pi (szr left (wt_WriteS xs)))) [.c (rd k xs.length (xs.flatMap GWrite.c)), .c (pi left)] := by
  obtain ⟨hl, hx⟩ := hf
  refine okS (fn := Try.f58) [] h0 Try.func58 (by kernel_rfl) rfl Try.ntmps58 Try.results58 (by simp) ?_
  have hw : IntKind.wrap .i64 (left - xs.length) = left - xs.length := wrap64 (by omega) (by omega)
  have hwl := len_wt_WriteS xs
  simp [hw]
  refine brn_app (fun h => ?_) (fun h => ?_)
  · simp at h
    have e1 : szr left (wt_WriteS xs) = -1 := szr_neg (by omega)
    simp [e1]
  · simp at h
    simp
    refine loopS [0, 1, 5] [] (fun n st => ∃ (i : Nat) (m : Int), i + n = xs.length ∧ 0 ≤ m ∧ m ≤ 1048576 ∧ szr m (((xs.drop i).map GWrite.wt).sum) = szr left (wt_WriteS xs) ∧ st = ⟨slOf 27 [(0, .t (rd k xs.length (xs.flatMap GWrite.c))), (1, .t (pi m)), (5, .t (pi i))], ofL []⟩) xs.length ?_ ?_
    · rintro Inv hI
      simp
      subst hI
      exact ⟨0, left - xs.length, by omega, by omega, by omega, by rw [List.drop_zero, wt_WriteS, wtR, szr_add (by omega)], rfl⟩
    · rintro Inv hI n st ⟨i, m, hi, hm1, hm2, hg, rfl⟩
      refine ewr_sound (M := []) h0 ?_
      simp
      refine brn_app (fun h3 => ?_) (fun h3 => ?_)
      · simp at h3
        have hxi := hx xs[i] (List.getElem_mem h3)
        rw [drop_step xs i h3, List.map_cons, List.sum_cons] at hg
        have hd := fm_drop GWrite.c 2 (fun _ => rfl) xs i h3
        have hlen := fm_len GWrite.c 2 (fun _ => rfl) xs
        have hlt : i * 2 < xs.length * 2 := by omega
        simp [h3, hd, hlen, hlt]
        refine Inv_intro (ok_szWrite xs[i] m hm1 hm2 hxi) ?_
        simp
        refine brn_app (fun h4 => ?_) (fun h4 => ?_)
        · simp at h4
          have h5 := szr_lt0 h4 hm1
          rw [szr_add_neg h5] at hg
          simp [← hg]
        · simp at h4
          have h5 := szr_ge0 h4
          have e5 := szr_ge h5
          rw [szr_add h5, ← e5] at hg
          simp
          subst hI
          exact Less_mk (n - 1) (by omega) ⟨i + 1, szr m (GWrite.wt xs[i]), by omega, by omega, by omega, hg, by rw [wrNext i (by omega)]⟩
      · simp at h3
        rw [List.drop_of_length_le (by omega), List.map_nil, List.sum_nil, szr_zero hm1] at hg
        simp [hg]
theorem ok_szDisk (k : Nat) (x : GDisk) (left : Int) (h1 : 0 ≤ left) (h2 : left ≤ 1048576) (hf : GDisk.fits x) : CallOK Try.prog 13 [.agg (GDisk.ci k x), .c (pi left)] (.c (pi (szr left (GDisk.wt x)))) [.agg (GDisk.ci k x), .c (pi left)] := by
  simp only [GDisk.fits] at hf
  obtain ⟨hf0, hf1⟩ := hf
  refine okS (fn := Try.f13) [] h0 Try.func13 (by kernel_rfl) rfl Try.ntmps13 Try.results13 (by simp) ?_
  simp
  refine Inv_intro (ok_szStringS k x.Sectors (left) (by omega) (by omega) hf0) ?_
  simp
  refine brn_app (fun a0 => ?_) (fun a0 => ?_)
  · simp at a0
    have b0 := szr_lt0 a0 (by omega)
    have e : szr left (GDisk.wt x) = -1 := szr_neg (by unfold GDisk.wt; omega)
    simp [e]
  · simp at a0
    have b0 := szr_ge0 a0
    have e0 := szr_ge b0
    simp only [e0]
    simp
    refine Inv_intro (ok_szWriteS k x.Waiting (left - (wt_StringS x.Sectors : Nat)) (by omega) (by omega) hf1) ?_
    simp
    refine brn_app (fun a1 => ?_) (fun a1 => ?_)
    · simp at a1
      have b1 := szr_lt0 a1 (by omega)
      have e : szr left (GDisk.wt x) = -1 := szr_neg (by unfold GDisk.wt; omega)
      simp [e]
    · simp at a1
      have b1 := szr_ge0 a1
      have e1 := szr_ge b1
      simp only [e1]
      have e : szr left (GDisk.wt x) = left - (wt_StringS x.Sectors : Nat) - (wt_WriteS x.Waiting : Nat) := by
        rw [szr_ge (by unfold GDisk.wt; omega)]
        unfold GDisk.wt
        omega
      simp [e]
theorem ok_toStringS (k : Nat) (xs : List ByteArray) (hwt : wt_StringS xs ≤ 1048576) : CallOK Try.prog 41 [.c (rd k xs.length (xs.map ps))] (.c (.sl 0 9 xs.length (xs.map ps))) [.c (rd k xs.length (xs.map ps))] := by
  have hl := len_wt_StringS xs
  refine okS (fn := Try.f41) [] h0 Try.func41 (by kernel_rfl) rfl Try.ntmps41 Try.results41 (by simp) ?_
  have hb1 : (xs.length : Int) ≤ 281474976710656 := by omega
  have hb2 : 16 * (xs.length : Int) ≤ 281474976710656 := by omega
  simp [hb1, hb2]
  refine loopS [0, 3, 4] [.op 1 2 0] (fun n st => ∃ (i : Nat), i + n = xs.length ∧ st = ⟨slOf 22 [(0, .t (rd k xs.length (xs.map ps))), (3, .ref ⟨.op 1 2 0, []⟩ 0 xs.length), (4, .t (pi i))], ofL [(.op 1 2 0, .sl 0 9 xs.length (((xs.take i).map ps) ++ List.replicate n (.raw (.string ByteArray.empty))))]⟩) xs.length ?_ ?_
  · rintro Inv hI
    simp
    subst hI
    exact ⟨0, by omega, by simp⟩
  · rintro Inv hI n st ⟨i, hi, rfl⟩
    have hA := map_take_len ps xs i (by omega)
    generalize hAe : ((xs.take i).map ps) = A at hA ⊢
    refine ewr_sound (M := []) h0 ?_
    simp
    refine brn_app (fun h => ?_) (fun h => ?_)
    · simp at h
      obtain ⟨m, rfl⟩ : ∃ m, n = m + 1 := ⟨n - 1, by omega⟩
      simp [h, hA, List.replicate_succ]
      have e3 : ((xs.take (i + 1)).map ps) = A ++ [ps xs[i]] := by rw [take_step xs i h, List.map_append, hAe]; rfl
      subst hI
      refine Less_mk m (by omega) ⟨i + 1, by omega, ?_⟩
      rw [wrNext i (by omega), e3, List.append_assoc]
      rfl
    · simp at h
      have hn : n = 0 := by omega
      subst hn
      have ht : List.take i xs = xs := List.take_of_length_le (by omega)
      have ht2 : List.take (xs.length) (xs.map ps) = (xs.map ps) := List.take_of_length_le (by simp)
      rw [← hAe, ht]
      simp [ht2]
theorem ok_toWrite (x : GWrite) : CallOK Try.prog 97 [.agg (GWrite.c x)] (.agg (GWrite.c x)) [.agg (GWrite.c x)] := by
  refine okS (fn := Try.f97) [] h0 Try.func97 (by kernel_rfl) rfl Try.ntmps97 Try.results97 (by simp) ?_
  simp
theorem ok_toWriteS (k : Nat) (xs : List GWrite) (hwt : wt_WriteS xs ≤ 1048576) : CallOK Try.prog 60 [.c (rd k xs.length (xs.flatMap GWrite.c))] (.c (.sl 0 66 xs.length (xs.flatMap GWrite.c))) [.c (rd k xs.length (xs.flatMap GWrite.c))] := by
  have hl := len_wt_WriteS xs
  refine okS (fn := Try.f60) [] h0 Try.func60 (by kernel_rfl) rfl Try.ntmps60 Try.results60 (by simp) ?_
  have hb1 : (xs.length : Int) ≤ 281474976710656 := by omega
  have hb2 : 24 * (xs.length : Int) ≤ 281474976710656 := by omega
  simp [hb1, hb2]
  refine loopS [0, 3, 4] [.op 1 2 0] (fun n st => ∃ (i : Nat), i + n = xs.length ∧ st = ⟨slOf 23 [(0, .t (rd k xs.length (xs.flatMap GWrite.c))), (3, .ref ⟨.op 1 2 0, []⟩ 0 xs.length), (4, .t (pi i))], ofL [(.op 1 2 0, .sl 0 66 xs.length (((xs.take i).flatMap GWrite.c) ++ (List.replicate n [.raw (.int .i64 0), .raw (.string ByteArray.empty)]).flatten))]⟩) xs.length ?_ ?_
  · rintro Inv hI
    simp
    subst hI
    exact ⟨0, by omega, by simp⟩
  · rintro Inv hI n st ⟨i, hi, rfl⟩
    have hA := fm_take_len GWrite.c 2 (fun _ => rfl) xs i (by omega)
    generalize hAe : ((xs.take i).flatMap GWrite.c) = A at hA ⊢
    refine ewr_sound (M := []) h0 ?_
    simp
    refine brn_app (fun h => ?_) (fun h => ?_)
    · simp at h
      obtain ⟨m, rfl⟩ : ∃ m, n = m + 1 := ⟨n - 1, by omega⟩
      have hd := fm_drop GWrite.c 2 (fun _ => rfl) xs i h
      have hlen := fm_len GWrite.c 2 (fun _ => rfl) xs
      have hlt : i * 2 < xs.length * 2 := by omega
      simp [h, hd, hlen, hlt]
      refine Inv_intro (ok_toWrite xs[i]) ?_
      simp [h, hA, List.replicate_succ]
      have e3 : ((xs.take (i + 1)).flatMap GWrite.c) = A ++ GWrite.c xs[i] := by rw [take_step xs i h, List.flatMap_append, hAe, List.flatMap_cons, List.flatMap_nil, List.append_nil]
      subst hI
      refine Less_mk m (by omega) ⟨i + 1, by omega, ?_⟩
      rw [wrNext i (by omega), e3, List.append_assoc]
      rfl
    · simp at h
      have hn : n = 0 := by omega
      subst hn
      have ht : List.take i xs = xs := List.take_of_length_le (by omega)
      have ht2 : List.take (xs.length * 2) (xs.flatMap GWrite.c) = (xs.flatMap GWrite.c) := List.take_of_length_le (by rw [fm_len GWrite.c 2 (fun _ => rfl)]; exact Nat.le_refl _)
      have hlo := fm_len GWrite.c 2 (fun _ => rfl) xs
      rw [← hAe, ht]
      simp [ht2, hlo, -List.length_flatMap]
theorem ok_toDisk (k : Nat) (x : GDisk) (hwt : GDisk.wt x ≤ 1048576) : CallOK Try.prog 15 [.agg (GDisk.ci k x)] (.agg (GDisk.co x)) [.agg (GDisk.ci k x)] := by
  unfold GDisk.wt at hwt
  refine okS (fn := Try.f15) [] h0 Try.func15 (by kernel_rfl) rfl Try.ntmps15 Try.results15 (by simp) ?_
  simp
  refine Inv_intro (ok_toStringS k x.Sectors (by omega)) ?_
  simp
  refine Inv_intro (ok_toWriteS k x.Waiting (by omega)) ?_
  simp
theorem ok_l1In (n lo hi : Int) : CallOK Try.prog 59 [.c (pi n), .c (pi lo), .c (pi hi)] (.c (pb (decide (lo ≤ n ∧ n ≤ hi)))) [.c (pi n), .c (pi lo), .c (pi hi)] := by
  refine okS (fn := Try.f59) [] h0 Try.func59 (by kernel_rfl) rfl Try.ntmps59 Try.results59 (by simp) ?_
  simp
  refine gT (fun h => ?_) (fun h => ?_) <;> simp [h]
theorem ok_sGoodDisk (k : Nat) (d : GDisk) (h1 : d.Sectors.length ≤ 140737488351232) (h2 : d.Waiting.length ≤ 140737488351232) : CallOK Try.prog 14 [.agg (d.ci k)] (.c (pb (goodDisk d))) [.agg (d.ci k)] := by
  refine okS (fn := Try.f14) [] h0 Try.func14 (by kernel_rfl) rfl Try.ntmps14 Try.results14 (by simp) ?_
  simp
  refine loopS [1, 8, 9, 10] [.op 0 0 0] (fun n st => ∃ (i : Nat), i + n = d.Sectors.length ∧ (d.Sectors.drop i).all (fun s => decide (s.size ≤ 20)) = d.Sectors.all (fun s => decide (s.size ≤ 20)) ∧ st = ⟨slOf 46 [(1, .ptr ⟨.op 0 0 0, []⟩ 0), (8, .t (rd k d.Sectors.length (d.Sectors.map ps))), (9, .t (pi d.Sectors.length)), (10, .t (pi i))], ofL [(.op 0 0 0, .sl 0 30 1 (d.ci k))]⟩) d.Sectors.length ?_ ?_
  · rintro Inv hI
    simp
    subst hI
    exact ⟨0, by omega, rfl, rfl⟩
  · rintro Inv hI n st ⟨i, hi, hall, rfl⟩
    refine ewr_sound (M := []) h0 ?_
    simp
    refine brn_app (fun h => ?_) (fun h => ?_)
    · simp at h
      rw [drop_step _ i h, List.all_cons] at hall
      simp [h]
      refine brn_app (fun a => ?_) (fun a => ?_)
      · simp
        simp at a
        have a' : ¬ (d.Sectors[i].size ≤ 20) := by omega
        rw [decide_eq_false a', Bool.false_and] at hall
        simp [goodDisk, ← hall]
      · simp
        simp at a
        have a' : d.Sectors[i].size ≤ 20 := by omega
        rw [decide_eq_true a', Bool.true_and] at hall
        subst hI
        exact Less_mk (n - 1) (by omega) ⟨i + 1, by omega, hall, by rw [wrNext i (by omega)]; rfl⟩
    · simp at h
      rw [List.drop_of_length_le (by omega), List.all_nil] at hall
      simp
      refine loopS [1, 19, 20, 21] [.op 0 0 0] (fun n st => ∃ (i : Nat), i + n = d.Waiting.length ∧ (d.Waiting.drop i).all okWrite = d.Waiting.all okWrite ∧ st = ⟨slOf 46 [(1, .ptr ⟨.op 0 0 0, []⟩ 0), (19, .t (rd k d.Waiting.length (d.Waiting.flatMap GWrite.c))), (20, .t (pi d.Waiting.length)), (21, .t (pi i))], ofL [(.op 0 0 0, .sl 0 30 1 (d.ci k))]⟩) d.Waiting.length ?_ ?_
      · rintro Inv hI
        simp
        subst hI
        exact ⟨0, by omega, rfl, rfl⟩
      · rintro Inv hI n st ⟨i, hi, hall2, rfl⟩
        refine ewr_sound (M := []) h0 ?_
        simp
        refine brn_app (fun h => ?_) (fun h => ?_)
        · simp at h
          rw [drop_step _ i h, List.all_cons] at hall2
          have hd := fm_drop GWrite.c 2 (fun _ => rfl) d.Waiting i h
          have hlt : i * 2 < d.Waiting.length * 2 := by omega
          simp [h, hd, hlt]
          refine Inv_intro (ok_l1In _ _ _) ?_
          simp
          refine gF (fun a => ?_) (fun a => ?_)
          · simp [a]
            refine brn_app (fun b => ?_) (fun b => ?_)
            · simp
              simp at a b
              have hw : okWrite d.Waiting[i] = false := by simp [okWrite]; omega
              rw [hw, Bool.false_and] at hall2
              simp [goodDisk, ← hall2]
            · simp
              simp at a b
              have hw : okWrite d.Waiting[i] = true := by simp [okWrite]; omega
              rw [hw, Bool.true_and] at hall2
              subst hI
              exact Less_mk (n - 1) (by omega) ⟨i + 1, by omega, hall2, by rw [wrNext i (by omega)]; rfl⟩
          · simp [a]
            simp at a
            have hw : okWrite d.Waiting[i] = false := by simp [okWrite]; omega
            rw [hw, Bool.false_and] at hall2
            simp [goodDisk, ← hall2]
        · simp at h
          rw [List.drop_of_length_le (by omega), List.all_nil] at hall2
          simp
          refine gT (fun a => ?_) (fun a => ?_)
          · simp [a]
            simp at a
            have c1 : d.Sectors.length = 10 := by omega
            rw [goodDisk, ← hall, ← hall2]
            simp [c1]
            omega
          · simp [a]
            simp at a
            have c1 : ¬ d.Sectors.length = 10 := by omega
            simp [goodDisk, c1]
theorem ok_FnExactGoodDisk (d : GDisk) (hf : d.fits) : CallOK Try.prog 3 [.agg (d.ci 1)] (.c (pb true)) [.agg (d.ci 1)] := by
  refine okS (fn := Try.f3) [] h0 Try.func3 (by kernel_rfl) rfl Try.ntmps3 Try.results3 (by simp) ?_
  simp
  refine Inv_intro (ok_szDisk 1 d _ (by omega) (by omega) hf) ?_
  simp
  refine brn_app (fun a => ?_) (fun a => ?_)
  · simp
  · simp at a
    have hw := szr_ge0 a
    have hw' : d.wt ≤ 1048576 := by omega
    have hw2 : wt_StringS d.Sectors + wt_WriteS d.Waiting ≤ 1048576 := hw'
    have l1 := len_wt_StringS d.Sectors
    have l2 := len_wt_WriteS d.Waiting
    have hl : d.lens := ⟨⟨by omega, fun _ _ => trivial⟩, ⟨by omega, fun _ _ => trivial⟩⟩
    simp
    refine Inv_intro (ok_toDisk 1 d hw') ?_
    simp
    refine Inv_intro (ok_sGoodDisk 0 d (by omega) (by omega)) ?_
    simp
    refine Inv_intro (ok_toDisk 1 d hw') ?_
    simp
    refine Inv_intro (ok_iGoodDisk 0 d (by omega) (by omega)) ?_
    simp
    refine drawS (tabEnv [] _) [⟨[.op 6 2 0], [22, 23, 24, 25, 26], true⟩, ⟨[.op 0 0 0], [22, 23, 24, 25, 26], true⟩, ⟨[], [22, 23, 24, 25, 26], false⟩, ⟨[.op 6 2 0, .op 10 2 0, .op 10 2 1], [22, 23, 24, 25, 26], false⟩, ⟨[], [22, 23, 24, 25, 26], true⟩] h0 hm (tabEnv_ok (tab_cons (ok_toDisk 1 d hw') (tab_cons (ok_eqDisk 0 0 d d hl hl) tab_nil))) (by kernel_rfl) (by kernel_rfl) ?_
    simp
end Go.V
