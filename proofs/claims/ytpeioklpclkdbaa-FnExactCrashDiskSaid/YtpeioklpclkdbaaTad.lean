/- What functions of the seat's program do, each proved of its code, under the bounds that its theorem names. -/
import Derived.Test.YtpeioklpclkdbaaTac
set_option linter.all false
namespace Go.V
open Go.Proofs
set_option maxHeartbeats 1000000
set_option maxRecDepth 10000
set_option linter.unusedSimpArgs false
set_option linter.unusedVariables false
theorem ok_toStringS (k : Nat) (xs : List ByteArray) (hwt : wt_StringS xs ≤ 1048576) : CallOK Try.prog 41 [.c (rd k xs.length (xs.map ps))] (.c (.sl 0 9 xs.length (xs.map ps))) [.c (rd k xs.length (xs.map ps))] := by
  have hl := len_wt_StringS xs
  refine okS (fn := Try.f41) [] h0 Try.func41 (by kernel_rfl) rfl Try.ntmps41 Try.results41 (by simp) ?_
  have hb1 : (xs.length : Int) ≤ 281474976710656 := by omega
  have hb2 : 16 * (xs.length : Int) ≤ 281474976710656 := by omega
  simp [hb1, hb2]
  refine loopS [0, 3, 4] [.op 1 2 0] (fun n st => ∃ (i : Nat), i + n = xs.length ∧ st = ⟨slOf 22 [(0, .t (rd k xs.length (xs.map ps))), (3, .ref ⟨.op 1 2 0, []⟩ 0 xs.length), (4, .t (pi i))], ofL [(.op 1 2 0, .sl 0 9 xs.length (((xs.take i).map ps) ++ List.replicate n (.raw (.string ByteArray.empty))))]⟩) xs.length ?_ ?_
  · rintro Inv hI
    simp
    subst hI
    exact ⟨0, by omega, by simp⟩
  · rintro Inv hI n st ⟨i, hi, rfl⟩
    have hA := map_take_len ps xs i (by omega)
    generalize hAe : ((xs.take i).map ps) = A at hA ⊢
    refine ewr_sound (M := []) h0 ?_
    simp
    refine brn_app (fun h => ?_) (fun h => ?_)
    · simp at h
      obtain ⟨m, rfl⟩ : ∃ m, n = m + 1 := ⟨n - 1, by omega⟩
      simp [h, hA, List.replicate_succ]
      have e3 : ((xs.take (i + 1)).map ps) = A ++ [ps xs[i]] := by rw [take_step xs i h, List.map_append, hAe]; rfl
      subst hI
      refine Less_mk m (by omega) ⟨i + 1, by omega, ?_⟩
      rw [wrNext i (by omega), e3, List.append_assoc]
      all_goals rfl
    · simp at h
      have hn : n = 0 := by omega
      subst hn
      have ht : List.take i xs = xs := List.take_of_length_le (by omega)
      have ht2 : List.take (xs.length) (xs.map ps) = (xs.map ps) := List.take_of_length_le (by simp)
      rw [← hAe, ht]
      simp [ht2]
theorem ok_toWrite (x : GWrite) : CallOK Try.prog 97 [.agg (GWrite.c x)] (.agg (GWrite.c x)) [.agg (GWrite.c x)] := by
  refine okS (fn := Try.f97) [] h0 Try.func97 (by kernel_rfl) rfl Try.ntmps97 Try.results97 (by simp) ?_
  simp
theorem ok_toWriteS (k : Nat) (xs : List GWrite) (hwt : wt_WriteS xs ≤ 1048576) : CallOK Try.prog 60 [.c (rd k xs.length (xs.flatMap GWrite.c))] (.c (.sl 0 66 xs.length (xs.flatMap GWrite.c))) [.c (rd k xs.length (xs.flatMap GWrite.c))] := by
  have hl := len_wt_WriteS xs
  refine okS (fn := Try.f60) [] h0 Try.func60 (by kernel_rfl) rfl Try.ntmps60 Try.results60 (by simp) ?_
  have hb1 : (xs.length : Int) ≤ 281474976710656 := by omega
  have hb2 : 24 * (xs.length : Int) ≤ 281474976710656 := by omega
  simp [hb1, hb2]
  refine loopS [0, 3, 4] [.op 1 2 0] (fun n st => ∃ (i : Nat), i + n = xs.length ∧ st = ⟨slOf 23 [(0, .t (rd k xs.length (xs.flatMap GWrite.c))), (3, .ref ⟨.op 1 2 0, []⟩ 0 xs.length), (4, .t (pi i))], ofL [(.op 1 2 0, .sl 0 66 xs.length (((xs.take i).flatMap GWrite.c) ++ (List.replicate n [.raw (.int .i64 0), .raw (.string ByteArray.empty)]).flatten))]⟩) xs.length ?_ ?_
  · rintro Inv hI
    simp
    subst hI
    exact ⟨0, by omega, by simp⟩
  · rintro Inv hI n st ⟨i, hi, rfl⟩
    have hA := fm_take_len GWrite.c 2 (fun _ => rfl) xs i (by omega)
    generalize hAe : ((xs.take i).flatMap GWrite.c) = A at hA ⊢
    refine ewr_sound (M := []) h0 ?_
    simp
    refine brn_app (fun h => ?_) (fun h => ?_)
    · simp at h
      obtain ⟨m, rfl⟩ : ∃ m, n = m + 1 := ⟨n - 1, by omega⟩
      have hd := fm_drop GWrite.c 2 (fun _ => rfl) xs i h
      have hlen := fm_len GWrite.c 2 (fun _ => rfl) xs
      have hlt : i * 2 < xs.length * 2 := by omega
      simp [h, hd, hlen, hlt]
      refine Inv_intro (ok_toWrite xs[i]) ?_
      simp [h, hA, List.replicate_succ]
      have e3 : ((xs.take (i + 1)).flatMap GWrite.c) = A ++ GWrite.c xs[i] := by rw [take_step xs i h, List.flatMap_append, hAe, List.flatMap_cons, List.flatMap_nil, List.append_nil]
      subst hI
      refine Less_mk m (by omega) ⟨i + 1, by omega, ?_⟩
      rw [wrNext i (by omega), e3, List.append_assoc]
      all_goals rfl
    · simp at h
      have hn : n = 0 := by omega
      subst hn
      have ht : List.take i xs = xs := List.take_of_length_le (by omega)
      have ht2 : List.take (xs.length * 2) (xs.flatMap GWrite.c) = (xs.flatMap GWrite.c) := List.take_of_length_le (by rw [fm_len GWrite.c 2 (fun _ => rfl)]; exact Nat.le_refl _)
      have hlo := fm_len GWrite.c 2 (fun _ => rfl) xs
      rw [← hAe, ht]
      simp [ht2, hlo, -List.length_flatMap]
theorem ok_toDisk (k : Nat) (x : GDisk) (hwt : GDisk.wt x ≤ 1048576) : CallOK Try.prog 15 [.agg (GDisk.ci k x)] (.agg (GDisk.co x)) [.agg (GDisk.ci k x)] := by
  unfold GDisk.wt at hwt
  refine okS (fn := Try.f15) [] h0 Try.func15 (by kernel_rfl) rfl Try.ntmps15 Try.results15 (by simp) ?_
  simp
  refine Inv_intro (ok_toStringS k x.Sectors (by omega)) ?_
  simp
  refine Inv_intro (ok_toWriteS k x.Waiting (by omega)) ?_
  simp
theorem ok_FnExactCrashDisk (v0 : GDisk) (v1 : (List Bool)) (f0 : GDisk.fits v0) (f1 : fits_BoolS v1) : CallOK Try.prog 7 [.agg (GDisk.ci 1 v0), .c (rd 1 v1.length (v1.map pb))] (.c (pb true)) [.agg (GDisk.ci 1 v0), .c (rd 1 v1.length (v1.map pb))] := by
  refine okS (fn := Try.f7) [(30, [1,0]), (20, [1,0])] h0 Try.func7 (by kernel_rfl) rfl Try.ntmps7 Try.results7 (by simp) ?_
  simp
  refine brn_app (fun b0 => ?_) (fun b0 => ?_)
  · simp
  · simp at b0
    have hv1 : wt_BoolS v1 ≤ 1048576 := by unfold wt_BoolS; omega
    simp
    refine Inv_intro (ok_szDisk 1 v0 _ (by omega) (by omega) f0) ?_
    simp
    refine brn_app (fun b1 => ?_) (fun b1 => ?_)
    · simp
    · simp at b1
      have e1 := szr_ge (szr_ge0 b1)
      have d1 := szr_ge0 b1
      simp
      have hv0 : GDisk.wt v0 ≤ 1048576 := by omega
      have hlp0 : GDisk.lens v0 := lens_of_Disk hv0
      have hcp0 := cn_le_Disk v0
      have hlp1 : lens_BoolS v1 := lens_of_BoolS hv1
      have hcp1 := cn_le_BoolS v1
      have hrr := rCrashDisk_ok v0 v1 hv0 hv1
      obtain ⟨hlr0, hcr0⟩ := hrr
      refine Inv_intro (ok_toDisk 1 v0 hv0) ?_
      simp
      refine Inv_intro (ok_toBoolS 1 v1 hv1) ?_
      simp
      refine Inv_intro (law_sCrashDisk v0 v1 hv0 hv1) ?_
      simp
      refine Inv_intro (ok_toDisk 1 v0 hv0) ?_
      simp
      refine Inv_intro (ok_toBoolS 1 v1 hv1) ?_
      simp
      refine Inv_intro (law_iCrashDisk v0 v1 hv0 hv1) ?_
      simp
      refine Inv_intro (ok_eqDisk 0 0 ((rCrashDisk v0 v1).1) ((rCrashDisk v0 v1).1) hlr0 hlr0) ?_
      simp
      refine drawS (tabEnv [] _) [⟨[.op 8 2 0], [52, 53, 54, 55, 56], true⟩, ⟨[.op 0 0 0], [52, 53, 54, 55, 56], true⟩, ⟨[], [52, 53, 54, 55, 56], false⟩, ⟨[.op 8 2 0, .op 13 2 0, .op 13 2 1], [52, 53, 54, 55, 56], false⟩, ⟨[], [52, 53, 54, 55, 56], true⟩] h0 hm (tabEnv_ok (tab_cons (ok_toDisk 1 v0 hv0) (tab_cons (ok_eqDisk 0 0 (v0) (v0) hlp0 hlp0) tab_nil))) (by kernel_rfl) (by kernel_rfl) ?_
      simp
      refine Inv_intro (ok_toBoolS 1 v1 hv1) ?_
      simp
      refine Inv_intro (ok_eqBoolS 0 0 (v1) (v1) hlp1 hlp1) ?_
      simp
      have hm0 := GDisk.markT_snd (v0) (1)
      have hn0 : ¬ (GDisk.markT (v0) (1)).2 < 0 := by omega
      refine Inv_intro (ok_markDisk (v0) (1) hlp0 (by omega) (by omega)) ?_
      simp [hn0]
      have hm1 := mk_BoolS_snd (v1) ((GDisk.markT (v0) (1)).2)
      have hn1 : ¬ (mk_BoolS (v1) ((GDisk.markT (v0) (1)).2)).2 < 0 := by omega
      refine Inv_intro (ok_markBoolS (v1) ((GDisk.markT (v0) (1)).2) hlp1 (by omega) (by omega)) ?_
      simp [hn0, hn1]
      refine Inv_intro (ok_eqDisk 0 0 ((rCrashDisk v0 v1).1) ((rCrashDisk v0 v1).1) hlr0 hlr0) ?_
      simp [hn0, hn1]
      have hm2 := GDisk.markT_snd ((rCrashDisk v0 v1).1) (1)
      have hn2 : ¬ (GDisk.markT ((rCrashDisk v0 v1).1) (1)).2 < 0 := by omega
      refine Inv_intro (ok_markDisk ((rCrashDisk v0 v1).1) (1) hlr0 (by omega) (by omega)) ?_
      simp [hn0, hn1, hn2]
      refine Inv_intro (ok_heldDisk 0 ((rCrashDisk v0 v1).1) (1) hlr0 (by omega) (by omega)) ?_
      simp [hn0, hn1, hn2]
      refine Inv_intro (ok_toDisk 1 v0 hv0) ?_
      simp [hn0, hn1, hn2]
      refine Inv_intro (ok_toBoolS 1 v1 hv1) ?_
      simp [hn0, hn1, hn2]
      refine Inv_intro (law_iCrashDisk v0 v1 hv0 hv1) ?_
      simp [hn0, hn1, hn2]
      refine Inv_intro (ok_eqDisk 0 0 ((rCrashDisk v0 v1).1) ((rCrashDisk v0 v1).1) hlr0 hlr0) ?_
      simp [hn0, hn1, hn2]
      refine Inv_intro (ok_heldDisk 0 ((rCrashDisk v0 v1).1) (1) hlr0 (by omega) (by omega)) ?_
      simp [hn0, hn1, hn2]
end Go.V
