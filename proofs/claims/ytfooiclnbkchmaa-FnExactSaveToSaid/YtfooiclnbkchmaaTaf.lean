/- What functions of the seat's program do, each proved of its code, under the bounds that its theorem names. -/
import Derived.Test.YtfooiclnbkchmaaTae
set_option linter.all false
namespace Go.V
open Go.Proofs
set_option maxHeartbeats 1000000
set_option maxRecDepth 10000
set_option linter.unusedSimpArgs false
set_option linter.unusedVariables false
theorem ok_toWriteS (k : Nat) (xs : List GWrite) (hwt : wt_WriteS xs ≤ 1048576) : CallOK Try.prog 55 [.c (rd k xs.length (xs.flatMap GWrite.c))] (.c (.sl 0 61 xs.length (xs.flatMap GWrite.c))) [.c (rd k xs.length (xs.flatMap GWrite.c))] := by
  have hl := len_wt_WriteS xs
  refine okS (fn := Try.f55) [] h0 Try.func55 (by kernel_rfl) rfl Try.ntmps55 Try.results55 (by simp) ?_
  have hb1 : (xs.length : Int) ≤ 281474976710656 := by omega
  have hb2 : 24 * (xs.length : Int) ≤ 281474976710656 := by omega
  simp [hb1, hb2]
  refine loopS [0, 3, 4] [.op 1 2 0] (fun n st => ∃ (i : Nat), i + n = xs.length ∧ st = ⟨slOf 23 [(0, .t (rd k xs.length (xs.flatMap GWrite.c))), (3, .ref ⟨.op 1 2 0, []⟩ 0 xs.length), (4, .t (pi i))], ofL [(.op 1 2 0, .sl 0 61 xs.length (((xs.take i).flatMap GWrite.c) ++ (List.replicate n [.raw (.int .i64 0), .raw (.string ByteArray.empty)]).flatten))]⟩) xs.length ?_ ?_
  · rintro Inv hI
    simp
    subst hI
    exact ⟨0, by omega, by simp⟩
  · rintro Inv hI n st ⟨i, hi, rfl⟩
    have hA := fm_take_len GWrite.c 2 (fun _ => rfl) xs i (by omega)
    generalize hAe : ((xs.take i).flatMap GWrite.c) = A at hA ⊢
    refine ewr_sound (M := []) h0 ?_
    simp
    refine brn_app (fun h => ?_) (fun h => ?_)
    · simp at h
      obtain ⟨m, rfl⟩ : ∃ m, n = m + 1 := ⟨n - 1, by omega⟩
      have hd := fm_drop GWrite.c 2 (fun _ => rfl) xs i h
      have hlen := fm_len GWrite.c 2 (fun _ => rfl) xs
      have hlt : i * 2 < xs.length * 2 := by omega
      simp [h, hd, hlen, hlt]
      refine Inv_intro (ok_toWrite xs[i]) ?_
      simp [h, hA, List.replicate_succ]
      have e3 : ((xs.take (i + 1)).flatMap GWrite.c) = A ++ GWrite.c xs[i] := by rw [take_step xs i h, List.flatMap_append, hAe, List.flatMap_cons, List.flatMap_nil, List.append_nil]
      subst hI
      refine Less_mk m (by omega) ⟨i + 1, by omega, ?_⟩
      rw [wrNext i (by omega), e3, List.append_assoc]
      all_goals rfl
    · simp at h
      have hn : n = 0 := by omega
      subst hn
      have ht : List.take i xs = xs := List.take_of_length_le (by omega)
      have ht2 : List.take (xs.length * 2) (xs.flatMap GWrite.c) = (xs.flatMap GWrite.c) := List.take_of_length_le (by rw [fm_len GWrite.c 2 (fun _ => rfl)]; exact Nat.le_refl _)
      have hlo := fm_len GWrite.c 2 (fun _ => rfl) xs
      rw [← hAe, ht]
      simp [ht2, hlo, -List.length_flatMap]
theorem ok_toDisk (k : Nat) (x : GDisk) (hwt : GDisk.wt x ≤ 1048576) : CallOK Try.prog 11 [.agg (GDisk.ci k x)] (.agg (GDisk.co x)) [.agg (GDisk.ci k x)] := by
  unfold GDisk.wt at hwt
  refine okS (fn := Try.f11) [] h0 Try.func11 (by kernel_rfl) rfl Try.ntmps11 Try.results11 (by simp) ?_
  simp
  refine Inv_intro (ok_toStringS k x.Sectors (by omega)) ?_
  simp
  refine Inv_intro (ok_toWriteS k x.Waiting (by omega)) ?_
  simp
theorem ok_FnExactSaveTo (v0 : GDisk) (v1 : ByteArray) (v2 : Int) (f0 : GDisk.fits v0) (f1 : v1.size ≤ 140737488351232) : CallOK Try.prog 6 [.agg (GDisk.ci 1 v0), .c (ps v1), .c (pi v2)] (.c (pb true)) [.agg (GDisk.ci 1 v0), .c (ps v1), .c (pi v2)] := by
  refine okS (fn := Try.f6) [(17, [1,0])] h0 Try.func6 (by kernel_rfl) rfl Try.ntmps6 Try.results6 (by simp) ?_
  simp
  refine brn_app (fun b0 => ?_) (fun b0 => ?_)
  · simp
  · simp at b0
    have hv1 : v1.size ≤ 1048576 := by omega
    simp
    refine Inv_intro (ok_szDisk 1 v0 _ (by omega) (by omega) f0) ?_
    simp
    refine brn_app (fun b1 => ?_) (fun b1 => ?_)
    · simp
    · simp at b1
      have e1 := szr_ge (szr_ge0 b1)
      have d1 := szr_ge0 b1
      simp
      have hv0 : GDisk.wt v0 ≤ 1048576 := by omega
      have hlp0 : GDisk.lens v0 := lens_of_Disk hv0
      have hcp0 := cn_le_Disk v0
      have hrr := rSaveTo_ok v0 v1 v2 hv0 hv1
      obtain ⟨hlr0, hcr0⟩ := hrr
      refine Inv_intro (ok_toDisk 1 v0 hv0) ?_
      simp
      refine Inv_intro (law_sSaveTo v0 v1 v2 hv0 hv1) ?_
      simp
      refine Inv_intro (ok_toDisk 1 v0 hv0) ?_
      simp
      refine Inv_intro (law_iSaveTo v0 v1 v2 hv0 hv1) ?_
      simp
      refine Inv_intro (ok_eqDisk 0 0 ((rSaveTo v0 v1 v2).1) ((rSaveTo v0 v1 v2).1) hlr0 hlr0) ?_
      simp
      refine drawP (tabEnv [] _) [⟨[.op 8 2 0], allD 109, true⟩, ⟨[.op 0 0 0], allD 109, true⟩, ⟨[], allD 109, false⟩, ⟨[.op 8 2 0, .op 12 2 0, .op 12 2 1], [52, 53, 54, 55, 56], false⟩, ⟨[], allD 109, true⟩] h0 hm (tabEnv_ok (tab_cons (ok_toDisk 1 v0 hv0) (tab_cons (ok_eqDisk 0 0 (v0) (v0) hlp0 hlp0) tab_nil))) (by kernel_rfl) (by kernel_rfl) ?_
      simp
      have hm0 := GDisk.markT_snd (v0) (1)
      have hn0 : ¬ (GDisk.markT (v0) (1)).2 < 0 := by omega
      refine Inv_intro (ok_markDisk (v0) (1) hlp0 (by omega) (by omega)) ?_
      simp [hn0]
      refine Inv_intro (ok_eqDisk 0 0 ((rSaveTo v0 v1 v2).1) ((rSaveTo v0 v1 v2).1) hlr0 hlr0) ?_
      simp [hn0]
      have hm1 := GDisk.markT_snd ((rSaveTo v0 v1 v2).1) (1)
      have hn1 : ¬ (GDisk.markT ((rSaveTo v0 v1 v2).1) (1)).2 < 0 := by omega
      refine Inv_intro (ok_markDisk ((rSaveTo v0 v1 v2).1) (1) hlr0 (by omega) (by omega)) ?_
      simp [hn0, hn1]
      refine Inv_intro (ok_heldDisk 0 ((rSaveTo v0 v1 v2).1) (1) hlr0 (by omega) (by omega)) ?_
      simp [hn0, hn1]
      refine Inv_intro (ok_toDisk 1 v0 hv0) ?_
      simp [hn0, hn1]
      refine Inv_intro (law_iSaveTo v0 v1 v2 hv0 hv1) ?_
      simp [hn0, hn1]
      refine Inv_intro (ok_eqDisk 0 0 ((rSaveTo v0 v1 v2).1) ((rSaveTo v0 v1 v2).1) hlr0 hlr0) ?_
      simp [hn0, hn1]
      refine Inv_intro (ok_heldDisk 0 ((rSaveTo v0 v1 v2).1) (1) hlr0 (by omega) (by omega)) ?_
      simp [hn0, hn1]
end Go.V
