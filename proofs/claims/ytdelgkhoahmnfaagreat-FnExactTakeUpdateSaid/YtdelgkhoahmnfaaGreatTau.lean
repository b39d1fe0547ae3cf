/- What functions of the seat's program do, each proved of its code, under the bounds that its theorem names. -/
import Derived.Test.YtdelgkhoahmnfaaGreatTat
set_option linter.all false
namespace Go.V
open Go.Proofs
set_option maxHeartbeats 1000000
set_option maxRecDepth 10000
set_option linter.unusedSimpArgs false
set_option linter.unusedVariables false
theorem law_iTakeUpdate (v0 : GRib) (v1 : Int) (v2 : GUpdate) (h : GRib.wt v0 ≤ 1048576) (h2 : GUpdate.wt v2 ≤ 1048576) : CallOK Tryz.prog 27 [.agg (GRib.ci 0 v0), .c (pi v1), .agg (GUpdate.ci 0 v2)] (.tup [.agg (GRib.co (rTakeUpdate v0 v1 v2).1), .c (.sl 0 77 (rTakeUpdate v0 v1 v2).2.1.length ((rTakeUpdate v0 v1 v2).2.1.flatMap GPrefix.c)), .c (pb (rTakeUpdate v0 v1 v2).2.2)]) [.agg (GRib.ci 0 v0), .c (pi v1), .agg (GUpdate.ci 0 v2)] := ok_iTakeUpdate 0 0 v0 v1 v2 (rib_ok h) (updB_ok (wt_updB h2))
theorem law_sTakeUpdate (v0 : GRib) (v1 : Int) (v2 : GUpdate) (h : GRib.wt v0 ≤ 1048576) (h2 : GUpdate.wt v2 ≤ 1048576) : CallOK Tryz.prog 25 [.agg (GRib.ci 0 v0), .c (pi v1), .agg (GUpdate.ci 0 v2)] (.tup [.agg (GRib.co (rTakeUpdate v0 v1 v2).1), .c (.sl 0 77 (rTakeUpdate v0 v1 v2).2.1.length ((rTakeUpdate v0 v1 v2).2.1.flatMap GPrefix.c)), .c (pb (rTakeUpdate v0 v1 v2).2.2)]) [.agg (GRib.ci 0 v0), .c (pi v1), .agg (GUpdate.ci 0 v2)] := ok_sTakeUpdate 0 0 v0 v1 v2 (rib_ok h) (updB_ok (wt_updB h2))
theorem rTakeUpdate_good (v0 : GRib) (v1 : Int) (v2 : GUpdate) : GRib.wt (rTakeUpdate v0 v1 v2).1 ≤ 2100 ∧ (rTakeUpdate v0 v1 v2).2.1.length ≤ 60 := by
  unfold rTakeUpdate
  split
  · rename_i h
    have h1 := (goodRib_gW h.1).2.1
    have h2 := (goodRib_gW h.2.2.2).2.1
    have hc := changedG_len v0 (takeW v0 v1 v2)
    exact ⟨goodRib_wt h.2.2.2, by simp only; omega⟩
  · exact ⟨wt_zeroRib, Nat.zero_le _⟩
theorem rTakeUpdate_ok (v0 : GRib) (v1 : Int) (v2 : GUpdate) (h : GRib.wt v0 ≤ 1048576) (h2 : GUpdate.wt v2 ≤ 1048576) : (GRib.lens (rTakeUpdate v0 v1 v2).1 ∧ GRib.cnT (rTakeUpdate v0 v1 v2).1 ≤ 33554432) ∧ (lens_PrefixS (rTakeUpdate v0 v1 v2).2.1 ∧ cn_PrefixS (rTakeUpdate v0 v1 v2).2.1 ≤ 33554432) :=
  rib_res (rTakeUpdate_good v0 v1 v2).1 (rTakeUpdate_good v0 v1 v2).2
theorem ok_FnExactTakeUpdate (v0 : GRib) (v1 : Int) (v2 : GUpdate) (f0 : GRib.fits v0) (f2 : GUpdate.fits v2) : CallOK Tryz.prog 5 [.agg (GRib.ci 1 v0), .c (pi v1), .agg (GUpdate.ci 1 v2)] (.c (pb true)) [.agg (GRib.ci 1 v0), .c (pi v1), .agg (GUpdate.ci 1 v2)] := by
  refine okS (fn := Tryz.f5) [(18, [1,0]), (16, [1,0]), (29, [1,0])] h0 Tryz.func5 (by kernel_rfl) rfl Tryz.ntmps5 Tryz.results5 (by simp) ?_
  simp
  refine Inv_intro (ok_szRib 1 v0 _ (by omega) (by omega) f0) ?_
  simp
  refine brn_app (fun b0 => ?_) (fun b0 => ?_)
  · simp
  · simp at b0
    have e0 := szr_ge (szr_ge0 b0)
    have d0 := szr_ge0 b0
    simp
    refine Inv_intro (ok_szUpdate 1 v2 _ (by omega) (by omega) f2) ?_
    simp
    refine brn_app (fun b1 => ?_) (fun b1 => ?_)
    · simp
    · simp at b1
      have e1 := szr_ge (szr_ge0 b1)
      have d1 := szr_ge0 b1
      simp
      have hv0 : GRib.wt v0 ≤ 1048576 := by omega
      have hlp0 : GRib.lens v0 := lens_of_Rib hv0
      have hcp0 := cn_le_Rib v0
      have hv2 : GUpdate.wt v2 ≤ 1048576 := by omega
      have hlp2 : GUpdate.lens v2 := lens_of_Update hv2
      have hcp2 := cn_le_Update v2
      refine drawP (tabEnv [] _) [⟨[.op 0 0 0], allD 161, true⟩, ⟨[], allD 161, false⟩, ⟨[], allD 161, true⟩, ⟨[.op 0 1 0], allD 161, true⟩, ⟨[], allD 161, false⟩, ⟨[.op 8 1 1, .op 8 4 0, .op 8 4 2, .op 8 4 6, .op 8 4 7], [33, 34, 35, 36, 37, 38, 32, 39, 40, 41, 8, 9, 10], false⟩, ⟨[.op 8 5 1, .op 8 5 2], allD 161, true⟩, ⟨[.op 8 5 1], allD 161, true⟩, ⟨[.op 8 5 2], allD 161, true⟩, ⟨[], allD 161, true⟩, ⟨[], allD 161, false⟩, ⟨[.op 8 10 0, .op 8 5 1], [33, 34, 35, 36, 37, 38, 32, 39, 40, 41, 8, 9, 10], false⟩, ⟨[.op 8 5 2], allD 161, true⟩, ⟨[], allD 161, true⟩] h0 hm (tabEnv_ok (tab_cons (ok_toRib 1 v0 hv0) (tab_cons (ok_toUpdate 1 v2 hv2) (tab_cons (law_sTakeUpdate v0 v1 v2 hv0 hv2) tab_nil)))) (by kernel_rfl) (by kernel_rfl) ?_
      simp
      have hrr := rTakeUpdate_ok v0 v1 v2 hv0 hv2
      obtain ⟨hlr0, hcr0⟩ := hrr.1
      obtain ⟨hlr1, hcr1⟩ := hrr.2
      refine Inv_intro (ok_toRib 1 v0 hv0) ?_
      simp
      refine Inv_intro (ok_toUpdate 1 v2 hv2) ?_
      simp
      refine Inv_intro (law_iTakeUpdate v0 v1 v2 hv0 hv2) ?_
      simp
      refine Inv_intro (ok_eqRib 0 0 ((rTakeUpdate v0 v1 v2).1) ((rTakeUpdate v0 v1 v2).1) hlr0 hlr0) ?_
      simp
      refine Inv_intro (ok_eqPrefixS 0 0 ((rTakeUpdate v0 v1 v2).2.1) ((rTakeUpdate v0 v1 v2).2.1) hlr1 hlr1) ?_
      simp
      refine drawP (tabEnv [] _) [⟨[.op 9 2 0], allD 161, true⟩, ⟨[.op 0 0 0], allD 161, true⟩, ⟨[], allD 161, false⟩, ⟨[.op 9 2 0, .op 14 2 1], [69, 70, 71, 72, 73], false⟩, ⟨[], allD 161, true⟩] h0 hm (tabEnv_ok (tab_cons (ok_toRib 1 v0 hv0) (tab_cons (ok_eqRib 0 0 (v0) (v0) hlp0 hlp0) tab_nil))) (by kernel_rfl) (by kernel_rfl) ?_
      simp
      refine drawP (tabEnv [] _) [⟨[.op 10 2 0], allD 161, true⟩, ⟨[.op 0 1 0], allD 161, true⟩, ⟨[], allD 161, false⟩, ⟨[.op 10 2 0, .op 16 2 0, .op 16 2 2, .op 16 2 6, .op 16 2 7], [74, 75, 76, 77, 78], false⟩, ⟨[], allD 161, true⟩] h0 hm (tabEnv_ok (tab_cons (ok_toUpdate 1 v2 hv2) (tab_cons (ok_eqUpdate 0 0 (v2) (v2) hlp2 hlp2) tab_nil))) (by kernel_rfl) (by kernel_rfl) ?_
      simp
      have hm0 := GRib.markT_snd (v0) (1)
      have hn0 : ¬ (GRib.markT (v0) (1)).2 < 0 := by omega
      refine Inv_intro (ok_markRib (v0) (1) hlp0 (by omega) (by omega)) ?_
      simp [hn0]
      have hm1 := GUpdate.markT_snd (v2) ((GRib.markT (v0) (1)).2)
      have hn1 : ¬ (GUpdate.markT (v2) ((GRib.markT (v0) (1)).2)).2 < 0 := by omega
      refine Inv_intro (ok_markUpdate (v2) ((GRib.markT (v0) (1)).2) hlp2 (by omega) (by omega)) ?_
      simp [hn0, hn1]
      refine Inv_intro (ok_eqRib 0 0 ((rTakeUpdate v0 v1 v2).1) ((rTakeUpdate v0 v1 v2).1) hlr0 hlr0) ?_
      simp [hn0, hn1]
      refine Inv_intro (ok_eqPrefixS 0 0 ((rTakeUpdate v0 v1 v2).2.1) ((rTakeUpdate v0 v1 v2).2.1) hlr1 hlr1) ?_
      simp [hn0, hn1]
      have hm2 := GRib.markT_snd ((rTakeUpdate v0 v1 v2).1) (1)
      have hn2 : ¬ (GRib.markT ((rTakeUpdate v0 v1 v2).1) (1)).2 < 0 := by omega
      refine Inv_intro (ok_markRib ((rTakeUpdate v0 v1 v2).1) (1) hlr0 (by omega) (by omega)) ?_
      simp [hn0, hn1, hn2]
      have hm3 := mk_PrefixS_snd ((rTakeUpdate v0 v1 v2).2.1) ((GRib.markT ((rTakeUpdate v0 v1 v2).1) (1)).2)
      have hn3 : ¬ (mk_PrefixS ((rTakeUpdate v0 v1 v2).2.1) ((GRib.markT ((rTakeUpdate v0 v1 v2).1) (1)).2)).2 < 0 := by omega
      have ht3 : List.take (((rTakeUpdate v0 v1 v2).2.1).length * 2) (((mk_PrefixS ((rTakeUpdate v0 v1 v2).2.1) ((GRib.markT ((rTakeUpdate v0 v1 v2).1) (1)).2))).1.flatMap GPrefix.c) = (((mk_PrefixS ((rTakeUpdate v0 v1 v2).2.1) ((GRib.markT ((rTakeUpdate v0 v1 v2).1) (1)).2))).1.flatMap GPrefix.c) := List.take_of_length_le (by rw [fm_len GPrefix.c 2 (fun _ => rfl), mk_PrefixS_len]; exact Nat.le_refl _)
      refine Inv_intro (ok_markPrefixS ((rTakeUpdate v0 v1 v2).2.1) ((GRib.markT ((rTakeUpdate v0 v1 v2).1) (1)).2) hlr1 (by omega) (by omega)) ?_
      simp [hn0, hn1, hn2, hn3, ht3]
      refine Inv_intro (ok_heldRib 0 ((rTakeUpdate v0 v1 v2).1) (1) hlr0 (by omega) (by omega)) ?_
      simp [hn0, hn1, hn2, hn3, ht3]
      refine Inv_intro (ok_heldPrefixS 0 ((rTakeUpdate v0 v1 v2).2.1) ((GRib.markT ((rTakeUpdate v0 v1 v2).1) (1)).2) hlr1 (by omega) (by omega)) ?_
      simp [hn0, hn1, hn2, hn3, ht3]
      refine drawP (tabEnv [] _) [⟨[.op 0 0 0], allD 161, true⟩, ⟨[], allD 161, false⟩, ⟨[], allD 161, true⟩, ⟨[.op 0 1 0], allD 161, true⟩, ⟨[], allD 161, false⟩, ⟨[.op 35 1 1, .op 35 4 0, .op 35 4 2, .op 35 4 6, .op 35 4 7], [124, 125, 126, 127, 128, 129, 123, 130, 131, 132, 19, 20, 21], false⟩, ⟨[.op 35 5 1, .op 35 5 2], allD 161, true⟩, ⟨[.op 35 5 1], allD 161, true⟩, ⟨[.op 35 5 2], allD 161, true⟩, ⟨[], allD 161, true⟩, ⟨[], allD 161, false⟩, ⟨[.op 35 10 0, .op 35 5 1], [124, 125, 126, 127, 128, 129, 123, 130, 131, 132, 19, 20, 21], false⟩, ⟨[.op 35 5 2], allD 161, true⟩, ⟨[], allD 161, true⟩] h0 hm (tabEnv_ok (tab_cons (ok_toRib 1 v0 hv0) (tab_cons (ok_toUpdate 1 v2 hv2) (tab_cons (law_iTakeUpdate v0 v1 v2 hv0 hv2) tab_nil)))) (by kernel_rfl) (by kernel_rfl) ?_
      simp [hn0, hn1, hn2, hn3, ht3]
      refine Inv_intro (ok_eqRib 0 0 ((rTakeUpdate v0 v1 v2).1) ((rTakeUpdate v0 v1 v2).1) hlr0 hlr0) ?_
      simp [hn0, hn1, hn2, hn3, ht3]
      refine Inv_intro (ok_eqPrefixS 0 0 ((rTakeUpdate v0 v1 v2).2.1) ((rTakeUpdate v0 v1 v2).2.1) hlr1 hlr1) ?_
      simp [hn0, hn1, hn2, hn3, ht3]
      refine Inv_intro (ok_heldRib 0 ((rTakeUpdate v0 v1 v2).1) (1) hlr0 (by omega) (by omega)) ?_
      simp [hn0, hn1, hn2, hn3, ht3]
      refine Inv_intro (ok_heldPrefixS 0 ((rTakeUpdate v0 v1 v2).2.1) ((GRib.markT ((rTakeUpdate v0 v1 v2).1) (1)).2) hlr1 (by omega) (by omega)) ?_
      simp [hn0, hn1, hn2, hn3, ht3]
end Go.V
