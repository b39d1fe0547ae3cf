/- What functions of the seat's program do, each proved of its code, under the bounds that its theorem names. -/
import Derived.Test.YtmodclnblmoeoaaTad
set_option linter.all false
namespace Go.V
open Go.Proofs
set_option maxHeartbeats 1000000
set_option maxRecDepth 10000
set_option linter.unusedSimpArgs false
set_option linter.unusedVariables false
theorem ok_FnExactDiffOf (v0 : (List GLeaf)) (v1 : (List GLeaf)) (f0 : fits_LeafS v0) (f1 : fits_LeafS v1) : CallOK Try.prog 6 [.c (rd 1 v0.length (v0.flatMap (GLeaf.ci 1))), .c (rd 1 v1.length (v1.flatMap (GLeaf.ci 1)))] (.c (pb true)) [.c (rd 1 v0.length (v0.flatMap (GLeaf.ci 1))), .c (rd 1 v1.length (v1.flatMap (GLeaf.ci 1)))] := by
  refine okS (fn := Try.f6) [(36, [1,0]), (28, [1,0])] h0 Try.func6 (by kernel_rfl) rfl Try.ntmps6 Try.results6 (by simp) ?_
  simp
  refine Inv_intro (ok_szLeafS 1 v0 _ (by omega) (by omega) f0) ?_
  simp
  refine brn_app (fun b0 => ?_) (fun b0 => ?_)
  · simp
  · simp at b0
    have e0 := szr_ge (szr_ge0 b0)
    have d0 := szr_ge0 b0
    simp
    refine Inv_intro (ok_szLeafS 1 v1 _ (by omega) (by omega) f1) ?_
    simp
    refine brn_app (fun b1 => ?_) (fun b1 => ?_)
    · simp
    · simp at b1
      have e1 := szr_ge (szr_ge0 b1)
      have d1 := szr_ge0 b1
      simp
      have hv0 : wt_LeafS v0 ≤ 1048576 := by omega
      have hlp0 : lens_LeafS v0 := lens_of_LeafS hv0
      have hcp0 := cn_le_LeafS v0
      have hv1 : wt_LeafS v1 ≤ 1048576 := by omega
      have hlp1 : lens_LeafS v1 := lens_of_LeafS hv1
      have hcp1 := cn_le_LeafS v1
      have hrr := rDiffOf_ok v0 v1 hv0 hv1
      obtain ⟨hlr0, hcr0⟩ := hrr
      refine Inv_intro (ok_toLeafS 1 v0 hv0) ?_
      simp
      refine Inv_intro (ok_toLeafS 1 v1 hv1) ?_
      simp
      refine Inv_intro (law_sDiffOf v0 v1 hv0 hv1) ?_
      simp
      refine Inv_intro (ok_toLeafS 1 v0 hv0) ?_
      simp
      refine Inv_intro (ok_toLeafS 1 v1 hv1) ?_
      simp
      refine Inv_intro (law_iDiffOf v0 v1 hv0 hv1) ?_
      simp
      refine Inv_intro (ok_eqCommandS 0 0 ((rDiffOf v0 v1).1) ((rDiffOf v0 v1).1) hlr0 hlr0) ?_
      simp
      refine Inv_intro (ok_toLeafS 1 v0 hv0) ?_
      simp
      refine Inv_intro (ok_eqLeafS 0 0 (v0) (v0) hlp0 hlp0) ?_
      simp
      refine Inv_intro (ok_toLeafS 1 v1 hv1) ?_
      simp
      refine Inv_intro (ok_eqLeafS 0 0 (v1) (v1) hlp1 hlp1) ?_
      simp
      have hm0 := mk_LeafS_snd (v0) (1)
      have hn0 : ¬ (mk_LeafS (v0) (1)).2 < 0 := by omega
      have ht0 : List.take ((v0).length * 2) (((mk_LeafS (v0) (1))).1.flatMap GLeaf.co) = (((mk_LeafS (v0) (1))).1.flatMap GLeaf.co) := List.take_of_length_le (by rw [fm_len GLeaf.co 2 (fun _ => rfl), mk_LeafS_len]; exact Nat.le_refl _)
      refine Inv_intro (ok_markLeafS (v0) (1) hlp0 (by omega) (by omega)) ?_
      simp [hn0, ht0]
      have hm1 := mk_LeafS_snd (v1) ((mk_LeafS (v0) (1)).2)
      have hn1 : ¬ (mk_LeafS (v1) ((mk_LeafS (v0) (1)).2)).2 < 0 := by omega
      have ht1 : List.take ((v1).length * 2) (((mk_LeafS (v1) ((mk_LeafS (v0) (1)).2))).1.flatMap GLeaf.co) = (((mk_LeafS (v1) ((mk_LeafS (v0) (1)).2))).1.flatMap GLeaf.co) := List.take_of_length_le (by rw [fm_len GLeaf.co 2 (fun _ => rfl), mk_LeafS_len]; exact Nat.le_refl _)
      refine Inv_intro (ok_markLeafS (v1) ((mk_LeafS (v0) (1)).2) hlp1 (by omega) (by omega)) ?_
      simp [hn0, ht0, hn1, ht1]
      refine Inv_intro (ok_eqCommandS 0 0 ((rDiffOf v0 v1).1) ((rDiffOf v0 v1).1) hlr0 hlr0) ?_
      simp [hn0, ht0, hn1, ht1]
      have hm2 := mk_CommandS_snd ((rDiffOf v0 v1).1) (1)
      have hn2 : ¬ (mk_CommandS ((rDiffOf v0 v1).1) (1)).2 < 0 := by omega
      have ht2 : List.take (((rDiffOf v0 v1).1).length * 3) (((mk_CommandS ((rDiffOf v0 v1).1) (1))).1.flatMap GCommand.co) = (((mk_CommandS ((rDiffOf v0 v1).1) (1))).1.flatMap GCommand.co) := List.take_of_length_le (by rw [fm_len GCommand.co 3 (fun _ => rfl), mk_CommandS_len]; exact Nat.le_refl _)
      refine Inv_intro (ok_markCommandS ((rDiffOf v0 v1).1) (1) hlr0 (by omega) (by omega)) ?_
      simp [hn0, ht0, hn1, ht1, hn2, ht2]
      refine Inv_intro (ok_heldCommandS 0 ((rDiffOf v0 v1).1) (1) hlr0 (by omega) (by omega)) ?_
      simp [hn0, ht0, hn1, ht1, hn2, ht2]
      refine Inv_intro (ok_toLeafS 1 v0 hv0) ?_
      simp [hn0, ht0, hn1, ht1, hn2, ht2]
      refine Inv_intro (ok_toLeafS 1 v1 hv1) ?_
      simp [hn0, ht0, hn1, ht1, hn2, ht2]
      refine Inv_intro (law_iDiffOf v0 v1 hv0 hv1) ?_
      simp [hn0, ht0, hn1, ht1, hn2, ht2]
      refine Inv_intro (ok_eqCommandS 0 0 ((rDiffOf v0 v1).1) ((rDiffOf v0 v1).1) hlr0 hlr0) ?_
      simp [hn0, ht0, hn1, ht1, hn2, ht2]
      refine Inv_intro (ok_heldCommandS 0 ((rDiffOf v0 v1).1) (1) hlr0 (by omega) (by omega)) ?_
      simp [hn0, ht0, hn1, ht1, hn2, ht2]
end Go.V
