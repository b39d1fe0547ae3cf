/- What functions of the seat's program do, each proved of its code, under the bounds that its theorem names. -/
import Derived.Test.YtmodclnblmoeoaaTak
set_option linter.all false
namespace Go.V
open Go.Proofs
set_option maxHeartbeats 1000000
set_option maxRecDepth 10000
set_option linter.unusedSimpArgs false
set_option linter.unusedVariables false
theorem law_sPlayOps (v0 : List GOp) (hw0 : wt_OpS v0 ≤ 1048576) : CallOK Try.prog 64 [.c (rd 0 v0.length (v0.flatMap (GOp.ci 0)))] (.tup [.agg (rPlayOps v0).1.co, .c (.sl 0 4 (rPlayOps v0).2.1.length ((rPlayOps v0).2.1.map pb)), .c (pb (rPlayOps v0).2.2)]) [.c (rd 0 v0.length (v0.flatMap (GOp.ci 0)))] := by
  have hl0 := len_wt_OpS v0
  refine okS (fn := Try.f64) [(110, [2,0])] h0 Try.func64 (by kernel_rfl) rfl Try.ntmps64 Try.results64 (by simp) ?_
  simp
  refine brn_app (fun a => ?_) (fun a => ?_)
  · simp at a
    have e : rPlayOps v0 = (zeroS, [], false) := by unfold rPlayOps; rw [if_neg (by omega)]
    rw [e]
    simp [zeroS]
  · simp at a
    have e : rPlayOps v0 = ((plS v0 v0.length).1, (plS v0 v0.length).2, true) := by unfold rPlayOps; rw [if_pos (by omega)]
    rw [e]
    simp
    refine Inv_intro ok_sNewStore ?_
    simp
    refine ewp_nil 6 (.op 11 3 0) 4 (by decide) rfl rfl rfl ?_
    refine loopS [2, 5, 6, 16, 17, 18] [.op 11 3 0, .op 0 0 0, .op 3 1 0] (fun n st => ∃ (i : Nat), i + n = v0.length ∧ st = ⟨slOf 39 [(2, .ptr ⟨.op 0 0 0, []⟩ 0), (5, .ptr ⟨.op 3 1 0, []⟩ 0), (6, .ref ⟨.op 11 3 0, []⟩ 0 i), (16, .t (rd 0 v0.length (v0.flatMap (GOp.ci 0)))), (17, .t (pi v0.length)), (18, .t (pi i))], ofL [(.op 11 3 0, .sl 0 4 i ((plS v0 i).2.map pb)), (.op 0 0 0, .sl 0 57 1 [.sl 0 nilE 0 [], .sl 0 nilE 0 [], .sl 0 nilE 0 [], pi 0]), (.op 3 1 0, .sl 0 57 1 (plS v0 i).1.co)]⟩) v0.length ?_ ?_
    · rintro Inv hI
      simp
      subst hI
      exact ⟨0, by omega, rfl⟩
    · rintro Inv hI n st ⟨i, hi, rfl⟩
      have hinv := plS_inv v0 i
      have hlen := plS_len v0 i (by omega)
      refine ewr_sound (M := [(110, [2, 0])]) h0 ?_
      by_cases c : i < v0.length
      · have hs := plS_succ v0 i c
        have hd := fm_drop (GOp.ci 0) 4 (fun _ => rfl) v0 i c
        have hfl := fm_len (GOp.ci 0) 4 (fun _ => rfl) v0
        have hlt : i * 4 < v0.length * 4 := by omega
        have ho := op_ok_mem hw0 (List.getElem_mem c)
        generalize plS v0 i = SD at hinv hlen hs ⊢
        obtain ⟨S, D⟩ := SD
        simp only at hinv hlen hs
        have hwt := invS_wt hinv
        have hag := step_agree v0[i] hinv
        obtain ⟨i1, i2, i3, i4, i5, i6⟩ := hinv
        simp [c, hd, hfl, hlt]
        refine drawP (tabEnv [(110, [2, 0])] _) [⟨[.op 3 1 0], allD 39, true⟩, ⟨[.op 3 1 0], allD 39, true⟩, ⟨[.op 7 2 0], allD 39, true⟩, ⟨[.op 8 1 0, .op 8 1 1, .op 8 1 2], [23, 24, 25, 26, 22, 27, 28, 9, 10], false⟩, ⟨[.op 8 3 0, .op 8 3 1, .op 8 3 2], allD 39, true⟩, ⟨[.op 8 3 0, .op 8 3 1, .op 8 3 2], allD 39, true⟩, ⟨[], allD 39, true⟩, ⟨[], allD 39, false⟩, ⟨[.op 8 7 0, .op 8 3 0, .op 8 3 1, .op 8 3 2], [23, 24, 25, 26, 22, 27, 28, 9, 10], false⟩, ⟨[], allD 39, true⟩] h0 hm (tabEnv_ok (tab_cons (ok_l16Own 0 S (wt_storeB hwt)) (tab_cons (ok_l16Step 0 S v0[i] (wt_storeB hwt) (fun e => by rw [e] at i3; simp at i3) i6 i4 ho) tab_nil))) (by kernel_rfl) (by kernel_rfl) ?_
        generalize stepSp S v0[i] = Y at hag ⊢
        obtain ⟨Y1, Y2⟩ := Y
        generalize stepI S v0[i] = X at hs hag
        obtain ⟨X1, X2⟩ := X
        simp only at hag hs
        obtain ⟨rfl, hag⟩ := hag
        simp
        have hb1 : (i + 1) * 1 ≤ 140737488355328 := by omega
        have hb2 : i ≤ 9223372036854775806 := by omega
        have hb3 : i ≤ 140737488355327 := by omega
        have hml : (D.map pb).length = i := by rw [List.length_map, hlen]
        have hmt : List.take i (D.map pb) = D.map pb := List.take_of_length_le (by omega)
        cases Y2 with
        | false =>
          simp [hlen, hb1, hb2, hb3, hml, hmt]
          subst hI
          refine Less_mk (n - 1) (by omega) ⟨i + 1, by omega, ?_⟩
          rw [wrNext i (by omega), hs]
          simp
        | true =>
          have hag := hag rfl
          subst hag
          simp [hlen, hb1, hb2, hb3, hml, hmt]
          subst hI
          refine Less_mk (n - 1) (by omega) ⟨i + 1, by omega, ?_⟩
          rw [wrNext i (by omega), hs]
          simp
      · have hil : i = v0.length := by omega
        have hmt : List.take i ((plS v0 i).2.map pb) = (plS v0 i).2.map pb := List.take_of_length_le (by rw [List.length_map]; omega)
        subst hil
        have hinv' := invS_wt hinv
        simp [hlen, hmt]
        refine Inv_intro (ok_l16Own 0 _ (wt_storeB hinv')) ?_
        simp [hlen, hmt]
theorem ok_FnExactPlayOps (v0 : (List GOp)) (f0 : fits_OpS v0) : CallOK Try.prog 14 [.c (rd 1 v0.length (v0.flatMap (GOp.ci 1)))] (.c (pb true)) [.c (rd 1 v0.length (v0.flatMap (GOp.ci 1)))] := by
  refine okS (fn := Try.f14) [(70, [1,0]), (69, [1,0]), (43, [1,0])] h0 Try.func14 (by kernel_rfl) rfl Try.ntmps14 Try.results14 (by simp) ?_
  simp
  refine Inv_intro (ok_szOpS 1 v0 _ (by omega) (by omega) f0) ?_
  simp
  refine brn_app (fun b0 => ?_) (fun b0 => ?_)
  · simp
  · simp at b0
    have e0 := szr_ge (szr_ge0 b0)
    have d0 := szr_ge0 b0
    simp
    have hv0 : wt_OpS v0 ≤ 1048576 := by omega
    have hlp0 : lens_OpS v0 := lens_of_OpS hv0
    have hcp0 := cn_le_OpS v0
    have hrr := rPlayOps_ok v0 hv0
    obtain ⟨hlr0, hcr0⟩ := hrr.1
    obtain ⟨hlr1, hcr1⟩ := hrr.2
    refine Inv_intro (ok_toOpS 1 v0 hv0) ?_
    simp
    refine Inv_intro (law_sPlayOps v0 hv0) ?_
    simp
    refine Inv_intro (ok_toOpS 1 v0 hv0) ?_
    simp
    refine Inv_intro (law_iPlayOps v0 hv0) ?_
    simp
    refine Inv_intro (ok_eqStore 0 0 ((rPlayOps v0).1) ((rPlayOps v0).1) hlr0 hlr0) ?_
    simp
    refine Inv_intro (ok_eqBoolS 0 0 ((rPlayOps v0).2.1) ((rPlayOps v0).2.1) hlr1 hlr1) ?_
    simp
    refine Inv_intro (ok_toOpS 1 v0 hv0) ?_
    simp
    refine Inv_intro (ok_eqOpS 0 0 (v0) (v0) hlp0 hlp0) ?_
    simp
    have hm0 := mk_OpS_snd (v0) (1)
    have hn0 : ¬ (mk_OpS (v0) (1)).2 < 0 := by omega
    have ht0 : List.take ((v0).length * 4) (((mk_OpS (v0) (1))).1.flatMap GOp.co) = (((mk_OpS (v0) (1))).1.flatMap GOp.co) := List.take_of_length_le (by rw [fm_len GOp.co 4 (fun _ => rfl), mk_OpS_len]; exact Nat.le_refl _)
    refine Inv_intro (ok_markOpS (v0) (1) hlp0 (by omega) (by omega)) ?_
    simp [hn0, ht0]
    refine Inv_intro (ok_eqStore 0 0 ((rPlayOps v0).1) ((rPlayOps v0).1) hlr0 hlr0) ?_
    simp [hn0, ht0]
    refine Inv_intro (ok_eqBoolS 0 0 ((rPlayOps v0).2.1) ((rPlayOps v0).2.1) hlr1 hlr1) ?_
    simp [hn0, ht0]
    have hm1 := GStore.markT_snd ((rPlayOps v0).1) (1)
    have hn1 : ¬ (GStore.markT ((rPlayOps v0).1) (1)).2 < 0 := by omega
    refine Inv_intro (ok_markStore ((rPlayOps v0).1) (1) hlr0 (by omega) (by omega)) ?_
    simp [hn0, ht0, hn1]
    have hm2 := mk_BoolS_snd ((rPlayOps v0).2.1) ((GStore.markT ((rPlayOps v0).1) (1)).2)
    have hn2 : ¬ (mk_BoolS ((rPlayOps v0).2.1) ((GStore.markT ((rPlayOps v0).1) (1)).2)).2 < 0 := by omega
    have ht2 : List.take ((rPlayOps v0).2.1).length ((mk_BoolS ((rPlayOps v0).2.1) ((GStore.markT ((rPlayOps v0).1) (1)).2)).1.map pb) = ((mk_BoolS ((rPlayOps v0).2.1) ((GStore.markT ((rPlayOps v0).1) (1)).2)).1.map pb) := List.take_of_length_le (by rw [List.length_map, mk_BoolS_len]; exact Nat.le_refl _)
    refine Inv_intro (ok_markBoolS ((rPlayOps v0).2.1) ((GStore.markT ((rPlayOps v0).1) (1)).2) hlr1 (by omega) (by omega)) ?_
    simp [ht2, hn0, ht0, hn1, hn2]
    refine Inv_intro (ok_heldStore 0 ((rPlayOps v0).1) (1) hlr0 (by omega) (by omega)) ?_
    simp [ht2, hn0, ht0, hn1, hn2]
    refine Inv_intro (ok_heldBoolS 0 ((rPlayOps v0).2.1) ((GStore.markT ((rPlayOps v0).1) (1)).2) hlr1 (by omega) (by omega)) ?_
    simp [ht2, hn0, ht0, hn1, hn2]
    refine Inv_intro (ok_toOpS 1 v0 hv0) ?_
    simp [ht2, hn0, ht0, hn1, hn2]
    refine Inv_intro (law_iPlayOps v0 hv0) ?_
    simp [ht2, hn0, ht0, hn1, hn2]
    refine Inv_intro (ok_eqStore 0 0 ((rPlayOps v0).1) ((rPlayOps v0).1) hlr0 hlr0) ?_
    simp [ht2, hn0, ht0, hn1, hn2]
    refine Inv_intro (ok_eqBoolS 0 0 ((rPlayOps v0).2.1) ((rPlayOps v0).2.1) hlr1 hlr1) ?_
    simp [ht2, hn0, ht0, hn1, hn2]
    refine Inv_intro (ok_heldStore 0 ((rPlayOps v0).1) (1) hlr0 (by omega) (by omega)) ?_
    simp [ht2, hn0, ht0, hn1, hn2]
    refine Inv_intro (ok_heldBoolS 0 ((rPlayOps v0).2.1) ((GStore.markT ((rPlayOps v0).1) (1)).2) hlr1 (by omega) (by omega)) ?_
    simp [ht2, hn0, ht0, hn1, hn2]
end Go.V
