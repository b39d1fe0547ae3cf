/- What functions of the seat's program do, each proved of its code, under the bounds that its theorem names. -/
import Derived.Test.YtmodclnblmoeoaaTak
set_option linter.all false
namespace Go.V
open Go.Proofs
set_option maxHeartbeats 1000000
set_option maxRecDepth 10000
set_option linter.unusedSimpArgs false
set_option linter.unusedVariables false
theorem wtR_leC {α : Type} (f : α → Nat) (b : Nat) : ∀ l : List α, (∀ x ∈ l, f x ≤ b) → wtR f l ≤ l.length * (b + 1)
  | [], _ => by simp [wtR]
  | x :: l, h => by
    have ih := wtR_leC f b l fun y hy => h y (by simp [hy])
    have hx := h x (by simp)
    simp only [wtR, List.map_cons, List.sum_cons, List.length_cons] at ih ⊢
    rw [Nat.succ_mul]
    omega
theorem isW_size {w : ByteArray} (h : isW w = true) : w.size ≤ 8 := by
  simp only [isW, Bool.and_eq_true, decide_eq_true_eq] at h
  omega
def smC (l : List GLeaf) : Prop := l.length ≤ 30 ∧ ∀ x ∈ l, okLeaf x = true
theorem goodC_sm {l : List GLeaf} (h : goodC l = true) : smC l := by
  refine ⟨?_, goodC_all h⟩
  simp only [goodC, Bool.and_eq_true, decide_eq_true_eq] at h
  exact h.2
theorem smC_wt {l : List GLeaf} (h : smC l) : wt_LeafS l ≤ 2000 := by
  have hl := h.1
  have h1 : wtR GLeaf.wt l ≤ l.length * (53 + 1) := by
    refine wtR_leC GLeaf.wt 53 l fun x hx => ?_
    have ho := h.2 x hx
    simp only [okLeaf, Bool.and_eq_true, isP, decide_eq_true_eq] at ho
    obtain ⟨⟨h2, h3⟩, h4⟩ := ho
    have h5 := isW_size h4
    have h6 : wtR ByteArray.size x.Path ≤ x.Path.length * (8 + 1) := wtR_leC ByteArray.size 8 x.Path fun w hw => isW_size (List.all_eq_true.1 h3 w hw)
    unfold GLeaf.wt
    show wtR ByteArray.size x.Path + x.Value.size ≤ 53
    omega
  show wtR GLeaf.wt l ≤ 2000
  omega
def invS (s : GStore) : Prop := smC s.Candidate ∧ smC s.Running ∧ 1 ≤ s.History.length ∧ s.History.length ≤ 10 ∧ (∀ l ∈ s.History, smC l) ∧ (0 ≤ s.Left ∧ s.Left ≤ 100)
theorem goodS_inv {s : GStore} (h : goodS s = true) : invS s := by
  simp only [goodS, Bool.and_eq_true, decide_eq_true_eq, List.all_eq_true] at h
  obtain ⟨⟨⟨⟨⟨h1, h2⟩, h3⟩, h4⟩, h5⟩, h6⟩ := h
  exact ⟨goodC_sm h1, goodC_sm h2, by omega, by omega, fun l hl => goodC_sm (h4 l hl), h5⟩
theorem invS_wt {s : GStore} (h : invS s) : GStore.wt s ≤ 1048576 := by
  obtain ⟨h1, h2, h3, h4, h5, _⟩ := h
  have a1 := smC_wt h1
  have a2 := smC_wt h2
  have a3 : wtR wt_LeafS s.History ≤ s.History.length * (2000 + 1) := wtR_leC wt_LeafS 2000 s.History fun l hl => smC_wt (h5 l hl)
  unfold GStore.wt
  show wt_LeafS s.Candidate + wt_LeafS s.Running + wtR wt_LeafS s.History ≤ 1048576
  omega
theorem wt_storeB {s : GStore} (h : GStore.wt s ≤ 1048576) : storeB s := by
  unfold GStore.wt at h
  have key : ∀ l : List GLeaf, wt_LeafS l ≤ 1048576 → boundC l := fun l hl => ⟨(conf_len hl).1, fun x hx => ⟨(conf_len hl).2 x hx, (conf_ok hl).2 x hx⟩⟩
  exact ⟨key _ (by omega), key _ (by omega), by have := len_wt_LeafSS s.History; omega, fun l hl => key _ (by have := mem_wt_LeafSS hl; omega)⟩
theorem wt_opOK {o : GOp} (h : GOp.wt o ≤ 1048576) : opOK o := by
  unfold GOp.wt at h
  have := len_wt_StringS o.Path
  exact ⟨strs_ok (by omega), by omega, by omega⟩
theorem step_agree {s : GStore} (o : GOp) (hs : invS s) : (stepSp s o).2 = (stepI s o).2 ∧ ((stepI s o).2 = true → (stepSp s o).1 = (stepI s o).1) := by
  obtain ⟨h1, h2, h3, h4, h5, h6⟩ := hs
  obtain ⟨C, R, H, F⟩ := s
  obtain ⟨K, Pa, V, N⟩ := o
  simp only at h1 h2 h3 h4 h5 h6
  by_cases k1 : K = 1
  · subst k1
    cases c1 : isP Pa <;> cases c2 : isW V <;> by_cases c3 : N = 0 <;> simp [stepSp, stepI, isOpB, l16OpB, rSetAt, c1, c2, c3, zeroS]
  by_cases k2 : K = 2
  · subst k2
    cases c1 : isP Pa <;> by_cases c2 : V = ⟨#[]⟩ <;> by_cases c3 : N = 0 <;> simp [stepSp, stepI, isOpB, l16OpB, rDeleteAt, c1, c2, c3, zeroS]
  by_cases k3 : K = 3
  · subst k3
    by_cases c1 : Pa = [] <;> by_cases c2 : V = ⟨#[]⟩ <;> by_cases c3 : N = 0 <;> simp [stepSp, stepI, isOpB, l16OpB, textB, c1, c2, c3, zeroS]
  by_cases k4 : K = 4
  · subst k4
    by_cases c1 : Pa = [] <;> by_cases c2 : V = ⟨#[]⟩ <;> by_cases c3 : 1 ≤ N ∧ N ≤ 100 <;> simp [stepSp, stepI, isOpB, l16OpB, textB, c1, c2, c3, zeroS]
  by_cases k5 : K = 5
  · subst k5
    by_cases c1 : Pa = [] <;> by_cases c2 : V = ⟨#[]⟩ <;> by_cases c3 : N = 0 <;> by_cases c4 : F = 0 <;> simp [stepSp, stepI, isOpB, l16OpB, textB, c1, c2, c3, c4, zeroS]
    omega
  by_cases k6 : K = 6
  · subst k6
    by_cases c1 : Pa = [] <;> by_cases c2 : V = ⟨#[]⟩ <;> by_cases c3 : 0 ≤ N ∧ N ≤ 9
    all_goals
      by_cases c4 : (H.length : Int) ≤ N
      · have c5 : ¬ (0 ≤ N ∧ N ≤ (H.length : Int) - 1) := by omega
        have c6 : ¬ N ≤ (H.length : Int) - 1 := by omega
        simp [c6, stepSp, stepI, isOpB, l16OpB, textB, c1, c2, c3, c4, c5, zeroS]
      · by_cases c5 : 0 ≤ N ∧ N ≤ (H.length : Int) - 1
        · first
          | (exfalso; omega)
          | simp [stepSp, stepI, isOpB, l16OpB, textB, c1, c2, c3, c4, c5, zeroS]
        · first
          | (exfalso; omega)
          | simp [stepSp, stepI, isOpB, l16OpB, textB, c1, c2, c3, c4, c5, zeroS]
  by_cases k7 : K = 7
  · subst k7
    by_cases c1 : Pa = [] <;> by_cases c2 : V = ⟨#[]⟩ <;> by_cases c3 : N = 0 <;> simp [stepSp, stepI, isOpB, l16OpB, textB, c1, c2, c3, zeroS]
  by_cases k8 : K = 8
  · subst k8
    by_cases c1 : Pa = [] <;> by_cases c2 : V = ⟨#[]⟩ <;> by_cases c3 : N = 0 <;> by_cases c4 : F = 0 <;> simp [stepSp, stepI, isOpB, l16OpB, textB, c1, c2, c3, c4, zeroS]
    omega
  · have c1 : ¬ (1 ≤ K ∧ K ≤ 8) := by omega
    simp [stepSp, stepI, isOpB, l16OpB, k1, k2, k3, k4, k5, k6, k7, k8, c1]
theorem headD_mem {H : List (List GLeaf)} (h : 1 ≤ H.length) : H.headD [] ∈ H := by
  cases H with
  | nil => simp at h
  | cons x H => simp
theorem confirmS_inv {s : GStore} (h1 : smC s.Candidate) (h2 : smC s.Running) (h3 : 1 ≤ s.History.length) (h4 : s.History.length ≤ 10) (h5 : ∀ l ∈ s.History, smC l) : invS (confirmS s) := by
  obtain ⟨C, R, H, F⟩ := s
  simp only at h1 h2 h3 h4 h5
  have h0 : (0 : Int) ≤ 0 ∧ (0 : Int) ≤ 100 := by decide
  unfold confirmS
  split
  · exact ⟨h1, h2, h3, h4, h5, h0⟩
  · refine ⟨h1, h2, ?_, ?_, ?_, h0⟩
    · simp only [List.take_succ_cons, List.length_cons]; omega
    · simp only [List.length_take]; omega
    · intro l hl
      have := List.mem_of_mem_take hl
      rcases List.mem_cons.1 this with rfl | h
      · exact h2
      · exact h5 l h
theorem step_inv {s : GStore} {o : GOp} (hs : invS s) (ho : (stepI s o).2 = true) : invS (stepI s o).1 := by
  have hs' := hs
  obtain ⟨h1, h2, h3, h4, h5, h6⟩ := hs
  have hhd := h5 _ (headD_mem h3)
  obtain ⟨C, R, H, F⟩ := s
  obtain ⟨K, Pa, V, N⟩ := o
  simp only at h1 h2 h3 h4 h5 h6 hhd
  unfold stepI at ho ⊢
  simp only at ho ⊢
  split at ho
  · simp at ho
  rename_i c0
  rw [if_neg c0]
  split at ho
  · rename_i k
    rw [if_pos k]
    refine ⟨?_, h2, h3, h4, h5, h6⟩
    unfold rSetAt at ho ⊢
    split at ho
    · rename_i hg
      rw [if_pos hg]
      simp only [Bool.and_eq_true] at hg
      exact goodC_sm hg.2
    · simp at ho
  rename_i k1
  rw [if_neg k1]
  split at ho
  · rename_i k
    rw [if_pos k]
    refine ⟨?_, h2, h3, h4, h5, h6⟩
    unfold rDeleteAt at ho ⊢
    split at ho
    · rename_i hg
      rw [if_pos hg]
      exact ⟨Nat.le_trans (delL_len _ _) h1.1, fun x hx => h1.2 x (List.mem_filter.1 hx).1⟩
    · simp at ho
  rename_i k2
  rw [if_neg k2]
  split at ho
  · rename_i k
    rw [if_pos k]
    exact confirmS_inv h1 h1 h3 h4 h5
  rename_i k3
  rw [if_neg k3]
  split at ho
  · rename_i k
    rw [if_pos k]
    simp only [decide_eq_true_eq] at ho
    refine ⟨h1, h1, h3, h4, h5, ?_⟩
    show 0 ≤ (if C = H.headD [] then (0 : Int) else N) ∧ (if C = H.headD [] then (0 : Int) else N) ≤ 100
    split <;> omega
  rename_i k4
  rw [if_neg k4]
  split at ho
  · rename_i k
    rw [if_pos k]
    exact confirmS_inv h1 h2 h3 h4 h5
  rename_i k5
  rw [if_neg k5]
  split at ho
  · rename_i k
    rw [if_pos k]
    split at ho
    · rename_i hN
      rw [if_pos hN]
      refine ⟨?_, h2, h3, h4, h5, h6⟩
      have hlt : N.toNat < H.length := by omega
      show smC (H.getD N.toNat [])
      rw [List.getD_eq_getElem?_getD, List.getElem?_eq_getElem hlt]
      exact h5 _ (List.getElem_mem hlt)
    · simp at ho
  rename_i k6
  rw [if_neg k6]
  split at ho
  · rename_i k
    rw [if_pos k]
    exact ⟨h2, h2, h3, h4, h5, h6⟩
  rename_i k7
  rw [if_neg k7]
  split at ho
  · rename_i k
    rw [if_pos k]
    simp only [decide_eq_true_eq] at ho
    refine ⟨h1, ?_, h3, h4, h5, by show 0 ≤ F - 1 ∧ F - 1 ≤ 100; omega⟩
    show smC (if F - 1 = 0 then H.headD [] else R)
    split
    · exact hhd
    · exact h2
  rename_i k8
  rw [if_neg k8]
  exact hs'
def rStepStore (v0 : GStore) (v1 : GOp) : GStore × Bool := if goodS v0 = true ∧ (stepI v0 v1).2 = true then ((stepI v0 v1).1, true) else (zeroS, false)
theorem rStepStore_ok (v0 : GStore) (v1 : GOp) (hv0 : GStore.wt v0 ≤ 1048576) (hv1 : GOp.wt v1 ≤ 1048576) : (rStepStore v0 v1).1.lens ∧ GStore.cnT (rStepStore v0 v1).1 ≤ 1152921504606846976 := by
  have key : GStore.wt (rStepStore v0 v1).1 ≤ 1048576 := by
    unfold rStepStore
    split
    · rename_i h; exact invS_wt (step_inv (goodS_inv h.1) h.2)
    · decide
  exact ⟨lens_of_Store key, by have := cn_le_Store (rStepStore v0 v1).1; omega⟩
theorem law_iStepStore (v0 : GStore) (v1 : GOp) (hw0 : GStore.wt v0 ≤ 1048576) (hw1 : GOp.wt v1 ≤ 1048576) : CallOK Try.prog 59 [.agg (GStore.ci 0 v0), .agg (GOp.ci 0 v1)] (.tup [.agg (rStepStore v0 v1).1.co, .c (pb (rStepStore v0 v1).2)]) [.agg (GStore.ci 0 v0), .agg (GOp.ci 0 v1)] := by
  refine okS (fn := Try.f59) [] h0 Try.func59 (by kernel_rfl) rfl Try.ntmps59 Try.results59 (by simp) ?_
  simp
  refine Inv_intro (ok_iGoodStore 0 v0 (store_ok hw0)) ?_
  simp
  cases c1 : goodS v0 with
  | false => simp [rStepStore, c1, zeroS]
  | true =>
    obtain ⟨i1, i2, i3, i4, i5, i6⟩ := goodS_inv c1
    simp
    refine Inv_intro (ok_stepStore 0 0 v0 v1 (wt_storeB hw0) (fun e => by rw [e] at i3; simp at i3) i6 i4 (wt_opOK hw1)) ?_
    have er : rStepStore v0 v1 = if (stepI v0 v1).2 = true then ((stepI v0 v1).1, true) else (zeroS, false) := by simp [rStepStore, c1]
    rw [er]
    generalize stepI v0 v1 = S
    obtain ⟨S1, S2⟩ := S
    cases S2 with
    | false => simp [zeroS]
    | true => simp
theorem law_sStepStore (v0 : GStore) (v1 : GOp) (hw0 : GStore.wt v0 ≤ 1048576) (hw1 : GOp.wt v1 ≤ 1048576) : CallOK Try.prog 57 [.agg (GStore.ci 0 v0), .agg (GOp.ci 0 v1)] (.tup [.agg (rStepStore v0 v1).1.co, .c (pb (rStepStore v0 v1).2)]) [.agg (GStore.ci 0 v0), .agg (GOp.ci 0 v1)] := by
  refine okS (fn := Try.f57) [(110, [2,0])] h0 Try.func57 (by kernel_rfl) rfl Try.ntmps57 Try.results57 (by simp) ?_
  simp
  refine Inv_intro (ok_sGoodStore 0 v0 (store_ok hw0)) ?_
  simp
  cases c1 : goodS v0 with
  | false => simp [rStepStore, c1, zeroS]
  | true =>
    have hinv := goodS_inv c1
    obtain ⟨i1, i2, i3, i4, i5, i6⟩ := goodS_inv c1
    simp
    refine drawP (tabEnv [(110, [2, 0])] _) [⟨[.op 0 0 0], allD 24, true⟩, ⟨[], allD 24, false⟩, ⟨[.op 0 1 0], allD 24, true⟩, ⟨[.op 3 1 0, .op 3 1 1, .op 3 1 2], [13, 14, 15, 16, 12, 17, 18, 6, 7], false⟩, ⟨[.op 3 3 0, .op 3 3 1, .op 3 3 2], allD 24, true⟩, ⟨[.op 3 3 0, .op 3 3 1, .op 3 3 2], allD 24, true⟩, ⟨[], allD 24, true⟩, ⟨[], allD 24, false⟩, ⟨[.op 3 7 0, .op 3 3 0, .op 3 3 1, .op 3 3 2], [13, 14, 15, 16, 12, 17, 18, 6, 7], false⟩, ⟨[], allD 24, true⟩] h0 hm (tabEnv_ok (tab_cons (ok_l16Own 0 v0 (wt_storeB hw0)) (tab_cons (ok_l16Step 0 v0 v1 (wt_storeB hw0) (fun e => by rw [e] at i3; simp at i3) i6 i4 (wt_opOK hw1)) tab_nil))) (by kernel_rfl) (by kernel_rfl) ?_
    simp
    obtain ⟨a1, a2⟩ := step_agree v1 hinv
    have er : rStepStore v0 v1 = if (stepSp v0 v1).2 = true then ((stepSp v0 v1).1, true) else (zeroS, false) := by
      rw [a1]
      by_cases c : (stepI v0 v1).2 = true
      · simp [rStepStore, c1, c, a2 c]
      · simp [rStepStore, c1, c]
    have hgood : (stepSp v0 v1).2 = true → storeB (stepSp v0 v1).1 := fun h => by
      rw [a1] at h
      rw [a2 h]
      exact wt_storeB (invS_wt (step_inv hinv h))
    rw [er]
    generalize stepSp v0 v1 = S at hgood ⊢
    obtain ⟨S1, S2⟩ := S
    cases S2 with
    | false => simp [zeroS]
    | true =>
      simp
      refine Inv_intro (ok_l16Own 0 S1 (hgood rfl)) ?_
      simp
theorem ok_FnExactStepStore (v0 : GStore) (v1 : GOp) (f0 : GStore.fits v0) (f1 : GOp.fits v1) : CallOK Try.prog 13 [.agg (GStore.ci 1 v0), .agg (GOp.ci 1 v1)] (.c (pb true)) [.agg (GStore.ci 1 v0), .agg (GOp.ci 1 v1)] := by
  refine okS (fn := Try.f13) [(61, [1,0]), (43, [1,0])] h0 Try.func13 (by kernel_rfl) rfl Try.ntmps13 Try.results13 (by simp) ?_
  simp
  refine Inv_intro (ok_szStore 1 v0 _ (by omega) (by omega) f0) ?_
  simp
  refine brn_app (fun b0 => ?_) (fun b0 => ?_)
  · simp
  · simp at b0
    have e0 := szr_ge (szr_ge0 b0)
    have d0 := szr_ge0 b0
    simp
    refine Inv_intro (ok_szOp 1 v1 _ (by omega) (by omega) f1) ?_
    simp
    refine brn_app (fun b1 => ?_) (fun b1 => ?_)
    · simp
    · simp at b1
      have e1 := szr_ge (szr_ge0 b1)
      have d1 := szr_ge0 b1
      simp
      have hv0 : GStore.wt v0 ≤ 1048576 := by omega
      have hlp0 : GStore.lens v0 := lens_of_Store hv0
      have hcp0 := cn_le_Store v0
      have hv1 : GOp.wt v1 ≤ 1048576 := by omega
      have hlp1 : GOp.lens v1 := lens_of_Op hv1
      have hcp1 := cn_le_Op v1
      have hrr := rStepStore_ok v0 v1 hv0 hv1
      obtain ⟨hlr0, hcr0⟩ := hrr
      refine drawP (tabEnv [] _) [⟨[.op 0 0 0], allD 119, true⟩, ⟨[], allD 119, false⟩, ⟨[.op 0 1 0], allD 119, true⟩, ⟨[], allD 119, false⟩, ⟨[.op 8 1 0, .op 8 1 1, .op 8 1 2, .op 8 3 1], [28, 29, 30, 31, 32, 27, 33, 34, 6, 7], false⟩, ⟨[.op 8 4 0, .op 8 4 1, .op 8 4 2], allD 119, true⟩, ⟨[.op 8 4 0, .op 8 4 1, .op 8 4 2], allD 119, true⟩, ⟨[], allD 119, true⟩, ⟨[], allD 119, false⟩, ⟨[.op 8 8 0, .op 8 4 0, .op 8 4 1, .op 8 4 2], [28, 29, 30, 31, 32, 27, 33, 34, 6, 7], false⟩, ⟨[], allD 119, true⟩] h0 hm (tabEnv_ok (tab_cons (ok_toStore 1 v0 hv0) (tab_cons (ok_toOp 1 v1 hv1) (tab_cons (law_sStepStore v0 v1 hv0 hv1) tab_nil)))) (by kernel_rfl) (by kernel_rfl) ?_
      simp
      refine Inv_intro (ok_toStore 1 v0 hv0) ?_
      simp
      refine Inv_intro (ok_toOp 1 v1 hv1) ?_
      simp
      refine Inv_intro (law_iStepStore v0 v1 hv0 hv1) ?_
      simp
      refine Inv_intro (ok_eqStore 0 0 ((rStepStore v0 v1).1) ((rStepStore v0 v1).1) hlr0 hlr0) ?_
      simp
      refine drawP (tabEnv [] _) [⟨[.op 9 2 0], allD 119, true⟩, ⟨[.op 0 0 0], allD 119, true⟩, ⟨[], allD 119, false⟩, ⟨[.op 9 2 0, .op 14 2 0, .op 14 2 1, .op 14 2 2], [54, 55, 56, 57, 58], false⟩, ⟨[], allD 119, true⟩] h0 hm (tabEnv_ok (tab_cons (ok_toStore 1 v0 hv0) (tab_cons (ok_eqStore 0 0 (v0) (v0) hlp0 hlp0) tab_nil))) (by kernel_rfl) (by kernel_rfl) ?_
      simp
      refine drawP (tabEnv [] _) [⟨[.op 10 2 0], allD 119, true⟩, ⟨[.op 0 1 0], allD 119, true⟩, ⟨[], allD 119, false⟩, ⟨[.op 10 2 0, .op 16 2 1], [59, 60, 61, 62, 63], false⟩, ⟨[], allD 119, true⟩] h0 hm (tabEnv_ok (tab_cons (ok_toOp 1 v1 hv1) (tab_cons (ok_eqOp 0 0 (v1) (v1) hlp1 hlp1) tab_nil))) (by kernel_rfl) (by kernel_rfl) ?_
      simp
      have hm0 := GStore.markT_snd (v0) (1)
      have hn0 : ¬ (GStore.markT (v0) (1)).2 < 0 := by omega
      refine Inv_intro (ok_markStore (v0) (1) hlp0 (by omega) (by omega)) ?_
      simp [hn0]
      have hm1 := GOp.markT_snd (v1) ((GStore.markT (v0) (1)).2)
      have hn1 : ¬ (GOp.markT (v1) ((GStore.markT (v0) (1)).2)).2 < 0 := by omega
      refine Inv_intro (ok_markOp (v1) ((GStore.markT (v0) (1)).2) hlp1 (by omega) (by omega)) ?_
      simp [hn0, hn1]
      refine Inv_intro (ok_eqStore 0 0 ((rStepStore v0 v1).1) ((rStepStore v0 v1).1) hlr0 hlr0) ?_
      simp [hn0, hn1]
      have hm2 := GStore.markT_snd ((rStepStore v0 v1).1) (1)
      have hn2 : ¬ (GStore.markT ((rStepStore v0 v1).1) (1)).2 < 0 := by omega
      refine Inv_intro (ok_markStore ((rStepStore v0 v1).1) (1) hlr0 (by omega) (by omega)) ?_
      simp [hn0, hn1, hn2]
      refine Inv_intro (ok_heldStore 0 ((rStepStore v0 v1).1) (1) hlr0 (by omega) (by omega)) ?_
      simp [hn0, hn1, hn2]
      refine drawP (tabEnv [] _) [⟨[.op 0 0 0], allD 119, true⟩, ⟨[], allD 119, false⟩, ⟨[.op 0 1 0], allD 119, true⟩, ⟨[], allD 119, false⟩, ⟨[.op 31 1 0, .op 31 1 1, .op 31 1 2, .op 31 3 1], [95, 96, 97, 98, 99, 94, 100, 101, 15, 16], false⟩, ⟨[.op 31 4 0, .op 31 4 1, .op 31 4 2], allD 119, true⟩, ⟨[.op 31 4 0, .op 31 4 1, .op 31 4 2], allD 119, true⟩, ⟨[], allD 119, true⟩, ⟨[], allD 119, false⟩, ⟨[.op 31 8 0, .op 31 4 0, .op 31 4 1, .op 31 4 2], [95, 96, 97, 98, 99, 94, 100, 101, 15, 16], false⟩, ⟨[], allD 119, true⟩] h0 hm (tabEnv_ok (tab_cons (ok_toStore 1 v0 hv0) (tab_cons (ok_toOp 1 v1 hv1) (tab_cons (law_iStepStore v0 v1 hv0 hv1) tab_nil)))) (by kernel_rfl) (by kernel_rfl) ?_
      simp [hn0, hn1, hn2]
      refine Inv_intro (ok_eqStore 0 0 ((rStepStore v0 v1).1) ((rStepStore v0 v1).1) hlr0 hlr0) ?_
      simp [hn0, hn1, hn2]
      refine Inv_intro (ok_heldStore 0 ((rStepStore v0 v1).1) (1) hlr0 (by omega) (by omega)) ?_
      simp [hn0, hn1, hn2]
end Go.V
