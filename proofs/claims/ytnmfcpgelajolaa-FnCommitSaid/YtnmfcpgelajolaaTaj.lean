/- What functions of the seat's program do, each proved of its code, under the bounds that its theorem names. -/
import Derived.Test.YtnmfcpgelajolaaTai
set_option linter.all false
namespace Go.V
open Go.Proofs
set_option maxHeartbeats 1000000
set_option maxRecDepth 10000
set_option linter.unusedSimpArgs false
set_option linter.unusedVariables false
def stepSp (s : GStore) (o : GOp) : GStore × Bool :=
  if l16OpB o = false then (s, false)
  else if o.Kind = 1 then (⟨(rSetAt s.Candidate o.Path o.Value).1, s.Running, s.History, s.Left⟩, (rSetAt s.Candidate o.Path o.Value).2)
  else if o.Kind = 2 then (⟨(rDeleteAt s.Candidate o.Path).1, s.Running, s.History, s.Left⟩, (rDeleteAt s.Candidate o.Path).2)
  else if o.Kind = 3 then (confirmS ⟨s.Candidate, s.Candidate, s.History, s.Left⟩, true)
  else if o.Kind = 4 then (⟨s.Candidate, s.Candidate, s.History, if s.Candidate = s.History.headD [] then 0 else o.N⟩, true)
  else if o.Kind = 5 then (if s.Left = 0 then (s, false) else (confirmS s, true))
  else if o.Kind = 6 then (if (s.History.length : Int) ≤ o.N then (s, false) else (⟨s.History.getD o.N.toNat [], s.Running, s.History, s.Left⟩, true))
  else if o.Kind = 7 then (⟨s.Running, s.Running, s.History, s.Left⟩, true)
  else (if s.Left = 0 then (s, false) else (⟨s.Candidate, (if s.Left - 1 = 0 then s.History.headD [] else s.Running), s.History, s.Left - 1⟩, true))
theorem ok_l16Step (k' : Nat) (s : GStore) (o : GOp) (hs : storeB s) (hh : s.History ≠ []) (hF : 0 ≤ s.Left ∧ s.Left ≤ 100) (hl : s.History.length ≤ 10) (ho : opOK o) : CallOK Try.prog 18 [.agg s.co, .agg (GOp.ci k' o)] (.tup [.agg (stepSp s o).1.co, .c (pb (stepSp s o).2)]) [.agg [.hole, .hole, .hole, pi s.Left], .agg (GOp.ci k' o)] := by
  have hop := ok_l16Op k' o ho
  have hcf := ok_l16Confirm s hs hh
  obtain ⟨b1, b2, b3, b4⟩ := hs
  obtain ⟨o1, o2, o3⟩ := ho
  have hcf3 := ok_l16Confirm ⟨s.Candidate, s.Candidate, s.History, s.Left⟩ ⟨b1, b1, b3, b4⟩ hh
  obtain ⟨C, R, H, F⟩ := s
  obtain ⟨K, Pa, V, N⟩ := o
  simp only at b1 b2 b3 b4 hh hF hl o1 o2 o3 hop hcf hcf3
  obtain ⟨h0', H', rfl⟩ : ∃ x H', H = x :: H' := by
    cases H with
    | nil => exact absurd rfl hh
    | cons x H' => exact ⟨x, H', rfl⟩
  have hb := b4 h0' (List.mem_cons_self ..)
  simp only [List.length_cons] at b3 hl
  have w1 : IntKind.i64.wrap (F - 1) = F - 1 := wrap64 (by omega) (by omega)
  refine okS (fn := Try.f18) [(41, [2])] h0 Try.func18 (by kernel_rfl) rfl Try.ntmps18 Try.results18 (by simp) ?_
  simp
  refine Inv_intro hop ?_
  simp
  cases c0 : l16OpB ⟨K, Pa, V, N⟩ with
  | false =>
    have e : stepSp ⟨C, R, h0' :: H', F⟩ ⟨K, Pa, V, N⟩ = (⟨C, R, h0' :: H', F⟩, false) := by simp only [stepSp, c0]; simp
    rw [e]
    simp
  | true =>
    simp
    by_cases k1 : K = 1
    · have e : stepSp ⟨C, R, h0' :: H', F⟩ ⟨K, Pa, V, N⟩ = (⟨(rSetAt C Pa V).1, R, h0' :: H', F⟩, (rSetAt C Pa V).2) := by simp only [stepSp, c0]; simp [k1]
      rw [e]
      simp [k1]
      refine Inv_intro (ok_sSetAt 0 k' C Pa V b1.1 (fun x hx => (b1.2 x hx).1) (boundC_conf b1) o1 o2 o3) ?_
      simp
    · by_cases k2 : K = 2
      · have e : stepSp ⟨C, R, h0' :: H', F⟩ ⟨K, Pa, V, N⟩ = (⟨(rDeleteAt C Pa).1, R, h0' :: H', F⟩, (rDeleteAt C Pa).2) := by simp only [stepSp, c0]; simp [k1, k2]
        rw [e]
        simp [k1, k2]
        refine Inv_intro (ok_sDeleteAt 0 k' C Pa b1.1 (fun x hx => (b1.2 x hx).1) (boundC_conf b1) o1) ?_
        simp
      · by_cases k3 : K = 3
        · have e : stepSp ⟨C, R, h0' :: H', F⟩ ⟨K, Pa, V, N⟩ = (confirmS ⟨C, C, h0' :: H', F⟩, true) := by simp only [stepSp, c0]; simp [k3]
          rw [e]
          simp [k1, k2, k3]
          refine Inv_intro (ok_l15Own 0 C b1.1 (fun x hx => (b1.2 x hx).1)) ?_
          simp
          refine Inv_intro hcf3 ?_
          simp
        · by_cases k4 : K = 4
          · have e : stepSp ⟨C, R, h0' :: H', F⟩ ⟨K, Pa, V, N⟩ = (⟨C, C, h0' :: H', if C = h0' then 0 else N⟩, true) := by simp only [stepSp, c0]; simp [k4]
            rw [e]
            simp [k1, k2, k3, k4]
            refine Inv_intro (ok_l15Own 0 C b1.1 (fun x hx => (b1.2 x hx).1)) ?_
            simp
            refine drawP (tabEnv [] _) [⟨[.op 0 0 0], allD 123, true⟩, ⟨[.op 0 0 0], allD 123, true⟩, ⟨[.op 0 0 0], allD 123, true⟩, ⟨[.op 0 0 0], allD 123, true⟩, ⟨[.op 0 0 0], allD 123, true⟩, ⟨[.op 0 0 0], allD 123, true⟩, ⟨[.op 0 0 0], [63, 64, 65, 66, 67, 68, 69], false⟩] h0 hm (tabEnv_ok (tab_cons (ok_l16Same 0 0 C h0' (boundC_conf b1) (boundC_conf hb)) tab_nil)) (by kernel_rfl) (by kernel_rfl) ?_
            simp
            by_cases c : C = h0'
            · simp [c]
            · simp [c]
          · by_cases k5 : K = 5
            · by_cases c : F = 0
              · have e : stepSp ⟨C, R, h0' :: H', F⟩ ⟨K, Pa, V, N⟩ = (⟨C, R, h0' :: H', F⟩, false) := by simp only [stepSp, c0]; simp [k5, c]
                rw [e]
                simp [k1, k2, k3, k4, k5, c]
              · have e : stepSp ⟨C, R, h0' :: H', F⟩ ⟨K, Pa, V, N⟩ = (confirmS ⟨C, R, h0' :: H', F⟩, true) := by simp only [stepSp, c0]; simp [k5, c]
                rw [e]
                simp [k1, k2, k3, k4, k5, c]
                refine Inv_intro hcf ?_
                simp
            · by_cases k6 : K = 6
              · have hN9 : 0 ≤ N := by
                  simp [l16OpB, k6] at c0
                  omega
                by_cases c : (H'.length : Int) + 1 ≤ N
                · have e : stepSp ⟨C, R, h0' :: H', F⟩ ⟨K, Pa, V, N⟩ = (⟨C, R, h0' :: H', F⟩, false) := by
                    have c' : ((h0' :: H').length : Int) ≤ N := by rw [List.length_cons]; omega
                    simp only [stepSp, c0]
                    simp only [k6, c', if_true]
                    simp
                  rw [e]
                  simp [k1, k2, k3, k4, k5, k6, c]
                · have hN : N.toNat < (h0' :: H').length := by rw [List.length_cons]; omega
                  have hbN := b4 _ (List.getElem_mem hN)
                  have e : stepSp ⟨C, R, h0' :: H', F⟩ ⟨K, Pa, V, N⟩ = (⟨(h0' :: H')[N.toNat], R, h0' :: H', F⟩, true) := by
                    have c' : ¬ ((h0' :: H').length : Int) ≤ N := by rw [List.length_cons]; omega
                    simp only [stepSp, c0]
                    simp only [k6, c', if_false, List.getD_eq_getElem?_getD, List.getElem?_eq_getElem hN, Option.getD_some]
                    simp
                  rw [e]
                  have hNl : N < (H'.length : Int) + 1 := by omega
                  have hd : ∀ h : N.toNat < (cLeafSo h0' :: List.map cLeafSo H').length, (cLeafSo h0' :: List.map cLeafSo H')[N.toNat]'h = cLeafSo (h0' :: H')[N.toNat] := fun h => List.getElem_map (l := h0' :: H') cLeafSo
                  generalize (h0' :: H')[N.toNat] = x at hbN hd ⊢
                  simp [k1, k2, k3, k4, k5, k6, c, hN9, hNl, hd]
                  refine Inv_intro (ok_l15Own 0 x hbN.1 (fun y hy => (hbN.2 y hy).1)) ?_
                  simp
              · by_cases k7 : K = 7
                · have e : stepSp ⟨C, R, h0' :: H', F⟩ ⟨K, Pa, V, N⟩ = (⟨R, R, h0' :: H', F⟩, true) := by simp only [stepSp, c0]; simp [k7]
                  rw [e]
                  simp [k1, k2, k3, k4, k5, k6, k7]
                  refine Inv_intro (ok_l15Own 0 R b2.1 (fun x hx => (b2.2 x hx).1)) ?_
                  simp
                · by_cases c : F = 0
                  · have e : stepSp ⟨C, R, h0' :: H', F⟩ ⟨K, Pa, V, N⟩ = (⟨C, R, h0' :: H', F⟩, false) := by simp only [stepSp, c0]; simp [k1, k2, k3, k4, k5, k6, k7, c]
                    rw [e]
                    simp [k1, k2, k3, k4, k5, k6, k7, c]
                  · have e : stepSp ⟨C, R, h0' :: H', F⟩ ⟨K, Pa, V, N⟩ = (⟨C, (if F - 1 = 0 then h0' else R), h0' :: H', F - 1⟩, true) := by simp only [stepSp, c0]; simp [k1, k2, k3, k4, k5, k6, k7, c]
                    rw [e]
                    simp [k1, k2, k3, k4, k5, k6, k7, w1, c]
                    by_cases c1 : F - 1 = 0
                    · simp [c1]
                      refine Inv_intro (ok_l15Own 0 h0' hb.1 (fun x hx => (hb.2 x hx).1)) ?_
                      simp
                    · simp [c1]
theorem wtR_leC {α : Type} (f : α → Nat) (b : Nat) : ∀ l : List α, (∀ x ∈ l, f x ≤ b) → wtR f l ≤ l.length * (b + 1)
  | [], _ => by simp [wtR]
  | x :: l, h => by
    have ih := wtR_leC f b l fun y hy => h y (by simp [hy])
    have hx := h x (by simp)
    simp only [wtR, List.map_cons, List.sum_cons, List.length_cons] at ih ⊢
    rw [Nat.succ_mul]
    omega
theorem isW_size {w : ByteArray} (h : isW w = true) : w.size ≤ 8 := by
  simp only [isW, Bool.and_eq_true, decide_eq_true_eq] at h
  omega
def smC (l : List GLeaf) : Prop := l.length ≤ 30 ∧ ∀ x ∈ l, okLeaf x = true
theorem goodC_sm {l : List GLeaf} (h : goodC l = true) : smC l := by
  refine ⟨?_, goodC_all h⟩
  simp only [goodC, Bool.and_eq_true, decide_eq_true_eq] at h
  exact h.2
theorem smC_wt {l : List GLeaf} (h : smC l) : wt_LeafS l ≤ 2000 := by
  have hl := h.1
  have h1 : wtR GLeaf.wt l ≤ l.length * (53 + 1) := by
    refine wtR_leC GLeaf.wt 53 l fun x hx => ?_
    have ho := h.2 x hx
    simp only [okLeaf, Bool.and_eq_true, isP, decide_eq_true_eq] at ho
    obtain ⟨⟨h2, h3⟩, h4⟩ := ho
    have h5 := isW_size h4
    have h6 : wtR ByteArray.size x.Path ≤ x.Path.length * (8 + 1) := wtR_leC ByteArray.size 8 x.Path fun w hw => isW_size (List.all_eq_true.1 h3 w hw)
    unfold GLeaf.wt
    show wtR ByteArray.size x.Path + x.Value.size ≤ 53
    omega
  show wtR GLeaf.wt l ≤ 2000
  omega
def invS (s : GStore) : Prop := smC s.Candidate ∧ smC s.Running ∧ 1 ≤ s.History.length ∧ s.History.length ≤ 10 ∧ (∀ l ∈ s.History, smC l) ∧ (0 ≤ s.Left ∧ s.Left ≤ 100)
theorem goodS_inv {s : GStore} (h : goodS s = true) : invS s := by
  simp only [goodS, Bool.and_eq_true, decide_eq_true_eq, List.all_eq_true] at h
  obtain ⟨⟨⟨⟨⟨h1, h2⟩, h3⟩, h4⟩, h5⟩, h6⟩ := h
  exact ⟨goodC_sm h1, goodC_sm h2, by omega, by omega, fun l hl => goodC_sm (h4 l hl), h5⟩
theorem invS_wt {s : GStore} (h : invS s) : GStore.wt s ≤ 1048576 := by
  obtain ⟨h1, h2, h3, h4, h5, _⟩ := h
  have a1 := smC_wt h1
  have a2 := smC_wt h2
  have a3 : wtR wt_LeafS s.History ≤ s.History.length * (2000 + 1) := wtR_leC wt_LeafS 2000 s.History fun l hl => smC_wt (h5 l hl)
  unfold GStore.wt
  show wt_LeafS s.Candidate + wt_LeafS s.Running + wtR wt_LeafS s.History ≤ 1048576
  omega
theorem wt_storeB {s : GStore} (h : GStore.wt s ≤ 1048576) : storeB s := by
  unfold GStore.wt at h
  have key : ∀ l : List GLeaf, wt_LeafS l ≤ 1048576 → boundC l := fun l hl => ⟨(conf_len hl).1, fun x hx => ⟨(conf_len hl).2 x hx, (conf_ok hl).2 x hx⟩⟩
  exact ⟨key _ (by omega), key _ (by omega), by have := len_wt_LeafSS s.History; omega, fun l hl => key _ (by have := mem_wt_LeafSS hl; omega)⟩
theorem wt_opOK {o : GOp} (h : GOp.wt o ≤ 1048576) : opOK o := by
  unfold GOp.wt at h
  have := len_wt_StringS o.Path
  exact ⟨strs_ok (by omega), by omega, by omega⟩
theorem step_agree {s : GStore} (o : GOp) (hs : invS s) : (stepSp s o).2 = (stepI s o).2 ∧ ((stepI s o).2 = true → (stepSp s o).1 = (stepI s o).1) := by
  obtain ⟨h1, h2, h3, h4, h5, h6⟩ := hs
  obtain ⟨C, R, H, F⟩ := s
  obtain ⟨K, Pa, V, N⟩ := o
  simp only at h1 h2 h3 h4 h5 h6
  by_cases k1 : K = 1
  · subst k1
    cases c1 : isP Pa <;> cases c2 : isW V <;> by_cases c3 : N = 0 <;> simp [stepSp, stepI, isOpB, l16OpB, rSetAt, c1, c2, c3, zeroS]
  by_cases k2 : K = 2
  · subst k2
    cases c1 : isP Pa <;> by_cases c2 : V = ⟨#[]⟩ <;> by_cases c3 : N = 0 <;> simp [stepSp, stepI, isOpB, l16OpB, rDeleteAt, c1, c2, c3, zeroS]
  by_cases k3 : K = 3
  · subst k3
    by_cases c1 : Pa = [] <;> by_cases c2 : V = ⟨#[]⟩ <;> by_cases c3 : N = 0 <;> simp [stepSp, stepI, isOpB, l16OpB, textB, c1, c2, c3, zeroS]
  by_cases k4 : K = 4
  · subst k4
    by_cases c1 : Pa = [] <;> by_cases c2 : V = ⟨#[]⟩ <;> by_cases c3 : 1 ≤ N ∧ N ≤ 100 <;> simp [stepSp, stepI, isOpB, l16OpB, textB, c1, c2, c3, zeroS]
  by_cases k5 : K = 5
  · subst k5
    by_cases c1 : Pa = [] <;> by_cases c2 : V = ⟨#[]⟩ <;> by_cases c3 : N = 0 <;> by_cases c4 : F = 0 <;> simp [stepSp, stepI, isOpB, l16OpB, textB, c1, c2, c3, c4, zeroS]
    omega
  by_cases k6 : K = 6
  · subst k6
    by_cases c1 : Pa = [] <;> by_cases c2 : V = ⟨#[]⟩ <;> by_cases c3 : 0 ≤ N ∧ N ≤ 9
    all_goals
      by_cases c4 : (H.length : Int) ≤ N
      · have c5 : ¬ (0 ≤ N ∧ N ≤ (H.length : Int) - 1) := by omega
        have c6 : ¬ N ≤ (H.length : Int) - 1 := by omega
        simp [c6, stepSp, stepI, isOpB, l16OpB, textB, c1, c2, c3, c4, c5, zeroS]
      · by_cases c5 : 0 ≤ N ∧ N ≤ (H.length : Int) - 1
        · first
          | (exfalso; omega)
          | simp [stepSp, stepI, isOpB, l16OpB, textB, c1, c2, c3, c4, c5, zeroS]
        · first
          | (exfalso; omega)
          | simp [stepSp, stepI, isOpB, l16OpB, textB, c1, c2, c3, c4, c5, zeroS]
  by_cases k7 : K = 7
  · subst k7
    by_cases c1 : Pa = [] <;> by_cases c2 : V = ⟨#[]⟩ <;> by_cases c3 : N = 0 <;> simp [stepSp, stepI, isOpB, l16OpB, textB, c1, c2, c3, zeroS]
  by_cases k8 : K = 8
  · subst k8
    by_cases c1 : Pa = [] <;> by_cases c2 : V = ⟨#[]⟩ <;> by_cases c3 : N = 0 <;> by_cases c4 : F = 0 <;> simp [stepSp, stepI, isOpB, l16OpB, textB, c1, c2, c3, c4, zeroS]
    omega
  · have c1 : ¬ (1 ≤ K ∧ K ≤ 8) := by omega
    simp [stepSp, stepI, isOpB, l16OpB, k1, k2, k3, k4, k5, k6, k7, k8, c1]
theorem headD_mem {H : List (List GLeaf)} (h : 1 ≤ H.length) : H.headD [] ∈ H := by
  cases H with
  | nil => simp at h
  | cons x H => simp
theorem confirmS_inv {s : GStore} (h1 : smC s.Candidate) (h2 : smC s.Running) (h3 : 1 ≤ s.History.length) (h4 : s.History.length ≤ 10) (h5 : ∀ l ∈ s.History, smC l) : invS (confirmS s) := by
  obtain ⟨C, R, H, F⟩ := s
  simp only at h1 h2 h3 h4 h5
  have h0 : (0 : Int) ≤ 0 ∧ (0 : Int) ≤ 100 := by decide
  unfold confirmS
  split
  · exact ⟨h1, h2, h3, h4, h5, h0⟩
  · refine ⟨h1, h2, ?_, ?_, ?_, h0⟩
    · simp only [List.take_succ_cons, List.length_cons]; omega
    · simp only [List.length_take]; omega
    · intro l hl
      have := List.mem_of_mem_take hl
      rcases List.mem_cons.1 this with rfl | h
      · exact h2
      · exact h5 l h
theorem step_inv {s : GStore} {o : GOp} (hs : invS s) (ho : (stepI s o).2 = true) : invS (stepI s o).1 := by
  have hs' := hs
  obtain ⟨h1, h2, h3, h4, h5, h6⟩ := hs
  have hhd := h5 _ (headD_mem h3)
  obtain ⟨C, R, H, F⟩ := s
  obtain ⟨K, Pa, V, N⟩ := o
  simp only at h1 h2 h3 h4 h5 h6 hhd
  unfold stepI at ho ⊢
  simp only at ho ⊢
  split at ho
  · simp at ho
  rename_i c0
  rw [if_neg c0]
  split at ho
  · rename_i k
    rw [if_pos k]
    refine ⟨?_, h2, h3, h4, h5, h6⟩
    unfold rSetAt at ho ⊢
    split at ho
    · rename_i hg
      rw [if_pos hg]
      simp only [Bool.and_eq_true] at hg
      exact goodC_sm hg.2
    · simp at ho
  rename_i k1
  rw [if_neg k1]
  split at ho
  · rename_i k
    rw [if_pos k]
    refine ⟨?_, h2, h3, h4, h5, h6⟩
    unfold rDeleteAt at ho ⊢
    split at ho
    · rename_i hg
      rw [if_pos hg]
      exact ⟨Nat.le_trans (delL_len _ _) h1.1, fun x hx => h1.2 x (List.mem_filter.1 hx).1⟩
    · simp at ho
  rename_i k2
  rw [if_neg k2]
  split at ho
  · rename_i k
    rw [if_pos k]
    exact confirmS_inv h1 h1 h3 h4 h5
  rename_i k3
  rw [if_neg k3]
  split at ho
  · rename_i k
    rw [if_pos k]
    simp only [decide_eq_true_eq] at ho
    refine ⟨h1, h1, h3, h4, h5, ?_⟩
    show 0 ≤ (if C = H.headD [] then (0 : Int) else N) ∧ (if C = H.headD [] then (0 : Int) else N) ≤ 100
    split <;> omega
  rename_i k4
  rw [if_neg k4]
  split at ho
  · rename_i k
    rw [if_pos k]
    exact confirmS_inv h1 h2 h3 h4 h5
  rename_i k5
  rw [if_neg k5]
  split at ho
  · rename_i k
    rw [if_pos k]
    split at ho
    · rename_i hN
      rw [if_pos hN]
      refine ⟨?_, h2, h3, h4, h5, h6⟩
      have hlt : N.toNat < H.length := by omega
      show smC (H.getD N.toNat [])
      rw [List.getD_eq_getElem?_getD, List.getElem?_eq_getElem hlt]
      exact h5 _ (List.getElem_mem hlt)
    · simp at ho
  rename_i k6
  rw [if_neg k6]
  split at ho
  · rename_i k
    rw [if_pos k]
    exact ⟨h2, h2, h3, h4, h5, h6⟩
  rename_i k7
  rw [if_neg k7]
  split at ho
  · rename_i k
    rw [if_pos k]
    simp only [decide_eq_true_eq] at ho
    refine ⟨h1, ?_, h3, h4, h5, by show 0 ≤ F - 1 ∧ F - 1 ≤ 100; omega⟩
    show smC (if F - 1 = 0 then H.headD [] else R)
    split
    · exact hhd
    · exact h2
  rename_i k8
  rw [if_neg k8]
  exact hs'
def rStepStore (v0 : GStore) (v1 : GOp) : GStore × Bool := if goodS v0 = true ∧ (stepI v0 v1).2 = true then ((stepI v0 v1).1, true) else (zeroS, false)
theorem rStepStore_ok (v0 : GStore) (v1 : GOp) (hv0 : GStore.wt v0 ≤ 1048576) (hv1 : GOp.wt v1 ≤ 1048576) : (rStepStore v0 v1).1.lens ∧ GStore.cnT (rStepStore v0 v1).1 ≤ 1152921504606846976 := by
  have key : GStore.wt (rStepStore v0 v1).1 ≤ 1048576 := by
    unfold rStepStore
    split
    · rename_i h; exact invS_wt (step_inv (goodS_inv h.1) h.2)
    · decide
  exact ⟨lens_of_Store key, by have := cn_le_Store (rStepStore v0 v1).1; omega⟩
theorem ok_iStepStore (k k' : Nat) (v0 : GStore) (v1 : GOp) (hw0 : GStore.wt v0 ≤ 1048576) (hw1 : GOp.wt v1 ≤ 1048576) : CallOK Try.prog 13 [.agg (GStore.ci k v0), .agg (GOp.ci k' v1)] (.tup [.agg (rStepStore v0 v1).1.co, .c (pb (rStepStore v0 v1).2)]) [.agg (GStore.ci k v0), .agg (GOp.ci k' v1)] := by
  refine okS (fn := Try.f13) [] h0 Try.func13 (by kernel_rfl) rfl Try.ntmps13 Try.results13 (by simp) ?_
  simp
  refine Inv_intro (ok_iGoodStore k v0 (store_ok hw0)) ?_
  simp
  cases c1 : goodS v0 with
  | false => simp [rStepStore, c1, zeroS]
  | true =>
    obtain ⟨i1, i2, i3, i4, i5, i6⟩ := goodS_inv c1
    simp
    refine Inv_intro (ok_stepStore k k' v0 v1 (wt_storeB hw0) (fun e => by rw [e] at i3; simp at i3) i6 i4 (wt_opOK hw1)) ?_
    have er : rStepStore v0 v1 = if (stepI v0 v1).2 = true then ((stepI v0 v1).1, true) else (zeroS, false) := by simp [rStepStore, c1]
    rw [er]
    generalize stepI v0 v1 = S
    obtain ⟨S1, S2⟩ := S
    cases S2 with
    | false => simp [zeroS]
    | true => simp
theorem law_iStepStore (v0 : GStore) (v1 : GOp) (hw0 : GStore.wt v0 ≤ 1048576) (hw1 : GOp.wt v1 ≤ 1048576) : CallOK Try.prog 13 [.agg (GStore.ci 0 v0), .agg (GOp.ci 0 v1)] (.tup [.agg (rStepStore v0 v1).1.co, .c (pb (rStepStore v0 v1).2)]) [.agg (GStore.ci 0 v0), .agg (GOp.ci 0 v1)] := ok_iStepStore 0 0 v0 v1 hw0 hw1
theorem beg_mid : ∀ a b c : List ByteArray, lessP a b = true → lessP b c = true → begP a c = true → begP a b = true
  | [], _, _, _, _, _ => rfl
  | _ :: _, [], _, h, _, _ => by simp [lessP] at h
  | _ :: _, _ :: _, [], _, _, h => by simp [begP] at h
  | x :: us, y :: vs, z :: ws, h1, h2, h3 => by
    simp only [begP, Bool.and_eq_true, decide_eq_true_eq] at h3 ⊢
    obtain ⟨rfl, h3⟩ := h3
    unfold lessP at h1 h2
    by_cases e : x = y
    · subst e
      rw [if_pos rfl] at h1 h2
      exact ⟨rfl, beg_mid us vs ws h1 h2 h3⟩
    · rw [if_neg e] at h1
      rw [if_neg (Ne.symm e)] at h2
      have := sLt_trans h1 h2
      rw [sl_irr] at this
      cases this
def apartP (a b : List ByteArray) : Prop := lessP a b = true ∧ begP a b = false
theorem goodG_pw : ∀ (l : List GLeaf) (q : Option GLeaf), goodG q l = true → l.Pairwise (fun x y => apartP x.Path y.Path) ∧ ∀ y, q = some y → ∀ x ∈ l, apartP y.Path x.Path
  | [], _, _ => by simp
  | x :: l, q, h => by
    simp only [goodG, Bool.and_eq_true] at h
    obtain ⟨⟨h1, h2⟩, h3⟩ := h
    obtain ⟨g1, g2⟩ := goodG_pw l (some x) h3
    have g3 := g2 x rfl
    refine ⟨List.pairwise_cons.2 ⟨g3, g1⟩, fun y hy z hz => ?_⟩
    subst hy
    simp only [adjC, Bool.and_eq_true, Bool.not_eq_true'] at h2
    rcases List.mem_cons.1 hz with rfl | hz
    · exact h2
    · obtain ⟨g4, g5⟩ := g3 z hz
      refine ⟨lessP_trans _ _ _ h2.1 g4, ?_⟩
      cases hb : begP y.Path z.Path with
      | false => rfl
      | true => rw [beg_mid _ _ _ h2.1 g4 hb] at h2; exact h2.2
theorem goodG_of : ∀ (l : List GLeaf) (q : Option GLeaf), (∀ x ∈ l, okLeaf x = true) → l.Pairwise (fun x y => apartP x.Path y.Path) → (∀ y, q = some y → ∀ x ∈ l, apartP y.Path x.Path) → goodG q l = true
  | [], _, _, _, _ => rfl
  | x :: l, q, ho, hp, hq => by
    obtain ⟨h1, h2⟩ := List.pairwise_cons.1 hp
    simp only [goodG, Bool.and_eq_true]
    refine ⟨⟨ho x (by simp), ?_⟩, goodG_of l (some x) (fun y hy => ho y (by simp [hy])) h2 fun y hy z hz => by cases hy; exact h1 z hz⟩
    cases q with
    | none => rfl
    | some y =>
      obtain ⟨g1, g2⟩ := hq y rfl x (by simp)
      simp [adjC, g1, g2]
theorem goodC_filter {l : List GLeaf} (h : goodC l = true) (f : GLeaf → Bool) : goodC (l.filter f) = true := by
  have ho := goodC_all h
  simp only [goodC, Bool.and_eq_true, decide_eq_true_eq] at h ⊢
  refine ⟨goodG_of _ none (fun x hx => ho x (List.mem_filter.1 hx).1) ((goodG_pw l none h.1).1.filter _) (fun y hy => by cases hy), ?_⟩
  exact Nat.le_trans (List.length_filter_le _ _) h.2
def firstC : List GLeaf := [⟨[⟨#[118, 101, 114, 115, 105, 111, 110]⟩], ⟨#[48]⟩⟩]
theorem ok_ifirst : CallOK Try.prog 30 [] (.c (.sl 0 58 1 (firstC.flatMap GLeaf.co))) [] := by
  refine okS (fn := Try.f30) [] h0 Try.func30 (by kernel_rfl) rfl Try.ntmps30 Try.results30 (by simp) ?_
  simp [firstC]
theorem ok_sfirst : CallOK Try.prog 36 [] (.c (.sl 0 58 1 (firstC.flatMap GLeaf.co))) [] := by
  refine okS (fn := Try.f36) [] h0 Try.func36 (by kernel_rfl) rfl Try.ntmps36 Try.results36 (by simp) ?_
  simp [firstC]
theorem firstC_len : firstC.length = 1 := rfl
theorem firstC_take : List.take 2 (firstC.flatMap GLeaf.co) = firstC.flatMap GLeaf.co := rfl
def rNewStore : GStore := ⟨firstC, firstC, [firstC], 0⟩
theorem ok_iNewStore : CallOK Try.prog 15 [] (.agg (GStore.co rNewStore)) [] := by
  refine okS (fn := Try.f15) [] h0 Try.func15 (by kernel_rfl) rfl Try.ntmps15 Try.results15 (by simp) ?_
  simp
  refine Inv_intro ok_ifirst ?_
  simp
  refine Inv_intro ok_ifirst ?_
  simp
  refine Inv_intro ok_ifirst ?_
  simp [firstC_len, firstC_take, rNewStore]
theorem ok_sNewStore : CallOK Try.prog 17 [] (.agg (GStore.co rNewStore)) [] := by
  refine okS (fn := Try.f17) [] h0 Try.func17 (by kernel_rfl) rfl Try.ntmps17 Try.results17 (by simp) ?_
  simp
  refine Inv_intro ok_sfirst ?_
  simp
  refine Inv_intro ok_sfirst ?_
  simp
  refine Inv_intro ok_sfirst ?_
  simp [firstC_len, firstC_take, rNewStore]
theorem law_iNewStore : CallOK Try.prog 15 [] (.agg (GStore.co rNewStore)) [] := ok_iNewStore
theorem law_sNewStore : CallOK Try.prog 17 [] (.agg (GStore.co rNewStore)) [] := ok_sNewStore
theorem firstC_ok : lens_LeafS firstC := lens_of_LeafS (by decide)
theorem rNewStore_ok : rNewStore.lens ∧ GStore.cnT rNewStore ≤ 1152921504606846976 := by
  refine ⟨lens_of_Store (by decide), ?_⟩
  exact Nat.le_trans (cn_le_Store rNewStore) (by decide)
abbrev cBoolSo (xs : List Bool) : PT := .sl 0 4 xs.length (xs.map pb)
abbrev cBoolSi (k : Nat) (xs : List Bool) : PT := rd k xs.length (xs.map pb)
def wt_BoolS (xs : List Bool) : Nat := xs.length
theorem len_wt_BoolS (xs : List Bool) : xs.length ≤ wt_BoolS xs := by unfold wt_BoolS; omega
def fits_BoolS (xs : List Bool) : Prop := xs.length ≤ 140737488351232 ∧ ∀ x ∈ xs, True
def lens_BoolS (xs : List Bool) : Prop := xs.length ≤ 140737488351232 ∧ ∀ x ∈ xs, True
def mk_BoolS (xs : List Bool) (k : Int) : List Bool × Int := mkR (fun (_ : Bool) k => (decide (Int.tmod k 3 = 0), k + 1)) xs k
def cn_BoolS (xs : List Bool) : Nat := cnR (fun (_ : Bool) => 1) xs
theorem mk_BoolS_len (xs : List Bool) (k : Int) : (mk_BoolS xs k).1.length = xs.length := mkR_len _ xs k
attribute [simp] mk_BoolS_len
theorem mk_BoolS_snd (xs : List Bool) (k : Int) : (mk_BoolS xs k).2 = k + cn_BoolS xs := mkR_snd (fun _ _ => rfl) xs k
theorem lens_of_BoolS {xs : List Bool} (h : wt_BoolS xs ≤ 1048576) : lens_BoolS xs := by
  have hl := len_wt_BoolS xs
  exact ⟨by omega, fun _ _ => trivial⟩
theorem cn_len_BoolS (xs : List Bool) : cn_BoolS xs ≤ 32 * xs.length := cnR_le0 (fun x => by omega) xs
theorem cn_le_BoolS (xs : List Bool) : cn_BoolS xs ≤ 32 * wt_BoolS xs := cnR_le0 (fun _ => by omega) xs
abbrev cOpSo (xs : List GOp) : PT := .sl 0 44 xs.length (xs.flatMap GOp.co)
abbrev cOpSi (k : Nat) (xs : List GOp) : PT := rd k xs.length (xs.flatMap (GOp.ci k))
def wt_OpS (xs : List GOp) : Nat := wtR GOp.wt xs
theorem len_wt_OpS (xs : List GOp) : xs.length ≤ wt_OpS xs := by unfold wt_OpS wtR; omega
theorem mem_wt_OpS {xs : List GOp} {x : GOp} (h : x ∈ xs) : GOp.wt x ≤ wt_OpS xs := by
  have := wt_mem GOp.wt h
  unfold wt_OpS wtR
  omega
def fits_OpS (xs : List GOp) : Prop := xs.length ≤ 140737488351232 ∧ ∀ x ∈ xs, GOp.fits x
def lens_OpS (xs : List GOp) : Prop := xs.length ≤ 140737488351232 ∧ ∀ x ∈ xs, GOp.lens x
def mk_OpS (xs : List GOp) (k : Int) : List GOp × Int := mkR GOp.mark xs k
def cn_OpS (xs : List GOp) : Nat := cnR GOp.cn xs
theorem mk_OpS_len (xs : List GOp) (k : Int) : (mk_OpS xs k).1.length = xs.length := mkR_len _ xs k
attribute [simp] mk_OpS_len
theorem mk_OpS_snd (xs : List GOp) (k : Int) : (mk_OpS xs k).2 = k + cn_OpS xs := mkR_snd (GOp.mark_snd) xs k
theorem lens_of_OpS {xs : List GOp} (h : wt_OpS xs ≤ 1048576) : lens_OpS xs := by
  have hl := len_wt_OpS xs
  exact ⟨by omega, fun x hx => lens_of_Op (by have := mem_wt_OpS hx; omega)⟩
theorem cn_le_OpS (xs : List GOp) : cn_OpS xs ≤ 32 * wt_OpS xs := cnR_le (fun x => by have := cnE_le_Op x; omega) xs
def plS (l : List GOp) : Nat → GStore × List Bool
  | 0 => (rNewStore, [])
  | i + 1 => match l[i]? with
    | none => plS l i
    | some o => (if (stepI (plS l i).1 o).2 = true then (stepI (plS l i).1 o).1 else (plS l i).1, (plS l i).2 ++ [(stepI (plS l i).1 o).2])
theorem plS_succ (l : List GOp) (i : Nat) (h : i < l.length) : plS l (i + 1) = (if (stepI (plS l i).1 l[i]).2 = true then (stepI (plS l i).1 l[i]).1 else (plS l i).1, (plS l i).2 ++ [(stepI (plS l i).1 l[i]).2]) := by
  simp only [plS, List.getElem?_eq_getElem h]
theorem smC_first : smC firstC := ⟨by decide, by decide⟩
theorem invS_new : invS rNewStore := ⟨smC_first, smC_first, by decide, by decide, fun x hx => by
  have : x = firstC := by simpa [rNewStore] using hx
  rw [this]; exact smC_first, by decide⟩
theorem plS_inv (l : List GOp) : ∀ i, invS (plS l i).1
  | 0 => invS_new
  | i + 1 => by
    unfold plS
    split
    · exact plS_inv l i
    · simp only
      split
      · rename_i h; exact step_inv (plS_inv l i) h
      · exact plS_inv l i
theorem plS_len (l : List GOp) : ∀ i, i ≤ l.length → (plS l i).2.length = i
  | 0, _ => rfl
  | i + 1, h => by
    rw [plS_succ l i (by omega)]
    simp [plS_len l i (by omega)]
def rPlayOps (v0 : List GOp) : GStore × List Bool × Bool := if v0.length ≤ 60 then ((plS v0 v0.length).1, (plS v0 v0.length).2, true) else (zeroS, [], false)
theorem rPlayOps_ok (v0 : List GOp) (hv0 : wt_OpS v0 ≤ 1048576) : ((rPlayOps v0).1.lens ∧ GStore.cnT (rPlayOps v0).1 ≤ 1152921504606846976) ∧ (lens_BoolS (rPlayOps v0).2.1 ∧ cn_BoolS (rPlayOps v0).2.1 ≤ 2000) := by
  have key : GStore.wt (rPlayOps v0).1 ≤ 1048576 := by
    unfold rPlayOps
    split
    · exact invS_wt (plS_inv v0 _)
    · decide
  have kb : (rPlayOps v0).2.1.length ≤ 60 := by
    unfold rPlayOps
    split
    · rename_i h
      show (plS v0 v0.length).2.length ≤ 60
      rw [plS_len v0 _ (Nat.le_refl _)]; exact h
    · exact Nat.zero_le _
  refine ⟨⟨lens_of_Store key, by have := cn_le_Store (rPlayOps v0).1; omega⟩, lens_of_BoolS ?_, by have := cn_len_BoolS (rPlayOps v0).2.1; omega⟩
  show (rPlayOps v0).2.1.length ≤ 1048576
  omega
theorem op_ok_mem {l : List GOp} {o : GOp} (h : wt_OpS l ≤ 1048576) (ho : o ∈ l) : opOK o := wt_opOK (by have := mem_wt_OpS ho; omega)
theorem goodS_spec {s : GStore} (h : goodS s = true) : goodC s.Candidate = true ∧ goodC s.Running = true ∧ 1 ≤ s.History.length ∧ s.History.length ≤ 10 ∧ (∀ l ∈ s.History, goodC l = true) ∧ (0 ≤ s.Left ∧ s.Left ≤ 100) ∧ (s.Left = 0 ↔ s.Running = s.History.headD []) := by
  simp only [goodS, Bool.and_eq_true, decide_eq_true_eq, List.all_eq_true, beq_iff_eq] at h
  obtain ⟨⟨⟨⟨⟨h1, h2⟩, h3⟩, h4⟩, h5⟩, h6⟩ := h
  refine ⟨h1, h2, by omega, by omega, h4, h5, ?_⟩
  exact decide_eq_decide.1 h6
theorem goodS_intro {s : GStore} (h1 : goodC s.Candidate = true) (h2 : goodC s.Running = true) (h3 : 1 ≤ s.History.length) (h4 : s.History.length ≤ 10) (h5 : ∀ l ∈ s.History, goodC l = true) (h6 : 0 ≤ s.Left ∧ s.Left ≤ 100) (h7 : s.Left = 0 ↔ s.Running = s.History.headD []) : goodS s = true := by
  simp only [goodS, Bool.and_eq_true, decide_eq_true_eq, List.all_eq_true, beq_iff_eq]
  exact ⟨⟨⟨⟨⟨h1, h2⟩, by omega⟩, h5⟩, h6⟩, decide_eq_decide.2 h7⟩
theorem confirmS_good {s : GStore} (h1 : goodC s.Candidate = true) (h2 : goodC s.Running = true) (h3 : 1 ≤ s.History.length) (h4 : s.History.length ≤ 10) (h5 : ∀ l ∈ s.History, goodC l = true) : goodS (confirmS s) = true := by
  obtain ⟨C, R, H, F⟩ := s
  simp only at h1 h2 h3 h4 h5
  have h0 : (0 : Int) ≤ 0 ∧ (0 : Int) ≤ 100 := by decide
  unfold confirmS
  split
  · rename_i e
    simp only at e
    refine goodS_intro h1 h2 h3 h4 h5 h0 ?_
    cases H with
    | nil => simp at h3
    | cons x H => simp at e ⊢; exact e.symm
  · refine goodS_intro h1 h2 ?_ ?_ ?_ h0 ?_
    · simp only [List.take_succ_cons, List.length_cons]; omega
    · simp only [List.length_take]; omega
    · intro l hl
      have := List.mem_of_mem_take hl
      rcases List.mem_cons.1 this with rfl | h
      · exact h2
      · exact h5 l h
    · simp
theorem step_good {s : GStore} {o : GOp} (hs : goodS s = true) (ho : (stepI s o).2 = true) : goodS (stepI s o).1 = true := by
  have hs' := hs
  obtain ⟨h1, h2, h3, h4, h5, h6, h7⟩ := goodS_spec hs
  have hhd := h5 _ (headD_mem h3)
  obtain ⟨C, R, H, F⟩ := s
  obtain ⟨K, Pa, V, N⟩ := o
  simp only at h1 h2 h3 h4 h5 h6 h7 hhd
  unfold stepI at ho ⊢
  simp only at ho ⊢
  split at ho
  · simp at ho
  rename_i c0
  rw [if_neg c0]
  split at ho
  · rename_i k
    rw [if_pos k]
    refine goodS_intro ?_ h2 h3 h4 h5 h6 h7
    unfold rSetAt at ho ⊢
    split at ho
    · rename_i hg
      rw [if_pos hg]
      simp only [Bool.and_eq_true] at hg
      exact hg.2
    · simp at ho
  rename_i k1
  rw [if_neg k1]
  split at ho
  · rename_i k
    rw [if_pos k]
    refine goodS_intro ?_ h2 h3 h4 h5 h6 h7
    unfold rDeleteAt at ho ⊢
    split at ho
    · rename_i hg
      rw [if_pos hg]
      exact goodC_filter h1 _
    · simp at ho
  rename_i k2
  rw [if_neg k2]
  split at ho
  · rename_i k
    rw [if_pos k]
    exact confirmS_good h1 h1 h3 h4 h5
  rename_i k3
  rw [if_neg k3]
  split at ho
  · rename_i k
    rw [if_pos k]
    simp only [decide_eq_true_eq] at ho
    refine goodS_intro h1 h1 h3 h4 h5 ?_ ?_
    · show 0 ≤ (if C = H.headD [] then (0 : Int) else N) ∧ (if C = H.headD [] then (0 : Int) else N) ≤ 100
      split <;> omega
    · show (if C = H.headD [] then (0 : Int) else N) = 0 ↔ C = H.headD []
      by_cases e : C = H.headD []
      · simp [e]
      · rw [if_neg e]
        exact ⟨fun h => absurd h (by omega), fun h => absurd h e⟩
  rename_i k4
  rw [if_neg k4]
  split at ho
  · rename_i k
    rw [if_pos k]
    exact confirmS_good h1 h2 h3 h4 h5
  rename_i k5
  rw [if_neg k5]
  split at ho
  · rename_i k
    rw [if_pos k]
    split at ho
    · rename_i hN
      rw [if_pos hN]
      refine goodS_intro ?_ h2 h3 h4 h5 h6 h7
      have hlt : N.toNat < H.length := by omega
      show goodC (H.getD N.toNat []) = true
      rw [List.getD_eq_getElem?_getD, List.getElem?_eq_getElem hlt]
      exact h5 _ (List.getElem_mem hlt)
    · simp at ho
  rename_i k6
  rw [if_neg k6]
  split at ho
  · rename_i k
    rw [if_pos k]
    exact goodS_intro h2 h2 h3 h4 h5 h6 h7
  rename_i k7
  rw [if_neg k7]
  split at ho
  · rename_i k
    rw [if_pos k]
    simp only [decide_eq_true_eq] at ho
    refine goodS_intro h1 ?_ h3 h4 h5 (by show 0 ≤ F - 1 ∧ F - 1 ≤ 100; omega) ?_
    · show goodC (if F - 1 = 0 then H.headD [] else R) = true
      split
      · exact hhd
      · exact h2
    · show F - 1 = 0 ↔ (if F - 1 = 0 then H.headD [] else R) = H.headD []
      by_cases e : F - 1 = 0
      · simp [e]
      · rw [if_neg e]
        constructor
        · intro h; exact absurd h e
        · intro h
          have := h7.2 h
          omega
  rename_i k8
  rw [if_neg k8]
  exact hs'
theorem goodS_new : goodS rNewStore = true := by decide
theorem plS_good (l : List GOp) : ∀ i, goodS (plS l i).1 = true
  | 0 => goodS_new
  | i + 1 => by
    unfold plS
    split
    · exact plS_good l i
    · simp only
      split
      · rename_i h; exact step_good (plS_good l i) h
      · exact plS_good l i
def tickO : GOp := ⟨8, [], ⟨#[]⟩, 0⟩
theorem step_tick (s : GStore) : stepI s tickO = (⟨s.Candidate, (if s.Left - 1 = 0 then s.History.headD [] else s.Running), s.History, s.Left - 1⟩, decide (0 < s.Left)) := by
  simp [stepI, tickO, isOpB]
end Go.V
