/- What functions of the seat's program do, each proved of its code, under the bounds that its theorem names. -/
import Derived.Test.YtildjkidohpmbaaGreatTaj
set_option linter.all false
namespace Go.V
open Go.Proofs
set_option maxHeartbeats 1000000
set_option maxRecDepth 10000
set_option linter.unusedSimpArgs false
set_option linter.unusedVariables false
def zeroS : GStore := ⟨[], [], [], 0⟩
def stepI (s : GStore) (o : GOp) : GStore × Bool :=
  if isOpB o = false then (zeroS, false)
  else if o.Kind = 1 then (⟨(rSetAt s.Candidate o.Path o.Value).1, s.Running, s.History, s.Left⟩, (rSetAt s.Candidate o.Path o.Value).2)
  else if o.Kind = 2 then (⟨(rDeleteAt s.Candidate o.Path).1, s.Running, s.History, s.Left⟩, (rDeleteAt s.Candidate o.Path).2)
  else if o.Kind = 3 then (confirmS ⟨s.Candidate, s.Candidate, s.History, s.Left⟩, true)
  else if o.Kind = 4 then (⟨s.Candidate, s.Candidate, s.History, if s.Candidate = s.History.headD [] then 0 else o.N⟩, decide (1 ≤ o.N ∧ o.N ≤ 100))
  else if o.Kind = 5 then (confirmS s, decide (0 < s.Left))
  else if o.Kind = 6 then (if 0 ≤ o.N ∧ o.N ≤ (s.History.length : Int) - 1 then (⟨s.History.getD o.N.toNat [], s.Running, s.History, s.Left⟩, true) else (zeroS, false))
  else if o.Kind = 7 then (⟨s.Running, s.Running, s.History, s.Left⟩, true)
  else if o.Kind = 8 then (⟨s.Candidate, (if s.Left - 1 = 0 then s.History.headD [] else s.Running), s.History, s.Left - 1⟩, decide (0 < s.Left))
  else (s, true)
theorem ok_stepStore (k k' : Nat) (s : GStore) (o : GOp) (hs : storeB s) (hh : s.History ≠ []) (hF : 0 ≤ s.Left ∧ s.Left ≤ 100) (hl : s.History.length ≤ 10) (ho : opOK o) : CallOK Tryz.prog 23 [.agg (GStore.ci k s), .agg (GOp.ci k' o)] (.tup [.agg (stepI s o).1.co, .c (pb (stepI s o).2)]) [.agg (GStore.ci k s), .agg (GOp.ci k' o)] := by
  have hown := ok_ownStore k s hs
  have hop := ok_isOp k' o
  have hcf := ok_confirm s hs hh
  obtain ⟨b1, b2, b3, b4⟩ := hs
  obtain ⟨o1, o2, o3⟩ := ho
  have hcf3 := ok_confirm ⟨s.Candidate, s.Candidate, s.History, s.Left⟩ ⟨b1, b1, b3, b4⟩ hh
  obtain ⟨C, R, H, F⟩ := s
  obtain ⟨K, Pa, V, N⟩ := o
  simp only at b1 b2 b3 b4 hh hF hl o1 o2 o3 hown hop hcf hcf3
  obtain ⟨h0', H', rfl⟩ : ∃ x H', H = x :: H' := by
    cases H with
    | nil => exact absurd rfl hh
    | cons x H' => exact ⟨x, H', rfl⟩
  have hb := b4 h0' (List.mem_cons_self ..)
  simp only [List.length_cons] at b3 hl
  have w1 : IntKind.i64.wrap (F - 1) = F - 1 := wrap64 (by omega) (by omega)
  have w2 : IntKind.i64.wrap (H'.length : Int) = (H'.length : Int) := wrap64 (by omega) (by omega)
  refine okS (fn := Tryz.f23) [(55, [1])] h0 Tryz.func23 (by kernel_rfl) rfl Tryz.ntmps23 Tryz.results23 (by simp) ?_
  simp
  refine Inv_intro hop ?_
  simp
  cases c0 : isOpB ⟨K, Pa, V, N⟩ with
  | false => simp [stepI, c0, zeroS]
  | true =>
    simp
    refine Inv_intro hown ?_
    simp
    by_cases k1 : K = 1
    · have e : stepI ⟨C, R, h0' :: H', F⟩ ⟨K, Pa, V, N⟩ = (⟨(rSetAt C Pa V).1, R, h0' :: H', F⟩, (rSetAt C Pa V).2) := by simp only [stepI, c0]; simp [k1]
      rw [e]
      simp [k1]
      refine Inv_intro (ok_iSetAt k k' C Pa V b1.1 (fun x hx => (b1.2 x hx).1) (boundC_conf b1) o1 o2 o3) ?_
      simp
    · by_cases k2 : K = 2
      · have e : stepI ⟨C, R, h0' :: H', F⟩ ⟨K, Pa, V, N⟩ = (⟨(rDeleteAt C Pa).1, R, h0' :: H', F⟩, (rDeleteAt C Pa).2) := by simp only [stepI, c0]; simp [k1, k2]
        rw [e]
        simp [k1, k2]
        refine Inv_intro (ok_iDeleteAt k k' C Pa b1.1 (fun x hx => (b1.2 x hx).1) (boundC_conf b1) o1) ?_
        simp
      · by_cases k3 : K = 3
        · have e : stepI ⟨C, R, h0' :: H', F⟩ ⟨K, Pa, V, N⟩ = (confirmS ⟨C, C, h0' :: H', F⟩, true) := by simp only [stepI, c0]; simp [k3]
          rw [e]
          simp [k1, k2, k3]
          refine Inv_intro (ok_ownConfig k C b1.1 (fun x hx => (b1.2 x hx).1)) ?_
          simp
          refine Inv_intro hcf3 ?_
          simp
        · by_cases k4 : K = 4
          · have e : stepI ⟨C, R, h0' :: H', F⟩ ⟨K, Pa, V, N⟩ = (⟨C, C, h0' :: H', if C = h0' then 0 else N⟩, decide (1 ≤ N ∧ N ≤ 100)) := by simp only [stepI, c0]; simp [k4]
            rw [e]
            simp [k1, k2, k3, k4]
            refine drawP (tabEnv [] _) [⟨[.op 0 0 0], allD 118, true⟩, ⟨[.op 0 0 0], allD 118, true⟩, ⟨[], allD 118, false⟩, ⟨[.op 0 1 0], allD 118, true⟩, ⟨[.op 0 1 0], allD 118, true⟩, ⟨[.op 3 2 0], allD 118, true⟩, ⟨[.op 3 2 0, .op 14 2 0], [49, 50, 51, 52, 53, 54, 55], false⟩, ⟨[.op 3 2 0], allD 118, true⟩, ⟨[.op 3 2 0], [49, 50, 51, 52, 53, 54, 55], false⟩] h0 hm (tabEnv_ok (tab_cons (ok_ownConfig k C b1.1 (fun x hx => (b1.2 x hx).1)) tab_nil)) (by kernel_rfl) (by kernel_rfl) ?_
            simp
            refine Inv_intro (ok_within N 1 100) ?_
            simp
            refine drawP (tabEnv [] _) [⟨[.op 3 2 0], allD 118, true⟩, ⟨[.op 3 2 0], allD 118, true⟩, ⟨[.op 3 2 0], allD 118, true⟩, ⟨[.op 3 2 0], allD 118, true⟩, ⟨[.op 3 2 0], allD 118, true⟩, ⟨[.op 3 2 0], allD 118, true⟩, ⟨[.op 3 2 0], [59, 60, 61, 62, 63, 64, 65], false⟩] h0 hm (tabEnv_ok (tab_cons (ok_sameConfig 0 0 C h0' (boundC_conf b1) (boundC_conf hb)) tab_nil)) (by kernel_rfl) (by kernel_rfl) ?_
            simp
            by_cases c : C = h0'
            · simp [c]
            · simp [c]
          · by_cases k5 : K = 5
            · have e : stepI ⟨C, R, h0' :: H', F⟩ ⟨K, Pa, V, N⟩ = (confirmS ⟨C, R, h0' :: H', F⟩, decide (0 < F)) := by simp only [stepI, c0]; simp [k5]
              rw [e]
              simp [k1, k2, k3, k4, k5]
              refine Inv_intro hcf ?_
              simp
            · by_cases k6 : K = 6
              · by_cases c : 0 ≤ N ∧ N ≤ (H'.length : Int)
                · have hN : N.toNat < (h0' :: H').length := by rw [List.length_cons]; omega
                  have hbN := b4 _ (List.getElem_mem hN)
                  have e : stepI ⟨C, R, h0' :: H', F⟩ ⟨K, Pa, V, N⟩ = (⟨(h0' :: H')[N.toNat], R, h0' :: H', F⟩, true) := by
                    have c' : 0 ≤ N ∧ N ≤ ((h0' :: H').length : Int) - 1 := by rw [List.length_cons]; omega
                    simp only [stepI, c0]
                    simp only [k6, c', and_self, if_true, List.getD_eq_getElem?_getD, List.getElem?_eq_getElem hN, Option.getD_some]
                    simp
                  rw [e]
                  have hNl : N < (H'.length : Int) + 1 := by omega
                  have hd : List.drop N.toNat (cLeafSi k h0' :: List.map (cLeafSi k) H') = cLeafSi k (h0' :: H')[N.toNat] :: List.drop (N.toNat + 1) (cLeafSi k h0' :: List.map (cLeafSi k) H') := by
                    have h1 : cLeafSi k h0' :: List.map (cLeafSi k) H' = (h0' :: H').map (cLeafSi k) := rfl
                    rw [h1, List.drop_eq_getElem_cons (by rw [List.length_map]; exact hN), List.getElem_map]
                  generalize (h0' :: H')[N.toNat] = x at hbN hd ⊢
                  simp [k1, k2, k3, k4, k5, k6, w2]
                  refine Inv_intro (ok_within N 0 (H'.length : Int)) ?_
                  simp [c, hNl, hd]
                  refine Inv_intro (ok_ownConfig k x hbN.1 (fun y hy => (hbN.2 y hy).1)) ?_
                  simp
                · have e : stepI ⟨C, R, h0' :: H', F⟩ ⟨K, Pa, V, N⟩ = (zeroS, false) := by
                    have c' : ¬ (0 ≤ N ∧ N ≤ ((h0' :: H').length : Int) - 1) := by rw [List.length_cons]; omega
                    simp only [stepI, c0]
                    simp only [k6, c', if_false]
                    simp
                  rw [e]
                  simp [k1, k2, k3, k4, k5, k6, w2]
                  refine Inv_intro (ok_within N 0 (H'.length : Int)) ?_
                  simp [c, zeroS]
              · by_cases k7 : K = 7
                · have e : stepI ⟨C, R, h0' :: H', F⟩ ⟨K, Pa, V, N⟩ = (⟨R, R, h0' :: H', F⟩, true) := by simp only [stepI, c0]; simp [k7]
                  rw [e]
                  simp [k1, k2, k3, k4, k5, k6, k7]
                  refine Inv_intro (ok_ownConfig k R b2.1 (fun x hx => (b2.2 x hx).1)) ?_
                  simp
                · by_cases k8 : K = 8
                  · have e : stepI ⟨C, R, h0' :: H', F⟩ ⟨K, Pa, V, N⟩ = (⟨C, (if F - 1 = 0 then h0' else R), h0' :: H', F - 1⟩, decide (0 < F)) := by simp only [stepI, c0]; simp [k8]
                    rw [e]
                    simp [k1, k2, k3, k4, k5, k6, k7, k8, w1]
                    by_cases c : F - 1 = 0
                    · simp [c]
                      refine Inv_intro (ok_ownConfig 0 h0' hb.1 (fun x hx => (hb.2 x hx).1)) ?_
                      simp
                    · simp [c]
                  · have e : stepI ⟨C, R, h0' :: H', F⟩ ⟨K, Pa, V, N⟩ = (⟨C, R, h0' :: H', F⟩, true) := by simp only [stepI, c0]; simp [k1, k2, k3, k4, k5, k6, k7, k8]
                    rw [e]
                    simp [k1, k2, k3, k4, k5, k6, k7, k8]
theorem wtR_leC {α : Type} (f : α → Nat) (b : Nat) : ∀ l : List α, (∀ x ∈ l, f x ≤ b) → wtR f l ≤ l.length * (b + 1)
  | [], _ => by simp [wtR]
  | x :: l, h => by
    have ih := wtR_leC f b l fun y hy => h y (by simp [hy])
    have hx := h x (by simp)
    simp only [wtR, List.map_cons, List.sum_cons, List.length_cons] at ih ⊢
    rw [Nat.succ_mul]
    omega
theorem isW_size {w : ByteArray} (h : isW w = true) : w.size ≤ 8 := by
  simp only [isW, Bool.and_eq_true, decide_eq_true_eq] at h
  omega
def smC (l : List GLeaf) : Prop := l.length ≤ 30 ∧ ∀ x ∈ l, okLeaf x = true
theorem goodC_sm {l : List GLeaf} (h : goodC l = true) : smC l := by
  refine ⟨?_, goodC_all h⟩
  simp only [goodC, Bool.and_eq_true, decide_eq_true_eq] at h
  exact h.2
theorem smC_wt {l : List GLeaf} (h : smC l) : wt_LeafS l ≤ 2000 := by
  have hl := h.1
  have h1 : wtR GLeaf.wt l ≤ l.length * (53 + 1) := by
    refine wtR_leC GLeaf.wt 53 l fun x hx => ?_
    have ho := h.2 x hx
    simp only [okLeaf, Bool.and_eq_true, isP, decide_eq_true_eq] at ho
    obtain ⟨⟨h2, h3⟩, h4⟩ := ho
    have h5 := isW_size h4
    have h6 : wtR ByteArray.size x.Path ≤ x.Path.length * (8 + 1) := wtR_leC ByteArray.size 8 x.Path fun w hw => isW_size (List.all_eq_true.1 h3 w hw)
    unfold GLeaf.wt
    show wtR ByteArray.size x.Path + x.Value.size ≤ 53
    omega
  show wtR GLeaf.wt l ≤ 2000
  omega
def invS (s : GStore) : Prop := smC s.Candidate ∧ smC s.Running ∧ 1 ≤ s.History.length ∧ s.History.length ≤ 10 ∧ (∀ l ∈ s.History, smC l) ∧ (0 ≤ s.Left ∧ s.Left ≤ 100)
theorem goodS_inv {s : GStore} (h : goodS s = true) : invS s := by
  simp only [goodS, Bool.and_eq_true, decide_eq_true_eq, List.all_eq_true] at h
  obtain ⟨⟨⟨⟨⟨h1, h2⟩, h3⟩, h4⟩, h5⟩, h6⟩ := h
  exact ⟨goodC_sm h1, goodC_sm h2, by omega, by omega, fun l hl => goodC_sm (h4 l hl), h5⟩
theorem invS_wt {s : GStore} (h : invS s) : GStore.wt s ≤ 1048576 := by
  obtain ⟨h1, h2, h3, h4, h5, _⟩ := h
  have a1 := smC_wt h1
  have a2 := smC_wt h2
  have a3 : wtR wt_LeafS s.History ≤ s.History.length * (2000 + 1) := wtR_leC wt_LeafS 2000 s.History fun l hl => smC_wt (h5 l hl)
  unfold GStore.wt
  show wt_LeafS s.Candidate + wt_LeafS s.Running + wtR wt_LeafS s.History ≤ 1048576
  omega
theorem wt_storeB {s : GStore} (h : GStore.wt s ≤ 1048576) : storeB s := by
  unfold GStore.wt at h
  have key : ∀ l : List GLeaf, wt_LeafS l ≤ 1048576 → boundC l := fun l hl => ⟨(conf_len hl).1, fun x hx => ⟨(conf_len hl).2 x hx, (conf_ok hl).2 x hx⟩⟩
  exact ⟨key _ (by omega), key _ (by omega), by have := len_wt_LeafSS s.History; omega, fun l hl => key _ (by have := mem_wt_LeafSS hl; omega)⟩
theorem wt_opOK {o : GOp} (h : GOp.wt o ≤ 1048576) : opOK o := by
  unfold GOp.wt at h
  have := len_wt_StringS o.Path
  exact ⟨strs_ok (by omega), by omega, by omega⟩
theorem step_agree {s : GStore} (o : GOp) (hs : invS s) : (stepSp s o).2 = (stepI s o).2 ∧ ((stepI s o).2 = true → (stepSp s o).1 = (stepI s o).1) := by
  obtain ⟨h1, h2, h3, h4, h5, h6⟩ := hs
  obtain ⟨C, R, H, F⟩ := s
  obtain ⟨K, Pa, V, N⟩ := o
  simp only at h1 h2 h3 h4 h5 h6
  by_cases k1 : K = 1
  · subst k1
    cases c1 : isP Pa <;> cases c2 : isW V <;> by_cases c3 : N = 0 <;> simp [stepSp, stepI, isOpB, l16OpB, rSetAt, c1, c2, c3, zeroS]
  by_cases k2 : K = 2
  · subst k2
    cases c1 : isP Pa <;> by_cases c2 : V = ⟨#[]⟩ <;> by_cases c3 : N = 0 <;> simp [stepSp, stepI, isOpB, l16OpB, rDeleteAt, c1, c2, c3, zeroS]
  by_cases k3 : K = 3
  · subst k3
    by_cases c1 : Pa = [] <;> by_cases c2 : V = ⟨#[]⟩ <;> by_cases c3 : N = 0 <;> simp [stepSp, stepI, isOpB, l16OpB, textB, c1, c2, c3, zeroS]
  by_cases k4 : K = 4
  · subst k4
    by_cases c1 : Pa = [] <;> by_cases c2 : V = ⟨#[]⟩ <;> by_cases c3 : 1 ≤ N ∧ N ≤ 100 <;> simp [stepSp, stepI, isOpB, l16OpB, textB, c1, c2, c3, zeroS]
  by_cases k5 : K = 5
  · subst k5
    by_cases c1 : Pa = [] <;> by_cases c2 : V = ⟨#[]⟩ <;> by_cases c3 : N = 0 <;> by_cases c4 : F = 0 <;> simp [stepSp, stepI, isOpB, l16OpB, textB, c1, c2, c3, c4, zeroS]
    omega
  by_cases k6 : K = 6
  · subst k6
    by_cases c1 : Pa = [] <;> by_cases c2 : V = ⟨#[]⟩ <;> by_cases c3 : 0 ≤ N ∧ N ≤ 9
    all_goals
      by_cases c4 : (H.length : Int) ≤ N
      · have c5 : ¬ (0 ≤ N ∧ N ≤ (H.length : Int) - 1) := by omega
        have c6 : ¬ N ≤ (H.length : Int) - 1 := by omega
        simp [c6, stepSp, stepI, isOpB, l16OpB, textB, c1, c2, c3, c4, c5, zeroS]
      · by_cases c5 : 0 ≤ N ∧ N ≤ (H.length : Int) - 1
        · first
          | (exfalso; omega)
          | simp [stepSp, stepI, isOpB, l16OpB, textB, c1, c2, c3, c4, c5, zeroS]
        · first
          | (exfalso; omega)
          | simp [stepSp, stepI, isOpB, l16OpB, textB, c1, c2, c3, c4, c5, zeroS]
  by_cases k7 : K = 7
  · subst k7
    by_cases c1 : Pa = [] <;> by_cases c2 : V = ⟨#[]⟩ <;> by_cases c3 : N = 0 <;> simp [stepSp, stepI, isOpB, l16OpB, textB, c1, c2, c3, zeroS]
  by_cases k8 : K = 8
  · subst k8
    by_cases c1 : Pa = [] <;> by_cases c2 : V = ⟨#[]⟩ <;> by_cases c3 : N = 0 <;> by_cases c4 : F = 0 <;> simp [stepSp, stepI, isOpB, l16OpB, textB, c1, c2, c3, c4, zeroS]
    omega
  · have c1 : ¬ (1 ≤ K ∧ K ≤ 8) := by omega
    simp [stepSp, stepI, isOpB, l16OpB, k1, k2, k3, k4, k5, k6, k7, k8, c1]
theorem headD_mem {H : List (List GLeaf)} (h : 1 ≤ H.length) : H.headD [] ∈ H := by
  cases H with
  | nil => simp at h
  | cons x H => simp
theorem confirmS_inv {s : GStore} (h1 : smC s.Candidate) (h2 : smC s.Running) (h3 : 1 ≤ s.History.length) (h4 : s.History.length ≤ 10) (h5 : ∀ l ∈ s.History, smC l) : invS (confirmS s) := by
  obtain ⟨C, R, H, F⟩ := s
  simp only at h1 h2 h3 h4 h5
  have h0 : (0 : Int) ≤ 0 ∧ (0 : Int) ≤ 100 := by decide
  unfold confirmS
  split
  · exact ⟨h1, h2, h3, h4, h5, h0⟩
  · refine ⟨h1, h2, ?_, ?_, ?_, h0⟩
    · simp only [List.take_succ_cons, List.length_cons]; omega
    · simp only [List.length_take]; omega
    · intro l hl
      have := List.mem_of_mem_take hl
      rcases List.mem_cons.1 this with rfl | h
      · exact h2
      · exact h5 l h
theorem step_inv {s : GStore} {o : GOp} (hs : invS s) (ho : (stepI s o).2 = true) : invS (stepI s o).1 := by
  have hs' := hs
  obtain ⟨h1, h2, h3, h4, h5, h6⟩ := hs
  have hhd := h5 _ (headD_mem h3)
  obtain ⟨C, R, H, F⟩ := s
  obtain ⟨K, Pa, V, N⟩ := o
  simp only at h1 h2 h3 h4 h5 h6 hhd
  unfold stepI at ho ⊢
  simp only at ho ⊢
  split at ho
  · simp at ho
  rename_i c0
  rw [if_neg c0]
  split at ho
  · rename_i k
    rw [if_pos k]
    refine ⟨?_, h2, h3, h4, h5, h6⟩
    unfold rSetAt at ho ⊢
    split at ho
    · rename_i hg
      rw [if_pos hg]
      simp only [Bool.and_eq_true] at hg
      exact goodC_sm hg.2
    · simp at ho
  rename_i k1
  rw [if_neg k1]
  split at ho
  · rename_i k
    rw [if_pos k]
    refine ⟨?_, h2, h3, h4, h5, h6⟩
    unfold rDeleteAt at ho ⊢
    split at ho
    · rename_i hg
      rw [if_pos hg]
      exact ⟨Nat.le_trans (delL_len _ _) h1.1, fun x hx => h1.2 x (List.mem_filter.1 hx).1⟩
    · simp at ho
  rename_i k2
  rw [if_neg k2]
  split at ho
  · rename_i k
    rw [if_pos k]
    exact confirmS_inv h1 h1 h3 h4 h5
  rename_i k3
  rw [if_neg k3]
  split at ho
  · rename_i k
    rw [if_pos k]
    simp only [decide_eq_true_eq] at ho
    refine ⟨h1, h1, h3, h4, h5, ?_⟩
    show 0 ≤ (if C = H.headD [] then (0 : Int) else N) ∧ (if C = H.headD [] then (0 : Int) else N) ≤ 100
    split <;> omega
  rename_i k4
  rw [if_neg k4]
  split at ho
  · rename_i k
    rw [if_pos k]
    exact confirmS_inv h1 h2 h3 h4 h5
  rename_i k5
  rw [if_neg k5]
  split at ho
  · rename_i k
    rw [if_pos k]
    split at ho
    · rename_i hN
      rw [if_pos hN]
      refine ⟨?_, h2, h3, h4, h5, h6⟩
      have hlt : N.toNat < H.length := by omega
      show smC (H.getD N.toNat [])
      rw [List.getD_eq_getElem?_getD, List.getElem?_eq_getElem hlt]
      exact h5 _ (List.getElem_mem hlt)
    · simp at ho
  rename_i k6
  rw [if_neg k6]
  split at ho
  · rename_i k
    rw [if_pos k]
    exact ⟨h2, h2, h3, h4, h5, h6⟩
  rename_i k7
  rw [if_neg k7]
  split at ho
  · rename_i k
    rw [if_pos k]
    simp only [decide_eq_true_eq] at ho
    refine ⟨h1, ?_, h3, h4, h5, by show 0 ≤ F - 1 ∧ F - 1 ≤ 100; omega⟩
    show smC (if F - 1 = 0 then H.headD [] else R)
    split
    · exact hhd
    · exact h2
  rename_i k8
  rw [if_neg k8]
  exact hs'
def rStepStore (v0 : GStore) (v1 : GOp) : GStore × Bool := if goodS v0 = true ∧ (stepI v0 v1).2 = true then ((stepI v0 v1).1, true) else (zeroS, false)
theorem rStepStore_ok (v0 : GStore) (v1 : GOp) (hv0 : GStore.wt v0 ≤ 1048576) (hv1 : GOp.wt v1 ≤ 1048576) : (rStepStore v0 v1).1.lens ∧ GStore.cnT (rStepStore v0 v1).1 ≤ 1152921504606846976 := by
  have key : GStore.wt (rStepStore v0 v1).1 ≤ 1048576 := by
    unfold rStepStore
    split
    · rename_i h; exact invS_wt (step_inv (goodS_inv h.1) h.2)
    · decide
  exact ⟨lens_of_Store key, by have := cn_le_Store (rStepStore v0 v1).1; omega⟩
def leafD (x : GLeaf) : Prop := pathOK x.Path ∧ x.Value.size ≤ 9
def confD (l : List GLeaf) : Prop := l.length ≤ 30 ∧ ∀ x ∈ l, leafD x
theorem leafD_wt {x : GLeaf} (h : leafD x) : GLeaf.wt x ≤ 100 := by
  obtain ⟨⟨h1, h2⟩, h3⟩ := h
  have h4 : wtR ByteArray.size x.Path ≤ x.Path.length * (9 + 1) := wtR_leC ByteArray.size 9 x.Path h2
  unfold GLeaf.wt
  show wtR ByteArray.size x.Path + x.Value.size ≤ 100
  omega
theorem confD_wt {l : List GLeaf} (h : confD l) : wt_LeafS l ≤ 4000 := by
  have := wtR_leC GLeaf.wt 100 l fun x hx => leafD_wt (h.2 x hx)
  have h1 := h.1
  show wtR GLeaf.wt l ≤ 4000
  omega
theorem path_ok {p : List ByteArray} (h : pathOK p) : strsOK p := ⟨by have := h.1; omega, fun s hs => by have := h.2 s hs; omega⟩
theorem confD_set {l : List GLeaf} {p : List ByteArray} {v : ByteArray} (h : confD l) (hp : pathOK p) (hv : v.size ≤ 9) (hs : (rSetAt l p v).2 = true) : confD (rSetAt l p v).1 := by
  unfold rSetAt at hs ⊢
  split at hs
  · rename_i hg
    rw [if_pos hg]
    simp only [Bool.and_eq_true] at hg
    have hg2 := hg.2
    simp only [goodC, Bool.and_eq_true, decide_eq_true_eq] at hg2
    refine ⟨hg2.2, fun x hx => ?_⟩
    rcases putL_mem hx with rfl | hx
    · exact ⟨hp, hv⟩
    · exact h.2 x (List.mem_filter.1 hx).1
  · cases hs
def setL_ (l : List GLeaf) (p : List ByteArray) (v : ByteArray) : List GLeaf := if (rSetAt l p v).2 = true then (rSetAt l p v).1 else l
theorem fm_set2 (L : List GLeaf) (k : Nat) (hk : k < L.length) (y : GLeaf) : (L.set k y).flatMap GLeaf.co = (L.flatMap GLeaf.co).take (k * 2) ++ (GLeaf.co y ++ (L.flatMap GLeaf.co).drop (k * 2 + 2)) := by
  have e1 := fm_takeE GLeaf.co 2 (fun _ => rfl) L k (by omega)
  have e2 := fm_dropE GLeaf.co 2 (fun _ => rfl) L (k + 1) (by omega)
  have e3 : (k + 1) * 2 = k * 2 + 2 := by omega
  rw [e3] at e2
  rw [e1, e2, List.set_eq_take_append_cons_drop, if_pos hk, List.flatMap_append, List.flatMap_cons]
theorem fm_setV (L : List GLeaf) (k : Nat) (hk : k < L.length) (v : ByteArray) : (L.set k ⟨L[k].Path, v⟩).flatMap GLeaf.co = (L.flatMap GLeaf.co).take (k * 2 + 1) ++ ps v :: (L.flatMap GLeaf.co).drop (k * 2 + 1 + 1) := by
  rw [fm_set2 L k hk]
  have hd := fm_drop GLeaf.co 2 (fun _ => rfl) L k hk
  have e : (L.flatMap GLeaf.co).take (k * 2 + 1) = (L.flatMap GLeaf.co).take (k * 2) ++ [.sl 0 9 L[k].Path.length (L[k].Path.map ps)] := by
    rw [List.take_add, hd]
    rfl
  rw [e]
  simp [GLeaf.co]
theorem fm_setP (L : List GLeaf) (k : Nat) (hk : k < L.length) (p : List ByteArray) : (L.set k ⟨p, L[k].Value⟩).flatMap GLeaf.co = (L.flatMap GLeaf.co).take (k * 2) ++ .sl 0 9 p.length (p.map ps) :: (L.flatMap GLeaf.co).drop (k * 2 + 1) := by
  rw [fm_set2 L k hk]
  have hd := fm_drop GLeaf.co 2 (fun _ => rfl) L k hk
  have e : (L.flatMap GLeaf.co).drop (k * 2 + 1) = ps L[k].Value :: (L.flatMap GLeaf.co).drop (k * 2 + 2) := by
    rw [← List.drop_drop, hd]
    have e3 : (k + 1) * 2 = k * 2 + 2 := by omega
    rw [e3]
    rfl
  rw [e]
  simp [GLeaf.co]
theorem ok_config (code : List Int) (hc : codeOK code) (a s : Int) (ha : 0 ≤ a) (ha2 : a ≤ 100000) : ∃ (l : List GLeaf) (a' s' : Int), confD l ∧ (a ≤ a' ∧ a' ≤ a + 400) ∧ CallOK Tryz.prog 48 [.bp (curP code a s)] (.c (.sl 0 58 l.length (l.flatMap GLeaf.co))) [.bp (curP code a' s')] := by
  obtain ⟨n0, a1, s1, hn0, ha1, h1⟩ := ok_pick code hc 9 (by decide) (by decide) a s ha (by omega)
  obtain ⟨b, a2, s2, ha2', h2⟩ := ok_one code hc 12 (by decide) (by decide) a1 s1 (by omega) (by omega)
  obtain ⟨N, hN, hNn⟩ : ∃ N : Nat, N ≤ 40 ∧ (N : Int) = if b = true then 40 else n0 := by
    cases b with
    | true => exact ⟨40, by omega, rfl⟩
    | false => exact ⟨n0.toNat, by omega, by simp; omega⟩
  obtain ⟨run, run0, runI, runR⟩ := exists_run (α := List GLeaf × Int × Int) N ([], a2, s2) (fun i x => confD x.1 ∧ a2 ≤ x.2.1 ∧ x.2.1 ≤ a2 + 8 * i)
    (fun x y => ∃ p v b t, pathOK p ∧ v.size ≤ 9 ∧ y.1 = setL_ x.1 p v ∧ CallOK Tryz.prog 49 [.bp (curP code x.2.1 x.2.2)] (.c (.sl 0 9 p.length (p.map ps))) [.bp (curP code b t)] ∧ CallOK Tryz.prog 50 [.bp (curP code b t)] (.c (ps v)) [.bp (curP code y.2.1 y.2.2)])
    ⟨⟨Nat.zero_le _, by simp⟩, by simp, by simp⟩ (by
      rintro i ⟨l, b, t⟩ hi ⟨g1, g2, g3⟩
      simp only at g1 g2 g3
      obtain ⟨p, b1, t1, hp, hb1, c1⟩ := ok_configPath code hc b t (by omega) (by omega)
      obtain ⟨v, b2, t2, hv, hb2, c2⟩ := ok_configValue code hc b1 t1 (by omega) (by omega)
      refine ⟨(setL_ l p v, b2, t2), ⟨p, v, b1, t1, hp, hv, rfl, c1, c2⟩, ?_, by simp only; omega, by simp only; omega⟩
      simp only [setL_]
      split
      · rename_i hs; exact confD_set g1 hp hv hs
      · exact g1)
  obtain ⟨e1, e2, e3⟩ := runI N (Nat.le_refl _)
  obtain ⟨L, hL⟩ : ∃ L, L = (run N).1 := ⟨_, rfl⟩
  obtain ⟨a3, ha3⟩ : ∃ a3, a3 = (run N).2.1 := ⟨_, rfl⟩
  obtain ⟨s3, hs3⟩ : ∃ s3, s3 = (run N).2.2 := ⟨_, rfl⟩
  have dL : confD L := hL ▸ e1
  obtain ⟨L2, a4, s4, dL2, ha4, hfin⟩ : ∃ (L2 : List GLeaf) (a4 s4 : Int), confD L2 ∧ (a3 ≤ a4 ∧ a4 ≤ a3 + 10) ∧ ((L = [] ∧ L2 = [] ∧ a4 = a3 ∧ s4 = s3) ∨ (0 < L.length ∧ ∃ b1 a5 s5, CallOK Tryz.prog 51 [.bp (curP code a3 s3), .c (pi 20)] (.c (pb b1)) [.bp (curP code a5 s5), .c (pi 20)] ∧ ((b1 = false ∧ L2 = L ∧ a4 = a5 ∧ s4 = s5) ∨ (b1 = true ∧ ∃ (k : Nat) (hk : k < L.length) (a6 s6 : Int) (b2 : Bool) (a7 s7 : Int), CallOK Tryz.prog 46 [.bp (curP code a5 s5), .c (pi L.length)] (.c (pi k)) [.bp (curP code a6 s6), .c (pi L.length)] ∧ CallOK Tryz.prog 51 [.bp (curP code a6 s6), .c (pi 2)] (.c (pb b2)) [.bp (curP code a7 s7), .c (pi 2)] ∧ ((b2 = true ∧ ∃ v, L2 = L.set k ⟨L[k].Path, v⟩ ∧ CallOK Tryz.prog 50 [.bp (curP code a7 s7)] (.c (ps v)) [.bp (curP code a4 s4)]) ∨ (b2 = false ∧ ∃ p, L2 = L.set k ⟨p, L[k].Value⟩ ∧ CallOK Tryz.prog 49 [.bp (curP code a7 s7)] (.c (.sl 0 9 p.length (p.map ps))) [.bp (curP code a4 s4)])))))) := by
    by_cases hz : L = []
    · exact ⟨[], a3, s3, ⟨Nat.zero_le _, by simp⟩, by omega, .inl ⟨hz, rfl, rfl, rfl⟩⟩
    · have hpos : 0 < L.length := List.length_pos_iff.2 hz
      have h30 := dL.1
      obtain ⟨b1, a5, s5, ha5, q1⟩ := ok_one code hc 20 (by decide) (by decide) a3 s3 (by omega) (by omega)
      cases b1 with
      | false => exact ⟨L, a5, s5, dL, by omega, .inr ⟨hpos, false, a5, s5, q1, .inl ⟨rfl, rfl, rfl, rfl⟩⟩⟩
      | true =>
        obtain ⟨k, a6, s6, hk, ha6, q2⟩ := ok_pick code hc (L.length : Int) (by omega) (by omega) a5 s5 (by omega) (by omega)
        obtain ⟨kn, rfl⟩ : ∃ kn : Nat, k = (kn : Int) := ⟨k.toNat, by omega⟩
        have hkl : kn < L.length := by omega
        obtain ⟨b2, a7, s7, ha7, q3⟩ := ok_one code hc 2 (by decide) (by decide) a6 s6 (by omega) (by omega)
        have dk := dL.2 _ (List.getElem_mem hkl)
        have hset : ∀ y, leafD y → confD (L.set kn y) := by
          intro y hy
          refine ⟨by rw [List.length_set]; exact h30, fun x hx => ?_⟩
          rcases List.mem_or_eq_of_mem_set hx with h | h
          · exact dL.2 x h
          · rw [h]; exact hy
        cases b2 with
        | true =>
          obtain ⟨v, a8, s8, hv, ha8, q4⟩ := ok_configValue code hc a7 s7 (by omega) (by omega)
          exact ⟨_, a8, s8, hset ⟨L[kn].Path, v⟩ ⟨dk.1, hv⟩, by omega, .inr ⟨hpos, true, a5, s5, q1, .inr ⟨rfl, kn, hkl, a6, s6, true, a7, s7, q2, q3, .inl ⟨rfl, v, rfl, q4⟩⟩⟩⟩
        | false =>
          obtain ⟨p, a8, s8, hp, ha8, q4⟩ := ok_configPath code hc a7 s7 (by omega) (by omega)
          exact ⟨_, a8, s8, hset ⟨p, L[kn].Value⟩ ⟨hp, dk.2⟩, by omega, .inr ⟨hpos, true, a5, s5, q1, .inr ⟨rfl, kn, hkl, a6, s6, false, a7, s7, q2, q3, .inr ⟨rfl, p, rfl, q4⟩⟩⟩⟩
  refine ⟨L2, a4, s4, dL2, by omega, ?_⟩
  refine okE (fn := Tryz.f48) h0 Tryz.func48 (by kernel_rfl) rfl Tryz.ntmps48 Tryz.results48 (by simp) ?_
  unfold curP at h1 h2 runR hfin ⊢
  refine ewrN_cut (M := [(46, [1]), (51, [1]), (49, [1]), (50, [1])]) h0 4 [0, 3, 4] [] ⟨slOf 53 [(0, .ptr ⟨.arg 0 0, []⟩ 0), (3, .t (.sl 0 nilE 0 [])), (4, .t (pi N))], ofL [(.arg 0 0, .sl 0 51 1 [rd 1 code.length (code.map pu), pi a2, .raw (.int .u64 s2)])]⟩ ?_ ?_
  · refine ewr_sound (M := [(46, [1]), (51, [1]), (49, [1]), (50, [1])]) h0 ?_
    simp [Code.rest]
    refine ewp_nil 3 (.op 1 0 0) 58 (by decide) rfl rfl rfl ?_
    refine loopW [0, 3, 4] [.op 7 5 0, .op 1 0 0, .arg 0 0] [.op 1 0 0, .arg 0 0] (fun m st => ∃ (i : Nat), i + m = N ∧ st = ⟨slOf 53 [(0, .ptr ⟨.arg 0 0, []⟩ 0), (3, .ref ⟨.op 1 0 0, []⟩ 0 (run i).1.length), (4, .t (pi m))], ofL [(.op 1 0 0, .sl 0 58 (run i).1.length ((run i).1.flatMap GLeaf.co)), (.arg 0 0, .sl 0 51 1 [rd 1 code.length (code.map pu), pi (run i).2.1, .raw (.int .u64 (run i).2.2)])]⟩) N ?_ ?_
    · rintro Inv hI
      simp
      subst hI
      exact ⟨0, by omega, by rw [run0]; rfl⟩
    · rintro Inv hI m st ⟨i, hi, rfl⟩
      refine ewr_sound (M := [(46, [1]), (51, [1]), (49, [1]), (50, [1])]) h0 ?_
      by_cases c : 0 < m
      · obtain ⟨f1, f2, f3⟩ := runI i (by omega)
        obtain ⟨p, v, b', t, hp, hv, g1, c1, c2⟩ := runR i (by omega)
        have c' : (0 : Int) < (m : Int) := by omega
        have w2 : IntKind.i64.wrap ((m : Int) - 1) = ((m - 1 : Nat) : Int) := by rw [wrap64 (by omega) (by omega)]; omega
        have hw := confD_wt f1
        have hset := ok_sSetAt 0 0 (run i).1 p v (conf_len (by omega)).1 (conf_len (by omega)).2 (conf_ok (by omega)) (path_ok hp) (by have := hp.1; omega) (by omega)
        simp [c, c']
        refine Inv_intro c1 ?_
        simp
        refine Inv_intro c2 ?_
        simp
        refine Inv_intro hset ?_
        unfold setL_ at g1
        generalize rSetAt (run i).1 p v = R at g1 ⊢
        obtain ⟨R1, R2⟩ := R
        cases R2 with
        | true =>
          simp [w2]
          refine LessW_mk (m - 1) (.op 7 5 0) (.op 1 0 0) (by omega) rfl rfl ?_
          simp
          subst hI
          refine ⟨i + 1, by omega, ?_⟩
          rw [g1]
          simp
          exact ofL_mv 1 _ _ _ (by simp)
        | false =>
          simp [w2]
          refine LessW_mk (m - 1) (.op 1 0 0) (.op 1 0 0) (by omega) rfl rfl ?_
          simp
          subst hI
          refine ⟨i + 1, by omega, ?_⟩
          rw [g1]
          simp
      · have hm0 : m = 0 := by omega
        have hiN : i = N := by omega
        subst hm0
        subst hiN
        rw [← hL, ← ha3, ← hs3]
        clear runR runI run0 e1 e2 e3 hL ha3 hs3
        have hml : (L.flatMap GLeaf.co).length = L.length * 2 := fm_len GLeaf.co 2 (fun _ => rfl) L
        have hmt : List.take (L.length * 2) (L.flatMap GLeaf.co) = L.flatMap GLeaf.co := List.take_of_length_le (by omega)
        rcases hfin with ⟨rfl, rfl, rfl, rfl⟩ | ⟨hpos, b1, a5, s5, q1, hfin⟩
        · simp
        · simp [hpos]
          refine Inv_intro q1 ?_
          rcases hfin with ⟨rfl, rfl, rfl, rfl⟩ | ⟨rfl, k, hk, a6, s6, b2, a7, s7, q2, q3, hfin⟩
          · simp [hml, hmt]
          · have hk1 : k * 2 + 1 ≤ L.length * 2 := by omega
            have hk2 : k * 2 + 1 + 1 ≤ L.length * 2 := by omega
            simp [hpos]
            refine Inv_intro q2 ?_
            simp
            refine Inv_intro q3 ?_
            rcases hfin with ⟨rfl, v, rfl, q4⟩ | ⟨rfl, p, rfl, q4⟩
            · simp
              refine Inv_intro q4 ?_
              have f1 : L.length * 2 ≤ k * 2 + 1 + (L.length * 2 - (k * 2 + 1 + 1) + 1) := by omega
              have f3 := fm_setV L k hk v
              have f4 := fm_len GLeaf.co 2 (fun _ => rfl) (L.set k ⟨L[k].Path, v⟩)
              rw [List.length_set] at f4
              rw [f3] at f4
              have f5 := List.take_of_length_le (Nat.le_of_eq f4)
              simp [hk, hml, hk1, hk2, f1, f3, f5]
            · simp
              refine Inv_intro q4 ?_
              have f1 : L.length * 2 ≤ min k L.length * 2 + (L.length * 2 - (k * 2 + 1) + 1) := by omega
              have f3 := fm_setP L k hk p
              have f4 := fm_len GLeaf.co 2 (fun _ => rfl) (L.set k ⟨p, L[k].Value⟩)
              rw [List.length_set] at f4
              rw [f3] at f4
              have f5 := List.take_of_length_le (Nat.le_of_eq f4)
              simp [hk, hml, hk1, hk2, f1, f3, f5]
  · intro K hK
    simp
    refine Inv_intro h1 ?_
    simp
    refine Inv_intro h2 ?_
    cases b with
    | true =>
      simp at hNn
      simp
      refine hK _ ?_
      simp [hNn]
    | false =>
      simp at hNn
      simp
      refine hK _ ?_
      simp [hNn]
end Go.V
