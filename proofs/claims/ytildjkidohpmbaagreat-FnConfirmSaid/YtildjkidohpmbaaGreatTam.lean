/- What functions of the seat's program do, each proved of its code, under the bounds that its theorem names. -/
import Derived.Test.YtildjkidohpmbaaGreatTal
set_option linter.all false
namespace Go.V
open Go.Proofs
set_option maxHeartbeats 1000000
set_option maxRecDepth 10000
set_option linter.unusedSimpArgs false
set_option linter.unusedVariables false
abbrev cBoolSo (xs : List Bool) : PT := .sl 0 4 xs.length (xs.map pb)
abbrev cBoolSi (k : Nat) (xs : List Bool) : PT := rd k xs.length (xs.map pb)
def wt_BoolS (xs : List Bool) : Nat := xs.length
theorem len_wt_BoolS (xs : List Bool) : xs.length ≤ wt_BoolS xs := by unfold wt_BoolS; omega
def fits_BoolS (xs : List Bool) : Prop := xs.length ≤ 140737488351232 ∧ ∀ x ∈ xs, True
def lens_BoolS (xs : List Bool) : Prop := xs.length ≤ 140737488351232 ∧ ∀ x ∈ xs, True
def mk_BoolS (xs : List Bool) (k : Int) : List Bool × Int := mkR (fun (_ : Bool) k => (decide (Int.tmod k 3 = 0), k + 1)) xs k
def cn_BoolS (xs : List Bool) : Nat := cnR (fun (_ : Bool) => 1) xs
theorem mk_BoolS_len (xs : List Bool) (k : Int) : (mk_BoolS xs k).1.length = xs.length := mkR_len _ xs k
attribute [simp] mk_BoolS_len
theorem mk_BoolS_snd (xs : List Bool) (k : Int) : (mk_BoolS xs k).2 = k + cn_BoolS xs := mkR_snd (fun _ _ => rfl) xs k
theorem lens_of_BoolS {xs : List Bool} (h : wt_BoolS xs ≤ 1048576) : lens_BoolS xs := by
  have hl := len_wt_BoolS xs
  exact ⟨by omega, fun _ _ => trivial⟩
theorem cn_len_BoolS (xs : List Bool) : cn_BoolS xs ≤ 32 * xs.length := cnR_le0 (fun x => by omega) xs
theorem cn_le_BoolS (xs : List Bool) : cn_BoolS xs ≤ 32 * wt_BoolS xs := cnR_le0 (fun _ => by omega) xs
abbrev cOpSo (xs : List GOp) : PT := .sl 0 29 xs.length (xs.flatMap GOp.co)
abbrev cOpSi (k : Nat) (xs : List GOp) : PT := rd k xs.length (xs.flatMap (GOp.ci k))
def wt_OpS (xs : List GOp) : Nat := wtR GOp.wt xs
theorem len_wt_OpS (xs : List GOp) : xs.length ≤ wt_OpS xs := by unfold wt_OpS wtR; omega
theorem mem_wt_OpS {xs : List GOp} {x : GOp} (h : x ∈ xs) : GOp.wt x ≤ wt_OpS xs := by
  have := wt_mem GOp.wt h
  unfold wt_OpS wtR
  omega
def fits_OpS (xs : List GOp) : Prop := xs.length ≤ 140737488351232 ∧ ∀ x ∈ xs, GOp.fits x
def lens_OpS (xs : List GOp) : Prop := xs.length ≤ 140737488351232 ∧ ∀ x ∈ xs, GOp.lens x
def mk_OpS (xs : List GOp) (k : Int) : List GOp × Int := mkR GOp.mark xs k
def cn_OpS (xs : List GOp) : Nat := cnR GOp.cn xs
theorem mk_OpS_len (xs : List GOp) (k : Int) : (mk_OpS xs k).1.length = xs.length := mkR_len _ xs k
attribute [simp] mk_OpS_len
theorem mk_OpS_snd (xs : List GOp) (k : Int) : (mk_OpS xs k).2 = k + cn_OpS xs := mkR_snd (GOp.mark_snd) xs k
theorem lens_of_OpS {xs : List GOp} (h : wt_OpS xs ≤ 1048576) : lens_OpS xs := by
  have hl := len_wt_OpS xs
  exact ⟨by omega, fun x hx => lens_of_Op (by have := mem_wt_OpS hx; omega)⟩
theorem cn_le_OpS (xs : List GOp) : cn_OpS xs ≤ 32 * wt_OpS xs := cnR_le (fun x => by have := cnE_le_Op x; omega) xs
def plS (l : List GOp) : Nat → GStore × List Bool
  | 0 => (rNewStore, [])
  | i + 1 => match l[i]? with
    | none => plS l i
    | some o => (if (stepI (plS l i).1 o).2 = true then (stepI (plS l i).1 o).1 else (plS l i).1, (plS l i).2 ++ [(stepI (plS l i).1 o).2])
theorem plS_succ (l : List GOp) (i : Nat) (h : i < l.length) : plS l (i + 1) = (if (stepI (plS l i).1 l[i]).2 = true then (stepI (plS l i).1 l[i]).1 else (plS l i).1, (plS l i).2 ++ [(stepI (plS l i).1 l[i]).2]) := by
  simp only [plS, List.getElem?_eq_getElem h]
theorem smC_first : smC firstC := ⟨by decide, by decide⟩
theorem invS_new : invS rNewStore := ⟨smC_first, smC_first, by decide, by decide, fun x hx => by
  have : x = firstC := by simpa [rNewStore] using hx
  rw [this]; exact smC_first, by decide⟩
theorem plS_inv (l : List GOp) : ∀ i, invS (plS l i).1
  | 0 => invS_new
  | i + 1 => by
    unfold plS
    split
    · exact plS_inv l i
    · simp only
      split
      · rename_i h; exact step_inv (plS_inv l i) h
      · exact plS_inv l i
theorem plS_len (l : List GOp) : ∀ i, i ≤ l.length → (plS l i).2.length = i
  | 0, _ => rfl
  | i + 1, h => by
    rw [plS_succ l i (by omega)]
    simp [plS_len l i (by omega)]
def rPlayOps (v0 : List GOp) : GStore × List Bool × Bool := if v0.length ≤ 60 then ((plS v0 v0.length).1, (plS v0 v0.length).2, true) else (zeroS, [], false)
theorem rPlayOps_ok (v0 : List GOp) (hv0 : wt_OpS v0 ≤ 1048576) : ((rPlayOps v0).1.lens ∧ GStore.cnT (rPlayOps v0).1 ≤ 1152921504606846976) ∧ (lens_BoolS (rPlayOps v0).2.1 ∧ cn_BoolS (rPlayOps v0).2.1 ≤ 2000) := by
  have key : GStore.wt (rPlayOps v0).1 ≤ 1048576 := by
    unfold rPlayOps
    split
    · exact invS_wt (plS_inv v0 _)
    · decide
  have kb : (rPlayOps v0).2.1.length ≤ 60 := by
    unfold rPlayOps
    split
    · rename_i h
      show (plS v0 v0.length).2.length ≤ 60
      rw [plS_len v0 _ (Nat.le_refl _)]; exact h
    · exact Nat.zero_le _
  refine ⟨⟨lens_of_Store key, by have := cn_le_Store (rPlayOps v0).1; omega⟩, lens_of_BoolS ?_, by have := cn_len_BoolS (rPlayOps v0).2.1; omega⟩
  show (rPlayOps v0).2.1.length ≤ 1048576
  omega
theorem op_ok_mem {l : List GOp} {o : GOp} (h : wt_OpS l ≤ 1048576) (ho : o ∈ l) : opOK o := wt_opOK (by have := mem_wt_OpS ho; omega)
theorem goodS_spec {s : GStore} (h : goodS s = true) : goodC s.Candidate = true ∧ goodC s.Running = true ∧ 1 ≤ s.History.length ∧ s.History.length ≤ 10 ∧ (∀ l ∈ s.History, goodC l = true) ∧ (0 ≤ s.Left ∧ s.Left ≤ 100) ∧ (s.Left = 0 ↔ s.Running = s.History.headD []) := by
  simp only [goodS, Bool.and_eq_true, decide_eq_true_eq, List.all_eq_true, beq_iff_eq] at h
  obtain ⟨⟨⟨⟨⟨h1, h2⟩, h3⟩, h4⟩, h5⟩, h6⟩ := h
  refine ⟨h1, h2, by omega, by omega, h4, h5, ?_⟩
  exact decide_eq_decide.1 h6
theorem goodS_intro {s : GStore} (h1 : goodC s.Candidate = true) (h2 : goodC s.Running = true) (h3 : 1 ≤ s.History.length) (h4 : s.History.length ≤ 10) (h5 : ∀ l ∈ s.History, goodC l = true) (h6 : 0 ≤ s.Left ∧ s.Left ≤ 100) (h7 : s.Left = 0 ↔ s.Running = s.History.headD []) : goodS s = true := by
  simp only [goodS, Bool.and_eq_true, decide_eq_true_eq, List.all_eq_true, beq_iff_eq]
  exact ⟨⟨⟨⟨⟨h1, h2⟩, by omega⟩, h5⟩, h6⟩, decide_eq_decide.2 h7⟩
theorem confirmS_good {s : GStore} (h1 : goodC s.Candidate = true) (h2 : goodC s.Running = true) (h3 : 1 ≤ s.History.length) (h4 : s.History.length ≤ 10) (h5 : ∀ l ∈ s.History, goodC l = true) : goodS (confirmS s) = true := by
  obtain ⟨C, R, H, F⟩ := s
  simp only at h1 h2 h3 h4 h5
  have h0 : (0 : Int) ≤ 0 ∧ (0 : Int) ≤ 100 := by decide
  unfold confirmS
  split
  · rename_i e
    simp only at e
    refine goodS_intro h1 h2 h3 h4 h5 h0 ?_
    cases H with
    | nil => simp at h3
    | cons x H => simp at e ⊢; exact e.symm
  · refine goodS_intro h1 h2 ?_ ?_ ?_ h0 ?_
    · simp only [List.take_succ_cons, List.length_cons]; omega
    · simp only [List.length_take]; omega
    · intro l hl
      have := List.mem_of_mem_take hl
      rcases List.mem_cons.1 this with rfl | h
      · exact h2
      · exact h5 l h
    · simp
theorem step_good {s : GStore} {o : GOp} (hs : goodS s = true) (ho : (stepI s o).2 = true) : goodS (stepI s o).1 = true := by
  have hs' := hs
  obtain ⟨h1, h2, h3, h4, h5, h6, h7⟩ := goodS_spec hs
  have hhd := h5 _ (headD_mem h3)
  obtain ⟨C, R, H, F⟩ := s
  obtain ⟨K, Pa, V, N⟩ := o
  simp only at h1 h2 h3 h4 h5 h6 h7 hhd
  unfold stepI at ho ⊢
  simp only at ho ⊢
  split at ho
  · simp at ho
  rename_i c0
  rw [if_neg c0]
  split at ho
  · rename_i k
    rw [if_pos k]
    refine goodS_intro ?_ h2 h3 h4 h5 h6 h7
    unfold rSetAt at ho ⊢
    split at ho
    · rename_i hg
      rw [if_pos hg]
      simp only [Bool.and_eq_true] at hg
      exact hg.2
    · simp at ho
  rename_i k1
  rw [if_neg k1]
  split at ho
  · rename_i k
    rw [if_pos k]
    refine goodS_intro ?_ h2 h3 h4 h5 h6 h7
    unfold rDeleteAt at ho ⊢
    split at ho
    · rename_i hg
      rw [if_pos hg]
      exact goodC_filter h1 _
    · simp at ho
  rename_i k2
  rw [if_neg k2]
  split at ho
  · rename_i k
    rw [if_pos k]
    exact confirmS_good h1 h1 h3 h4 h5
  rename_i k3
  rw [if_neg k3]
  split at ho
  · rename_i k
    rw [if_pos k]
    simp only [decide_eq_true_eq] at ho
    refine goodS_intro h1 h1 h3 h4 h5 ?_ ?_
    · show 0 ≤ (if C = H.headD [] then (0 : Int) else N) ∧ (if C = H.headD [] then (0 : Int) else N) ≤ 100
      split <;> omega
    · show (if C = H.headD [] then (0 : Int) else N) = 0 ↔ C = H.headD []
      by_cases e : C = H.headD []
      · simp [e]
      · rw [if_neg e]
        exact ⟨fun h => absurd h (by omega), fun h => absurd h e⟩
  rename_i k4
  rw [if_neg k4]
  split at ho
  · rename_i k
    rw [if_pos k]
    exact confirmS_good h1 h2 h3 h4 h5
  rename_i k5
  rw [if_neg k5]
  split at ho
  · rename_i k
    rw [if_pos k]
    split at ho
    · rename_i hN
      rw [if_pos hN]
      refine goodS_intro ?_ h2 h3 h4 h5 h6 h7
      have hlt : N.toNat < H.length := by omega
      show goodC (H.getD N.toNat []) = true
      rw [List.getD_eq_getElem?_getD, List.getElem?_eq_getElem hlt]
      exact h5 _ (List.getElem_mem hlt)
    · simp at ho
  rename_i k6
  rw [if_neg k6]
  split at ho
  · rename_i k
    rw [if_pos k]
    exact goodS_intro h2 h2 h3 h4 h5 h6 h7
  rename_i k7
  rw [if_neg k7]
  split at ho
  · rename_i k
    rw [if_pos k]
    simp only [decide_eq_true_eq] at ho
    refine goodS_intro h1 ?_ h3 h4 h5 (by show 0 ≤ F - 1 ∧ F - 1 ≤ 100; omega) ?_
    · show goodC (if F - 1 = 0 then H.headD [] else R) = true
      split
      · exact hhd
      · exact h2
    · show F - 1 = 0 ↔ (if F - 1 = 0 then H.headD [] else R) = H.headD []
      by_cases e : F - 1 = 0
      · simp [e]
      · rw [if_neg e]
        constructor
        · intro h; exact absurd h e
        · intro h
          have := h7.2 h
          omega
  rename_i k8
  rw [if_neg k8]
  exact hs'
theorem goodS_new : goodS rNewStore = true := by decide
theorem plS_good (l : List GOp) : ∀ i, goodS (plS l i).1 = true
  | 0 => goodS_new
  | i + 1 => by
    unfold plS
    split
    · exact plS_good l i
    · simp only
      split
      · rename_i h; exact step_good (plS_good l i) h
      · exact plS_good l i
def tickO : GOp := ⟨8, [], ⟨#[]⟩, 0⟩
theorem step_tick (s : GStore) : stepI s tickO = (⟨s.Candidate, (if s.Left - 1 = 0 then s.History.headD [] else s.Running), s.History, s.Left - 1⟩, decide (0 < s.Left)) := by
  simp [stepI, tickO, isOpB]
theorem ewrN_K {P : Program} {M : List (FuncId × List Nat)} (h0 : tsz P nilE = 0) (n : Nat) {c : Code} {Q : Exit → St → Prop} {st : St} (h : ∀ K : St → Prop, (∀ st, ewp P (Code.rest n c) Q st → K st) → ewrN P M n c K Q st) : ewp P c Q st :=
  ewrN_sound h0 n (K := fun st => ewp P (Code.rest n c) Q st) (fun _ hk => hk) (h _ fun _ hk => hk)
theorem opD_wt {o : GOp} (h : opD o) : GOp.wt o ≤ 100 := by
  obtain ⟨⟨h1, h2⟩, h3⟩ := h
  have h4 : wtR ByteArray.size o.Path ≤ o.Path.length * (9 + 1) := wtR_leC ByteArray.size 9 o.Path h2
  unfold GOp.wt
  show wtR ByteArray.size o.Path + o.Value.size ≤ 100
  omega
theorem opsD_wt {l : List GOp} (h : l.length ≤ 61) (ho : ∀ o ∈ l, opD o) : wt_OpS l ≤ 1048576 := by
  have := wtR_leC GOp.wt 100 l fun o hx => opD_wt (ho o hx)
  show wtR GOp.wt l ≤ 1048576
  omega
def tickA (C R H0 : List GLeaf) (H' : List (List GLeaf)) (J j : Nat) : GStore := ⟨C, if j = J then H0 else R, H0 :: H', (J : Int) - j⟩
theorem tickA_step (C R H0 : List GLeaf) (H' : List (List GLeaf)) (J j : Nat) (h : j < J) : stepI (tickA C R H0 H' J j) tickO = (tickA C R H0 H' J (j + 1), true) := by
  rw [step_tick]
  unfold tickA
  simp only [List.headD_cons]
  have h1 : (0 : Int) < (J : Int) - j := by omega
  have h2 : ¬ j = J := by omega
  by_cases h3 : j + 1 = J
  · have h4 : (J : Int) - j - 1 = 0 := by omega
    have h5 : (J : Int) - ((j + 1 : Nat) : Int) = 0 := by omega
    simp only [h1, h2, h3, h4, if_true, decide_true, Nat.add_eq, if_pos rfl]
    congr 2
    omega
  · have h4 : ¬ (J : Int) - j - 1 = 0 := by omega
    simp only [h1, h2, h3, h4, if_false, decide_true]
    congr 2
    omega
theorem tickA_good {C R H0 : List GLeaf} {H' : List (List GLeaf)} {J : Nat} (h : goodS (tickA C R H0 H' J 0) = true) : ∀ j, j ≤ J → goodS (tickA C R H0 H' J j) = true
  | 0, _ => h
  | j + 1, hj => by
    have h1 := tickA_good h j (by omega)
    have h2 := tickA_step C R H0 H' J j (by omega)
    have h3 := step_good h1 (o := tickO) (by rw [h2])
    rw [h2] at h3
    exact h3
theorem tickA_last (C R H0 : List GLeaf) (H' : List (List GLeaf)) (J : Nat) : (stepI (tickA C R H0 H' J J) tickO).2 = false := by
  rw [step_tick]
  unfold tickA
  simp
theorem tickA_zero {C R H0 : List GLeaf} {H' : List (List GLeaf)} {F : Int} (h : goodS ⟨C, R, H0 :: H', F⟩ = true) : ∃ J : Nat, F = J ∧ tickA C R H0 H' J 0 = ⟨C, R, H0 :: H', F⟩ := by
  obtain ⟨_, _, _, _, _, h6, h7⟩ := goodS_spec h
  simp only [List.headD_cons] at h6 h7
  refine ⟨F.toNat, by omega, ?_⟩
  unfold tickA
  by_cases hz : F = 0
  · have := h7.1 hz
    subst hz
    simp [this]
  · have : ¬ 0 = F.toNat := by omega
    rw [if_neg this]
    congr 1
    omega
theorem law_tick {C R H0 : List GLeaf} {H' : List (List GLeaf)} {J : Nat} (h : goodS (tickA C R H0 H' J 0) = true) (j : Nat) (hj : j < J) : CallOK Tryz.prog 5 [.agg (GStore.ci 0 (tickA C R H0 H' J j)), .agg (GOp.ci 1 tickO)] (.tup [.agg (tickA C R H0 H' J (j + 1)).co, .c (pb true)]) [.agg (GStore.ci 0 (tickA C R H0 H' J j)), .agg (GOp.ci 1 tickO)] := by
  have hg := tickA_good h j (by omega)
  have h1 := ok_iStepStore 0 1 (tickA C R H0 H' J j) tickO (invS_wt (goodS_inv hg)) (by decide)
  have hs := tickA_step C R H0 H' J j hj
  have e : rStepStore (tickA C R H0 H' J j) tickO = (tickA C R H0 H' J (j + 1), true) := by
    unfold rStepStore
    rw [if_pos ⟨hg, by rw [hs]⟩, hs]
  rw [e] at h1
  exact h1
theorem law_ticked {C R H0 : List GLeaf} {H' : List (List GLeaf)} {J : Nat} (h : goodS (tickA C R H0 H' J 0) = true) : CallOK Tryz.prog 5 [.agg (GStore.ci 0 (tickA C R H0 H' J J)), .agg (GOp.ci 1 tickO)] (.tup [.agg zeroS.co, .c (pb false)]) [.agg (GStore.ci 0 (tickA C R H0 H' J J)), .agg (GOp.ci 1 tickO)] := by
  have hg := tickA_good h J (Nat.le_refl _)
  have h1 := ok_iStepStore 0 1 (tickA C R H0 H' J J) tickO (invS_wt (goodS_inv hg)) (by decide)
  have e : rStepStore (tickA C R H0 H' J J) tickO = (zeroS, false) := by
    unfold rStepStore
    rw [if_neg]
    rintro ⟨_, h2⟩
    rw [tickA_last] at h2
    cases h2
  rw [e] at h1
  exact h1
theorem law_sPlayOps (v0 : List GOp) (hw0 : wt_OpS v0 ≤ 1048576) : CallOK Tryz.prog 44 [.c (rd 0 v0.length (v0.flatMap (GOp.ci 0)))] (.tup [.agg (rPlayOps v0).1.co, .c (.sl 0 4 (rPlayOps v0).2.1.length ((rPlayOps v0).2.1.map pb)), .c (pb (rPlayOps v0).2.2)]) [.c (rd 0 v0.length (v0.flatMap (GOp.ci 0)))] := by
  have hl0 := len_wt_OpS v0
  refine okS (fn := Tryz.f44) [(24, [2,0])] h0 Tryz.func44 (by kernel_rfl) rfl Tryz.ntmps44 Tryz.results44 (by simp) ?_
  simp
  refine brn_app (fun a => ?_) (fun a => ?_)
  · simp at a
    have e : rPlayOps v0 = (zeroS, [], false) := by unfold rPlayOps; rw [if_neg (by omega)]
    rw [e]
    simp [zeroS]
  · simp at a
    have e : rPlayOps v0 = ((plS v0 v0.length).1, (plS v0 v0.length).2, true) := by unfold rPlayOps; rw [if_pos (by omega)]
    rw [e]
    simp
    refine Inv_intro ok_sNewStore ?_
    simp
    refine ewp_nil 6 (.op 11 3 0) 4 (by decide) rfl rfl rfl ?_
    refine loopS [2, 5, 6, 16, 17, 18] [.op 11 3 0, .op 0 0 0, .op 3 1 0] (fun n st => ∃ (i : Nat), i + n = v0.length ∧ st = ⟨slOf 39 [(2, .ptr ⟨.op 0 0 0, []⟩ 0), (5, .ptr ⟨.op 3 1 0, []⟩ 0), (6, .ref ⟨.op 11 3 0, []⟩ 0 i), (16, .t (rd 0 v0.length (v0.flatMap (GOp.ci 0)))), (17, .t (pi v0.length)), (18, .t (pi i))], ofL [(.op 11 3 0, .sl 0 4 i ((plS v0 i).2.map pb)), (.op 0 0 0, .sl 0 26 1 [.sl 0 nilE 0 [], .sl 0 nilE 0 [], .sl 0 nilE 0 [], pi 0]), (.op 3 1 0, .sl 0 26 1 (plS v0 i).1.co)]⟩) v0.length ?_ ?_
    · rintro Inv hI
      simp
      subst hI
      exact ⟨0, by omega, rfl⟩
    · rintro Inv hI n st ⟨i, hi, rfl⟩
      have hinv := plS_inv v0 i
      have hlen := plS_len v0 i (by omega)
      refine ewr_sound (M := [(24, [2, 0])]) h0 ?_
      by_cases c : i < v0.length
      · have hs := plS_succ v0 i c
        have hd := fm_drop (GOp.ci 0) 4 (fun _ => rfl) v0 i c
        have hfl := fm_len (GOp.ci 0) 4 (fun _ => rfl) v0
        have hlt : i * 4 < v0.length * 4 := by omega
        have ho := op_ok_mem hw0 (List.getElem_mem c)
        generalize plS v0 i = SD at hinv hlen hs ⊢
        obtain ⟨S, D⟩ := SD
        simp only at hinv hlen hs
        have hwt := invS_wt hinv
        have hag := step_agree v0[i] hinv
        obtain ⟨i1, i2, i3, i4, i5, i6⟩ := hinv
        simp [c, hd, hfl, hlt]
        refine drawP (tabEnv [(24, [2, 0])] _) [⟨[.op 3 1 0], allD 39, true⟩, ⟨[.op 3 1 0], allD 39, true⟩, ⟨[.op 7 2 0], allD 39, true⟩, ⟨[.op 8 1 0, .op 8 1 1, .op 8 1 2], [23, 24, 25, 26, 22, 27, 28, 9, 10], false⟩, ⟨[.op 8 3 0, .op 8 3 1, .op 8 3 2], allD 39, true⟩, ⟨[.op 8 3 0, .op 8 3 1, .op 8 3 2], allD 39, true⟩, ⟨[], allD 39, true⟩, ⟨[], allD 39, false⟩, ⟨[.op 8 7 0, .op 8 3 0, .op 8 3 1, .op 8 3 2], [23, 24, 25, 26, 22, 27, 28, 9, 10], false⟩, ⟨[], allD 39, true⟩] h0 hm (tabEnv_ok (tab_cons (ok_l16Own 0 S (wt_storeB hwt)) (tab_cons (ok_l16Step 0 S v0[i] (wt_storeB hwt) (fun e => by rw [e] at i3; simp at i3) i6 i4 ho) tab_nil))) (by kernel_rfl) (by kernel_rfl) ?_
        generalize stepSp S v0[i] = Y at hag ⊢
        obtain ⟨Y1, Y2⟩ := Y
        generalize stepI S v0[i] = X at hs hag
        obtain ⟨X1, X2⟩ := X
        simp only at hag hs
        obtain ⟨rfl, hag⟩ := hag
        simp
        have hb1 : (i + 1) * 1 ≤ 140737488355328 := by omega
        have hb2 : i ≤ 9223372036854775806 := by omega
        have hb3 : i ≤ 140737488355327 := by omega
        have hml : (D.map pb).length = i := by rw [List.length_map, hlen]
        have hmt : List.take i (D.map pb) = D.map pb := List.take_of_length_le (by omega)
        cases Y2 with
        | false =>
          simp [hlen, hb1, hb2, hb3, hml, hmt]
          subst hI
          refine Less_mk (n - 1) (by omega) ⟨i + 1, by omega, ?_⟩
          rw [wrNext i (by omega), hs]
          simp
        | true =>
          have hag := hag rfl
          subst hag
          simp [hlen, hb1, hb2, hb3, hml, hmt]
          subst hI
          refine Less_mk (n - 1) (by omega) ⟨i + 1, by omega, ?_⟩
          rw [wrNext i (by omega), hs]
          simp
      · have hil : i = v0.length := by omega
        have hmt : List.take i ((plS v0 i).2.map pb) = (plS v0 i).2.map pb := List.take_of_length_le (by rw [List.length_map]; omega)
        subst hil
        have hinv' := invS_wt hinv
        simp [hlen, hmt]
        refine Inv_intro (ok_l16Own 0 _ (wt_storeB hinv')) ?_
        simp [hlen, hmt]
theorem store_wt3 (s : GStore) : GStore.wt s = wt_LeafS s.Candidate + wt_LeafS s.Running + wt_LeafSS s.History := rfl
theorem ok_store (code : List Int) (hc : codeOK code) (a s : Int) (ha : 0 ≤ a) (ha2 : a ≤ 1000) : ∃ (S : GStore) (a' s' : Int), GStore.wt S ≤ 1048576 ∧ (a ≤ a' ∧ a' ≤ a + 2000) ∧ CallOK Tryz.prog 21 [.bp (curP code a s)] (.agg S.co) [.bp (curP code a' s')] := by
  obtain ⟨l, a1, s1, ⟨hl61, hlo⟩, ha1, h1⟩ := ok_ops code hc a s ha ha2
  have hwt := opsD_wt hl61 hlo
  have hp := law_sPlayOps l hwt
  have hml : (l.flatMap GOp.co).length = l.length * 4 := fm_len GOp.co 4 (fun _ => rfl) l
  have hmt : List.take (l.length * 4) (l.flatMap GOp.co) = l.flatMap GOp.co := List.take_of_length_le (by omega)
  obtain ⟨S0, hS0, hcase⟩ : ∃ S0, invS S0 ∧ ((S0 = (rPlayOps l).1 ∧ (rPlayOps l).2.2 = true) ∨ (S0 = rNewStore ∧ (rPlayOps l).2.2 = false)) := by
    unfold rPlayOps
    split
    · exact ⟨_, plS_inv l _, .inl ⟨rfl, rfl⟩⟩
    · exact ⟨_, invS_new, .inr ⟨rfl, rfl⟩⟩
  obtain ⟨v, a2, s2, hv, ha2', h2⟩ := ok_pick code hc 30 (by decide) (by decide) a1 s1 (by omega) (by omega)
  have hW := invS_wt hS0
  obtain ⟨S, a3, s3, hSw, ha3, hfin⟩ : ∃ (S : GStore) (a3 s3 : Int), GStore.wt S ≤ 1048576 ∧ (a2 ≤ a3 ∧ a3 ≤ a2 + 400) ∧ ((v = 0 ∧ ∃ n, S = ⟨S0.Candidate, S0.Running, S0.History, n⟩ ∧ CallOK Tryz.prog 47 [.bp (curP code a2 s2), .c (rd 0 3 ([(-1 : Int), 1, 101].map pi))] (.c (pi n)) [.bp (curP code a3 s3), .c (rd 0 3 ([(-1 : Int), 1, 101].map pi))]) ∨ (v = 1 ∧ ∃ C, S = ⟨S0.Candidate, C, S0.History, S0.Left⟩ ∧ CallOK Tryz.prog 48 [.bp (curP code a2 s2)] (.c (.sl 0 58 C.length (C.flatMap GLeaf.co))) [.bp (curP code a3 s3)]) ∨ (v = 2 ∧ S = ⟨S0.Candidate, S0.Running, [], S0.Left⟩ ∧ a3 = a2 ∧ s3 = s2) ∨ (¬ v = 0 ∧ ¬ v = 1 ∧ ¬ v = 2 ∧ S = S0 ∧ a3 = a2 ∧ s3 = s2)) := by
    by_cases k0 : v = 0
    · obtain ⟨n, b, t, hn, hb, q⟩ := ok_among 0 code hc [-1, 1, 101] (by decide) (by decide) a2 s2 (by omega) (by omega)
      exact ⟨⟨S0.Candidate, S0.Running, S0.History, n⟩, b, t, by rw [store_wt3] at hW ⊢; exact hW, by omega, .inl ⟨k0, n, rfl, q⟩⟩
    · by_cases k1 : v = 1
      · obtain ⟨C, b, t, hC, hb, q⟩ := ok_config code hc a2 s2 (by omega) (by omega)
        refine ⟨⟨S0.Candidate, C, S0.History, S0.Left⟩, b, t, ?_, by omega, .inr (.inl ⟨k1, C, rfl, q⟩)⟩
        have h3 := confD_wt hC
        obtain ⟨i1, i2, i3, i4, i5, i6⟩ := hS0
        have h4 := smC_wt i1
        have h5 : wtR wt_LeafS S0.History ≤ S0.History.length * (2000 + 1) := wtR_leC wt_LeafS 2000 S0.History fun l hl => smC_wt (i5 l hl)
        rw [store_wt3]
        show wt_LeafS S0.Candidate + wt_LeafS C + wtR wt_LeafS S0.History ≤ 1048576
        omega
      · by_cases k2 : v = 2
        · refine ⟨⟨S0.Candidate, S0.Running, [], S0.Left⟩, a2, s2, ?_, by omega, .inr (.inr (.inl ⟨k2, rfl, rfl, rfl⟩))⟩
          rw [store_wt3] at hW ⊢
          show wt_LeafS S0.Candidate + wt_LeafS S0.Running + 0 ≤ 1048576
          omega
        · exact ⟨_, a2, s2, hW, by omega, .inr (.inr (.inr ⟨k0, k1, k2, rfl, rfl, rfl⟩))⟩
  refine ⟨S, a3, s3, hSw, by omega, ?_⟩
  refine okE (fn := Tryz.f21) h0 Tryz.func21 (by kernel_rfl) rfl Tryz.ntmps21 Tryz.results21 (by simp) ?_
  unfold curP at h1 h2 hfin ⊢
  refine ewrN_cut (M := [(45, [1]), (46, [1]), (47, [1]), (48, [1])]) h0 3 [0, 2, 3] [.op 0 0 0, .op 1 7 0] ⟨slOf 33 [(0, .ptr ⟨.arg 0 0, []⟩ 0), (2, .ptr ⟨.op 0 0 0, []⟩ 0), (3, .ptr ⟨.op 1 7 0, []⟩ 0)], ofL [(.arg 0 0, .sl 0 51 1 [rd 1 code.length (code.map pu), pi a1, .raw (.int .u64 s1)]), (.op 0 0 0, .sl 0 26 1 [.sl 0 nilE 0 [], .sl 0 nilE 0 [], .sl 0 nilE 0 [], pi 0]), (.op 1 7 0, .sl 0 26 1 S0.co)]⟩ ?_ ?_
  · refine ewr_sound (M := [(45, [1]), (46, [1]), (47, [1]), (48, [1])]) h0 ?_
    simp [Code.rest]
    refine Inv_intro h2 ?_
    rcases hfin with ⟨rfl, n, rfl, q⟩ | ⟨rfl, C, rfl, q⟩ | ⟨rfl, rfl, rfl, rfl⟩ | ⟨k0, k1, k2, rfl, rfl, rfl⟩
    · simp
      refine Inv_intro q ?_
      simp
    · simp
      refine Inv_intro q ?_
      simp
    · simp
    · simp [k0, k1, k2]
  · intro K hK
    simp
    refine Inv_intro h1 ?_
    simp [hml, hmt]
    refine Inv_intro hp ?_
    generalize rPlayOps l = X at hcase ⊢
    obtain ⟨X1, X2, X3⟩ := X
    simp only at hcase
    rcases hcase with ⟨rfl, rfl⟩ | ⟨rfl, rfl⟩
    · simp
      refine hK _ ?_
      simp
    · simp
      refine Inv_intro ok_sNewStore ?_
      simp
      refine hK _ ?_
      simp
theorem ok_DrawStepStore (code : List Int) (hc : codeOK code) : ∃ (S : GStore) (o : GOp), GStore.wt S ≤ 1048576 ∧ opD o ∧ CallOK Tryz.prog 4 [.c (rd 1 code.length (code.map pu))] (.tup [.agg S.co, .agg o.co]) [.c (rd 1 code.length (code.map pu))] := by
  obtain ⟨S, a1, s1, hS, ha1, h1⟩ := ok_store code hc 0 0 (by decide) (by decide)
  obtain ⟨o, a2, s2, ho, ha2, h2⟩ := ok_op code hc a1 s1 (by omega) (by omega)
  refine ⟨S, o, hS, ho, ?_⟩
  refine okS (fn := Tryz.f4) [(21, [1]), (22, [1])] h0 Tryz.func4 (by kernel_rfl) rfl Tryz.ntmps4 Tryz.results4 (by simp) ?_
  unfold curP at h1 h2
  simp
  refine Inv_intro h1 ?_
  simp
  refine Inv_intro h2 ?_
  simp
theorem ok_DrawGoodStore (code : List Int) (hc : codeOK code) : ∃ (S : GStore), GStore.wt S ≤ 1048576 ∧ CallOK Tryz.prog 35 [.c (rd 1 code.length (code.map pu))] (.agg S.co) [.c (rd 1 code.length (code.map pu))] := by
  obtain ⟨S, a1, s1, hS, ha1, h1⟩ := ok_store code hc 0 0 (by decide) (by decide)
  refine ⟨S, hS, ?_⟩
  refine okS (fn := Tryz.f35) [(21, [1])] h0 Tryz.func35 (by kernel_rfl) rfl Tryz.ntmps35 Tryz.results35 (by simp) ?_
  unfold curP at h1
  simp
  refine Inv_intro h1 ?_
  simp
theorem ok_DrawPendingOf (code : List Int) (hc : codeOK code) : ∃ (S : GStore), GStore.wt S ≤ 1048576 ∧ CallOK Tryz.prog 11 [.c (rd 1 code.length (code.map pu))] (.agg S.co) [.c (rd 1 code.length (code.map pu))] := by
  obtain ⟨S, hS, h1⟩ := ok_DrawGoodStore code hc
  refine ⟨S, hS, ?_⟩
  refine okS (fn := Tryz.f11) [] h0 Tryz.func11 (by kernel_rfl) rfl Tryz.ntmps11 Tryz.results11 (by simp) ?_
  simp
  refine Inv_intro h1 ?_
  simp
theorem confirm_head (s : GStore) (hh : 1 ≤ s.History.length) : (confirmS s).Running = s.Running ∧ (confirmS s).History.headD [] = s.Running ∧ (confirmS s).Left = 0 := by
  by_cases e : s.History.head? = some s.Running
  · rw [confirmS, if_pos e]
    refine ⟨rfl, ?_, rfl⟩
    show s.History.headD [] = s.Running
    rw [List.headD_eq_head?_getD, e]
    rfl
  · rw [confirmS, if_neg e]
    exact ⟨rfl, rfl, rfl⟩
theorem step_op {s : GStore} {o : GOp} (ho : (stepI s o).2 = true) : isOpB o = true := by
  cases h : isOpB o with
  | true => rfl
  | false =>
    simp only [stepI, h, if_true] at ho
    cases ho
theorem step_commit {s : GStore} {o : GOp} (hs : goodS s = true) (ho : (stepI s o).2 = true) (hk : o.Kind = 3) : (stepI s o).1.Running = s.Candidate ∧ (stepI s o).1.History.headD [] = s.Candidate ∧ (stepI s o).1.Left = 0 := by
  have h3 := (goodS_spec hs).2.2.1
  have hb := step_op ho
  have e : stepI s o = (confirmS ⟨s.Candidate, s.Candidate, s.History, s.Left⟩, true) := by simp only [stepI, hb]; simp [hk]
  rw [e]
  exact confirm_head ⟨s.Candidate, s.Candidate, s.History, s.Left⟩ h3
theorem step_confirm {s : GStore} {o : GOp} (hs : goodS s = true) (ho : (stepI s o).2 = true) (hk : o.Kind = 5) : (stepI s o).1.Running = s.Running ∧ (stepI s o).1.History.headD [] = s.Running ∧ (stepI s o).1.Left = 0 := by
  have h3 := (goodS_spec hs).2.2.1
  have hb := step_op ho
  have e : stepI s o = (confirmS s, decide (0 < s.Left)) := by simp only [stepI, hb]; simp [hk]
  rw [e]
  exact confirm_head s h3
theorem step_for {s : GStore} {o : GOp} (ho : (stepI s o).2 = true) (hk : o.Kind = 4) : (stepI s o).1.Running = s.Candidate ∧ (stepI s o).1.History = s.History := by
  have hb := step_op ho
  have e : (stepI s o).1 = ⟨s.Candidate, s.Candidate, s.History, if s.Candidate = s.History.headD [] then 0 else o.N⟩ := by simp only [stepI, hb]; simp [hk]
  rw [e]
  exact ⟨rfl, rfl⟩
theorem step_back {s : GStore} {o : GOp} (ho : (stepI s o).2 = true) (hk : o.Kind = 6) : ∃ (h : o.N.toNat < s.History.length), 0 ≤ o.N ∧ (stepI s o).1.Candidate = s.History[o.N.toNat] ∧ (stepI s o).1.Running = s.Running := by
  have hb := step_op ho
  have e : stepI s o = (if 0 ≤ o.N ∧ o.N ≤ (s.History.length : Int) - 1 then (⟨s.History.getD o.N.toNat [], s.Running, s.History, s.Left⟩, true) else (zeroS, false)) := by simp only [stepI, hb]; simp [hk]
  rw [e] at ho ⊢
  by_cases h2 : 0 ≤ o.N ∧ o.N ≤ (s.History.length : Int) - 1
  · have hlt : o.N.toNat < s.History.length := by omega
    rw [if_pos h2]
    refine ⟨hlt, h2.1, ?_, rfl⟩
    simp only [List.getD, List.getElem?_eq_getElem hlt, Option.getD_some]
  · rw [if_neg h2] at ho
    cases ho
theorem beg_le : ∀ a b : List ByteArray, begP a b = true → lessP b a = false
  | [], [], _ => rfl
  | [], _ :: _, _ => rfl
  | _ :: _, [], h => by simp [begP] at h
  | x :: us, y :: vs, h => by
    simp only [begP, Bool.and_eq_true, decide_eq_true_eq] at h
    obtain ⟨rfl, h⟩ := h
    unfold lessP
    rw [if_pos rfl]
    exact beg_le us vs h
theorem less_irr : ∀ a : List ByteArray, lessP a a = false
  | [] => rfl
  | x :: us => by unfold lessP; rw [if_pos rfl]; exact less_irr us
theorem beg_self : ∀ a : List ByteArray, begP a a = true
  | [] => rfl
  | x :: us => by simp [begP, beg_self us]
theorem apart_back {a b : List ByteArray} (h : apartP a b) : begP b a = false := by
  cases e : begP b a with
  | false => rfl
  | true => have := beg_le b a e; rw [h.1] at this; cases this
theorem goodC_of {l : List GLeaf} (ho : ∀ x ∈ l, okLeaf x = true) (hp : l.Pairwise (fun x y => apartP x.Path y.Path)) (hl : l.length ≤ 30) : goodC l = true := by
  simp only [goodC, Bool.and_eq_true, decide_eq_true_eq]
  exact ⟨goodG_of l none ho hp (fun y hy => by cases hy), hl⟩
theorem goodC_pw {l : List GLeaf} (h : goodC l = true) : l.Pairwise (fun x y => apartP x.Path y.Path) := by
  simp only [goodC, Bool.and_eq_true] at h
  exact (goodG_pw l none h.1).1
theorem goodC_len {l : List GLeaf} (h : goodC l = true) : l.length ≤ 30 := by
  simp only [goodC, Bool.and_eq_true, decide_eq_true_eq] at h
  exact h.2
theorem goodC_sub {l m : List GLeaf} (h : goodC l = true) (hs : m.Sublist l) : goodC m = true :=
  goodC_of (fun x hx => goodC_all h x (hs.subset hx)) ((goodC_pw h).sublist hs) (Nat.le_trans hs.length_le (goodC_len h))
def doR : List GLeaf → List GCommand → Option (List GLeaf)
  | o, [] => some o
  | o, c :: cs => if (doStep o c).2 = true then doR (doStep o c).1 cs else none
theorem doR_app : ∀ (cs : List GCommand) (o : List GLeaf) (ds : List GCommand), doR o (cs ++ ds) = (doR o cs).bind (fun o' => doR o' ds)
  | [], o, ds => rfl
  | c :: cs, o, ds => by
    simp only [List.cons_append, doR]
    split
    · exact doR_app cs _ ds
    · rfl
theorem doI_doR (l : List GLeaf) (cs : List GCommand) : ∀ i, i ≤ cs.length → doI l cs i = doR l (cs.take i)
  | 0, _ => rfl
  | i + 1, h => by
    have ih := doI_doR l cs i (by omega)
    rw [take_step cs i (by omega), doR_app, ← ih]
    rw [doI]
    cases doI l cs i with
    | none => rfl
    | some o =>
      rw [List.getElem?_eq_getElem (by omega)]
      rfl
def stayC (b : List GLeaf) (x : GLeaf) : Bool := !goneC b x
theorem del_phase (b : List GLeaf) : ∀ (a2 a1 : List GLeaf), goodC (a1 ++ a2) = true → doR (a1.filter (stayC b) ++ a2) ((a2.filter (goneC b)).map delCo) = some ((a1 ++ a2).filter (stayC b))
  | [], a1, h => by simp [doR]
  | x :: t, a1, h => by
    have ih := del_phase b t (a1 ++ [x]) (by simpa using h)
    have e1 : a1 ++ x :: t = (a1 ++ [x]) ++ t := by simp
    rw [e1]
    cases g : goneC b x with
    | false =>
      have g2 : stayC b x = true := by simp [stayC, g]
      rw [List.filter_cons_of_neg (by simp [g])]
      rw [← ih]
      simp [g2]
    | true =>
      have g2 : stayC b x = false := by simp [stayC, g]
      have hpw := List.pairwise_append.1 (goodC_pw h)
      have hx := List.pairwise_cons.1 hpw.2.1
      have hg : goodC (a1.filter (stayC b) ++ x :: t) = true := goodC_sub h (List.Sublist.append (List.filter_sublist) (List.Sublist.refl _))
      have hd : delL x.Path (a1.filter (stayC b) ++ x :: t) = a1.filter (stayC b) ++ t := by
        unfold delL
        rw [List.filter_append, List.filter_cons_of_neg (by simp [begL, beg_self])]
        congr 1
        · refine List.filter_eq_self.2 fun y hy => ?_
          simp [begL, apart_back (hpw.2.2 y (List.mem_filter.1 hy).1 x (List.mem_cons_self ..))]
        · refine List.filter_eq_self.2 fun y hy => ?_
          simp [begL, (hx.1 y hy).2]
      have hok := goodC_all h x (by simp)
      simp only [okLeaf, Bool.and_eq_true] at hok
      have hs : doStep (a1.filter (stayC b) ++ x :: t) (delCo x) = (a1.filter (stayC b) ++ t, true) := by
        unfold doStep
        have q1 : ¬ (delCo x).Set = true := by simp [delCo]
        have q2 : (delCo x).Value = ⟨#[]⟩ := rfl
        have q3 : (delCo x).Path = x.Path := rfl
        rw [if_neg q1, if_pos q2, q3]
        unfold rDeleteAt
        rw [hd, if_pos]
        simp [hg, hok.1]
      rw [List.filter_cons_of_pos g, List.map_cons]
      unfold doR
      rw [hs, if_pos rfl, ← ih]
      simp [g2]
def oldC (a : List GLeaf) (y : GLeaf) : Option GLeaf := a.find? (atP y.Path)
theorem oldC_some {a : List GLeaf} {x y : GLeaf} (h : oldC a y = some x) : x.Path = y.Path ∧ x ∈ a := by
  have h1 := List.find?_some h
  simp only [atP, decide_eq_true_eq] at h1
  exact ⟨h1, List.mem_of_find?_eq_some h⟩
theorem mid_good {a b1 b2 : List GLeaf} (ha : goodC a = true) (h : goodC (b1 ++ b2) = true) : goodC (b1 ++ b2.filterMap (oldC a)) = true := by
  have hp := List.pairwise_append.1 (goodC_pw h)
  refine goodC_of ?_ ?_ ?_
  · intro x hx
    rcases List.mem_append.1 hx with hx | hx
    · exact goodC_all h x (List.mem_append_left _ hx)
    · obtain ⟨y, hy, hyx⟩ := List.mem_filterMap.1 hx
      exact goodC_all ha x (oldC_some hyx).2
  · refine List.pairwise_append.2 ⟨hp.1, ?_, ?_⟩
    · rw [List.pairwise_filterMap]
      refine hp.2.1.imp ?_
      intro y z hyz x hx w hw
      rw [(oldC_some hx).1, (oldC_some hw).1]
      exact hyz
    · intro x hx z hz
      obtain ⟨y, hy, hyz⟩ := List.mem_filterMap.1 hz
      rw [(oldC_some hyz).1]
      exact hp.2.2 x hx y hy
  · have h1 := goodC_len h
    have h2 := List.length_filterMap_le (oldC a) b2
    simp only [List.length_append] at h1 ⊢
    omega
theorem cmp_neg {a b : List ByteArray} (h : lessP a b = true) : cmpP a b < 0 := by
  have := cmpP_less a b
  rw [h] at this
  simpa using this
theorem cmp_nonneg {a b : List ByteArray} (h : lessP a b = false) : 0 ≤ cmpP a b := by
  have := cmpP_less a b
  rw [h] at this
  simpa using this
theorem less_asym {a b : List ByteArray} (h : lessP a b = true) : lessP b a = false := by
  cases e : lessP b a with
  | false => rfl
  | true => have := lessP_trans _ _ _ h e; rw [less_irr] at this; cases this
theorem putL_mid {p : List ByteArray} {v : ByteArray} {l m : List GLeaf} (hl : ∀ x ∈ l, lessP x.Path p = true) (hm : ∀ x ∈ m, lessP p x.Path = true) : putL p v (l ++ m) = l ++ [⟨p, v⟩] ++ m := by
  have e : atI p (l ++ m) = l.length := by
    refine bsI_eq _ _ _ (by simp) ?_ ?_
    · intro i hi h2
      rw [List.getElem_append_left hi]
      exact cmp_neg (hl _ (List.getElem_mem hi))
    · intro h2
      rw [List.getElem_append_right (Nat.le_refl _)]
      exact cmp_nonneg (less_asym (hm _ (List.getElem_mem _)))
  unfold putL
  rw [e, List.take_left, List.drop_left]
theorem set_phase {a : List GLeaf} (ha : goodC a = true) : ∀ (b2 b1 : List GLeaf), goodC (b1 ++ b2) = true → doR (b1 ++ b2.filterMap (oldC a)) ((b2.filter (freshC a)).map setCo) = some (b1 ++ b2)
  | [], b1, h => by simp [doR]
  | y :: t, b1, h => by
    have h' : goodC ((b1 ++ [y]) ++ t) = true := by simpa using h
    have ih := set_phase ha t (b1 ++ [y]) h'
    have e1 : b1 ++ y :: t = (b1 ++ [y]) ++ t := by simp
    rw [e1]
    cases f : freshC a y with
    | false =>
      have g : oldC a y = some y := by
        unfold freshC at f
        unfold oldC
        split at f
        · rename_i x hx
          rw [hx]
          have h1 := (oldC_some hx).1
          simp at f
          obtain ⟨P, V⟩ := x
          obtain ⟨P', V'⟩ := y
          simp only at h1 f
          rw [h1, f]
        · cases f
      rw [List.filter_cons_of_neg (by simp [f]), List.filterMap_cons_some g, ← ih]
      simp
    | true =>
      have hpw := List.pairwise_append.1 (goodC_pw h)
      have hx := List.pairwise_cons.1 hpw.2.1
      have hok := goodC_all h y (by simp)
      simp only [okLeaf, Bool.and_eq_true] at hok
      have hF : ∀ z ∈ t.filterMap (oldC a), apartP y.Path z.Path := by
        intro z hz
        obtain ⟨w, hw, hwz⟩ := List.mem_filterMap.1 hz
        rw [(oldC_some hwz).1]
        exact hx.1 w hw
      have hk : keptL y.Path (b1 ++ (y :: t).filterMap (oldC a)) = b1 ++ t.filterMap (oldC a) := by
        have k1 : keptL y.Path b1 = b1 := List.filter_eq_self.2 fun z hz => by
          have := hpw.2.2 z hz y (List.mem_cons_self ..)
          simp [clashB, this.2, apart_back this]
        have k2 : keptL y.Path (t.filterMap (oldC a)) = t.filterMap (oldC a) := List.filter_eq_self.2 fun z hz => by
          have := hF z hz
          simp [clashB, this.2, apart_back this]
        unfold keptL at k1 k2 ⊢
        rw [List.filter_append, k1]
        congr 1
        cases g : oldC a y with
        | none => rw [List.filterMap_cons_none g, k2]
        | some x =>
          rw [List.filterMap_cons_some g, List.filter_cons_of_neg, k2]
          simp [clashB, (oldC_some g).1, beg_self]
      have hset : setC y.Path y.Value (b1 ++ (y :: t).filterMap (oldC a)) = (b1 ++ [y]) ++ t.filterMap (oldC a) := by
        unfold setC
        rw [hk, putL_mid (fun z hz => (hpw.2.2 z hz y (List.mem_cons_self ..)).1) (fun z hz => (hF z hz).1)]
      have hs : doStep (b1 ++ (y :: t).filterMap (oldC a)) (setCo y) = ((b1 ++ [y]) ++ t.filterMap (oldC a), true) := by
        unfold doStep
        rw [if_pos (show (setCo y).Set = true from rfl)]
        show rSetAt _ y.Path y.Value = _
        unfold rSetAt
        rw [hset, if_pos]
        simp only [mid_good ha h, mid_good ha h', hok.1, hok.2, Bool.and_self]
      rw [List.filter_cons_of_pos f, List.map_cons]
      unfold doR
      rw [hs, if_pos rfl, ih]
theorem sort_ext : ∀ l m : List GLeaf, l.Pairwise (fun x y => lessP x.Path y.Path = true) → m.Pairwise (fun x y => lessP x.Path y.Path = true) → (∀ x, x ∈ l ↔ x ∈ m) → l = m
  | [], m, _, _, h => by
    cases m with
    | nil => rfl
    | cons y m => have := (h y).2 (List.mem_cons_self ..); cases this
  | x :: l, [], _, _, h => by have := (h x).1 (List.mem_cons_self ..); cases this
  | x :: l, y :: m, hl, hm', h => by
    obtain ⟨l1, l2⟩ := List.pairwise_cons.1 hl
    obtain ⟨m1, m2⟩ := List.pairwise_cons.1 hm'
    have e : x = y := by
      rcases List.mem_cons.1 ((h x).1 (List.mem_cons_self ..)) with e | e
      · exact e
      · rcases List.mem_cons.1 ((h y).2 (List.mem_cons_self ..)) with e2 | e2
        · exact e2.symm
        · have := less_asym (l1 y e2)
          rw [m1 x e] at this
          cases this
    subst e
    rw [sort_ext l m l2 m2]
    intro z
    constructor
    · intro hz
      rcases List.mem_cons.1 ((h z).1 (List.mem_cons_of_mem _ hz)) with e | e
      · subst e
        have := l1 z hz
        rw [less_irr] at this
        cases this
      · exact e
    · intro hz
      rcases List.mem_cons.1 ((h z).2 (List.mem_cons_of_mem _ hz)) with e | e
      · subst e
        have := m1 z hz
        rw [less_irr] at this
        cases this
      · exact e
theorem path_inj {a : List GLeaf} (ha : goodC a = true) {x y : GLeaf} (hx : x ∈ a) (hy : y ∈ a) (h : x.Path = y.Path) : x = y := by
  have hp := goodC_pw ha
  clear ha
  induction a with
  | nil => cases hx
  | cons z a ih =>
    obtain ⟨h1, h2⟩ := List.pairwise_cons.1 hp
    rcases List.mem_cons.1 hx with hx | hx
    · rcases List.mem_cons.1 hy with hy | hy
      · rw [hx, hy]
      · have := (h1 y hy).1
        rw [← hx, h, less_irr] at this
        cases this
    · rcases List.mem_cons.1 hy with hy | hy
      · have := (h1 x hx).1
        rw [h, hy, less_irr] at this
        cases this
      · exact ih hx hy h2
theorem stay_old {a b : List GLeaf} (ha : goodC a = true) (hb : goodC b = true) : a.filter (stayC b) = b.filterMap (oldC a) := by
  have h1 := goodC_pw (mid_good (b1 := []) ha (by simpa using hb))
  simp only [List.nil_append] at h1
  refine sort_ext _ _ (((goodC_pw ha).filter _).imp fun h => h.1) (h1.imp fun h => h.1) ?_
  intro x
  rw [List.mem_filter, List.mem_filterMap]
  constructor
  · rintro ⟨hx, hs⟩
    unfold stayC goneC at hs
    cases hf : b.find? (atP x.Path) with
    | none => rw [hf] at hs; simp at hs
    | some y =>
      have hy := oldC_some (a := b) (y := x) hf
      refine ⟨y, hy.2, ?_⟩
      unfold oldC
      cases hg : a.find? (atP y.Path) with
      | none =>
        have := List.find?_eq_none.1 hg x hx
        simp [atP, hy.1] at this
      | some z =>
        have hz := oldC_some (a := a) (y := y) hg
        rw [path_inj ha hz.2 hx (by rw [hz.1, hy.1])]
  · rintro ⟨y, hy, hyx⟩
    obtain ⟨h1, h2⟩ := oldC_some hyx
    refine ⟨h2, ?_⟩
    unfold stayC goneC
    cases hg : b.find? (atP x.Path) with
    | none =>
      have := List.find?_eq_none.1 hg y hy
      simp [atP, h1] at this
    | some z => rfl
theorem do_diff {a b : List GLeaf} (ha : goodC a = true) (hb : goodC b = true) : rDoCommands a (diffL a b) = (b, true) := by
  have h1 := del_phase b a [] (by simpa using ha)
  have h2 := set_phase ha b [] (by simpa using hb)
  simp only [List.nil_append, List.filter_nil] at h1 h2
  have h3 : doR a (diffL a b) = some b := by
    unfold diffL
    rw [doR_app, h1, stay_old ha hb]
    exact h2
  have hlen : (diffL a b).length ≤ 80 := by
    have e1 := goodC_len ha
    have e2 := goodC_len hb
    have e3 := fmap_len (goneC b) delCo a
    have e4 := fmap_len (freshC a) setCo b
    unfold diffL
    rw [List.length_append]
    omega
  unfold rDoCommands
  rw [if_pos ⟨ha, hlen⟩, doI_doR _ _ _ (Nat.le_refl _), List.take_length, h3]
theorem diff_nil {a b : List GLeaf} (ha : goodC a = true) (hb : goodC b = true) : diffL a b = [] ↔ a = b := by
  constructor
  · intro h
    have h1 := do_diff ha hb
    rw [h] at h1
    unfold rDoCommands at h1
    rw [if_pos ⟨ha, by simp⟩] at h1
    simpa [doI] using h1
  · rintro rfl
    unfold diffL
    rw [List.append_eq_nil_iff, List.map_eq_nil_iff, List.map_eq_nil_iff, List.filter_eq_nil_iff, List.filter_eq_nil_iff]
    have key : ∀ x ∈ a, a.find? (atP x.Path) = some x := by
      intro x hx
      cases hg : a.find? (atP x.Path) with
      | none =>
        have := List.find?_eq_none.1 hg x hx
        simp [atP] at this
      | some z =>
        have hz := oldC_some (a := a) (y := x) hg
        rw [path_inj ha hz.2 hx hz.1]
    refine ⟨fun x hx => ?_, fun x hx => ?_⟩
    · simp [goneC, key x hx]
    · simp [freshC, key x hx]
end Go.V
