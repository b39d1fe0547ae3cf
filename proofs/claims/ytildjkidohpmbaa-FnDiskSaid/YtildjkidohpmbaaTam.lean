/- What functions of the seat's program do, each proved of its code, under the bounds that its theorem names. -/
import Derived.Test.YtildjkidohpmbaaTal
set_option linter.all false
namespace Go.V
open Go.Proofs
set_option maxHeartbeats 1000000
set_option maxRecDepth 10000
set_option linter.unusedSimpArgs false
set_option linter.unusedVariables false
structure GStore where
  Candidate : (List GLeaf)
  Running : (List GLeaf)
  History : (List (List GLeaf))
  Left : Int
  deriving DecidableEq
def GStore.co (x : GStore) : List PT := [.sl 0 103 x.Candidate.length (x.Candidate.flatMap GLeaf.co), .sl 0 103 x.Running.length (x.Running.flatMap GLeaf.co), .sl 0 58 x.History.length (x.History.map (cLeafSo)), pi x.Left]
def GStore.ci (k : Nat) (x : GStore) : List PT := [rd k x.Candidate.length (x.Candidate.flatMap (GLeaf.ci k)), rd k x.Running.length (x.Running.flatMap (GLeaf.ci k)), rd k x.History.length (x.History.map (cLeafSi k)), pi x.Left]
attribute [simp] GStore.co GStore.ci
theorem GStore.len_o (x : GStore) : x.co.length = 4 := rfl
theorem GStore.len_i (k : Nat) (x : GStore) : (x.ci k).length = 4 := rfl
theorem GStore.un1 (x : GStore) : PT.unownL x.co = x.ci 0 := by simp [rd]
theorem GStore.uni1 (k : Nat) (x : GStore) : PT.unownL (x.ci k) = x.ci 0 := by simp [rd]
theorem GStore.un (xs : List GStore) : PT.unownL (xs.flatMap GStore.co) = xs.flatMap (GStore.ci 0) := by
  rw [unownL_fm]
  congr 1
  funext x
  exact GStore.un1 x
theorem GStore.uni (k : Nat) (xs : List GStore) : PT.unownL (xs.flatMap (GStore.ci k)) = xs.flatMap (GStore.ci 0) := by
  rw [unownL_fm]
  congr 1
  funext x
  exact GStore.uni1 k x
theorem GStore.nt (xs : List GStore) : PT.noTmpL (xs.flatMap GStore.co) = true := noTmpL_fm _ xs fun x => by simp
theorem GStore.nti (k : Nat) (xs : List GStore) : PT.noTmpL (xs.flatMap (GStore.ci (k + 1))) = true := noTmpL_fm _ xs fun x => by simp [rd]
attribute [simp] GStore.un GStore.uni GStore.nt GStore.nti
theorem GStore.lenR (xs : List GStore) : (xs.flatMap GStore.co).length = xs.length * 4 := fm_len _ 4 (fun _ => rfl) xs
theorem GStore.lenRi (k : Nat) (xs : List GStore) : (xs.flatMap (GStore.ci k)).length = xs.length * 4 := fm_len _ 4 (fun _ => rfl) xs
theorem GStore.tkR (xs : List GStore) : (xs.flatMap GStore.co).take (xs.length * 4) = xs.flatMap GStore.co := List.take_of_length_le (by rw [GStore.lenR]; exact Nat.le_refl _)
theorem GStore.tkRi (k : Nat) (xs : List GStore) : (xs.flatMap (GStore.ci k)).take (xs.length * 4) = xs.flatMap (GStore.ci k) := List.take_of_length_le (by rw [GStore.lenRi]; exact Nat.le_refl _)
attribute [simp high] GStore.lenR GStore.tkR GStore.lenRi GStore.tkRi
def GStore.wt (x : GStore) : Nat := wt_LeafS x.Candidate + wt_LeafS x.Running + wt_LeafSS x.History
def GStore.fits (x : GStore) : Prop := fits_LeafS x.Candidate ∧ fits_LeafS x.Running ∧ fits_LeafSS x.History
def GStore.lens (x : GStore) : Prop := lens_LeafS x.Candidate ∧ lens_LeafS x.Running ∧ lens_LeafSS x.History
def GStore.mark (x : GStore) (k : Int) : GStore × Int := (⟨(mk_LeafS x.Candidate k).1, (mk_LeafS x.Running (mk_LeafS x.Candidate k).2).1, (mk_LeafSS x.History (mk_LeafS x.Running (mk_LeafS x.Candidate k).2).2).1, (mk_LeafSS x.History (mk_LeafS x.Running (mk_LeafS x.Candidate k).2).2).2⟩, ((mk_LeafSS x.History (mk_LeafS x.Running (mk_LeafS x.Candidate k).2).2).2 + 1))
def GStore.cn (x : GStore) : Nat := cn_LeafS x.Candidate + cn_LeafS x.Running + cn_LeafSS x.History + 1
theorem GStore.mark_snd (x : GStore) (k : Int) : (GStore.mark x k).2 = k + GStore.cn x := by
  simp only [GStore.mark, GStore.cn, mk_LeafSS_snd, mk_LeafS_snd] <;> omega
def GStore.markT (x : GStore) (k : Int) : GStore × Int := (⟨(mk_LeafS x.Candidate k).1, (mk_LeafS x.Running (mk_LeafS x.Candidate k).2).1, (mk_LeafSS x.History (mk_LeafS x.Running (mk_LeafS x.Candidate k).2).2).1, x.Left⟩, (mk_LeafSS x.History (mk_LeafS x.Running (mk_LeafS x.Candidate k).2).2).2)
def GStore.cnT (x : GStore) : Nat := cn_LeafS x.Candidate + cn_LeafS x.Running + cn_LeafSS x.History
theorem GStore.markT_snd (x : GStore) (k : Int) : (GStore.markT x k).2 = k + GStore.cnT x := by
  simp only [GStore.markT, GStore.cnT, mk_LeafSS_snd, mk_LeafS_snd] <;> omega
theorem lens_of_Store {x : GStore} (h : GStore.wt x ≤ 1048576) : GStore.lens x := by
  unfold GStore.wt at h
  exact ⟨lens_of_LeafS (by omega), lens_of_LeafS (by omega), lens_of_LeafSS (by omega)⟩
theorem cn_le_Store (x : GStore) : GStore.cnT x ≤ 32 * GStore.wt x := by
  unfold GStore.cnT GStore.wt
  have := cn_le_LeafS x.Candidate
  have := cn_le_LeafS x.Running
  have := cn_le_LeafSS x.History
  omega
theorem cnE_le_Store (x : GStore) : GStore.cn x ≤ 32 * GStore.wt x + 16 := by
  unfold GStore.cn GStore.wt
  have := cn_le_LeafS x.Candidate
  have := cn_le_LeafS x.Running
  have := cn_le_LeafSS x.History
  omega
def storeOK (s : GStore) : Prop := confOK s.Candidate ∧ confOK s.Running ∧ s.History.length ≤ 140737488351232 ∧ ∀ l ∈ s.History, confOK l
def goodS (s : GStore) : Bool := goodC s.Candidate && goodC s.Running && decide ((1 : Int) ≤ s.History.length ∧ (s.History.length : Int) ≤ 10) && s.History.all goodC && decide (0 ≤ s.Left ∧ s.Left ≤ 100) && (decide (s.Left = 0) == decide (s.Running = s.History.headD []))
theorem head_cells (k : Nat) (h : List (List GLeaf)) (l : List GLeaf) (t : List (List GLeaf)) (e : h = l :: t) : h.map (cLeafSi k) = cLeafSi k l :: t.map (cLeafSi k) := by rw [e]; rfl
structure GOp where
  Kind : Int
  Path : (List ByteArray)
  Value : ByteArray
  N : Int
  deriving DecidableEq
def GOp.co (x : GOp) : List PT := [pi x.Kind, .sl 0 9 x.Path.length (x.Path.map ps), ps x.Value, pi x.N]
def GOp.ci (k : Nat) (x : GOp) : List PT := [pi x.Kind, rd k x.Path.length (x.Path.map ps), ps x.Value, pi x.N]
attribute [simp] GOp.co GOp.ci
theorem GOp.len_o (x : GOp) : x.co.length = 4 := rfl
theorem GOp.len_i (k : Nat) (x : GOp) : (x.ci k).length = 4 := rfl
theorem GOp.un1 (x : GOp) : PT.unownL x.co = x.ci 0 := by simp [rd]
theorem GOp.uni1 (k : Nat) (x : GOp) : PT.unownL (x.ci k) = x.ci 0 := by simp [rd]
theorem GOp.un (xs : List GOp) : PT.unownL (xs.flatMap GOp.co) = xs.flatMap (GOp.ci 0) := by
  rw [unownL_fm]
  congr 1
  funext x
  exact GOp.un1 x
theorem GOp.uni (k : Nat) (xs : List GOp) : PT.unownL (xs.flatMap (GOp.ci k)) = xs.flatMap (GOp.ci 0) := by
  rw [unownL_fm]
  congr 1
  funext x
  exact GOp.uni1 k x
theorem GOp.nt (xs : List GOp) : PT.noTmpL (xs.flatMap GOp.co) = true := noTmpL_fm _ xs fun x => by simp
theorem GOp.nti (k : Nat) (xs : List GOp) : PT.noTmpL (xs.flatMap (GOp.ci (k + 1))) = true := noTmpL_fm _ xs fun x => by simp [rd]
attribute [simp] GOp.un GOp.uni GOp.nt GOp.nti
theorem GOp.lenR (xs : List GOp) : (xs.flatMap GOp.co).length = xs.length * 4 := fm_len _ 4 (fun _ => rfl) xs
theorem GOp.lenRi (k : Nat) (xs : List GOp) : (xs.flatMap (GOp.ci k)).length = xs.length * 4 := fm_len _ 4 (fun _ => rfl) xs
theorem GOp.tkR (xs : List GOp) : (xs.flatMap GOp.co).take (xs.length * 4) = xs.flatMap GOp.co := List.take_of_length_le (by rw [GOp.lenR]; exact Nat.le_refl _)
theorem GOp.tkRi (k : Nat) (xs : List GOp) : (xs.flatMap (GOp.ci k)).take (xs.length * 4) = xs.flatMap (GOp.ci k) := List.take_of_length_le (by rw [GOp.lenRi]; exact Nat.le_refl _)
attribute [simp high] GOp.lenR GOp.tkR GOp.lenRi GOp.tkRi
def GOp.wt (x : GOp) : Nat := wt_StringS x.Path + x.Value.size
def GOp.fits (x : GOp) : Prop := fits_StringS x.Path ∧ x.Value.size ≤ 140737488351232
def GOp.lens (x : GOp) : Prop := lens_StringS x.Path
def GOp.mark (x : GOp) (k : Int) : GOp × Int := (⟨k, (mk_StringS x.Path (k + 1)).1, mtext (mk_StringS x.Path (k + 1)).2, ((mk_StringS x.Path (k + 1)).2 + 1)⟩, (((mk_StringS x.Path (k + 1)).2 + 1) + 1))
def GOp.cn (x : GOp) : Nat := 1 + cn_StringS x.Path + 1 + 1
theorem GOp.mark_snd (x : GOp) (k : Int) : (GOp.mark x k).2 = k + GOp.cn x := by
  simp only [GOp.mark, GOp.cn, mk_StringS_snd] <;> omega
def GOp.markT (x : GOp) (k : Int) : GOp × Int := (⟨x.Kind, (mk_StringS x.Path k).1, x.Value, x.N⟩, (mk_StringS x.Path k).2)
def GOp.cnT (x : GOp) : Nat := cn_StringS x.Path
theorem GOp.markT_snd (x : GOp) (k : Int) : (GOp.markT x k).2 = k + GOp.cnT x := by
  simp only [GOp.markT, GOp.cnT, mk_StringS_snd] <;> omega
theorem lens_of_Op {x : GOp} (h : GOp.wt x ≤ 1048576) : GOp.lens x := by
  unfold GOp.wt at h
  exact lens_of_StringS (by omega)
theorem cn_le_Op (x : GOp) : GOp.cnT x ≤ 32 * GOp.wt x := by
  unfold GOp.cnT GOp.wt
  have := cn_le_StringS x.Path
  omega
theorem cnE_le_Op (x : GOp) : GOp.cn x ≤ 32 * GOp.wt x + 16 := by
  unfold GOp.cn GOp.wt
  have := cn_le_StringS x.Path
  omega
def isOpB (o : GOp) : Bool := decide (1 ≤ o.Kind ∧ o.Kind ≤ 8) && (decide (o.Kind = 1 ∨ o.Kind = 2) || decide (o.Path.length = 0)) && (decide (o.Kind = 1) || decide (o.Value = ⟨#[]⟩)) && (decide (o.Kind = 4 ∨ o.Kind = 6) || decide (o.N = 0))
def opOK (o : GOp) : Prop := strsOK o.Path ∧ o.Path.length ≤ 1048576 ∧ o.Value.size ≤ 140737488355328
def textB (o : GOp) : Bool := decide (o.Path.length = 0) && decide (o.Value = ⟨#[]⟩)
def l16OpB (o : GOp) : Bool :=
  if o.Kind = 1 then decide (o.N = 0) && isP o.Path && isW o.Value
  else if o.Kind = 2 then decide (o.N = 0) && isP o.Path && decide (o.Value = ⟨#[]⟩)
  else if o.Kind = 4 then textB o && decide (1 ≤ o.N ∧ o.N ≤ 100)
  else if o.Kind = 6 then textB o && decide (0 ≤ o.N ∧ o.N ≤ 9)
  else if o.Kind = 3 ∨ o.Kind = 5 ∨ o.Kind = 7 ∨ o.Kind = 8 then textB o && decide (o.N = 0)
  else false
theorem ci_inj : ∀ {a b : List GLeaf} {k : Nat}, a.flatMap (GLeaf.ci k) = b.flatMap (GLeaf.ci k) → a = b
  | [], [], _, _ => rfl
  | [], y :: b, k, h => by simp at h
  | x :: a, [], k, h => by simp at h
  | x :: a, y :: b, k, h => by
    simp only [List.flatMap_cons, GLeaf.ci, List.cons_append, List.nil_append, List.cons.injEq] at h
    obtain ⟨h1, h2, h3⟩ := h
    have e1 : x.Path = y.Path := by
      simp only [rd, PT.sl.injEq] at h1
      have h4 := h1.2.2.2
      exact List.map_inj_right (fun u v huv => by simpa [ps] using huv) |>.1 h4
    have e2 : x.Value = y.Value := by simpa [ps] using h2
    rw [ci_inj h3]
    cases x; cases y
    simp only at e1 e2
    rw [e1, e2]
def storeB (s : GStore) : Prop := boundC s.Candidate ∧ boundC s.Running ∧ s.History.length ≤ 1048576 ∧ ∀ h ∈ s.History, boundC h
def confirmS (s : GStore) : GStore := if s.History.head? = some s.Running then { s with Left := 0 } else { s with Left := 0, History := (s.Running :: s.History).take 10 }
def stepSp (s : GStore) (o : GOp) : GStore × Bool :=
  if l16OpB o = false then (s, false)
  else if o.Kind = 1 then (⟨(rSetAt s.Candidate o.Path o.Value).1, s.Running, s.History, s.Left⟩, (rSetAt s.Candidate o.Path o.Value).2)
  else if o.Kind = 2 then (⟨(rDeleteAt s.Candidate o.Path).1, s.Running, s.History, s.Left⟩, (rDeleteAt s.Candidate o.Path).2)
  else if o.Kind = 3 then (confirmS ⟨s.Candidate, s.Candidate, s.History, s.Left⟩, true)
  else if o.Kind = 4 then (⟨s.Candidate, s.Candidate, s.History, if s.Candidate = s.History.headD [] then 0 else o.N⟩, true)
  else if o.Kind = 5 then (if s.Left = 0 then (s, false) else (confirmS s, true))
  else if o.Kind = 6 then (if (s.History.length : Int) ≤ o.N then (s, false) else (⟨s.History.getD o.N.toNat [], s.Running, s.History, s.Left⟩, true))
  else if o.Kind = 7 then (⟨s.Running, s.Running, s.History, s.Left⟩, true)
  else (if s.Left = 0 then (s, false) else (⟨s.Candidate, (if s.Left - 1 = 0 then s.History.headD [] else s.Running), s.History, s.Left - 1⟩, true))
def zeroS : GStore := ⟨[], [], [], 0⟩
def stepI (s : GStore) (o : GOp) : GStore × Bool :=
  if isOpB o = false then (zeroS, false)
  else if o.Kind = 1 then (⟨(rSetAt s.Candidate o.Path o.Value).1, s.Running, s.History, s.Left⟩, (rSetAt s.Candidate o.Path o.Value).2)
  else if o.Kind = 2 then (⟨(rDeleteAt s.Candidate o.Path).1, s.Running, s.History, s.Left⟩, (rDeleteAt s.Candidate o.Path).2)
  else if o.Kind = 3 then (confirmS ⟨s.Candidate, s.Candidate, s.History, s.Left⟩, true)
  else if o.Kind = 4 then (⟨s.Candidate, s.Candidate, s.History, if s.Candidate = s.History.headD [] then 0 else o.N⟩, decide (1 ≤ o.N ∧ o.N ≤ 100))
  else if o.Kind = 5 then (confirmS s, decide (0 < s.Left))
  else if o.Kind = 6 then (if 0 ≤ o.N ∧ o.N ≤ (s.History.length : Int) - 1 then (⟨s.History.getD o.N.toNat [], s.Running, s.History, s.Left⟩, true) else (zeroS, false))
  else if o.Kind = 7 then (⟨s.Running, s.Running, s.History, s.Left⟩, true)
  else if o.Kind = 8 then (⟨s.Candidate, (if s.Left - 1 = 0 then s.History.headD [] else s.Running), s.History, s.Left - 1⟩, decide (0 < s.Left))
  else (s, true)
theorem wtR_leC {α : Type} (f : α → Nat) (b : Nat) : ∀ l : List α, (∀ x ∈ l, f x ≤ b) → wtR f l ≤ l.length * (b + 1)
  | [], _ => by simp [wtR]
  | x :: l, h => by
    have ih := wtR_leC f b l fun y hy => h y (by simp [hy])
    have hx := h x (by simp)
    simp only [wtR, List.map_cons, List.sum_cons, List.length_cons] at ih ⊢
    rw [Nat.succ_mul]
    omega
theorem isW_size {w : ByteArray} (h : isW w = true) : w.size ≤ 8 := by
  simp only [isW, Bool.and_eq_true, decide_eq_true_eq] at h
  omega
def smC (l : List GLeaf) : Prop := l.length ≤ 30 ∧ ∀ x ∈ l, okLeaf x = true
theorem goodC_sm {l : List GLeaf} (h : goodC l = true) : smC l := by
  refine ⟨?_, goodC_all h⟩
  simp only [goodC, Bool.and_eq_true, decide_eq_true_eq] at h
  exact h.2
theorem smC_wt {l : List GLeaf} (h : smC l) : wt_LeafS l ≤ 2000 := by
  have hl := h.1
  have h1 : wtR GLeaf.wt l ≤ l.length * (53 + 1) := by
    refine wtR_leC GLeaf.wt 53 l fun x hx => ?_
    have ho := h.2 x hx
    simp only [okLeaf, Bool.and_eq_true, isP, decide_eq_true_eq] at ho
    obtain ⟨⟨h2, h3⟩, h4⟩ := ho
    have h5 := isW_size h4
    have h6 : wtR ByteArray.size x.Path ≤ x.Path.length * (8 + 1) := wtR_leC ByteArray.size 8 x.Path fun w hw => isW_size (List.all_eq_true.1 h3 w hw)
    unfold GLeaf.wt
    show wtR ByteArray.size x.Path + x.Value.size ≤ 53
    omega
  show wtR GLeaf.wt l ≤ 2000
  omega
def invS (s : GStore) : Prop := smC s.Candidate ∧ smC s.Running ∧ 1 ≤ s.History.length ∧ s.History.length ≤ 10 ∧ (∀ l ∈ s.History, smC l) ∧ (0 ≤ s.Left ∧ s.Left ≤ 100)
theorem goodS_inv {s : GStore} (h : goodS s = true) : invS s := by
  simp only [goodS, Bool.and_eq_true, decide_eq_true_eq, List.all_eq_true] at h
  obtain ⟨⟨⟨⟨⟨h1, h2⟩, h3⟩, h4⟩, h5⟩, h6⟩ := h
  exact ⟨goodC_sm h1, goodC_sm h2, by omega, by omega, fun l hl => goodC_sm (h4 l hl), h5⟩
theorem invS_wt {s : GStore} (h : invS s) : GStore.wt s ≤ 1048576 := by
  obtain ⟨h1, h2, h3, h4, h5, _⟩ := h
  have a1 := smC_wt h1
  have a2 := smC_wt h2
  have a3 : wtR wt_LeafS s.History ≤ s.History.length * (2000 + 1) := wtR_leC wt_LeafS 2000 s.History fun l hl => smC_wt (h5 l hl)
  unfold GStore.wt
  show wt_LeafS s.Candidate + wt_LeafS s.Running + wtR wt_LeafS s.History ≤ 1048576
  omega
theorem wt_storeB {s : GStore} (h : GStore.wt s ≤ 1048576) : storeB s := by
  unfold GStore.wt at h
  have key : ∀ l : List GLeaf, wt_LeafS l ≤ 1048576 → boundC l := fun l hl => ⟨(conf_len hl).1, fun x hx => ⟨(conf_len hl).2 x hx, (conf_ok hl).2 x hx⟩⟩
  exact ⟨key _ (by omega), key _ (by omega), by have := len_wt_LeafSS s.History; omega, fun l hl => key _ (by have := mem_wt_LeafSS hl; omega)⟩
theorem wt_opOK {o : GOp} (h : GOp.wt o ≤ 1048576) : opOK o := by
  unfold GOp.wt at h
  have := len_wt_StringS o.Path
  exact ⟨strs_ok (by omega), by omega, by omega⟩
theorem step_agree {s : GStore} (o : GOp) (hs : invS s) : (stepSp s o).2 = (stepI s o).2 ∧ ((stepI s o).2 = true → (stepSp s o).1 = (stepI s o).1) := by
  obtain ⟨h1, h2, h3, h4, h5, h6⟩ := hs
  obtain ⟨C, R, H, F⟩ := s
  obtain ⟨K, Pa, V, N⟩ := o
  simp only at h1 h2 h3 h4 h5 h6
  by_cases k1 : K = 1
  · subst k1
    cases c1 : isP Pa <;> cases c2 : isW V <;> by_cases c3 : N = 0 <;> simp [stepSp, stepI, isOpB, l16OpB, rSetAt, c1, c2, c3, zeroS]
  by_cases k2 : K = 2
  · subst k2
    cases c1 : isP Pa <;> by_cases c2 : V = ⟨#[]⟩ <;> by_cases c3 : N = 0 <;> simp [stepSp, stepI, isOpB, l16OpB, rDeleteAt, c1, c2, c3, zeroS]
  by_cases k3 : K = 3
  · subst k3
    by_cases c1 : Pa = [] <;> by_cases c2 : V = ⟨#[]⟩ <;> by_cases c3 : N = 0 <;> simp [stepSp, stepI, isOpB, l16OpB, textB, c1, c2, c3, zeroS]
  by_cases k4 : K = 4
  · subst k4
    by_cases c1 : Pa = [] <;> by_cases c2 : V = ⟨#[]⟩ <;> by_cases c3 : 1 ≤ N ∧ N ≤ 100 <;> simp [stepSp, stepI, isOpB, l16OpB, textB, c1, c2, c3, zeroS]
  by_cases k5 : K = 5
  · subst k5
    by_cases c1 : Pa = [] <;> by_cases c2 : V = ⟨#[]⟩ <;> by_cases c3 : N = 0 <;> by_cases c4 : F = 0 <;> simp [stepSp, stepI, isOpB, l16OpB, textB, c1, c2, c3, c4, zeroS]
    omega
  by_cases k6 : K = 6
  · subst k6
    by_cases c1 : Pa = [] <;> by_cases c2 : V = ⟨#[]⟩ <;> by_cases c3 : 0 ≤ N ∧ N ≤ 9
    all_goals
      by_cases c4 : (H.length : Int) ≤ N
      · have c5 : ¬ (0 ≤ N ∧ N ≤ (H.length : Int) - 1) := by omega
        have c6 : ¬ N ≤ (H.length : Int) - 1 := by omega
        simp [c6, stepSp, stepI, isOpB, l16OpB, textB, c1, c2, c3, c4, c5, zeroS]
      · by_cases c5 : 0 ≤ N ∧ N ≤ (H.length : Int) - 1
        · first
          | (exfalso; omega)
          | simp [stepSp, stepI, isOpB, l16OpB, textB, c1, c2, c3, c4, c5, zeroS]
        · first
          | (exfalso; omega)
          | simp [stepSp, stepI, isOpB, l16OpB, textB, c1, c2, c3, c4, c5, zeroS]
  by_cases k7 : K = 7
  · subst k7
    by_cases c1 : Pa = [] <;> by_cases c2 : V = ⟨#[]⟩ <;> by_cases c3 : N = 0 <;> simp [stepSp, stepI, isOpB, l16OpB, textB, c1, c2, c3, zeroS]
  by_cases k8 : K = 8
  · subst k8
    by_cases c1 : Pa = [] <;> by_cases c2 : V = ⟨#[]⟩ <;> by_cases c3 : N = 0 <;> by_cases c4 : F = 0 <;> simp [stepSp, stepI, isOpB, l16OpB, textB, c1, c2, c3, c4, zeroS]
    omega
  · have c1 : ¬ (1 ≤ K ∧ K ≤ 8) := by omega
    simp [stepSp, stepI, isOpB, l16OpB, k1, k2, k3, k4, k5, k6, k7, k8, c1]
theorem headD_mem {H : List (List GLeaf)} (h : 1 ≤ H.length) : H.headD [] ∈ H := by
  cases H with
  | nil => simp at h
  | cons x H => simp
theorem confirmS_inv {s : GStore} (h1 : smC s.Candidate) (h2 : smC s.Running) (h3 : 1 ≤ s.History.length) (h4 : s.History.length ≤ 10) (h5 : ∀ l ∈ s.History, smC l) : invS (confirmS s) := by
  obtain ⟨C, R, H, F⟩ := s
  simp only at h1 h2 h3 h4 h5
  have h0 : (0 : Int) ≤ 0 ∧ (0 : Int) ≤ 100 := by decide
  unfold confirmS
  split
  · exact ⟨h1, h2, h3, h4, h5, h0⟩
  · refine ⟨h1, h2, ?_, ?_, ?_, h0⟩
    · simp only [List.take_succ_cons, List.length_cons]; omega
    · simp only [List.length_take]; omega
    · intro l hl
      have := List.mem_of_mem_take hl
      rcases List.mem_cons.1 this with rfl | h
      · exact h2
      · exact h5 l h
theorem step_inv {s : GStore} {o : GOp} (hs : invS s) (ho : (stepI s o).2 = true) : invS (stepI s o).1 := by
  have hs' := hs
  obtain ⟨h1, h2, h3, h4, h5, h6⟩ := hs
  have hhd := h5 _ (headD_mem h3)
  obtain ⟨C, R, H, F⟩ := s
  obtain ⟨K, Pa, V, N⟩ := o
  simp only at h1 h2 h3 h4 h5 h6 hhd
  unfold stepI at ho ⊢
  simp only at ho ⊢
  split at ho
  · simp at ho
  rename_i c0
  rw [if_neg c0]
  split at ho
  · rename_i k
    rw [if_pos k]
    refine ⟨?_, h2, h3, h4, h5, h6⟩
    unfold rSetAt at ho ⊢
    split at ho
    · rename_i hg
      rw [if_pos hg]
      simp only [Bool.and_eq_true] at hg
      exact goodC_sm hg.2
    · simp at ho
  rename_i k1
  rw [if_neg k1]
  split at ho
  · rename_i k
    rw [if_pos k]
    refine ⟨?_, h2, h3, h4, h5, h6⟩
    unfold rDeleteAt at ho ⊢
    split at ho
    · rename_i hg
      rw [if_pos hg]
      exact ⟨Nat.le_trans (delL_len _ _) h1.1, fun x hx => h1.2 x (List.mem_filter.1 hx).1⟩
    · simp at ho
  rename_i k2
  rw [if_neg k2]
  split at ho
  · rename_i k
    rw [if_pos k]
    exact confirmS_inv h1 h1 h3 h4 h5
  rename_i k3
  rw [if_neg k3]
  split at ho
  · rename_i k
    rw [if_pos k]
    simp only [decide_eq_true_eq] at ho
    refine ⟨h1, h1, h3, h4, h5, ?_⟩
    show 0 ≤ (if C = H.headD [] then (0 : Int) else N) ∧ (if C = H.headD [] then (0 : Int) else N) ≤ 100
    split <;> omega
  rename_i k4
  rw [if_neg k4]
  split at ho
  · rename_i k
    rw [if_pos k]
    exact confirmS_inv h1 h2 h3 h4 h5
  rename_i k5
  rw [if_neg k5]
  split at ho
  · rename_i k
    rw [if_pos k]
    split at ho
    · rename_i hN
      rw [if_pos hN]
      refine ⟨?_, h2, h3, h4, h5, h6⟩
      have hlt : N.toNat < H.length := by omega
      show smC (H.getD N.toNat [])
      rw [List.getD_eq_getElem?_getD, List.getElem?_eq_getElem hlt]
      exact h5 _ (List.getElem_mem hlt)
    · simp at ho
  rename_i k6
  rw [if_neg k6]
  split at ho
  · rename_i k
    rw [if_pos k]
    exact ⟨h2, h2, h3, h4, h5, h6⟩
  rename_i k7
  rw [if_neg k7]
  split at ho
  · rename_i k
    rw [if_pos k]
    simp only [decide_eq_true_eq] at ho
    refine ⟨h1, ?_, h3, h4, h5, by show 0 ≤ F - 1 ∧ F - 1 ≤ 100; omega⟩
    show smC (if F - 1 = 0 then H.headD [] else R)
    split
    · exact hhd
    · exact h2
  rename_i k8
  rw [if_neg k8]
  exact hs'
def rStepStore (v0 : GStore) (v1 : GOp) : GStore × Bool := if goodS v0 = true ∧ (stepI v0 v1).2 = true then ((stepI v0 v1).1, true) else (zeroS, false)
theorem rStepStore_ok (v0 : GStore) (v1 : GOp) (hv0 : GStore.wt v0 ≤ 1048576) (hv1 : GOp.wt v1 ≤ 1048576) : (rStepStore v0 v1).1.lens ∧ GStore.cnT (rStepStore v0 v1).1 ≤ 1152921504606846976 := by
  have key : GStore.wt (rStepStore v0 v1).1 ≤ 1048576 := by
    unfold rStepStore
    split
    · rename_i h; exact invS_wt (step_inv (goodS_inv h.1) h.2)
    · decide
  exact ⟨lens_of_Store key, by have := cn_le_Store (rStepStore v0 v1).1; omega⟩
theorem okD_wt2 {d : GDisk} {m : Nat} (h : okD d m) (hm : m ≤ 1000) : GDisk.wt d ≤ 1048576 := by
  obtain ⟨a, b, c, e⟩ := h
  have h1 : wtR ByteArray.size d.Sectors ≤ d.Sectors.length * (20 + 1) := wtR_leC ByteArray.size 20 d.Sectors b
  have h2 : wtR GWrite.wt d.Waiting ≤ d.Waiting.length * (20 + 1) := wtR_leC GWrite.wt 20 d.Waiting fun w hw => (e w hw).2
  unfold GDisk.wt
  show wtR ByteArray.size d.Sectors + wtR GWrite.wt d.Waiting ≤ 1048576
  omega
theorem good_wt {d : GDisk} (h : goodDisk d = true) : GDisk.wt d ≤ 1048576 := okD_wt2 (good_okD h) (by decide)
theorem saves_wt {l : List ByteArray} (h : savesOK l) : wt_StringS l ≤ 1048576 := by
  have := wtR_leC ByteArray.size 100 l h.2
  have := h.1
  show wtR ByteArray.size l ≤ 1048576
  omega
theorem sec_drop (l : List ByteArray) (i : Nat) (h : i < l.length) : List.drop i (l.map ps) = ps (secAt l i) :: List.drop (i + 1) (l.map ps) := by
  rw [List.drop_eq_getElem_cons (by rw [List.length_map]; exact h), List.getElem_map, secAt_get l i h]
theorem ok_FnJournal (code : List Int) (hc : codeOK code) : CallOK Try.prog 3 [.c (rd 1 code.length (code.map pu))] (.c (pb true)) [.c (rd 1 code.length (code.map pu))] := by
  obtain ⟨l, done, kept, ⟨hl, hl1, hd, hk⟩, hdraw⟩ := ok_DrawPlaySaves code hc
  have hwl := saves_wt hl
  have hwk : wt_BoolS kept ≤ 1048576 := by
    have : wt_BoolS kept = kept.length := by simp [wt_BoolS, wtR]
    omega
  have hi := law_iPlaySaves l done kept hwl hwk
  have hs := law_sPlaySaves l done kept hwl hwk
  have hlt : List.take l.length (l.map ps) = l.map ps := List.take_of_length_le (by rw [List.length_map]; exact Nat.le_refl _)
  have hkt : List.take kept.length (kept.map pb) = kept.map pb := List.take_of_length_le (by rw [List.length_map]; exact Nat.le_refl _)
  refine okS (fn := Try.f3) [] h0 Try.func3 (by kernel_rfl) rfl Try.ntmps3 Try.results3 (by simp) ?_
  simp
  by_cases hbig : code.length ≤ 1048576
  · have d1 : ¬ (1048576 : Int) < (code.length : Int) := by omega
    simp [d1]
    refine Inv_intro hdraw ?_
    simp [hlt, hkt]
    refine Inv_intro hi ?_
    simp [hlt, hkt]
    refine Inv_intro hs ?_
    simp
    cases hr2 : (rPlaySaves l done kept).2 with
    | false =>
      have e : rPlaySaves l done kept = (⟨[], []⟩, false) := by
        unfold rPlaySaves at hr2 ⊢
        split at hr2
        · rename_i h
          rw [if_pos h]
          split at hr2
          · cases hr2
          · rfl
        · rename_i h; rw [if_neg h]
      rw [e]
      simp
      refine Inv_intro (ok_sameDisks 0 0 ⟨[], []⟩ (Nat.zero_le _) (Nat.zero_le _)) ?_
      simp
    | true =>
      have e : rPlaySaves l done kept = ((rPlaySaves l done kept).1, true) := by rw [← hr2]
      generalize (rPlaySaves l done kept).1 = d at e
      obtain ⟨n1, n2, hg, hw, hload⟩ := play_last e
      have hD := good_okD hg
      have hL := law_iLoadFrom d (good_wt hg)
      have hG := ok_iGoodDisk 0 d (by have := hD.1; omega) (by have := hD.2.2.1; omega)
      have eL : rLoadFrom d = loadR d.Sectors := by unfold rLoadFrom; rw [if_pos hg]
      rw [hg] at hG
      rw [eL] at hL
      refine Inv_intro (ok_sameDisks 0 0 d (by have := hD.1; omega) (by have := hD.2.2.1; omega)) ?_
      simp
      refine Inv_intro hL ?_
      rw [hload]
      clear hL hload eL e hr2 hi hs hdraw
      obtain ⟨m, hm⟩ : ∃ m, l.length = m + 1 := ⟨l.length - 1, by omega⟩
      have hdr := sec_drop l m (by omega)
      have em : l.length - 1 = m := by omega
      have w1 : IntKind.i64.wrap ((l.length : Int) - 1) = (m : Int) := by rw [wrap64 (by omega) (by omega)]; omega
      have hml : m < l.length := by omega
      have hml2 : (m : Int) < (l.length : Int) := by omega
      have hlast : m = 0 ∨ ∃ j, m = j + 1 := by cases m with
        | zero => exact .inl rfl
        | succ j => exact .inr ⟨j, rfl⟩
      have em2 : (l.length : Int) - 1 = (m : Int) := by omega
      have hsec := secAt_get l m hml
      rw [em]
      by_cases cA : done = 7 ∨ (done = 6 ∧ kp kept 0 = true)
      · rw [if_pos cA]
        simp
        refine Inv_intro hG ?_
        simp [hw, w1]
        rcases cA with rfl | ⟨rfl, hkp⟩
        · simp [hml, hml2, hdr, hsec]
        · cases kept with
          | nil => simp [kp] at hkp
          | cons k0 ks =>
            have hk0 : k0 = true := by simpa [kp] using hkp
            subst hk0
            simp [hml, hml2, hdr, hsec]
      · rw [if_neg cA, em2]
        have c7 : ¬ done = 7 := fun h => cA (.inl h)
        rcases hlast with rfl | ⟨j, rfl⟩
        · have e0 : lastT l 0 = ⟨#[]⟩ := rfl
          rw [e0]
          simp
          refine Inv_intro hG ?_
          simp [hw, w1, c7]
          by_cases c6 : done = 6
          · cases kept with
            | nil => simp [c6]
            | cons k0 ks =>
              have hk0 : k0 = false := by
                cases k0 with
                | false => rfl
                | true => exact absurd (.inr ⟨c6, rfl⟩) cA
              subst hk0
              simp [c6]
          · simp [c6]
        · have hj : j < l.length := by omega
          have hj2 : (j : Int) < (l.length : Int) := by omega
          have hdr2 := sec_drop l j hj
          have hsec2 := secAt_get l j hj
          have e0 : lastT l (j + 1) = secAt l j := rfl
          have w4 : IntKind.i64.wrap (((j + 1 : Nat) : Int) - 1) = (j : Int) := by rw [wrap64 (by omega) (by omega)]; omega
          have j1 : (0 : Int) < ((j + 1 : Nat) : Int) := by omega
          rw [e0]
          rw [hsec2] at hdr2 ⊢
          generalize ((j + 1 : Nat) : Int) = J at *
          simp
          refine Inv_intro hG ?_
          simp [hw, w1, c7]
          by_cases c6 : done = 6
          · cases kept with
            | nil => simp [c6, hj, hj2, hdr2, w4, j1]
            | cons k0 ks =>
              have hk0 : k0 = false := by
                cases k0 with
                | false => rfl
                | true => exact absurd (.inr ⟨c6, rfl⟩) cA
              subst hk0
              simp [c6, hj, hj2, hdr2, w4, j1]
          · simp [c6, hj, hj2, hdr2, w4, j1]
  · have d1 : (1048576 : Int) < (code.length : Int) := by omega
    simp [d1]
theorem writes_drop (l : List GWrite) (i : Nat) (h : i < l.length) : List.drop (i * 2) (l.flatMap GWrite.c) = pi l[i].At :: ps l[i].Data :: List.drop ((i + 1) * 2) (l.flatMap GWrite.c) := by
  have := fm_drop GWrite.c 2 (fun _ => rfl) l i h
  simpa using this
theorem ok_FnDisk (code more : List Int) (hc : codeOK code) (hm' : codeOK more) : CallOK Try.prog 4 [.c (rd 1 code.length (code.map pu)), .c (rd 1 more.length (more.map pu))] (.c (pb true)) [.c (rd 1 code.length (code.map pu)), .c (rd 1 more.length (more.map pu))] := by
  obtain ⟨d, t, n, ⟨hd, ht, hn0, hn1⟩, hdraw⟩ := ok_DrawSaveTo code hc
  obtain ⟨c, kept, ⟨hcd, hkept⟩, hdraw2⟩ := ok_DrawCrashDisk more hm'
  obtain ⟨e, at_, data, ⟨hed, hat, hdata⟩, hdraw3⟩ := ok_DrawWriteTo more hm'
  obtain ⟨s, hs, hdraw4⟩ := ok_DrawSealOf more hm'
  obtain ⟨v, hv, hdraw5⟩ := ok_DrawUnseal more hm'
  have hdw := diskD_wt hd
  have hcw := diskD_wt hcd
  have hew := diskD_wt hed
  have i1 := law_iSaveTo d t n hdw (by omega)
  have i2 := law_sSaveTo d t n hdw (by omega)
  have i3 := law_iPlanOf d t hdw (by omega)
  have i4 := law_sPlanOf d t hdw (by omega)
  have hkt : List.take kept.length (kept.map pb) = kept.map pb := List.take_of_length_le (by rw [List.length_map]; exact Nat.le_refl _)
  have hwk : wt_BoolS kept ≤ 1048576 := by unfold wt_BoolS; omega
  refine okE (fn := Try.f4) h0 Try.func4 (by kernel_rfl) rfl Try.ntmps4 Try.results4 (by simp) ?_
  by_cases hbig : (code.length : Int) + more.length ≤ 1048576
  · have hcl := hc.1
    have hml := hm'.1
    have w1 : IntKind.i64.wrap ((code.length : Int) + more.length) = (code.length : Int) + more.length := wrap64 (by omega) (by omega)
    have d1 : ¬ (1048576 : Int) < (code.length : Int) + more.length := by omega
    refine ewrN_cut (M := []) h0 10 [1] [] ⟨slOf 365 [(1, .t (rd 1 more.length (more.map pu)))], ofL []⟩ ?_ ?_
    · clear hdraw i1 i2 i3 i4
      have c1 := law_iCrashDisk c kept hcw hwk
      have c2 := law_sCrashDisk c kept hcw hwk
      have c3 := law_iWriteTo e at_ data hew (by omega)
      have c4 := law_sWriteTo e at_ data hew (by omega)
      have c5 := ok_iGoodDisk 0 c (by have := hcd.1; omega) (by have := hcd.2.2.1; omega)
      have c6 := ok_sGoodDisk 0 c (by have := hcd.1; omega) (by have := hcd.2.2.1; omega)
      have c7 := ok_sameDisks 0 0 (rCrashDisk c kept).1 (rCrashDisk_ok c kept hcw hwk).1.1.1 (rCrashDisk_ok c kept hcw hwk).1.2.1
      have c8 := ok_sameDisks 0 0 (rWriteTo e at_ data).1 (rWriteTo_ok e at_ data hew (by omega)).1.1.1 (rWriteTo_ok e at_ data hew (by omega)).1.2.1
      refine ewrN_cut (M := []) h0 7 [1, 37, 38, 39, 40, 41] [.op 30 6 0, .op 31 7 0] ⟨slOf 365 [(1, .t (rd 1 more.length (more.map pu))), (37, .ptr ⟨.op 30 6 0, []⟩ 0), (38, .t (pi at_)), (39, .t (ps data)), (40, .ptr ⟨.op 31 7 0, []⟩ 0), (41, .t (pb (rWriteTo e at_ data).2))], ofL [(.op 30 6 0, .sl 0 29 1 e.co), (.op 31 7 0, .sl 0 29 1 (rWriteTo e at_ data).1.co)]⟩ ?_ ?_
      · clear c1 c2 c3 c4 c5 c6 c7 c8 hdraw2 hdraw3
        refine ewrN_cut (M := []) h0 1 [1] [] ⟨slOf 365 [(1, .t (rd 1 more.length (more.map pu)))], ofL []⟩ ?_ ?_
        · have s1 := ok_iSealOf s (by omega)
          have s2 := ok_sSealOf s (by omega)
          have s3 := ok_iUnseal (sealS s) (by rw [sealS_size]; omega)
          have s4 := ok_iUnseal v (by omega)
          have s5 := ok_sUnseal v (by omega)
          have s6 := law_iLoadFrom disk0 (good_wt good_disk0)
          have s7 := ok_sameDisks 0 0 disk0 (by decide) (by decide)
          rw [unseal_seal] at s3
          rw [load_disk0] at s6
          refine ewr_sound (M := []) h0 ?_
          simp [Code.rest]
          refine Inv_intro hdraw4 ?_
          simp
          refine Inv_intro s1 ?_
          simp
          refine Inv_intro s3 ?_
          simp
          refine Inv_intro hdraw5 ?_
          simp
          refine Inv_intro s4 ?_
          simp
          refine Inv_intro s5 ?_
          simp
          refine Inv_intro ok_iNewDisk ?_
          simp
          refine Inv_intro s6 ?_
          simp
          generalize hz : disk0 = z at *
          have s8 : CallOK Try.prog 33 [] (.agg z.co) [] := by rw [← hz]; exact ok_sNewDisk
          refine drawP (tabEnv [] _) [⟨[], allD 365, true⟩, ⟨[], allD 365, true⟩, ⟨[], allD 365, false⟩, ⟨[], allD 365, true⟩, ⟨[], allD 365, true⟩, ⟨[], allD 365, true⟩, ⟨[], allD 365, true⟩, ⟨[], allD 365, true⟩, ⟨[], allD 365, true⟩, ⟨[], allD 365, true⟩, ⟨[], allD 365, true⟩, ⟨[], allD 365, true⟩, ⟨[], allD 365, true⟩, ⟨[], allD 365, true⟩, ⟨[], allD 365, true⟩, ⟨[], allD 365, true⟩, ⟨[], allD 365, true⟩, ⟨[], allD 365, true⟩, ⟨[], allD 365, true⟩, ⟨[], allD 365, true⟩, ⟨[], allD 365, true⟩, ⟨[], allD 365, true⟩, ⟨[], allD 365, true⟩, ⟨[.op 45 1 0], allD 365, true⟩, ⟨[], allD 365, false⟩, ⟨[.op 45 1 0, .op 47 24 0, .op 47 24 1], allD 365, true⟩, ⟨[], allD 365, true⟩, ⟨[], allD 365, true⟩, ⟨[], allD 365, true⟩, ⟨[], allD 365, true⟩, ⟨[], allD 365, true⟩, ⟨[], allD 365, true⟩, ⟨[], allD 365, true⟩, ⟨[], allD 365, true⟩, ⟨[], allD 365, true⟩, ⟨[], allD 365, true⟩, ⟨[], allD 365, true⟩, ⟨[], allD 365, true⟩, ⟨[], allD 365, true⟩] h0 hm (tabEnv_ok (tab_cons s2 (tab_cons s8 (tab_cons s7 tab_nil)))) (by kernel_rfl) (by kernel_rfl) ?_
          simp
        · intro K hK
          cases hx : (rWriteTo e at_ data).2 with
          | false =>
            simp [Code.rest]
            refine hK _ ?_
            simp
          | true =>
            obtain ⟨q1, q2, q3, q4, q5, q6⟩ := sync_at hx
            have hgB := (write_good hx).1
            have s1 := law_iSyncDisk (rWriteTo e at_ data).1 (good_wt hgB)
            rw [q1] at s1
            generalize hH : synced (rWriteTo e at_ data).1 = H at *
            generalize (rWriteTo e at_ data).1 = B at *
            obtain ⟨HS, HW⟩ := H
            obtain ⟨BS, BW⟩ := B
            simp only at q2 q3 q4 q5
            subst q3
            subst q5
            have q7 : at_ < (HS.length : Int) := by omega
            have q9 := ok_sameTexts 0 0 e.Sectors (by have := hed.1; omega)
            have q10 : at_.toNat < HS.length := by omega
            have q11 : HS[at_.toNat]'q10 = data := by rw [← secAt_get HS _ q10]; exact q4
            simp [Code.rest]
            refine Inv_intro s1 ?_
            simp [q6.1, q7, q10, q11]
            refine Inv_intro q9 ?_
            simp
            refine hK _ ?_
            simp
      · intro K hK
        simp [Code.rest]
        refine Inv_intro hdraw2 ?_
        simp [hkt]
        refine Inv_intro c1 ?_
        simp [hkt]
        refine Inv_intro c2 ?_
        simp
        refine Inv_intro hdraw3 ?_
        simp
        refine Inv_intro c3 ?_
        simp
        refine Inv_intro c4 ?_
        simp
        generalize hA : (rCrashDisk c kept).1 = A at *
        generalize hB : (rWriteTo e at_ data).1 = B at *
        refine drawP (fnEnv 9 (f2 [PV.agg [.sl 1 0 A.Sectors.length (A.Sectors.map ps), .sl 1 0 A.Waiting.length (A.Waiting.flatMap GWrite.c)], PV.agg [.sl 1 0 A.Sectors.length (A.Sectors.map ps), .sl 1 0 A.Waiting.length (A.Waiting.flatMap GWrite.c)]] [PV.agg [.sl 1 0 B.Sectors.length (B.Sectors.map ps), .sl 1 0 B.Waiting.length (B.Waiting.flatMap GWrite.c)], PV.agg [.sl 1 0 B.Sectors.length (B.Sectors.map ps), .sl 1 0 B.Waiting.length (B.Waiting.flatMap GWrite.c)]] (.c (pb true)) (.c (pb true))) (tabEnv [] _)) [⟨[], allD 365, true⟩, ⟨[], allD 365, true⟩, ⟨[], allD 365, true⟩, ⟨[], allD 365, true⟩, ⟨[.op 28 6 0], allD 365, true⟩, ⟨[.op 29 6 0], allD 365, true⟩, ⟨[.op 28 6 0, .op 29 6 0], allD 365, true⟩, ⟨[], allD 365, true⟩, ⟨[], allD 365, true⟩, ⟨[], allD 365, true⟩, ⟨[], allD 365, true⟩, ⟨[], allD 365, true⟩, ⟨[], allD 365, true⟩, ⟨[], allD 365, true⟩, ⟨[], allD 365, true⟩, ⟨[.op 31 7 0], allD 365, true⟩, ⟨[.op 32 7 0], allD 365, true⟩, ⟨[.op 31 7 0, .op 32 7 0], allD 365, true⟩, ⟨[], allD 365, true⟩, ⟨[], allD 365, true⟩, ⟨[], allD 365, true⟩, ⟨[.op 27 5 0], allD 365, true⟩, ⟨[.op 27 5 0], allD 365, true⟩, ⟨[.op 27 5 0], allD 365, true⟩, ⟨[.op 27 5 0], allD 365, true⟩, ⟨[], allD 365, true⟩, ⟨[], allD 365, true⟩] h0 hm (fnEnv_ok (tabEnv_ok (tab_cons c5 (tab_cons c6 tab_nil))) (f2_ok c7 c8)) (by kernel_rfl) (by kernel_rfl) ?_
        simp [f2_at1, f2_at2]
        refine hK _ ?_
        simp
    · intro K hK
      simp [w1, d1]
      refine Inv_intro hdraw ?_
      simp
      refine Inv_intro i1 ?_
      simp
      refine Inv_intro i2 ?_
      simp
      refine Inv_intro i3 ?_
      simp
      refine Inv_intro i4 ?_
      simp
      refine Inv_intro (ok_sameDisks 0 0 (rSaveTo d t n).1 (rSaveTo_ok d t n hdw (by omega)).1.1.1 (rSaveTo_ok d t n hdw (by omega)).1.2.1) ?_
      have hPl := (rPlanOf_ok d t hdw (by omega)).1.1
      generalize (rPlanOf d t).1 = P at *
      simp
      refine loopS [1, 5, 6, 7, 8, 9, 12, 14, 119, 120] [.op 3 6 0, .op 4 7 0, .op 6 2 0, .op 7 2 0] (fun m st => ∃ (i : Nat), i + m = P.length ∧ st = ⟨slOf 365 [(1, .t (rd 1 more.length (more.map pu))), (5, .ptr ⟨.op 3 6 0, []⟩ 0), (6, .t (ps t)), (7, .t (pi n)), (8, .ptr ⟨.op 4 7 0, []⟩ 0), (9, .t (pb (rSaveTo d t n).2)), (12, .ref ⟨.op 6 2 0, []⟩ 0 P.length), (14, .ref ⟨.op 7 2 0, []⟩ 0 P.length), (119, .t (pi P.length)), (120, .t (pi i))], ofL [(.op 3 6 0, .sl 0 29 1 d.co), (.op 4 7 0, .sl 0 29 1 (rSaveTo d t n).1.co), (.op 6 2 0, .sl 0 43 P.length (P.flatMap GWrite.c)), (.op 7 2 0, .sl 0 43 P.length (P.flatMap GWrite.c))]⟩) P.length ?_ ?_
      · rintro Inv hI
        simp
        subst hI
        exact ⟨0, by omega, rfl⟩
      · rintro Inv hI m st ⟨i, hi, rfl⟩
        refine ewr_sound (M := []) h0 ?_
        simp
        refine brn_app (fun a => ?_) (fun a => ?_)
        · simp at a
          have hd2 := writes_drop P i a
          have hlen := fm_len GWrite.c 2 (fun _ => rfl) P
          have hlt : i * 2 < P.length * 2 := by omega
          have hle : i * 2 + 2 ≤ P.length * 2 := by omega
          simp
          refine drawP (tabEnv [] []) [⟨[.op 6 2 0], allD 365, true⟩, ⟨[], allD 365, true⟩, ⟨[.op 6 2 0], allD 365, true⟩, ⟨[.op 6 2 0], allD 365, true⟩, ⟨[.op 7 2 0], allD 365, true⟩, ⟨[], allD 365, true⟩, ⟨[.op 7 2 0], allD 365, true⟩, ⟨[.op 7 2 0], allD 365, true⟩, ⟨[], allD 365, true⟩] h0 hm (tabEnv_ok tab_nil) (by kernel_rfl) (by kernel_rfl) ?_
          simp [a, hd2, hlen, hlt, hle]
          subst hI
          exact Less_mk (m - 1) (by omega) ⟨i + 1, by omega, by rw [wrNext i (by omega)]; rfl⟩
        · simp at a
          cases hx : (rSaveTo d t n).2 with
          | false =>
            simp
            refine hK _ ?_
            simp
          | true =>
            obtain ⟨ss, rfl, hg, hl10, hn, hp, hall⟩ := save_true hx
            obtain ⟨N, rfl⟩ : ∃ N : Nat, n = (N : Int) := ⟨n.toNat, by omega⟩
            obtain ⟨z1, z2⟩ := hall 7 (Nat.le_refl _)
            obtain ⟨x1, x2⟩ := hall N (by omega)
            have j1 := law_iSaveTo ⟨ss, []⟩ t 7 hdw (by omega)
            have z1' : rSaveTo ⟨ss, []⟩ t 7 = (saveN (planL ss t).1 ⟨ss, []⟩ 7, true) := z1
            have zl := saved_load hl10 hp (Nat.le_refl 7) z2
            have xl := saved_load hl10 hp (show N ≤ 7 by omega) x2
            have dl : rLoadFrom ⟨ss, []⟩ = loadR ss := by unfold rLoadFrom; rw [if_pos hg]
            obtain ⟨o, k, ho, _, hk1, _, hk2, _, hk3, _⟩ := plan_spec hp
            rw [if_pos rfl] at zl
            have j2 := law_iLoadFrom (saveN (planL ss t).1 ⟨ss, []⟩ 7) (good_wt z2)
            have j3 := law_iLoadFrom ⟨ss, []⟩ hdw
            have j4 := law_iLoadFrom (saveN (planL ss t).1 ⟨ss, []⟩ N) (good_wt x2)
            rw [z1'] at j1
            rw [zl, hk1] at j2
            rw [dl, hk1, hk3] at j3
            rw [xl] at j4
            have zw : (saveN (planL ss t).1 ⟨ss, []⟩ 7).Waiting = [] := save_w7 _ _
            have w2 : IntKind.i64.wrap ((k : Int) + 1) = (k : Int) + 1 := wrap64 (by omega) (by omega)
            simp
            refine Inv_intro j1 ?_
            simp
            refine Inv_intro j2 ?_
            simp
            refine Inv_intro j3 ?_
            simp
            refine Inv_intro j2 ?_
            simp [w2, zw]
            refine brn_app (fun b => ?_) (fun b => ?_)
            · rw [if_neg (by simp at b; omega)] at j4
              simp at j4
              rw [x1]
              simp
              refine Inv_intro j4 ?_
              simp [hk3]
              refine hK _ ?_
              simp
            · simp
              refine hK _ ?_
              simp
  · have w1 : IntKind.i64.wrap ((code.length : Int) + more.length) = (code.length : Int) + more.length := by
      have := hc.1
      have := hm'.1
      exact wrap64 (by omega) (by omega)
    have d1 : (1048576 : Int) < (code.length : Int) + more.length := by omega
    refine ewr_sound (M := []) h0 ?_
    simp [w1, d1]
end Go.V
