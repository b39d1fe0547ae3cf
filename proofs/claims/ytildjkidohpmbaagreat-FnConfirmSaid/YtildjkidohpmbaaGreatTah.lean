/- What functions of the seat's program do, each proved of its code, under the bounds that its theorem names. -/
import Derived.Test.YtildjkidohpmbaaGreatTag
set_option linter.all false
namespace Go.V
open Go.Proofs
set_option maxHeartbeats 1000000
set_option maxRecDepth 10000
set_option linter.unusedSimpArgs false
set_option linter.unusedVariables false
abbrev cLeafSSo (xs : List (List GLeaf)) : PT := .sl 0 23 xs.length (xs.map (cLeafSo))
abbrev cLeafSSi (k : Nat) (xs : List (List GLeaf)) : PT := rd k xs.length (xs.map (cLeafSi k))
theorem un_LeafSS (xs : List (List GLeaf)) : PT.unownL (xs.map (cLeafSo)) = (xs.map (cLeafSi 0)) := by
  rw [unownL_map]
  congr 1
  funext r
  simp [cLeafSo, cLeafSi, rd]
theorem uni_LeafSS (k : Nat) (xs : List (List GLeaf)) : PT.unownL (xs.map (cLeafSi k)) = (xs.map (cLeafSi 0)) := by
  rw [unownL_map]
  congr 1
  funext r
  simp [cLeafSo, cLeafSi, rd]
theorem nt_LeafSS (xs : List (List GLeaf)) : PT.noTmpL (xs.map (cLeafSo)) = true := noTmpL_map _ xs fun r => by simp [cLeafSo]
theorem nti_LeafSS (k : Nat) (xs : List (List GLeaf)) : PT.noTmpL (xs.map (cLeafSi (k + 1))) = true := noTmpL_map _ xs fun r => by simp [cLeafSi, rd]
attribute [simp] un_LeafSS uni_LeafSS nt_LeafSS nti_LeafSS
def wt_LeafSS (xs : List (List GLeaf)) : Nat := wtR wt_LeafS xs
theorem len_wt_LeafSS (xs : List (List GLeaf)) : xs.length ≤ wt_LeafSS xs := by unfold wt_LeafSS wtR; omega
theorem mem_wt_LeafSS {xs : List (List GLeaf)} {x : (List GLeaf)} (h : x ∈ xs) : wt_LeafS x ≤ wt_LeafSS xs := by
  have := wt_mem wt_LeafS h
  unfold wt_LeafSS wtR
  omega
def fits_LeafSS (xs : List (List GLeaf)) : Prop := xs.length ≤ 140737488351232 ∧ ∀ x ∈ xs, fits_LeafS x
def lens_LeafSS (xs : List (List GLeaf)) : Prop := xs.length ≤ 140737488351232 ∧ ∀ x ∈ xs, lens_LeafS x
def mk_LeafSS (xs : List (List GLeaf)) (k : Int) : List (List GLeaf) × Int := mkR mk_LeafS xs k
def cn_LeafSS (xs : List (List GLeaf)) : Nat := cnR cn_LeafS xs
theorem mk_LeafSS_len (xs : List (List GLeaf)) (k : Int) : (mk_LeafSS xs k).1.length = xs.length := mkR_len _ xs k
attribute [simp] mk_LeafSS_len
theorem mk_LeafSS_snd (xs : List (List GLeaf)) (k : Int) : (mk_LeafSS xs k).2 = k + cn_LeafSS xs := mkR_snd (mk_LeafS_snd) xs k
theorem lens_of_LeafSS {xs : List (List GLeaf)} (h : wt_LeafSS xs ≤ 1048576) : lens_LeafSS xs := by
  have hl := len_wt_LeafSS xs
  exact ⟨by omega, fun x hx => lens_of_LeafS (by have := mem_wt_LeafSS hx; omega)⟩
theorem cn_le_LeafSS (xs : List (List GLeaf)) : cn_LeafSS xs ≤ 32 * wt_LeafSS xs := cnR_le (fun x => by have := cn_le_LeafS x; omega) xs
structure GStore where
  Candidate : (List GLeaf)
  Running : (List GLeaf)
  History : (List (List GLeaf))
  Left : Int
  deriving DecidableEq
def GStore.co (x : GStore) : List PT := [.sl 0 58 x.Candidate.length (x.Candidate.flatMap GLeaf.co), .sl 0 58 x.Running.length (x.Running.flatMap GLeaf.co), .sl 0 23 x.History.length (x.History.map (cLeafSo)), pi x.Left]
def GStore.ci (k : Nat) (x : GStore) : List PT := [rd k x.Candidate.length (x.Candidate.flatMap (GLeaf.ci k)), rd k x.Running.length (x.Running.flatMap (GLeaf.ci k)), rd k x.History.length (x.History.map (cLeafSi k)), pi x.Left]
attribute [simp] GStore.co GStore.ci
theorem GStore.len_o (x : GStore) : x.co.length = 4 := rfl
theorem GStore.len_i (k : Nat) (x : GStore) : (x.ci k).length = 4 := rfl
theorem GStore.un1 (x : GStore) : PT.unownL x.co = x.ci 0 := by simp [rd]
theorem GStore.uni1 (k : Nat) (x : GStore) : PT.unownL (x.ci k) = x.ci 0 := by simp [rd]
theorem GStore.un (xs : List GStore) : PT.unownL (xs.flatMap GStore.co) = xs.flatMap (GStore.ci 0) := by
  rw [unownL_fm]
  congr 1
  funext x
  exact GStore.un1 x
theorem GStore.uni (k : Nat) (xs : List GStore) : PT.unownL (xs.flatMap (GStore.ci k)) = xs.flatMap (GStore.ci 0) := by
  rw [unownL_fm]
  congr 1
  funext x
  exact GStore.uni1 k x
theorem GStore.nt (xs : List GStore) : PT.noTmpL (xs.flatMap GStore.co) = true := noTmpL_fm _ xs fun x => by simp
theorem GStore.nti (k : Nat) (xs : List GStore) : PT.noTmpL (xs.flatMap (GStore.ci (k + 1))) = true := noTmpL_fm _ xs fun x => by simp [rd]
attribute [simp] GStore.un GStore.uni GStore.nt GStore.nti
theorem GStore.lenR (xs : List GStore) : (xs.flatMap GStore.co).length = xs.length * 4 := fm_len _ 4 (fun _ => rfl) xs
theorem GStore.lenRi (k : Nat) (xs : List GStore) : (xs.flatMap (GStore.ci k)).length = xs.length * 4 := fm_len _ 4 (fun _ => rfl) xs
theorem GStore.tkR (xs : List GStore) : (xs.flatMap GStore.co).take (xs.length * 4) = xs.flatMap GStore.co := List.take_of_length_le (by rw [GStore.lenR]; exact Nat.le_refl _)
theorem GStore.tkRi (k : Nat) (xs : List GStore) : (xs.flatMap (GStore.ci k)).take (xs.length * 4) = xs.flatMap (GStore.ci k) := List.take_of_length_le (by rw [GStore.lenRi]; exact Nat.le_refl _)
attribute [simp high] GStore.lenR GStore.tkR GStore.lenRi GStore.tkRi
def GStore.wt (x : GStore) : Nat := wt_LeafS x.Candidate + wt_LeafS x.Running + wt_LeafSS x.History
def GStore.fits (x : GStore) : Prop := fits_LeafS x.Candidate ∧ fits_LeafS x.Running ∧ fits_LeafSS x.History
def GStore.lens (x : GStore) : Prop := lens_LeafS x.Candidate ∧ lens_LeafS x.Running ∧ lens_LeafSS x.History
def GStore.mark (x : GStore) (k : Int) : GStore × Int := (⟨(mk_LeafS x.Candidate k).1, (mk_LeafS x.Running (mk_LeafS x.Candidate k).2).1, (mk_LeafSS x.History (mk_LeafS x.Running (mk_LeafS x.Candidate k).2).2).1, (mk_LeafSS x.History (mk_LeafS x.Running (mk_LeafS x.Candidate k).2).2).2⟩, ((mk_LeafSS x.History (mk_LeafS x.Running (mk_LeafS x.Candidate k).2).2).2 + 1))
def GStore.cn (x : GStore) : Nat := cn_LeafS x.Candidate + cn_LeafS x.Running + cn_LeafSS x.History + 1
theorem GStore.mark_snd (x : GStore) (k : Int) : (GStore.mark x k).2 = k + GStore.cn x := by
  simp only [GStore.mark, GStore.cn, mk_LeafSS_snd, mk_LeafS_snd] <;> omega
def GStore.markT (x : GStore) (k : Int) : GStore × Int := (⟨(mk_LeafS x.Candidate k).1, (mk_LeafS x.Running (mk_LeafS x.Candidate k).2).1, (mk_LeafSS x.History (mk_LeafS x.Running (mk_LeafS x.Candidate k).2).2).1, x.Left⟩, (mk_LeafSS x.History (mk_LeafS x.Running (mk_LeafS x.Candidate k).2).2).2)
def GStore.cnT (x : GStore) : Nat := cn_LeafS x.Candidate + cn_LeafS x.Running + cn_LeafSS x.History
theorem GStore.markT_snd (x : GStore) (k : Int) : (GStore.markT x k).2 = k + GStore.cnT x := by
  simp only [GStore.markT, GStore.cnT, mk_LeafSS_snd, mk_LeafS_snd] <;> omega
theorem lens_of_Store {x : GStore} (h : GStore.wt x ≤ 1048576) : GStore.lens x := by
  unfold GStore.wt at h
  exact ⟨lens_of_LeafS (by omega), lens_of_LeafS (by omega), lens_of_LeafSS (by omega)⟩
theorem cn_le_Store (x : GStore) : GStore.cnT x ≤ 32 * GStore.wt x := by
  unfold GStore.cnT GStore.wt
  have := cn_le_LeafS x.Candidate
  have := cn_le_LeafS x.Running
  have := cn_le_LeafSS x.History
  omega
theorem cnE_le_Store (x : GStore) : GStore.cn x ≤ 32 * GStore.wt x + 16 := by
  unfold GStore.cn GStore.wt
  have := cn_le_LeafS x.Candidate
  have := cn_le_LeafS x.Running
  have := cn_le_LeafSS x.History
  omega
def storeOK (s : GStore) : Prop := confOK s.Candidate ∧ confOK s.Running ∧ s.History.length ≤ 140737488351232 ∧ ∀ l ∈ s.History, confOK l
def goodS (s : GStore) : Bool := goodC s.Candidate && goodC s.Running && decide ((1 : Int) ≤ s.History.length ∧ (s.History.length : Int) ≤ 10) && s.History.all goodC && decide (0 ≤ s.Left ∧ s.Left ≤ 100) && (decide (s.Left = 0) == decide (s.Running = s.History.headD []))
theorem ok_GoodStore1 (k : Nat) (l : List GLeaf) (hl : confOK l) : CallOK Tryz.prog 29 [.c (rd k l.length (l.flatMap (GLeaf.ci k)))] (.c (pb (!goodC l))) [.c (rd k l.length (l.flatMap (GLeaf.ci k)))] := by
  refine okS (fn := Tryz.f29) [] h0 Tryz.func29 (by kernel_rfl) rfl Tryz.ntmps29 Tryz.results29 (by simp) ?_
  simp
  refine Inv_intro (ok_iGoodConfig k l hl) ?_
  simp
theorem head_cells (k : Nat) (h : List (List GLeaf)) (l : List GLeaf) (t : List (List GLeaf)) (e : h = l :: t) : h.map (cLeafSi k) = cLeafSi k l :: t.map (cLeafSi k) := by rw [e]; rfl
theorem ok_iGoodStore (k : Nat) (s : GStore) (hs : storeOK s) : CallOK Tryz.prog 8 [.agg (GStore.ci k s)] (.c (pb (goodS s))) [.agg (GStore.ci k s)] := by
  obtain ⟨h1, h2, h3, h4⟩ := hs
  refine okS (fn := Tryz.f8) [] h0 Tryz.func8 (by kernel_rfl) rfl Tryz.ntmps8 Tryz.results8 (by simp) ?_
  simp
  refine Inv_intro (ok_iGoodConfig k s.Candidate h1) ?_
  simp
  cases c1 : goodC s.Candidate with
  | false => simp [goodS, c1]
  | true =>
    simp
    refine Inv_intro (ok_iGoodConfig k s.Running h2) ?_
    simp
    cases c2 : goodC s.Running with
    | false => simp [goodS, c2]
    | true =>
      simp
      refine Inv_intro (ok_within _ _ _) ?_
      simp
      by_cases c3 : (1 : Int) ≤ s.History.length ∧ (s.History.length : Int) ≤ 10
      · simp [c3.1, c3.2]
        refine Inv_intro (ok_ContainsFunc_LeafS k 0 29 [] (fun l => !goodC l) s.History h3 fun l hl => ok_GoodStore1 k l (h4 l hl)) ?_
        rw [any_not]
        simp
        cases c4 : s.History.all goodC with
        | false => simp [goodS, c4]
        | true =>
          obtain ⟨l, t, e⟩ : ∃ l t, s.History = l :: t := by
            cases hh : s.History with
            | nil => rw [hh] at c3; simp at c3
            | cons l t => exact ⟨l, t, rfl⟩
          have hl : confOK l := h4 l (by rw [e]; simp)
          have hc := head_cells k s.History l t e
          have hlen : 0 < s.History.length := by rw [e]; simp
          simp
          refine drawP (tabEnv [] _) [⟨[.op 0 0 0], allD 41, true⟩, ⟨[.op 0 0 0], allD 41, true⟩, ⟨[], allD 41, false⟩, ⟨[], allD 41, true⟩, ⟨[.op 0 0 0], allD 41, true⟩, ⟨[.op 0 0 0], allD 41, true⟩, ⟨[], allD 41, true⟩, ⟨[.op 0 0 0], allD 41, true⟩, ⟨[.op 0 0 0], allD 41, true⟩, ⟨[.op 0 0 0], allD 41, true⟩, ⟨[.op 0 0 0], allD 41, true⟩, ⟨[], allD 41, true⟩, ⟨[], allD 41, true⟩, ⟨[], allD 41, false⟩, ⟨[], allD 41, true⟩, ⟨[], allD 41, true⟩, ⟨[], allD 41, true⟩] h0 hm (tabEnv_ok (tab_cons (ok_within s.Left 0 100) (tab_cons (ok_sameConfig k k s.Running l h2 hl) tab_nil))) (by kernel_rfl) (by kernel_rfl) ?_
          by_cases c5 : 0 ≤ s.Left ∧ s.Left ≤ 100
          · have eg : goodS s = (decide (s.Left = 0) == decide (s.Running = l)) := by
              unfold goodS
              rw [c1, c2, c4, decide_eq_true c3, decide_eq_true c5, e]
              simp
            simp [c5.1, c5.2, hc, hlen, eg]
          · have eg : goodS s = false := by
              unfold goodS
              rw [decide_eq_false c5]
              simp
            have c5' : (decide (0 ≤ s.Left) && decide (s.Left ≤ 100)) = false := by simpa using c5
            simp [c5', eg]
      · have eg : goodS s = false := by
          unfold goodS
          rw [decide_eq_false c3]
          simp
        have c3' : (decide ((1 : Int) ≤ s.History.length) && decide ((s.History.length : Int) ≤ 10)) = false := by simpa using c3
        have c3b : (!decide ((1 : Int) ≤ s.History.length) || !decide ((s.History.length : Int) ≤ 10)) = true := by rw [← Bool.not_and, c3']; rfl
        simp [c3', c3b, eg]
structure GOp where
  Kind : Int
  Path : (List ByteArray)
  Value : ByteArray
  N : Int
  deriving DecidableEq
def GOp.co (x : GOp) : List PT := [pi x.Kind, .sl 0 9 x.Path.length (x.Path.map ps), ps x.Value, pi x.N]
def GOp.ci (k : Nat) (x : GOp) : List PT := [pi x.Kind, rd k x.Path.length (x.Path.map ps), ps x.Value, pi x.N]
attribute [simp] GOp.co GOp.ci
theorem GOp.len_o (x : GOp) : x.co.length = 4 := rfl
theorem GOp.len_i (k : Nat) (x : GOp) : (x.ci k).length = 4 := rfl
theorem GOp.un1 (x : GOp) : PT.unownL x.co = x.ci 0 := by simp [rd]
theorem GOp.uni1 (k : Nat) (x : GOp) : PT.unownL (x.ci k) = x.ci 0 := by simp [rd]
theorem GOp.un (xs : List GOp) : PT.unownL (xs.flatMap GOp.co) = xs.flatMap (GOp.ci 0) := by
  rw [unownL_fm]
  congr 1
  funext x
  exact GOp.un1 x
theorem GOp.uni (k : Nat) (xs : List GOp) : PT.unownL (xs.flatMap (GOp.ci k)) = xs.flatMap (GOp.ci 0) := by
  rw [unownL_fm]
  congr 1
  funext x
  exact GOp.uni1 k x
theorem GOp.nt (xs : List GOp) : PT.noTmpL (xs.flatMap GOp.co) = true := noTmpL_fm _ xs fun x => by simp
theorem GOp.nti (k : Nat) (xs : List GOp) : PT.noTmpL (xs.flatMap (GOp.ci (k + 1))) = true := noTmpL_fm _ xs fun x => by simp [rd]
attribute [simp] GOp.un GOp.uni GOp.nt GOp.nti
theorem GOp.lenR (xs : List GOp) : (xs.flatMap GOp.co).length = xs.length * 4 := fm_len _ 4 (fun _ => rfl) xs
theorem GOp.lenRi (k : Nat) (xs : List GOp) : (xs.flatMap (GOp.ci k)).length = xs.length * 4 := fm_len _ 4 (fun _ => rfl) xs
theorem GOp.tkR (xs : List GOp) : (xs.flatMap GOp.co).take (xs.length * 4) = xs.flatMap GOp.co := List.take_of_length_le (by rw [GOp.lenR]; exact Nat.le_refl _)
theorem GOp.tkRi (k : Nat) (xs : List GOp) : (xs.flatMap (GOp.ci k)).take (xs.length * 4) = xs.flatMap (GOp.ci k) := List.take_of_length_le (by rw [GOp.lenRi]; exact Nat.le_refl _)
attribute [simp high] GOp.lenR GOp.tkR GOp.lenRi GOp.tkRi
def GOp.wt (x : GOp) : Nat := wt_StringS x.Path + x.Value.size
def GOp.fits (x : GOp) : Prop := fits_StringS x.Path ∧ x.Value.size ≤ 140737488351232
def GOp.lens (x : GOp) : Prop := lens_StringS x.Path
def GOp.mark (x : GOp) (k : Int) : GOp × Int := (⟨k, (mk_StringS x.Path (k + 1)).1, mtext (mk_StringS x.Path (k + 1)).2, ((mk_StringS x.Path (k + 1)).2 + 1)⟩, (((mk_StringS x.Path (k + 1)).2 + 1) + 1))
def GOp.cn (x : GOp) : Nat := 1 + cn_StringS x.Path + 1 + 1
theorem GOp.mark_snd (x : GOp) (k : Int) : (GOp.mark x k).2 = k + GOp.cn x := by
  simp only [GOp.mark, GOp.cn, mk_StringS_snd] <;> omega
def GOp.markT (x : GOp) (k : Int) : GOp × Int := (⟨x.Kind, (mk_StringS x.Path k).1, x.Value, x.N⟩, (mk_StringS x.Path k).2)
def GOp.cnT (x : GOp) : Nat := cn_StringS x.Path
theorem GOp.markT_snd (x : GOp) (k : Int) : (GOp.markT x k).2 = k + GOp.cnT x := by
  simp only [GOp.markT, GOp.cnT, mk_StringS_snd] <;> omega
theorem lens_of_Op {x : GOp} (h : GOp.wt x ≤ 1048576) : GOp.lens x := by
  unfold GOp.wt at h
  exact lens_of_StringS (by omega)
theorem cn_le_Op (x : GOp) : GOp.cnT x ≤ 32 * GOp.wt x := by
  unfold GOp.cnT GOp.wt
  have := cn_le_StringS x.Path
  omega
theorem cnE_le_Op (x : GOp) : GOp.cn x ≤ 32 * GOp.wt x + 16 := by
  unfold GOp.cn GOp.wt
  have := cn_le_StringS x.Path
  omega
def isOpB (o : GOp) : Bool := decide (1 ≤ o.Kind ∧ o.Kind ≤ 8) && (decide (o.Kind = 1 ∨ o.Kind = 2) || decide (o.Path.length = 0)) && (decide (o.Kind = 1) || decide (o.Value = ⟨#[]⟩)) && (decide (o.Kind = 4 ∨ o.Kind = 6) || decide (o.N = 0))
theorem ok_isOp (k : Nat) (o : GOp) : CallOK Tryz.prog 53 [.agg (GOp.ci k o)] (.c (pb (isOpB o))) [.agg (GOp.ci k o)] := by
  refine okS (fn := Tryz.f53) [] h0 Tryz.func53 (by kernel_rfl) rfl Tryz.ntmps53 Tryz.results53 (by simp) ?_
  simp
  by_cases k1 : o.Kind = 1
  · simp [k1]
    refine Inv_intro (ok_within 1 1 8) ?_
    simp [isOpB, k1]
  · by_cases k2 : o.Kind = 2
    · simp [k1, k2]
      refine Inv_intro (ok_within 2 1 8) ?_
      by_cases hv : o.Value = ⟨#[]⟩
      · simp [isOpB, k2, hv]
      · simp [isOpB, k2, hv]
    · have hw := ok_within o.Kind 1 8
      by_cases k4 : o.Kind = 4
      · simp [k1, k2, k4]
        refine Inv_intro (ok_within 4 1 8) ?_
        by_cases hp : o.Path = []
        · by_cases hv : o.Value = ⟨#[]⟩
          · simp [isOpB, k4, hp, hv]
          · simp [isOpB, k4, hp, hv]
        · simp [isOpB, k4, hp]
      · by_cases k6 : o.Kind = 6
        · simp [k1, k2, k4, k6]
          refine Inv_intro (ok_within 6 1 8) ?_
          by_cases hp : o.Path = []
          · by_cases hv : o.Value = ⟨#[]⟩
            · simp [isOpB, k6, hp, hv]
            · simp [isOpB, k6, hp, hv]
          · simp [isOpB, k6, hp]
        · simp [k1, k2, k4, k6]
          refine Inv_intro hw ?_
          by_cases hk : 1 ≤ o.Kind ∧ o.Kind ≤ 8
          · by_cases hp : o.Path = []
            · by_cases hv : o.Value = ⟨#[]⟩
              · simp [isOpB, k1, k2, k4, k6, hp, hv, hk]
              · simp [isOpB, k1, k2, k4, k6, hp, hv, hk]
            · simp [isOpB, k1, k2, k4, k6, hp, hk]
          · simp [isOpB, k1, k2, k4, k6, hk]
def opOK (o : GOp) : Prop := strsOK o.Path ∧ o.Path.length ≤ 1048576 ∧ o.Value.size ≤ 140737488355328
def textB (o : GOp) : Bool := decide (o.Path.length = 0) && decide (o.Value = ⟨#[]⟩)
def l16OpB (o : GOp) : Bool :=
  if o.Kind = 1 then decide (o.N = 0) && isP o.Path && isW o.Value
  else if o.Kind = 2 then decide (o.N = 0) && isP o.Path && decide (o.Value = ⟨#[]⟩)
  else if o.Kind = 4 then textB o && decide (1 ≤ o.N ∧ o.N ≤ 100)
  else if o.Kind = 6 then textB o && decide (0 ≤ o.N ∧ o.N ≤ 9)
  else if o.Kind = 3 ∨ o.Kind = 5 ∨ o.Kind = 7 ∨ o.Kind = 8 then textB o && decide (o.N = 0)
  else false
theorem ok_l16Op (k : Nat) (o : GOp) (ho : opOK o) : CallOK Tryz.prog 56 [.agg (GOp.ci k o)] (.c (pb (l16OpB o))) [.agg (GOp.ci k o)] := by
  obtain ⟨o1, o2, o3⟩ := ho
  refine okS (fn := Tryz.f56) [] h0 Tryz.func56 (by kernel_rfl) rfl Tryz.ntmps56 Tryz.results56 (by simp) ?_
  by_cases hp : o.Path = []
  · by_cases hv : o.Value = ⟨#[]⟩
    · by_cases hn : o.N = 0
      · have ht : textB o = true := by simp [textB, hp, hv]
        by_cases k1 : o.Kind = 1
        · have e : l16OpB o = (decide (o.N = 0) && isP o.Path && isW o.Value) := by simp [l16OpB, k1]
          rw [e]
          simp [k1, hp, hv, hn]
          refine Inv_intro (ok_l15Path k [] (by simp) (by simp)) ?_
          simp [isP]
        · by_cases k2 : o.Kind = 2
          · have e : l16OpB o = (decide (o.N = 0) && isP o.Path && decide (o.Value = ⟨#[]⟩)) := by simp [l16OpB, k1, k2]
            rw [e]
            simp [k1, k2, hp, hv, hn]
            refine Inv_intro (ok_l15Path k [] (by simp) (by simp)) ?_
            simp [isP]
          · by_cases k4 : o.Kind = 4
            · have e : l16OpB o = (textB o && decide (1 ≤ o.N ∧ o.N ≤ 100)) := by simp [l16OpB, k1, k2, k4]
              rw [e]
              simp [k1, k2, k4, hp, hv, hn, ht]
              refine Inv_intro (ok_l1In 0 1 100) ?_
              simp
            · by_cases k6 : o.Kind = 6
              · have e : l16OpB o = (textB o && decide (0 ≤ o.N ∧ o.N ≤ 9)) := by simp [l16OpB, k1, k2, k4, k6]
                rw [e]
                simp [k1, k2, k4, k6, hp, hv, hn, ht]
                refine Inv_intro (ok_l1In 0 0 9) ?_
                simp
              · by_cases k3 : o.Kind = 3
                · have e : l16OpB o = (textB o && decide (o.N = 0)) := by simp [l16OpB, k1, k2, k4, k6, k3]
                  rw [e]
                  simp [k1, k2, k4, k6, k3, hp, hv, hn, ht]
                · by_cases k5 : o.Kind = 5
                  · have e : l16OpB o = (textB o && decide (o.N = 0)) := by simp [l16OpB, k1, k2, k4, k6, k3, k5]
                    rw [e]
                    simp [k1, k2, k4, k6, k3, k5, hp, hv, hn, ht]
                  · by_cases k7 : o.Kind = 7
                    · have e : l16OpB o = (textB o && decide (o.N = 0)) := by simp [l16OpB, k1, k2, k4, k6, k3, k5, k7]
                      rw [e]
                      simp [k1, k2, k4, k6, k3, k5, k7, hp, hv, hn, ht]
                    · by_cases k8 : o.Kind = 8
                      · have e : l16OpB o = (textB o && decide (o.N = 0)) := by simp [l16OpB, k1, k2, k4, k6, k3, k5, k7, k8]
                        rw [e]
                        simp [k1, k2, k4, k6, k3, k5, k7, k8, hp, hv, hn, ht]
                      · have e : l16OpB o = false := by simp [l16OpB, k1, k2, k4, k6, k3, k5, k7, k8]
                        rw [e]
                        simp [k1, k2, k4, k6, k3, k5, k7, k8, hp, hv, hn]
      · have ht : textB o = true := by simp [textB, hp, hv]
        by_cases k1 : o.Kind = 1
        · have e : l16OpB o = (decide (o.N = 0) && isP o.Path && isW o.Value) := by simp [l16OpB, k1]
          rw [e]
          simp [k1, hp, hv, hn]
        · by_cases k2 : o.Kind = 2
          · have e : l16OpB o = (decide (o.N = 0) && isP o.Path && decide (o.Value = ⟨#[]⟩)) := by simp [l16OpB, k1, k2]
            rw [e]
            simp [k1, k2, hp, hv, hn]
          · by_cases k4 : o.Kind = 4
            · have e : l16OpB o = (textB o && decide (1 ≤ o.N ∧ o.N ≤ 100)) := by simp [l16OpB, k1, k2, k4]
              rw [e]
              simp [k1, k2, k4, hp, hv, hn, ht]
              refine Inv_intro (ok_l1In o.N 1 100) ?_
              simp
            · by_cases k6 : o.Kind = 6
              · have e : l16OpB o = (textB o && decide (0 ≤ o.N ∧ o.N ≤ 9)) := by simp [l16OpB, k1, k2, k4, k6]
                rw [e]
                simp [k1, k2, k4, k6, hp, hv, hn, ht]
                refine Inv_intro (ok_l1In o.N 0 9) ?_
                simp
              · by_cases k3 : o.Kind = 3
                · have e : l16OpB o = (textB o && decide (o.N = 0)) := by simp [l16OpB, k1, k2, k4, k6, k3]
                  rw [e]
                  simp [k1, k2, k4, k6, k3, hp, hv, hn, ht]
                · by_cases k5 : o.Kind = 5
                  · have e : l16OpB o = (textB o && decide (o.N = 0)) := by simp [l16OpB, k1, k2, k4, k6, k3, k5]
                    rw [e]
                    simp [k1, k2, k4, k6, k3, k5, hp, hv, hn, ht]
                  · by_cases k7 : o.Kind = 7
                    · have e : l16OpB o = (textB o && decide (o.N = 0)) := by simp [l16OpB, k1, k2, k4, k6, k3, k5, k7]
                      rw [e]
                      simp [k1, k2, k4, k6, k3, k5, k7, hp, hv, hn, ht]
                    · by_cases k8 : o.Kind = 8
                      · have e : l16OpB o = (textB o && decide (o.N = 0)) := by simp [l16OpB, k1, k2, k4, k6, k3, k5, k7, k8]
                        rw [e]
                        simp [k1, k2, k4, k6, k3, k5, k7, k8, hp, hv, hn, ht]
                      · have e : l16OpB o = false := by simp [l16OpB, k1, k2, k4, k6, k3, k5, k7, k8]
                        rw [e]
                        simp [k1, k2, k4, k6, k3, k5, k7, k8, hp, hv, hn]
    · by_cases hn : o.N = 0
      · have ht : textB o = false := by simp [textB, hv]
        by_cases k1 : o.Kind = 1
        · have e : l16OpB o = (decide (o.N = 0) && isP o.Path && isW o.Value) := by simp [l16OpB, k1]
          rw [e]
          simp [k1, hp, hv, hn]
          refine Inv_intro (ok_l15Path k [] (by simp) (by simp)) ?_
          simp [isP]
        · by_cases k2 : o.Kind = 2
          · have e : l16OpB o = (decide (o.N = 0) && isP o.Path && decide (o.Value = ⟨#[]⟩)) := by simp [l16OpB, k1, k2]
            rw [e]
            simp [k1, k2, hp, hv, hn]
            refine Inv_intro (ok_l15Path k [] (by simp) (by simp)) ?_
            simp [isP]
          · by_cases k4 : o.Kind = 4
            · have e : l16OpB o = (textB o && decide (1 ≤ o.N ∧ o.N ≤ 100)) := by simp [l16OpB, k1, k2, k4]
              rw [e]
              simp [k1, k2, k4, hp, hv, hn, ht]
            · by_cases k6 : o.Kind = 6
              · have e : l16OpB o = (textB o && decide (0 ≤ o.N ∧ o.N ≤ 9)) := by simp [l16OpB, k1, k2, k4, k6]
                rw [e]
                simp [k1, k2, k4, k6, hp, hv, hn, ht]
              · by_cases k3 : o.Kind = 3
                · have e : l16OpB o = (textB o && decide (o.N = 0)) := by simp [l16OpB, k1, k2, k4, k6, k3]
                  rw [e]
                  simp [k1, k2, k4, k6, k3, hp, hv, hn, ht]
                · by_cases k5 : o.Kind = 5
                  · have e : l16OpB o = (textB o && decide (o.N = 0)) := by simp [l16OpB, k1, k2, k4, k6, k3, k5]
                    rw [e]
                    simp [k1, k2, k4, k6, k3, k5, hp, hv, hn, ht]
                  · by_cases k7 : o.Kind = 7
                    · have e : l16OpB o = (textB o && decide (o.N = 0)) := by simp [l16OpB, k1, k2, k4, k6, k3, k5, k7]
                      rw [e]
                      simp [k1, k2, k4, k6, k3, k5, k7, hp, hv, hn, ht]
                    · by_cases k8 : o.Kind = 8
                      · have e : l16OpB o = (textB o && decide (o.N = 0)) := by simp [l16OpB, k1, k2, k4, k6, k3, k5, k7, k8]
                        rw [e]
                        simp [k1, k2, k4, k6, k3, k5, k7, k8, hp, hv, hn, ht]
                      · have e : l16OpB o = false := by simp [l16OpB, k1, k2, k4, k6, k3, k5, k7, k8]
                        rw [e]
                        simp [k1, k2, k4, k6, k3, k5, k7, k8, hp, hv, hn]
      · have ht : textB o = false := by simp [textB, hv]
        by_cases k1 : o.Kind = 1
        · have e : l16OpB o = (decide (o.N = 0) && isP o.Path && isW o.Value) := by simp [l16OpB, k1]
          rw [e]
          simp [k1, hp, hv, hn]
        · by_cases k2 : o.Kind = 2
          · have e : l16OpB o = (decide (o.N = 0) && isP o.Path && decide (o.Value = ⟨#[]⟩)) := by simp [l16OpB, k1, k2]
            rw [e]
            simp [k1, k2, hp, hv, hn]
          · by_cases k4 : o.Kind = 4
            · have e : l16OpB o = (textB o && decide (1 ≤ o.N ∧ o.N ≤ 100)) := by simp [l16OpB, k1, k2, k4]
              rw [e]
              simp [k1, k2, k4, hp, hv, hn, ht]
            · by_cases k6 : o.Kind = 6
              · have e : l16OpB o = (textB o && decide (0 ≤ o.N ∧ o.N ≤ 9)) := by simp [l16OpB, k1, k2, k4, k6]
                rw [e]
                simp [k1, k2, k4, k6, hp, hv, hn, ht]
              · by_cases k3 : o.Kind = 3
                · have e : l16OpB o = (textB o && decide (o.N = 0)) := by simp [l16OpB, k1, k2, k4, k6, k3]
                  rw [e]
                  simp [k1, k2, k4, k6, k3, hp, hv, hn, ht]
                · by_cases k5 : o.Kind = 5
                  · have e : l16OpB o = (textB o && decide (o.N = 0)) := by simp [l16OpB, k1, k2, k4, k6, k3, k5]
                    rw [e]
                    simp [k1, k2, k4, k6, k3, k5, hp, hv, hn, ht]
                  · by_cases k7 : o.Kind = 7
                    · have e : l16OpB o = (textB o && decide (o.N = 0)) := by simp [l16OpB, k1, k2, k4, k6, k3, k5, k7]
                      rw [e]
                      simp [k1, k2, k4, k6, k3, k5, k7, hp, hv, hn, ht]
                    · by_cases k8 : o.Kind = 8
                      · have e : l16OpB o = (textB o && decide (o.N = 0)) := by simp [l16OpB, k1, k2, k4, k6, k3, k5, k7, k8]
                        rw [e]
                        simp [k1, k2, k4, k6, k3, k5, k7, k8, hp, hv, hn, ht]
                      · have e : l16OpB o = false := by simp [l16OpB, k1, k2, k4, k6, k3, k5, k7, k8]
                        rw [e]
                        simp [k1, k2, k4, k6, k3, k5, k7, k8, hp, hv, hn]
  · have ht : textB o = false := by simp [textB, hp]
    by_cases hn : o.N = 0
    · by_cases hv : o.Value = ⟨#[]⟩
      · have _h := hn
        by_cases k1 : o.Kind = 1
        · have e : l16OpB o = (decide (o.N = 0) && isP o.Path && isW o.Value) := by simp [l16OpB, k1]
          rw [e]
          simp [k1, hp, hv, hn]
          refine Inv_intro (ok_l15Path k o.Path o1.1 o1.2) ?_
          cases c2 : isP o.Path with
          | false => simp
          | true =>
            simp
            refine Inv_intro (ok_l15Word ⟨#[]⟩ (by first | exact o3 | (rw [← hv]; exact o3))) ?_
            simp
        · by_cases k2 : o.Kind = 2
          · have e : l16OpB o = (decide (o.N = 0) && isP o.Path && decide (o.Value = ⟨#[]⟩)) := by simp [l16OpB, k1, k2]
            rw [e]
            simp [k1, k2, hp, hv, hn]
            refine Inv_intro (ok_l15Path k o.Path o1.1 o1.2) ?_
            cases c2 : isP o.Path with
            | false => simp
            | true => simp [hv]
          · by_cases k4 : o.Kind = 4
            · have e : l16OpB o = (textB o && decide (1 ≤ o.N ∧ o.N ≤ 100)) := by simp [l16OpB, k1, k2, k4]
              rw [e]
              simp [k1, k2, k4, hp, hv, hn, ht]
            · by_cases k6 : o.Kind = 6
              · have e : l16OpB o = (textB o && decide (0 ≤ o.N ∧ o.N ≤ 9)) := by simp [l16OpB, k1, k2, k4, k6]
                rw [e]
                simp [k1, k2, k4, k6, hp, hv, hn, ht]
              · by_cases k3 : o.Kind = 3
                · have e : l16OpB o = (textB o && decide (o.N = 0)) := by simp [l16OpB, k1, k2, k4, k6, k3]
                  rw [e]
                  simp [k1, k2, k4, k6, k3, hp, hv, hn, ht]
                · by_cases k5 : o.Kind = 5
                  · have e : l16OpB o = (textB o && decide (o.N = 0)) := by simp [l16OpB, k1, k2, k4, k6, k3, k5]
                    rw [e]
                    simp [k1, k2, k4, k6, k3, k5, hp, hv, hn, ht]
                  · by_cases k7 : o.Kind = 7
                    · have e : l16OpB o = (textB o && decide (o.N = 0)) := by simp [l16OpB, k1, k2, k4, k6, k3, k5, k7]
                      rw [e]
                      simp [k1, k2, k4, k6, k3, k5, k7, hp, hv, hn, ht]
                    · by_cases k8 : o.Kind = 8
                      · have e : l16OpB o = (textB o && decide (o.N = 0)) := by simp [l16OpB, k1, k2, k4, k6, k3, k5, k7, k8]
                        rw [e]
                        simp [k1, k2, k4, k6, k3, k5, k7, k8, hp, hv, hn, ht]
                      · have e : l16OpB o = false := by simp [l16OpB, k1, k2, k4, k6, k3, k5, k7, k8]
                        rw [e]
                        simp [k1, k2, k4, k6, k3, k5, k7, k8, hp, hv, hn]
      · have _h := hn
        by_cases k1 : o.Kind = 1
        · have e : l16OpB o = (decide (o.N = 0) && isP o.Path && isW o.Value) := by simp [l16OpB, k1]
          rw [e]
          simp [k1, hp, hv, hn]
          refine Inv_intro (ok_l15Path k o.Path o1.1 o1.2) ?_
          cases c2 : isP o.Path with
          | false => simp
          | true =>
            simp
            refine Inv_intro (ok_l15Word o.Value (by first | exact o3 | (rw [← hv]; exact o3))) ?_
            simp
        · by_cases k2 : o.Kind = 2
          · have e : l16OpB o = (decide (o.N = 0) && isP o.Path && decide (o.Value = ⟨#[]⟩)) := by simp [l16OpB, k1, k2]
            rw [e]
            simp [k1, k2, hp, hv, hn]
            refine Inv_intro (ok_l15Path k o.Path o1.1 o1.2) ?_
            cases c2 : isP o.Path with
            | false => simp
            | true => simp [hv]
          · by_cases k4 : o.Kind = 4
            · have e : l16OpB o = (textB o && decide (1 ≤ o.N ∧ o.N ≤ 100)) := by simp [l16OpB, k1, k2, k4]
              rw [e]
              simp [k1, k2, k4, hp, hv, hn, ht]
            · by_cases k6 : o.Kind = 6
              · have e : l16OpB o = (textB o && decide (0 ≤ o.N ∧ o.N ≤ 9)) := by simp [l16OpB, k1, k2, k4, k6]
                rw [e]
                simp [k1, k2, k4, k6, hp, hv, hn, ht]
              · by_cases k3 : o.Kind = 3
                · have e : l16OpB o = (textB o && decide (o.N = 0)) := by simp [l16OpB, k1, k2, k4, k6, k3]
                  rw [e]
                  simp [k1, k2, k4, k6, k3, hp, hv, hn, ht]
                · by_cases k5 : o.Kind = 5
                  · have e : l16OpB o = (textB o && decide (o.N = 0)) := by simp [l16OpB, k1, k2, k4, k6, k3, k5]
                    rw [e]
                    simp [k1, k2, k4, k6, k3, k5, hp, hv, hn, ht]
                  · by_cases k7 : o.Kind = 7
                    · have e : l16OpB o = (textB o && decide (o.N = 0)) := by simp [l16OpB, k1, k2, k4, k6, k3, k5, k7]
                      rw [e]
                      simp [k1, k2, k4, k6, k3, k5, k7, hp, hv, hn, ht]
                    · by_cases k8 : o.Kind = 8
                      · have e : l16OpB o = (textB o && decide (o.N = 0)) := by simp [l16OpB, k1, k2, k4, k6, k3, k5, k7, k8]
                        rw [e]
                        simp [k1, k2, k4, k6, k3, k5, k7, k8, hp, hv, hn, ht]
                      · have e : l16OpB o = false := by simp [l16OpB, k1, k2, k4, k6, k3, k5, k7, k8]
                        rw [e]
                        simp [k1, k2, k4, k6, k3, k5, k7, k8, hp, hv, hn]
    · by_cases hv : o.Value = ⟨#[]⟩
      · have _h := hn
        by_cases k1 : o.Kind = 1
        · have e : l16OpB o = (decide (o.N = 0) && isP o.Path && isW o.Value) := by simp [l16OpB, k1]
          rw [e]
          simp [k1, hp, hv, hn]
        · by_cases k2 : o.Kind = 2
          · have e : l16OpB o = (decide (o.N = 0) && isP o.Path && decide (o.Value = ⟨#[]⟩)) := by simp [l16OpB, k1, k2]
            rw [e]
            simp [k1, k2, hp, hv, hn]
          · by_cases k4 : o.Kind = 4
            · have e : l16OpB o = (textB o && decide (1 ≤ o.N ∧ o.N ≤ 100)) := by simp [l16OpB, k1, k2, k4]
              rw [e]
              simp [k1, k2, k4, hp, hv, hn, ht]
            · by_cases k6 : o.Kind = 6
              · have e : l16OpB o = (textB o && decide (0 ≤ o.N ∧ o.N ≤ 9)) := by simp [l16OpB, k1, k2, k4, k6]
                rw [e]
                simp [k1, k2, k4, k6, hp, hv, hn, ht]
              · by_cases k3 : o.Kind = 3
                · have e : l16OpB o = (textB o && decide (o.N = 0)) := by simp [l16OpB, k1, k2, k4, k6, k3]
                  rw [e]
                  simp [k1, k2, k4, k6, k3, hp, hv, hn, ht]
                · by_cases k5 : o.Kind = 5
                  · have e : l16OpB o = (textB o && decide (o.N = 0)) := by simp [l16OpB, k1, k2, k4, k6, k3, k5]
                    rw [e]
                    simp [k1, k2, k4, k6, k3, k5, hp, hv, hn, ht]
                  · by_cases k7 : o.Kind = 7
                    · have e : l16OpB o = (textB o && decide (o.N = 0)) := by simp [l16OpB, k1, k2, k4, k6, k3, k5, k7]
                      rw [e]
                      simp [k1, k2, k4, k6, k3, k5, k7, hp, hv, hn, ht]
                    · by_cases k8 : o.Kind = 8
                      · have e : l16OpB o = (textB o && decide (o.N = 0)) := by simp [l16OpB, k1, k2, k4, k6, k3, k5, k7, k8]
                        rw [e]
                        simp [k1, k2, k4, k6, k3, k5, k7, k8, hp, hv, hn, ht]
                      · have e : l16OpB o = false := by simp [l16OpB, k1, k2, k4, k6, k3, k5, k7, k8]
                        rw [e]
                        simp [k1, k2, k4, k6, k3, k5, k7, k8, hp, hv, hn]
      · have _h := hn
        by_cases k1 : o.Kind = 1
        · have e : l16OpB o = (decide (o.N = 0) && isP o.Path && isW o.Value) := by simp [l16OpB, k1]
          rw [e]
          simp [k1, hp, hv, hn]
        · by_cases k2 : o.Kind = 2
          · have e : l16OpB o = (decide (o.N = 0) && isP o.Path && decide (o.Value = ⟨#[]⟩)) := by simp [l16OpB, k1, k2]
            rw [e]
            simp [k1, k2, hp, hv, hn]
          · by_cases k4 : o.Kind = 4
            · have e : l16OpB o = (textB o && decide (1 ≤ o.N ∧ o.N ≤ 100)) := by simp [l16OpB, k1, k2, k4]
              rw [e]
              simp [k1, k2, k4, hp, hv, hn, ht]
            · by_cases k6 : o.Kind = 6
              · have e : l16OpB o = (textB o && decide (0 ≤ o.N ∧ o.N ≤ 9)) := by simp [l16OpB, k1, k2, k4, k6]
                rw [e]
                simp [k1, k2, k4, k6, hp, hv, hn, ht]
              · by_cases k3 : o.Kind = 3
                · have e : l16OpB o = (textB o && decide (o.N = 0)) := by simp [l16OpB, k1, k2, k4, k6, k3]
                  rw [e]
                  simp [k1, k2, k4, k6, k3, hp, hv, hn, ht]
                · by_cases k5 : o.Kind = 5
                  · have e : l16OpB o = (textB o && decide (o.N = 0)) := by simp [l16OpB, k1, k2, k4, k6, k3, k5]
                    rw [e]
                    simp [k1, k2, k4, k6, k3, k5, hp, hv, hn, ht]
                  · by_cases k7 : o.Kind = 7
                    · have e : l16OpB o = (textB o && decide (o.N = 0)) := by simp [l16OpB, k1, k2, k4, k6, k3, k5, k7]
                      rw [e]
                      simp [k1, k2, k4, k6, k3, k5, k7, hp, hv, hn, ht]
                    · by_cases k8 : o.Kind = 8
                      · have e : l16OpB o = (textB o && decide (o.N = 0)) := by simp [l16OpB, k1, k2, k4, k6, k3, k5, k7, k8]
                        rw [e]
                        simp [k1, k2, k4, k6, k3, k5, k7, k8, hp, hv, hn, ht]
                      · have e : l16OpB o = false := by simp [l16OpB, k1, k2, k4, k6, k3, k5, k7, k8]
                        rw [e]
                        simp [k1, k2, k4, k6, k3, k5, k7, k8, hp, hv, hn]
end Go.V
