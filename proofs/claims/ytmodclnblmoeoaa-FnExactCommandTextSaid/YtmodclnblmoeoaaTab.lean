/- What functions of the seat's program do, each proved of its code, under the bounds that its theorem names. -/
import Derived.Test.YtmodclnblmoeoaaTaa
import Derived.Shelf.Strings.OnBuilder
set_option linter.all false
namespace Go.V
open Go.Proofs
set_option maxHeartbeats 1000000
set_option maxRecDepth 10000
set_option linter.unusedSimpArgs false
set_option linter.unusedVariables false
structure GLeaf where
  Path : (List ByteArray)
  Value : ByteArray
  deriving DecidableEq
def GLeaf.co (x : GLeaf) : List PT := [.sl 0 9 x.Path.length (x.Path.map ps), ps x.Value]
def GLeaf.ci (k : Nat) (x : GLeaf) : List PT := [rd k x.Path.length (x.Path.map ps), ps x.Value]
attribute [simp] GLeaf.co GLeaf.ci
theorem GLeaf.len_o (x : GLeaf) : x.co.length = 2 := rfl
theorem GLeaf.len_i (k : Nat) (x : GLeaf) : (x.ci k).length = 2 := rfl
theorem GLeaf.un1 (x : GLeaf) : PT.unownL x.co = x.ci 0 := by simp [rd]
theorem GLeaf.uni1 (k : Nat) (x : GLeaf) : PT.unownL (x.ci k) = x.ci 0 := by simp [rd]
theorem GLeaf.un (xs : List GLeaf) : PT.unownL (xs.flatMap GLeaf.co) = xs.flatMap (GLeaf.ci 0) := by
  rw [unownL_fm]
  congr 1
  funext x
  exact GLeaf.un1 x
theorem GLeaf.uni (k : Nat) (xs : List GLeaf) : PT.unownL (xs.flatMap (GLeaf.ci k)) = xs.flatMap (GLeaf.ci 0) := by
  rw [unownL_fm]
  congr 1
  funext x
  exact GLeaf.uni1 k x
theorem GLeaf.nt (xs : List GLeaf) : PT.noTmpL (xs.flatMap GLeaf.co) = true := noTmpL_fm _ xs fun x => by simp
theorem GLeaf.nti (k : Nat) (xs : List GLeaf) : PT.noTmpL (xs.flatMap (GLeaf.ci (k + 1))) = true := noTmpL_fm _ xs fun x => by simp [rd]
attribute [simp] GLeaf.un GLeaf.uni GLeaf.nt GLeaf.nti
theorem GLeaf.lenR (xs : List GLeaf) : (xs.flatMap GLeaf.co).length = xs.length * 2 := fm_len _ 2 (fun _ => rfl) xs
theorem GLeaf.lenRi (k : Nat) (xs : List GLeaf) : (xs.flatMap (GLeaf.ci k)).length = xs.length * 2 := fm_len _ 2 (fun _ => rfl) xs
theorem GLeaf.tkR (xs : List GLeaf) : (xs.flatMap GLeaf.co).take (xs.length * 2) = xs.flatMap GLeaf.co := List.take_of_length_le (by rw [GLeaf.lenR]; exact Nat.le_refl _)
theorem GLeaf.tkRi (k : Nat) (xs : List GLeaf) : (xs.flatMap (GLeaf.ci k)).take (xs.length * 2) = xs.flatMap (GLeaf.ci k) := List.take_of_length_le (by rw [GLeaf.lenRi]; exact Nat.le_refl _)
attribute [simp high] GLeaf.lenR GLeaf.tkR GLeaf.lenRi GLeaf.tkRi
def GLeaf.wt (x : GLeaf) : Nat := wt_StringS x.Path + x.Value.size
def GLeaf.fits (x : GLeaf) : Prop := fits_StringS x.Path ∧ x.Value.size ≤ 140737488351232
def GLeaf.lens (x : GLeaf) : Prop := lens_StringS x.Path
def GLeaf.mark (x : GLeaf) (k : Int) : GLeaf × Int := (⟨(mk_StringS x.Path k).1, mtext (mk_StringS x.Path k).2⟩, ((mk_StringS x.Path k).2 + 1))
def GLeaf.cn (x : GLeaf) : Nat := cn_StringS x.Path + 1
theorem GLeaf.mark_snd (x : GLeaf) (k : Int) : (GLeaf.mark x k).2 = k + GLeaf.cn x := by
  simp only [GLeaf.mark, GLeaf.cn, mk_StringS_snd] <;> omega
def GLeaf.markT (x : GLeaf) (k : Int) : GLeaf × Int := (⟨(mk_StringS x.Path k).1, x.Value⟩, (mk_StringS x.Path k).2)
def GLeaf.cnT (x : GLeaf) : Nat := cn_StringS x.Path
theorem GLeaf.markT_snd (x : GLeaf) (k : Int) : (GLeaf.markT x k).2 = k + GLeaf.cnT x := by
  simp only [GLeaf.markT, GLeaf.cnT, mk_StringS_snd] <;> omega
theorem lens_of_Leaf {x : GLeaf} (h : GLeaf.wt x ≤ 1048576) : GLeaf.lens x := by
  unfold GLeaf.wt at h
  exact lens_of_StringS (by omega)
theorem cn_le_Leaf (x : GLeaf) : GLeaf.cnT x ≤ 32 * GLeaf.wt x := by
  unfold GLeaf.cnT GLeaf.wt
  have := cn_le_StringS x.Path
  omega
theorem cnE_le_Leaf (x : GLeaf) : GLeaf.cn x ≤ 32 * GLeaf.wt x + 16 := by
  unfold GLeaf.cn GLeaf.wt
  have := cn_le_StringS x.Path
  omega
def okLeaf (x : GLeaf) : Bool := isP x.Path && isW x.Value
def adjC (q : Option GLeaf) (x : GLeaf) : Bool := match q with
  | none => true
  | some q => lessP q.Path x.Path && !begP q.Path x.Path
def goodG : Option GLeaf → List GLeaf → Bool
  | _, [] => true
  | q, x :: xs => okLeaf x && adjC q x && goodG (some x) xs
def goodC (l : List GLeaf) : Bool := goodG none l && decide (l.length ≤ 30)
def prevC (l : List GLeaf) (i : Nat) : Option GLeaf := if i = 0 then none else l[i - 1]?
theorem prevC_next (l : List GLeaf) (i : Nat) (h : i < l.length) : prevC l (i + 1) = some l[i] := by simp [prevC, h]
def strsOK (p : List ByteArray) : Prop := p.length ≤ 140737488351232 ∧ ∀ s ∈ p, s.size ≤ 140737488355328
def leafOK (x : GLeaf) : Prop := strsOK x.Path ∧ x.Value.size ≤ 140737488355328
def confOK (l : List GLeaf) : Prop := l.length ≤ 140737488351232 ∧ ∀ x ∈ l, leafOK x
theorem ok_within (n lo hi : Int) : CallOK Try.prog 118 [.c (pi n), .c (pi lo), .c (pi hi)] (.c (pb (decide (lo ≤ n ∧ n ≤ hi)))) [.c (pi n), .c (pi lo), .c (pi hi)] := by
  refine okS (fn := Try.f118) [] h0 Try.func118 (by kernel_rfl) rfl Try.ntmps118 Try.results118 (by simp) ?_
  simp
  refine gT (fun h => ?_) (fun h => ?_) <;> simp [h]
/-- Where a condition holds first, or -1. -/
def idxOf {α : Type} (p : α → Bool) (xs : List α) : Int := match xs.findIdx? p with | some i => i | none => -1
theorem idxOf_hit {α : Type} (p : α → Bool) (xs : List α) (i : Nat) (h : i < xs.length) (hp : p xs[i] = true) (hall : ∀ (j : Nat) (hj : j < i), p (xs[j]'(by omega)) = false) : idxOf p xs = i := by
  unfold idxOf
  rw [(List.findIdx?_eq_some_iff_getElem (i := i)).2 ⟨h, hp, fun j hj => by simp [hall j hj]⟩]
theorem idxOf_no {α : Type} (p : α → Bool) (xs : List α) (hall : ∀ (j : Nat) (hj : j < xs.length), p xs[j] = false) : idxOf p xs = -1 := by
  unfold idxOf
  rw [List.findIdx?_eq_none_iff.2 (fun s hs => by
    obtain ⟨j, hj, rfl⟩ := List.getElem_of_mem hs
    simp [hall j hj])]
theorem idxOf_any {α : Type} (p : α → Bool) (xs : List α) : decide (0 ≤ idxOf p xs) = xs.any p := by
  unfold idxOf
  cases h : xs.findIdx? p with
  | none =>
    rw [List.findIdx?_eq_none_iff] at h
    simp
    exact fun x hx => by simpa using h x hx
  | some i =>
    rw [List.findIdx?_eq_some_iff_getElem] at h
    obtain ⟨h1, h2, _⟩ := h
    simp
    exact ⟨_, List.getElem_mem h1, h2⟩
theorem ok_IndexFunc_String (k q g : Nat) (caps : List (List PT)) (p : ByteArray → Bool) (xs : List ByteArray) (ha : xs.length ≤ 140737488351232)
    (hg : ∀ x ∈ xs, CallOK Try.prog g (.c (ps x) :: caps.map (PV.ip q)) (.c (pb (p x))) (.c (ps x) :: caps.map (PV.ip q))) :
    CallOK Try.prog 154 [.c (rd k xs.length (xs.map ps)), .c (.fn q g caps)] (.c (pi (idxOf p xs))) [.c (rd k xs.length (xs.map ps)), .c (.fn q g caps)] := by
  refine okS (fn := Try.f154) [] h0 Try.func154 (by kernel_rfl) rfl Try.ntmps154 Try.results154 (by simp) ?_
  simp
  refine loopS [0, 1, 7, 8] [] (fun n st => ∃ (i : Nat), i + n = xs.length ∧ (∀ (j : Nat) (hj : j < i) (hj' : j < xs.length), p xs[j] = false) ∧ st = ⟨slOf 19 [(0, .t (rd k xs.length (xs.map ps))), (1, .t (.fn q g caps)), (7, .t (pi xs.length)), (8, .t (pi i))], ofL []⟩) xs.length ?_ ?_
  · rintro Inv hI
    simp
    subst hI
    exact ⟨0, by omega, by intro j hj; omega, rfl⟩
  · rintro Inv hI n st ⟨i, hi, hall, rfl⟩
    refine ewr_sound (M := []) h0 ?_
    simp
    refine brn_app (fun h => ?_) (fun h => ?_)
    · simp at h
      simp [h]
      refine Inv_intro (hg _ (List.getElem_mem h)) ?_
      simp
      refine brn_app (fun h2 => ?_) (fun h2 => ?_)
      · simp
        exact (idxOf_hit p xs i h h2 fun j hj => hall j hj (by omega)).symm
      · simp
        subst hI
        refine Less_mk (n - 1) (by omega) ⟨i + 1, by omega, ?_, by rw [wrNext i (by omega)]⟩
        intro j hj hj'
        by_cases hji : j = i
        · subst hji; exact h2
        · exact hall j (by omega) hj'
    · simp at h
      simp
      exact (idxOf_no p xs fun j hj => hall j (by omega) hj).symm
theorem ok_ContainsFunc_String (k q g : Nat) (caps : List (List PT)) (p : ByteArray → Bool) (xs : List ByteArray) (ha : xs.length ≤ 140737488351232)
    (hg : ∀ x ∈ xs, CallOK Try.prog g (.c (ps x) :: caps.map (PV.ip q)) (.c (pb (p x))) (.c (ps x) :: caps.map (PV.ip q))) :
    CallOK Try.prog 119 [.c (rd k xs.length (xs.map ps)), .c (.fn q g caps)] (.c (pb (xs.any p))) [.c (rd k xs.length (xs.map ps)), .c (.fn q g caps)] := by
  refine okS (fn := Try.f119) [] h0 Try.func119 (by kernel_rfl) rfl Try.ntmps119 Try.results119 (by simp) ?_
  simp
  refine Inv_intro (ok_IndexFunc_String k q g caps p xs ha hg) ?_
  simp [idxOf_any]
theorem any_not {α : Type} (p : α → Bool) (xs : List α) : xs.any (fun x => !p x) = !xs.all p := by
  induction xs with
  | nil => rfl
  | cons x xs ih => simp [ih]
theorem ok_l1In (n lo hi : Int) : CallOK Try.prog 116 [.c (pi n), .c (pi lo), .c (pi hi)] (.c (pb (decide (lo ≤ n ∧ n ≤ hi)))) [.c (pi n), .c (pi lo), .c (pi hi)] := by
  refine okS (fn := Try.f116) [] h0 Try.func116 (by kernel_rfl) rfl Try.ntmps116 Try.results116 (by simp) ?_
  simp
  refine gT (fun h => ?_) (fun h => ?_) <;> simp [h]
theorem wlen_le (s : ByteArray) : wlen s ≤ s.size := by
  unfold wlen
  have := List.Sublist.length_le (List.takeWhile_sublist (fun b : UInt8 => wb b.toNat) (l := s.data.toList))
  simpa using this
theorem tw_all {α : Type} (p : α → Bool) : ∀ l : List α, ((l.takeWhile p).length = l.length) = (l.all p = true)
  | [] => by simp
  | x :: l => by
    rw [List.takeWhile_cons, List.all_cons]
    cases h : p x with
    | true => simpa using tw_all p l
    | false => simp
theorem word_all (s : ByteArray) : decide (s.extract 0 (wlen s) = s) = wAll s := by
  have h := wlen_le s
  have hA := tw_all (fun b : UInt8 => wb b.toNat) s.data.toList
  have hl : s.data.toList.length = s.size := by simp
  rw [hl] at hA
  have hB : (s.extract 0 (wlen s) = s) = (wlen s = s.size) := by
    apply propext
    constructor
    · intro e
      have := congrArg ByteArray.size e
      simp at this
      omega
    · intro e
      rw [e]
      exact ext_all s
  rw [Bool.eq_iff_iff, decide_eq_true_eq, hB, wAll, ← hA]
  rfl
theorem ok_isWord (s : ByteArray) (hs : s.size ≤ 140737488355328) : CallOK Try.prog 75 [.c (ps s)] (.c (pb (isW s))) [.c (ps s)] := by
  refine okS (fn := Try.f75) [] h0 Try.func75 (by kernel_rfl) rfl Try.ntmps75 Try.results75 (by simp) ?_
  simp
  refine Inv_intro (ok_within _ _ _) ?_
  simp
  refine gT (fun a => ?_) (fun a => ?_)
  · simp [a]
    refine Inv_intro (ok_wordAt s hs) ?_
    simp [isW, word_all, a]
  · simp [a, isW]
theorem ok_areWords1 (s : ByteArray) (hs : s.size ≤ 140737488355328) : CallOK Try.prog 120 [.c (ps s)] (.c (pb (!isW s))) [.c (ps s)] := by
  refine okS (fn := Try.f120) [] h0 Try.func120 (by kernel_rfl) rfl Try.ntmps120 Try.results120 (by simp) ?_
  simp
  refine Inv_intro (ok_isWord s hs) ?_
  simp
theorem ok_areWords (k : Nat) (p : List ByteArray) (hl : p.length ≤ 140737488351232) (hs : ∀ s ∈ p, s.size ≤ 140737488355328) : CallOK Try.prog 74 [.c (rd k p.length (p.map ps))] (.c (pb (isP p))) [.c (rd k p.length (p.map ps))] := by
  refine okS (fn := Try.f74) [] h0 Try.func74 (by kernel_rfl) rfl Try.ntmps74 Try.results74 (by simp) ?_
  simp
  refine Inv_intro (ok_within _ _ _) ?_
  simp
  refine gT (fun a => ?_) (fun a => ?_)
  · simp [a]
    refine Inv_intro (ok_ContainsFunc_String k 0 120 [] (fun s => !isW s) p hl fun x hx => ok_areWords1 x (hs x hx)) ?_
    simp [isP, any_not, a]
  · simp [a, isP]
theorem ok_l15Word (s : ByteArray) (hs : s.size ≤ 140737488355328) : CallOK Try.prog 73 [.c (ps s)] (.c (pb (isW s))) [.c (ps s)] := by
  refine okS (fn := Try.f73) [] h0 Try.func73 (by kernel_rfl) rfl Try.ntmps73 Try.results73 (by simp) ?_
  simp
  refine loopS [0, 3] [] (fun n st => ∃ (i : Nat), i + n = s.size ∧ (s.data.toList.drop i).all (fun b => wb b.toNat) = wAll s ∧ st = ⟨slOf 18 [(0, .t (ps s)), (3, .t (pi i))], ofL []⟩) s.size ?_ ?_
  · rintro Inv hI
    simp
    subst hI
    exact ⟨0, by omega, rfl, rfl⟩
  · rintro Inv hI n st ⟨i, hi, hw, rfl⟩
    refine ewr_sound (M := []) h0 ?_
    simp
    refine brn_app (fun a => ?_) (fun a => ?_)
    · simp at a
      have hl : i < s.data.toList.length := by simpa using a
      rw [List.drop_eq_getElem_cons hl, List.all_cons] at hw
      rw [← byteAt_list s i a] at hw
      simp [a]
      refine Inv_intro (ok_l15Byte _) ?_
      simp
      refine brn_app (fun b => ?_) (fun b => ?_)
      · simp at b
        rw [b, Bool.false_and] at hw
        simp [isW, ← hw]
      · simp at b
        rw [b, Bool.true_and] at hw
        simp
        subst hI
        exact Less_mk (n - 1) (by omega) ⟨i + 1, by omega, hw, by rw [wrNext i (by omega)]⟩
    · simp at a
      rw [List.drop_of_length_le (by simp; omega), List.all_nil] at hw
      simp
      refine Inv_intro (ok_l1In _ _ _) ?_
      simp [isW, ← hw]
theorem ok_l15Path (k : Nat) (p : List ByteArray) (hl : p.length ≤ 140737488351232) (hs : ∀ s ∈ p, s.size ≤ 140737488355328) : CallOK Try.prog 72 [.c (rd k p.length (p.map ps))] (.c (pb (isP p))) [.c (rd k p.length (p.map ps))] := by
  refine okS (fn := Try.f72) [] h0 Try.func72 (by kernel_rfl) rfl Try.ntmps72 Try.results72 (by simp) ?_
  simp
  refine loopS [0, 5, 6, 7] [] (fun n st => ∃ (i : Nat), i + n = p.length ∧ (p.drop i).all isW = p.all isW ∧ st = ⟨slOf 18 [(0, .t (rd k p.length (p.map ps))), (5, .t (rd k p.length (p.map ps))), (6, .t (pi p.length)), (7, .t (pi i))], ofL []⟩) p.length ?_ ?_
  · rintro Inv hI
    simp
    subst hI
    exact ⟨0, by omega, rfl, rfl⟩
  · rintro Inv hI n st ⟨i, hi, hw, rfl⟩
    refine ewr_sound (M := []) h0 ?_
    simp
    refine brn_app (fun a => ?_) (fun a => ?_)
    · simp at a
      rw [drop_step _ i a, List.all_cons] at hw
      simp [a]
      refine Inv_intro (ok_l15Word _ (hs _ (List.getElem_mem a))) ?_
      simp
      refine brn_app (fun b => ?_) (fun b => ?_)
      · simp at b
        rw [b, Bool.false_and] at hw
        simp [isP, ← hw]
      · simp at b
        rw [b, Bool.true_and] at hw
        simp
        subst hI
        exact Less_mk (n - 1) (by omega) ⟨i + 1, by omega, hw, by rw [wrNext i (by omega)]⟩
    · simp at a
      rw [List.drop_of_length_le (by omega), List.all_nil] at hw
      simp
      refine Inv_intro (ok_l1In _ _ _) ?_
      simp [isP, ← hw]
theorem ok_iGoodConfig (k : Nat) (l : List GLeaf) (hl : confOK l) : CallOK Try.prog 81 [.c (rd k l.length (l.flatMap (GLeaf.ci k)))] (.c (pb (goodC l))) [.c (rd k l.length (l.flatMap (GLeaf.ci k)))] := by
  obtain ⟨hll, hlx⟩ := hl
  refine okS (fn := Try.f81) [] h0 Try.func81 (by kernel_rfl) rfl Try.ntmps81 Try.results81 (by simp) ?_
  simp
  refine loopS [0, 5, 6, 7] [] (fun n st => ∃ (i : Nat), i + n = l.length ∧ goodG (prevC l i) (l.drop i) = goodG none l ∧ st = ⟨slOf 53 [(0, .t (rd k l.length (l.flatMap (GLeaf.ci k)))), (5, .t (rd k l.length (l.flatMap (GLeaf.ci k)))), (6, .t (pi l.length)), (7, .t (pi i))], ofL []⟩) l.length ?_ ?_
  · rintro Inv hI
    simp
    subst hI
    exact ⟨0, by omega, rfl, rfl⟩
  · rintro Inv hI n st ⟨i, hi, hg, rfl⟩
    refine ewr_sound (M := []) h0 ?_
    simp
    refine brn_app (fun a => ?_) (fun a => ?_)
    · simp at a
      have hx := hlx l[i] (List.getElem_mem a)
      obtain ⟨⟨hx1, hx2⟩, hx3⟩ := hx
      rw [drop_step _ i a, goodG] at hg
      have hd := fm_drop (GLeaf.ci k) 2 (fun _ => rfl) l i a
      have hlen := fm_len (GLeaf.ci k) 2 (fun _ => rfl) l
      have hlt : i * 2 < l.length * 2 := by omega
      have en : prevC l (i + 1) = some l[i] := prevC_next l i a
      by_cases c0 : i = 0
      · have e0 : ¬ 0 < i := by omega
        have ep : prevC l i = none := by simp [prevC, c0]
        rw [ep, adjC, Bool.and_true] at hg
        simp [a, hd, hlen, hlt]
        refine drawP (tabEnv [] _) [⟨[.op 3 3 0], allD 53, true⟩, ⟨[.op 3 3 0], allD 53, true⟩, ⟨[], allD 53, false⟩, ⟨[], allD 53, true⟩, ⟨[], allD 53, true⟩, ⟨[.op 3 3 0], allD 53, true⟩, ⟨[.op 3 3 0], allD 53, true⟩, ⟨[], allD 53, false⟩, ⟨[], allD 53, true⟩, ⟨[], allD 53, true⟩, ⟨[], allD 53, true⟩, ⟨[], allD 53, true⟩, ⟨[], allD 53, true⟩, ⟨[], allD 53, true⟩, ⟨[], allD 53, true⟩, ⟨[], allD 53, true⟩, ⟨[], allD 53, true⟩, ⟨[], allD 53, true⟩, ⟨[], allD 53, true⟩, ⟨[], allD 53, true⟩, ⟨[.op 3 3 0], allD 53, true⟩, ⟨[.op 3 3 0], allD 53, true⟩, ⟨[], allD 53, false⟩, ⟨[], allD 53, true⟩, ⟨[], allD 53, true⟩, ⟨[], allD 53, true⟩, ⟨[], allD 53, true⟩, ⟨[], allD 53, true⟩, ⟨[], allD 53, true⟩, ⟨[], allD 53, true⟩, ⟨[], allD 53, true⟩, ⟨[.op 3 3 0], allD 53, true⟩, ⟨[.op 3 3 0], allD 53, true⟩, ⟨[], allD 53, false⟩, ⟨[], allD 53, true⟩, ⟨[], allD 53, true⟩, ⟨[], allD 53, true⟩] h0 hm (tabEnv_ok (tab_cons (ok_areWords k l[i].Path hx1 hx2) (tab_cons (ok_isWord l[i].Value hx3) tab_nil))) (by kernel_rfl) (by kernel_rfl) ?_
        cases c1 : isP l[i].Path with
        | false =>
          have hk : okLeaf l[i] = false := by simp [okLeaf, c1]
          rw [hk, Bool.false_and] at hg
          simp [c1, goodC, ← hg]
        | true =>
          cases c2 : isW l[i].Value with
          | false =>
            have hk : okLeaf l[i] = false := by simp [okLeaf, c2]
            rw [hk, Bool.false_and] at hg
            simp [c1, c2, goodC, ← hg]
          | true =>
            have hk : okLeaf l[i] = true := by simp [okLeaf, c1, c2]
            rw [hk, Bool.true_and] at hg
            simp [c1, c2, e0]
            subst hI
            exact Less_mk (n - 1) (by omega) ⟨i + 1, by omega, by rw [en]; exact hg, by rw [wrNext i (by omega)]⟩
      · obtain ⟨j, hj⟩ : ∃ j, i = j + 1 := ⟨i - 1, by omega⟩
        have aj : j < l.length := by omega
        have ep : prevC l i = some l[j] := by subst hj; exact prevC_next l j aj
        obtain ⟨⟨hy1, hy2⟩, hy3⟩ := hlx l[j] (List.getElem_mem aj)
        have hdj := fm_drop (GLeaf.ci k) 2 (fun _ => rfl) l j aj
        have hltj : j * 2 < l.length * 2 := by omega
        have hw : IntKind.wrap .i64 ((i : Int) - 1) = j := (wrap64 (by omega) (by omega)).trans (by omega)
        have e0 : 0 < i := by omega
        rw [ep, adjC] at hg
        have hcl := cmpP_less l[j].Path l[i].Path
        simp [a, hd, hlen, hlt]
        refine drawP (tabEnv [] _) [⟨[.op 3 3 0], allD 53, true⟩, ⟨[.op 3 3 0], allD 53, true⟩, ⟨[], allD 53, false⟩, ⟨[], allD 53, true⟩, ⟨[], allD 53, true⟩, ⟨[.op 3 3 0], allD 53, true⟩, ⟨[.op 3 3 0], allD 53, true⟩, ⟨[], allD 53, false⟩, ⟨[], allD 53, true⟩, ⟨[], allD 53, true⟩, ⟨[], allD 53, true⟩, ⟨[], allD 53, true⟩, ⟨[], allD 53, true⟩, ⟨[], allD 53, true⟩, ⟨[], allD 53, true⟩, ⟨[], allD 53, true⟩, ⟨[], allD 53, true⟩, ⟨[], allD 53, true⟩, ⟨[], allD 53, true⟩, ⟨[], allD 53, true⟩, ⟨[.op 3 3 0], allD 53, true⟩, ⟨[.op 3 3 0], allD 53, true⟩, ⟨[], allD 53, false⟩, ⟨[], allD 53, true⟩, ⟨[], allD 53, true⟩, ⟨[], allD 53, true⟩, ⟨[], allD 53, true⟩, ⟨[], allD 53, true⟩, ⟨[], allD 53, true⟩, ⟨[], allD 53, true⟩, ⟨[], allD 53, true⟩, ⟨[.op 3 3 0], allD 53, true⟩, ⟨[.op 3 3 0], allD 53, true⟩, ⟨[], allD 53, false⟩, ⟨[], allD 53, true⟩, ⟨[], allD 53, true⟩, ⟨[], allD 53, true⟩] h0 hm (tabEnv_ok (tab_cons (ok_areWords k l[i].Path hx1 hx2) (tab_cons (ok_isWord l[i].Value hx3) (tab_cons (ok_cmpP k k l[j].Path l[i].Path hy1 hx1) (tab_cons (ok_begins k k l[j].Path l[i].Path hy1 hx1) tab_nil))))) (by kernel_rfl) (by kernel_rfl) ?_
        cases c1 : isP l[i].Path with
        | false =>
          have hk : okLeaf l[i] = false := by simp [okLeaf, c1]
          rw [hk, Bool.false_and, Bool.false_and] at hg
          simp [c1, goodC, ← hg]
        | true =>
          cases c2 : isW l[i].Value with
          | false =>
            have hk : okLeaf l[i] = false := by simp [okLeaf, c2]
            rw [hk, Bool.false_and, Bool.false_and] at hg
            simp [c1, c2, goodC, ← hg]
          | true =>
            have hk : okLeaf l[i] = true := by simp [okLeaf, c1, c2]
            rw [hk, Bool.true_and] at hg
            cases c3 : lessP l[j].Path l[i].Path with
            | false =>
              rw [c3, Bool.false_and, Bool.false_and] at hg
              have c3' : 0 ≤ cmpP l[j].Path l[i].Path := by simpa [c3] using hcl
              simp [c1, c2, c3', e0, hw, aj, hdj, hlen, hltj, goodC, ← hg]
            | true =>
              have c3' : ¬ 0 ≤ cmpP l[j].Path l[i].Path := by simpa [c3] using hcl
              cases c4 : begP l[j].Path l[i].Path with
              | true =>
                rw [c3, c4] at hg
                have hg' : false = goodG none l := hg
                simp [c1, c2, c3', c4, e0, hw, aj, hdj, hlen, hltj, goodC, ← hg']
              | false =>
                rw [c3, c4] at hg
                have hg' : goodG (some l[i]) (l.drop (i + 1)) = goodG none l := hg
                simp [c1, c2, c3', c4, e0, hw, aj, hdj, hlen, hltj]
                subst hI
                exact Less_mk (n - 1) (by omega) ⟨i + 1, by omega, by rw [en]; exact hg', by rw [wrNext i (by omega)]⟩
    · simp at a
      rw [List.drop_of_length_le (by omega)] at hg
      have hg' : true = goodG none l := by rw [← hg]; cases prevC l i <;> rfl
      simp [goodC, ← hg']
      omega
theorem ok_sGoodConfig (k : Nat) (l : List GLeaf) (hl : confOK l) : CallOK Try.prog 78 [.c (rd k l.length (l.flatMap (GLeaf.ci k)))] (.c (pb (goodC l))) [.c (rd k l.length (l.flatMap (GLeaf.ci k)))] := by
  obtain ⟨hll, hlx⟩ := hl
  refine okS (fn := Try.f78) [] h0 Try.func78 (by kernel_rfl) rfl Try.ntmps78 Try.results78 (by simp) ?_
  simp
  refine loopS [0, 5, 6, 7] [] (fun n st => ∃ (i : Nat), i + n = l.length ∧ goodG (prevC l i) (l.drop i) = goodG none l ∧ st = ⟨slOf 51 [(0, .t (rd k l.length (l.flatMap (GLeaf.ci k)))), (5, .t (rd k l.length (l.flatMap (GLeaf.ci k)))), (6, .t (pi l.length)), (7, .t (pi i))], ofL []⟩) l.length ?_ ?_
  · rintro Inv hI
    simp
    subst hI
    exact ⟨0, by omega, rfl, rfl⟩
  · rintro Inv hI n st ⟨i, hi, hg, rfl⟩
    refine ewr_sound (M := []) h0 ?_
    simp
    refine brn_app (fun a => ?_) (fun a => ?_)
    · simp at a
      have hx := hlx l[i] (List.getElem_mem a)
      obtain ⟨⟨hx1, hx2⟩, hx3⟩ := hx
      rw [drop_step _ i a, goodG] at hg
      have hd := fm_drop (GLeaf.ci k) 2 (fun _ => rfl) l i a
      have hlen := fm_len (GLeaf.ci k) 2 (fun _ => rfl) l
      have hlt : i * 2 < l.length * 2 := by omega
      have en : prevC l (i + 1) = some l[i] := prevC_next l i a
      simp [a, hd, hlen, hlt]
      refine Inv_intro (ok_l15Path k l[i].Path hx1 hx2) ?_
      simp
      cases c1 : isP l[i].Path with
      | false =>
        have hk : okLeaf l[i] = false := by simp [okLeaf, c1]
        rw [hk, Bool.false_and, Bool.false_and] at hg
        simp [goodC, ← hg]
      | true =>
        simp
        refine Inv_intro (ok_l15Word l[i].Value hx3) ?_
        simp
        cases c2 : isW l[i].Value with
        | false =>
          have hk : okLeaf l[i] = false := by simp [okLeaf, c2]
          rw [hk, Bool.false_and, Bool.false_and] at hg
          simp [goodC, ← hg]
        | true =>
          have hk : okLeaf l[i] = true := by simp [okLeaf, c1, c2]
          rw [hk, Bool.true_and] at hg
          simp
          by_cases c0 : i = 0
          · have e0 : ¬ 0 < i := by omega
            have ep : prevC l i = none := by simp [prevC, c0]
            rw [ep, adjC, Bool.true_and] at hg
            refine drawP (tabEnv [] _) [⟨[], allD 51, true⟩, ⟨[], allD 51, true⟩, ⟨[], allD 51, true⟩, ⟨[], allD 51, true⟩, ⟨[], allD 51, true⟩, ⟨[], allD 51, true⟩, ⟨[], allD 51, true⟩, ⟨[], allD 51, true⟩, ⟨[], allD 51, true⟩, ⟨[.op 3 3 0], allD 51, true⟩, ⟨[.op 3 3 0], allD 51, true⟩, ⟨[], allD 51, false⟩, ⟨[], allD 51, true⟩, ⟨[], allD 51, true⟩, ⟨[], allD 51, true⟩, ⟨[], allD 51, true⟩, ⟨[], allD 51, true⟩, ⟨[], allD 51, true⟩, ⟨[], allD 51, true⟩, ⟨[], allD 51, true⟩, ⟨[.op 3 3 0], allD 51, true⟩, ⟨[.op 3 3 0], allD 51, true⟩, ⟨[], allD 51, false⟩, ⟨[], allD 51, true⟩, ⟨[], allD 51, true⟩] h0 hm (tabEnv_ok tab_nil) (by kernel_rfl) (by kernel_rfl) ?_
            simp [e0]
            subst hI
            exact Less_mk (n - 1) (by omega) ⟨i + 1, by omega, by rw [en]; exact hg, by rw [wrNext i (by omega)]⟩
          · obtain ⟨j, hj⟩ : ∃ j, i = j + 1 := ⟨i - 1, by omega⟩
            have aj : j < l.length := by omega
            have ep : prevC l i = some l[j] := by subst hj; exact prevC_next l j aj
            obtain ⟨⟨hy1, hy2⟩, hy3⟩ := hlx l[j] (List.getElem_mem aj)
            have hdj := fm_drop (GLeaf.ci k) 2 (fun _ => rfl) l j aj
            have hltj : j * 2 < l.length * 2 := by omega
            have hw : IntKind.wrap .i64 ((i : Int) - 1) = j := (wrap64 (by omega) (by omega)).trans (by omega)
            have e0 : 0 < i := by omega
            rw [ep, adjC] at hg
            refine drawP (tabEnv [] _) [⟨[], allD 51, true⟩, ⟨[], allD 51, true⟩, ⟨[], allD 51, true⟩, ⟨[], allD 51, true⟩, ⟨[], allD 51, true⟩, ⟨[], allD 51, true⟩, ⟨[], allD 51, true⟩, ⟨[], allD 51, true⟩, ⟨[], allD 51, true⟩, ⟨[.op 3 3 0], allD 51, true⟩, ⟨[.op 3 3 0], allD 51, true⟩, ⟨[], allD 51, false⟩, ⟨[], allD 51, true⟩, ⟨[], allD 51, true⟩, ⟨[], allD 51, true⟩, ⟨[], allD 51, true⟩, ⟨[], allD 51, true⟩, ⟨[], allD 51, true⟩, ⟨[], allD 51, true⟩, ⟨[], allD 51, true⟩, ⟨[.op 3 3 0], allD 51, true⟩, ⟨[.op 3 3 0], allD 51, true⟩, ⟨[], allD 51, false⟩, ⟨[], allD 51, true⟩, ⟨[], allD 51, true⟩] h0 hm (tabEnv_ok (tab_cons (ok_l15Less k k l[j].Path l[i].Path hy1 hx1) (tab_cons (ok_l15Begins k k l[j].Path l[i].Path hy1 hx1) tab_nil))) (by kernel_rfl) (by kernel_rfl) ?_
            cases c3 : lessP l[j].Path l[i].Path with
            | false =>
              rw [c3, Bool.false_and, Bool.false_and] at hg
              simp [c3, e0, hw, aj, hdj, hlen, hltj, goodC, ← hg]
            | true =>
              cases c4 : begP l[j].Path l[i].Path with
              | true =>
                rw [c3, c4] at hg
                have hg' : false = goodG none l := hg
                simp [c3, c4, e0, hw, aj, hdj, hlen, hltj, goodC, ← hg']
              | false =>
                rw [c3, c4] at hg
                have hg' : goodG (some l[i]) (l.drop (i + 1)) = goodG none l := hg
                simp [c3, c4, e0, hw, aj, hdj, hlen, hltj]
                subst hI
                exact Less_mk (n - 1) (by omega) ⟨i + 1, by omega, by rw [en]; exact hg', by rw [wrNext i (by omega)]⟩
    · simp at a
      rw [List.drop_of_length_le (by omega)] at hg
      have hg' : true = goodG none l := by rw [← hg]; cases prevC l i <;> rfl
      simp [goodC, ← hg']
      omega
abbrev cLeafSo (xs : List GLeaf) : PT := .sl 0 103 xs.length (xs.flatMap GLeaf.co)
abbrev cLeafSi (k : Nat) (xs : List GLeaf) : PT := rd k xs.length (xs.flatMap (GLeaf.ci k))
def wt_LeafS (xs : List GLeaf) : Nat := wtR GLeaf.wt xs
theorem len_wt_LeafS (xs : List GLeaf) : xs.length ≤ wt_LeafS xs := by unfold wt_LeafS wtR; omega
theorem mem_wt_LeafS {xs : List GLeaf} {x : GLeaf} (h : x ∈ xs) : GLeaf.wt x ≤ wt_LeafS xs := by
  have := wt_mem GLeaf.wt h
  unfold wt_LeafS wtR
  omega
def fits_LeafS (xs : List GLeaf) : Prop := xs.length ≤ 140737488351232 ∧ ∀ x ∈ xs, GLeaf.fits x
def lens_LeafS (xs : List GLeaf) : Prop := xs.length ≤ 140737488351232 ∧ ∀ x ∈ xs, GLeaf.lens x
def mk_LeafS (xs : List GLeaf) (k : Int) : List GLeaf × Int := mkR GLeaf.mark xs k
def cn_LeafS (xs : List GLeaf) : Nat := cnR GLeaf.cn xs
theorem mk_LeafS_len (xs : List GLeaf) (k : Int) : (mk_LeafS xs k).1.length = xs.length := mkR_len _ xs k
attribute [simp] mk_LeafS_len
theorem mk_LeafS_snd (xs : List GLeaf) (k : Int) : (mk_LeafS xs k).2 = k + cn_LeafS xs := mkR_snd (GLeaf.mark_snd) xs k
theorem lens_of_LeafS {xs : List GLeaf} (h : wt_LeafS xs ≤ 1048576) : lens_LeafS xs := by
  have hl := len_wt_LeafS xs
  exact ⟨by omega, fun x hx => lens_of_Leaf (by have := mem_wt_LeafS hx; omega)⟩
theorem cn_le_LeafS (xs : List GLeaf) : cn_LeafS xs ≤ 32 * wt_LeafS xs := cnR_le (fun x => by have := cnE_le_Leaf x; omega) xs
theorem strs_ok {p : List ByteArray} (h : wt_StringS p ≤ 1048576) : strsOK p := by
  have := len_wt_StringS p
  refine ⟨by omega, fun s hs => ?_⟩
  have := mem_wt_StringS hs
  omega
theorem leaf_ok {x : GLeaf} (h : GLeaf.wt x ≤ 1048576) : leafOK x := by
  unfold GLeaf.wt at h
  exact ⟨strs_ok (by omega), by omega⟩
theorem conf_ok {l : List GLeaf} (h : wt_LeafS l ≤ 1048576) : confOK l := by
  have := len_wt_LeafS l
  refine ⟨by omega, fun x hx => leaf_ok ?_⟩
  have := mem_wt_LeafS hx
  omega
theorem conf_len {l : List GLeaf} (h : wt_LeafS l ≤ 1048576) : l.length ≤ 1048576 ∧ ∀ x ∈ l, x.Path.length ≤ 1048576 := by
  have := len_wt_LeafS l
  refine ⟨by omega, fun x hx => ?_⟩
  have := mem_wt_LeafS hx
  have := len_wt_StringS x.Path
  unfold GLeaf.wt at *
  omega
def rGoodConfig (v0 : List GLeaf) : Bool := goodC v0
theorem law_iGoodConfig (v0 : List GLeaf) (h0 : wt_LeafS v0 ≤ 1048576) : CallOK Try.prog 81 [.c (rd 0 v0.length (v0.flatMap (GLeaf.ci 0)))] (.c (pb (rGoodConfig v0))) [.c (rd 0 v0.length (v0.flatMap (GLeaf.ci 0)))] := ok_iGoodConfig 0 v0 (conf_ok h0)
theorem law_sGoodConfig (v0 : List GLeaf) (h0 : wt_LeafS v0 ≤ 1048576) : CallOK Try.prog 78 [.c (rd 0 v0.length (v0.flatMap (GLeaf.ci 0)))] (.c (pb (rGoodConfig v0))) [.c (rd 0 v0.length (v0.flatMap (GLeaf.ci 0)))] := ok_sGoodConfig 0 v0 (conf_ok h0)
end Go.V
namespace Go.Proofs
open Go.Shelf
def Try.lays156_ren : Go.Shelf.Ren := ⟨fun | 156 => 76 | 165 => 122 | 166 => 123 | 169 => 102 | 240 => 156 | 241 => 157 | 276 => 172 | 277 => 173 | n => n, fun | 31 => 22 | 9 => 9 | 3 => 3 | 4 => 4 | 0 => 0 | 20 => 20 | 72 => 120 | 76 => 144 | 70 => 117 | 37 => 118 | 75 => 143 | 127 => 151 | 164 => 172 | 5 => 5 | 80 => 123 | n => n, fun | n => n⟩
theorem Try.lays156 : Go.Proofs.Lays.n156 Try.prog Try.lays156_ren := {
  mixed := by kernel_rfl
  f156 := Try.func76.trans (congrArg some (by kernel_rfl))
  f165 := Try.func122.trans (congrArg some (by kernel_rfl))
  f166 := Try.func123.trans (congrArg some (by kernel_rfl))
  f169 := Try.func102.trans (congrArg some (by kernel_rfl))
  f240 := Try.func156.trans (congrArg some (by kernel_rfl))
  f241 := Try.func157.trans (congrArg some (by kernel_rfl))
  f276 := Try.func172.trans (congrArg some (by kernel_rfl))
  f277 := Try.func173.trans (congrArg some (by kernel_rfl))
  t0 := Try.underlying0
  a0 := Try.isAgg0
  z0 := Try.sizeOf0
  v0 := Try.zeroValue0
  t3 := Try.underlying3
  a3 := Try.isAgg3
  z3 := Try.sizeOf3
  v3 := Try.zeroValue3
  t4 := Try.underlying4
  a4 := Try.isAgg4
  z4 := Try.sizeOf4
  v4 := Try.zeroValue4
  t9 := Try.underlying9
  a9 := Try.isAgg9
  z9 := Try.sizeOf9
  v9 := Try.zeroValue9
  t20 := Try.underlying20
  a20 := Try.isAgg20
  z20 := Try.sizeOf20
  v20 := Try.zeroValue20
  t31 := Try.underlying22
  a31 := Try.isAgg22
  z31 := Try.sizeOf22
  v31 := Try.zeroValue22
  t37 := Try.underlying118
  a37 := Try.isAgg118
  z37 := Try.sizeOf118
  v37 := Try.zeroValue118
  t70 := Try.underlying117
  a70 := Try.isAgg117
  z70 := Try.sizeOf117
  v70 := Try.zeroValue117
  t72 := Try.underlying120
  a72 := Try.isAgg120
  z72 := Try.sizeOf120
  v72 := Try.zeroValue120
  t75 := Try.underlying143
  a75 := Try.isAgg143
  z75 := Try.sizeOf143
  v75 := Try.zeroValue143
  t76 := Try.underlying144
  a76 := Try.isAgg144
  z76 := Try.sizeOf144
  v76 := Try.zeroValue144
  t127 := Try.underlying151
  a127 := Try.isAgg151
  z127 := Try.sizeOf151
  v127 := Try.zeroValue151
  t164 := Try.underlying172
  a164 := Try.isAgg172
  z164 := Try.sizeOf172
  v164 := Try.zeroValue172 }
theorem Try.Builder_Extra_156 : Builder.Extra Try.prog Try.lays156_ren := {
  sizeBuilder := by kernel_rfl
  liesBuilder := by kernel_rfl
  t5 := Try.underlying5
  a5 := Try.isAgg5
  z5 := Try.sizeOf5
  v5 := Try.zeroValue5
  infoByte := by kernel_rfl
  cellsByte := by kernel_rfl
  sizeByte := by kernel_rfl
  neB5 := by decide }
open Go.RowKit in
theorem Try.strings_Join_none (a : Option Addr) (c : Nat) (sep : ByteArray) (w : World) :
    Calls Try.prog 76 #[.slice a 0 c, .string sep] w fun e w' => e = .returned (.string ⟨#[]⟩) ∧ w' = w := Any.strings_Join_none Try.lays156 Try.Builder_Extra_156 a c sep w
open Go.RowKit in
theorem Try.strings_Join (bk o c : Nat) (xs : List ByteArray) (sep : ByteArray) (w : World) (hcells : ∀ (j : Nat) x, xs[j]? = some x → w.cell? ⟨bk, o + j, none⟩ = some (.string x)) (hbk : bk < w.heap.size) (hN : xs.length ≤ 140737488355328) (hcap : xs.length ≤ c) (hlen : (Lib.join (xs.map (·.data.toList)) sep.data.toList).length ≤ 140737488355328) :
    Calls Try.prog 76 #[.slice (some ⟨bk, o, none⟩) xs.length c, .string sep] w fun e w' => e = .returned (.string ⟨(Lib.join (xs.map (·.data.toList)) sep.data.toList).toArray⟩) ∧ Below w.heap.size w w' := Any.strings_Join Try.lays156 Try.Builder_Extra_156 bk o c xs sep w hcells hbk hN hcap hlen
end Go.Proofs
namespace Go.V
open Go.Proofs
end Go.V
