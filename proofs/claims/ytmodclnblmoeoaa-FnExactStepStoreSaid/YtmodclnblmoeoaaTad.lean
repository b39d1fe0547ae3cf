/- What functions of the seat's program do, each proved of its code, under the bounds that its theorem names. -/
import Derived.Test.YtmodclnblmoeoaaTac
set_option linter.all false
namespace Go.V
open Go.Proofs
set_option maxHeartbeats 1000000
set_option maxRecDepth 10000
set_option linter.unusedSimpArgs false
set_option linter.unusedVariables false
def okLeaf (x : GLeaf) : Bool := isP x.Path && isW x.Value
def adjC (q : Option GLeaf) (x : GLeaf) : Bool := match q with
  | none => true
  | some q => lessP q.Path x.Path && !begP q.Path x.Path
def goodG : Option GLeaf → List GLeaf → Bool
  | _, [] => true
  | q, x :: xs => okLeaf x && adjC q x && goodG (some x) xs
def goodC (l : List GLeaf) : Bool := goodG none l && decide (l.length ≤ 30)
def prevC (l : List GLeaf) (i : Nat) : Option GLeaf := if i = 0 then none else l[i - 1]?
theorem prevC_next (l : List GLeaf) (i : Nat) (h : i < l.length) : prevC l (i + 1) = some l[i] := by simp [prevC, h]
def strsOK (p : List ByteArray) : Prop := p.length ≤ 140737488351232 ∧ ∀ s ∈ p, s.size ≤ 140737488355328
def leafOK (x : GLeaf) : Prop := strsOK x.Path ∧ x.Value.size ≤ 140737488355328
def confOK (l : List GLeaf) : Prop := l.length ≤ 140737488351232 ∧ ∀ x ∈ l, leafOK x
theorem ok_within (n lo hi : Int) : CallOK Try.prog 118 [.c (pi n), .c (pi lo), .c (pi hi)] (.c (pb (decide (lo ≤ n ∧ n ≤ hi)))) [.c (pi n), .c (pi lo), .c (pi hi)] := by
  refine okS (fn := Try.f118) [] h0 Try.func118 (by kernel_rfl) rfl Try.ntmps118 Try.results118 (by simp) ?_
  simp
  refine gT (fun h => ?_) (fun h => ?_) <;> simp [h]
/-- Where a condition holds first, or -1. -/
def idxOf {α : Type} (p : α → Bool) (xs : List α) : Int := match xs.findIdx? p with | some i => i | none => -1
theorem idxOf_hit {α : Type} (p : α → Bool) (xs : List α) (i : Nat) (h : i < xs.length) (hp : p xs[i] = true) (hall : ∀ (j : Nat) (hj : j < i), p (xs[j]'(by omega)) = false) : idxOf p xs = i := by
  unfold idxOf
  rw [(List.findIdx?_eq_some_iff_getElem (i := i)).2 ⟨h, hp, fun j hj => by simp [hall j hj]⟩]
theorem idxOf_no {α : Type} (p : α → Bool) (xs : List α) (hall : ∀ (j : Nat) (hj : j < xs.length), p xs[j] = false) : idxOf p xs = -1 := by
  unfold idxOf
  rw [List.findIdx?_eq_none_iff.2 (fun s hs => by
    obtain ⟨j, hj, rfl⟩ := List.getElem_of_mem hs
    simp [hall j hj])]
theorem idxOf_any {α : Type} (p : α → Bool) (xs : List α) : decide (0 ≤ idxOf p xs) = xs.any p := by
  unfold idxOf
  cases h : xs.findIdx? p with
  | none =>
    rw [List.findIdx?_eq_none_iff] at h
    simp
    exact fun x hx => by simpa using h x hx
  | some i =>
    rw [List.findIdx?_eq_some_iff_getElem] at h
    obtain ⟨h1, h2, _⟩ := h
    simp
    exact ⟨_, List.getElem_mem h1, h2⟩
theorem ok_IndexFunc_String (k q g : Nat) (caps : List (List PT)) (p : ByteArray → Bool) (xs : List ByteArray) (ha : xs.length ≤ 140737488351232)
    (hg : ∀ x ∈ xs, CallOK Try.prog g (.c (ps x) :: caps.map (PV.ip q)) (.c (pb (p x))) (.c (ps x) :: caps.map (PV.ip q))) :
    CallOK Try.prog 154 [.c (rd k xs.length (xs.map ps)), .c (.fn q g caps)] (.c (pi (idxOf p xs))) [.c (rd k xs.length (xs.map ps)), .c (.fn q g caps)] := by
  refine okS (fn := Try.f154) [] h0 Try.func154 (by kernel_rfl) rfl Try.ntmps154 Try.results154 (by simp) ?_
  simp
  refine loopS [0, 1, 7, 8] [] (fun n st => ∃ (i : Nat), i + n = xs.length ∧ (∀ (j : Nat) (hj : j < i) (hj' : j < xs.length), p xs[j] = false) ∧ st = ⟨slOf 19 [(0, .t (rd k xs.length (xs.map ps))), (1, .t (.fn q g caps)), (7, .t (pi xs.length)), (8, .t (pi i))], ofL []⟩) xs.length ?_ ?_
  · rintro Inv hI
    simp
    subst hI
    exact ⟨0, by omega, by intro j hj; omega, rfl⟩
  · rintro Inv hI n st ⟨i, hi, hall, rfl⟩
    refine ewr_sound (M := []) h0 ?_
    simp
    refine brn_app (fun h => ?_) (fun h => ?_)
    · simp at h
      simp [h]
      refine Inv_intro (hg _ (List.getElem_mem h)) ?_
      simp
      refine brn_app (fun h2 => ?_) (fun h2 => ?_)
      · simp
        exact (idxOf_hit p xs i h h2 fun j hj => hall j hj (by omega)).symm
      · simp
        subst hI
        refine Less_mk (n - 1) (by omega) ⟨i + 1, by omega, ?_, by rw [wrNext i (by omega)]⟩
        intro j hj hj'
        by_cases hji : j = i
        · subst hji; exact h2
        · exact hall j (by omega) hj'
    · simp at h
      simp
      exact (idxOf_no p xs fun j hj => hall j (by omega) hj).symm
theorem ok_ContainsFunc_String (k q g : Nat) (caps : List (List PT)) (p : ByteArray → Bool) (xs : List ByteArray) (ha : xs.length ≤ 140737488351232)
    (hg : ∀ x ∈ xs, CallOK Try.prog g (.c (ps x) :: caps.map (PV.ip q)) (.c (pb (p x))) (.c (ps x) :: caps.map (PV.ip q))) :
    CallOK Try.prog 119 [.c (rd k xs.length (xs.map ps)), .c (.fn q g caps)] (.c (pb (xs.any p))) [.c (rd k xs.length (xs.map ps)), .c (.fn q g caps)] := by
  refine okS (fn := Try.f119) [] h0 Try.func119 (by kernel_rfl) rfl Try.ntmps119 Try.results119 (by simp) ?_
  simp
  refine Inv_intro (ok_IndexFunc_String k q g caps p xs ha hg) ?_
  simp [idxOf_any]
theorem any_not {α : Type} (p : α → Bool) (xs : List α) : xs.any (fun x => !p x) = !xs.all p := by
  induction xs with
  | nil => rfl
  | cons x xs ih => simp [ih]
theorem ok_l1In (n lo hi : Int) : CallOK Try.prog 116 [.c (pi n), .c (pi lo), .c (pi hi)] (.c (pb (decide (lo ≤ n ∧ n ≤ hi)))) [.c (pi n), .c (pi lo), .c (pi hi)] := by
  refine okS (fn := Try.f116) [] h0 Try.func116 (by kernel_rfl) rfl Try.ntmps116 Try.results116 (by simp) ?_
  simp
  refine gT (fun h => ?_) (fun h => ?_) <;> simp [h]
theorem wlen_le (s : ByteArray) : wlen s ≤ s.size := by
  unfold wlen
  have := List.Sublist.length_le (List.takeWhile_sublist (fun b : UInt8 => wb b.toNat) (l := s.data.toList))
  simpa using this
theorem tw_all {α : Type} (p : α → Bool) : ∀ l : List α, ((l.takeWhile p).length = l.length) = (l.all p = true)
  | [] => by simp
  | x :: l => by
    rw [List.takeWhile_cons, List.all_cons]
    cases h : p x with
    | true => simpa using tw_all p l
    | false => simp
theorem word_all (s : ByteArray) : decide (s.extract 0 (wlen s) = s) = wAll s := by
  have h := wlen_le s
  have hA := tw_all (fun b : UInt8 => wb b.toNat) s.data.toList
  have hl : s.data.toList.length = s.size := by simp
  rw [hl] at hA
  have hB : (s.extract 0 (wlen s) = s) = (wlen s = s.size) := by
    apply propext
    constructor
    · intro e
      have := congrArg ByteArray.size e
      simp at this
      omega
    · intro e
      rw [e]
      exact ext_all s
  rw [Bool.eq_iff_iff, decide_eq_true_eq, hB, wAll, ← hA]
  rfl
theorem ok_isWord (s : ByteArray) (hs : s.size ≤ 140737488355328) : CallOK Try.prog 75 [.c (ps s)] (.c (pb (isW s))) [.c (ps s)] := by
  refine okS (fn := Try.f75) [] h0 Try.func75 (by kernel_rfl) rfl Try.ntmps75 Try.results75 (by simp) ?_
  simp
  refine Inv_intro (ok_within _ _ _) ?_
  simp
  refine gT (fun a => ?_) (fun a => ?_)
  · simp [a]
    refine Inv_intro (ok_wordAt s hs) ?_
    simp [isW, word_all, a]
  · simp [a, isW]
theorem ok_areWords1 (s : ByteArray) (hs : s.size ≤ 140737488355328) : CallOK Try.prog 120 [.c (ps s)] (.c (pb (!isW s))) [.c (ps s)] := by
  refine okS (fn := Try.f120) [] h0 Try.func120 (by kernel_rfl) rfl Try.ntmps120 Try.results120 (by simp) ?_
  simp
  refine Inv_intro (ok_isWord s hs) ?_
  simp
theorem ok_areWords (k : Nat) (p : List ByteArray) (hl : p.length ≤ 140737488351232) (hs : ∀ s ∈ p, s.size ≤ 140737488355328) : CallOK Try.prog 74 [.c (rd k p.length (p.map ps))] (.c (pb (isP p))) [.c (rd k p.length (p.map ps))] := by
  refine okS (fn := Try.f74) [] h0 Try.func74 (by kernel_rfl) rfl Try.ntmps74 Try.results74 (by simp) ?_
  simp
  refine Inv_intro (ok_within _ _ _) ?_
  simp
  refine gT (fun a => ?_) (fun a => ?_)
  · simp [a]
    refine Inv_intro (ok_ContainsFunc_String k 0 120 [] (fun s => !isW s) p hl fun x hx => ok_areWords1 x (hs x hx)) ?_
    simp [isP, any_not, a]
  · simp [a, isP]
theorem ok_l15Word (s : ByteArray) (hs : s.size ≤ 140737488355328) : CallOK Try.prog 73 [.c (ps s)] (.c (pb (isW s))) [.c (ps s)] := by
  refine okS (fn := Try.f73) [] h0 Try.func73 (by kernel_rfl) rfl Try.ntmps73 Try.results73 (by simp) ?_
  simp
  refine loopS [0, 3] [] (fun n st => ∃ (i : Nat), i + n = s.size ∧ (s.data.toList.drop i).all (fun b => wb b.toNat) = wAll s ∧ st = ⟨slOf 18 [(0, .t (ps s)), (3, .t (pi i))], ofL []⟩) s.size ?_ ?_
  · rintro Inv hI
    simp
    subst hI
    exact ⟨0, by omega, rfl, rfl⟩
  · rintro Inv hI n st ⟨i, hi, hw, rfl⟩
    refine ewr_sound (M := []) h0 ?_
    simp
    refine brn_app (fun a => ?_) (fun a => ?_)
    · simp at a
      have hl : i < s.data.toList.length := by simpa using a
      rw [List.drop_eq_getElem_cons hl, List.all_cons] at hw
      rw [← byteAt_list s i a] at hw
      simp [a]
      refine Inv_intro (ok_l15Byte _) ?_
      simp
      refine brn_app (fun b => ?_) (fun b => ?_)
      · simp at b
        rw [b, Bool.false_and] at hw
        simp [isW, ← hw]
      · simp at b
        rw [b, Bool.true_and] at hw
        simp
        subst hI
        exact Less_mk (n - 1) (by omega) ⟨i + 1, by omega, hw, by rw [wrNext i (by omega)]⟩
    · simp at a
      rw [List.drop_of_length_le (by simp; omega), List.all_nil] at hw
      simp
      refine Inv_intro (ok_l1In _ _ _) ?_
      simp [isW, ← hw]
theorem ok_l15Path (k : Nat) (p : List ByteArray) (hl : p.length ≤ 140737488351232) (hs : ∀ s ∈ p, s.size ≤ 140737488355328) : CallOK Try.prog 72 [.c (rd k p.length (p.map ps))] (.c (pb (isP p))) [.c (rd k p.length (p.map ps))] := by
  refine okS (fn := Try.f72) [] h0 Try.func72 (by kernel_rfl) rfl Try.ntmps72 Try.results72 (by simp) ?_
  simp
  refine loopS [0, 5, 6, 7] [] (fun n st => ∃ (i : Nat), i + n = p.length ∧ (p.drop i).all isW = p.all isW ∧ st = ⟨slOf 18 [(0, .t (rd k p.length (p.map ps))), (5, .t (rd k p.length (p.map ps))), (6, .t (pi p.length)), (7, .t (pi i))], ofL []⟩) p.length ?_ ?_
  · rintro Inv hI
    simp
    subst hI
    exact ⟨0, by omega, rfl, rfl⟩
  · rintro Inv hI n st ⟨i, hi, hw, rfl⟩
    refine ewr_sound (M := []) h0 ?_
    simp
    refine brn_app (fun a => ?_) (fun a => ?_)
    · simp at a
      rw [drop_step _ i a, List.all_cons] at hw
      simp [a]
      refine Inv_intro (ok_l15Word _ (hs _ (List.getElem_mem a))) ?_
      simp
      refine brn_app (fun b => ?_) (fun b => ?_)
      · simp at b
        rw [b, Bool.false_and] at hw
        simp [isP, ← hw]
      · simp at b
        rw [b, Bool.true_and] at hw
        simp
        subst hI
        exact Less_mk (n - 1) (by omega) ⟨i + 1, by omega, hw, by rw [wrNext i (by omega)]⟩
    · simp at a
      rw [List.drop_of_length_le (by omega), List.all_nil] at hw
      simp
      refine Inv_intro (ok_l1In _ _ _) ?_
      simp [isP, ← hw]
theorem ok_iGoodConfig (k : Nat) (l : List GLeaf) (hl : confOK l) : CallOK Try.prog 81 [.c (rd k l.length (l.flatMap (GLeaf.ci k)))] (.c (pb (goodC l))) [.c (rd k l.length (l.flatMap (GLeaf.ci k)))] := by
  obtain ⟨hll, hlx⟩ := hl
  refine okS (fn := Try.f81) [] h0 Try.func81 (by kernel_rfl) rfl Try.ntmps81 Try.results81 (by simp) ?_
  simp
  refine loopS [0, 5, 6, 7] [] (fun n st => ∃ (i : Nat), i + n = l.length ∧ goodG (prevC l i) (l.drop i) = goodG none l ∧ st = ⟨slOf 53 [(0, .t (rd k l.length (l.flatMap (GLeaf.ci k)))), (5, .t (rd k l.length (l.flatMap (GLeaf.ci k)))), (6, .t (pi l.length)), (7, .t (pi i))], ofL []⟩) l.length ?_ ?_
  · rintro Inv hI
    simp
    subst hI
    exact ⟨0, by omega, rfl, rfl⟩
  · rintro Inv hI n st ⟨i, hi, hg, rfl⟩
    refine ewr_sound (M := []) h0 ?_
    simp
    refine brn_app (fun a => ?_) (fun a => ?_)
    · simp at a
      have hx := hlx l[i] (List.getElem_mem a)
      obtain ⟨⟨hx1, hx2⟩, hx3⟩ := hx
      rw [drop_step _ i a, goodG] at hg
      have hd := fm_drop (GLeaf.ci k) 2 (fun _ => rfl) l i a
      have hlen := fm_len (GLeaf.ci k) 2 (fun _ => rfl) l
      have hlt : i * 2 < l.length * 2 := by omega
      have en : prevC l (i + 1) = some l[i] := prevC_next l i a
      by_cases c0 : i = 0
      · have e0 : ¬ 0 < i := by omega
        have ep : prevC l i = none := by simp [prevC, c0]
        rw [ep, adjC, Bool.and_true] at hg
        simp [a, hd, hlen, hlt]
        refine drawP (tabEnv [] _) [⟨[.op 3 3 0], allD 53, true⟩, ⟨[.op 3 3 0], allD 53, true⟩, ⟨[], allD 53, false⟩, ⟨[], allD 53, true⟩, ⟨[], allD 53, true⟩, ⟨[.op 3 3 0], allD 53, true⟩, ⟨[.op 3 3 0], allD 53, true⟩, ⟨[], allD 53, false⟩, ⟨[], allD 53, true⟩, ⟨[], allD 53, true⟩, ⟨[], allD 53, true⟩, ⟨[], allD 53, true⟩, ⟨[], allD 53, true⟩, ⟨[], allD 53, true⟩, ⟨[], allD 53, true⟩, ⟨[], allD 53, true⟩, ⟨[], allD 53, true⟩, ⟨[], allD 53, true⟩, ⟨[], allD 53, true⟩, ⟨[], allD 53, true⟩, ⟨[.op 3 3 0], allD 53, true⟩, ⟨[.op 3 3 0], allD 53, true⟩, ⟨[], allD 53, false⟩, ⟨[], allD 53, true⟩, ⟨[], allD 53, true⟩, ⟨[], allD 53, true⟩, ⟨[], allD 53, true⟩, ⟨[], allD 53, true⟩, ⟨[], allD 53, true⟩, ⟨[], allD 53, true⟩, ⟨[], allD 53, true⟩, ⟨[.op 3 3 0], allD 53, true⟩, ⟨[.op 3 3 0], allD 53, true⟩, ⟨[], allD 53, false⟩, ⟨[], allD 53, true⟩, ⟨[], allD 53, true⟩, ⟨[], allD 53, true⟩] h0 hm (tabEnv_ok (tab_cons (ok_areWords k l[i].Path hx1 hx2) (tab_cons (ok_isWord l[i].Value hx3) tab_nil))) (by kernel_rfl) (by kernel_rfl) ?_
        cases c1 : isP l[i].Path with
        | false =>
          have hk : okLeaf l[i] = false := by simp [okLeaf, c1]
          rw [hk, Bool.false_and] at hg
          simp [c1, goodC, ← hg]
        | true =>
          cases c2 : isW l[i].Value with
          | false =>
            have hk : okLeaf l[i] = false := by simp [okLeaf, c2]
            rw [hk, Bool.false_and] at hg
            simp [c1, c2, goodC, ← hg]
          | true =>
            have hk : okLeaf l[i] = true := by simp [okLeaf, c1, c2]
            rw [hk, Bool.true_and] at hg
            simp [c1, c2, e0]
            subst hI
            exact Less_mk (n - 1) (by omega) ⟨i + 1, by omega, by rw [en]; exact hg, by rw [wrNext i (by omega)]⟩
      · obtain ⟨j, hj⟩ : ∃ j, i = j + 1 := ⟨i - 1, by omega⟩
        have aj : j < l.length := by omega
        have ep : prevC l i = some l[j] := by subst hj; exact prevC_next l j aj
        obtain ⟨⟨hy1, hy2⟩, hy3⟩ := hlx l[j] (List.getElem_mem aj)
        have hdj := fm_drop (GLeaf.ci k) 2 (fun _ => rfl) l j aj
        have hltj : j * 2 < l.length * 2 := by omega
        have hw : IntKind.wrap .i64 ((i : Int) - 1) = j := (wrap64 (by omega) (by omega)).trans (by omega)
        have e0 : 0 < i := by omega
        rw [ep, adjC] at hg
        have hcl := cmpP_less l[j].Path l[i].Path
        simp [a, hd, hlen, hlt]
        refine drawP (tabEnv [] _) [⟨[.op 3 3 0], allD 53, true⟩, ⟨[.op 3 3 0], allD 53, true⟩, ⟨[], allD 53, false⟩, ⟨[], allD 53, true⟩, ⟨[], allD 53, true⟩, ⟨[.op 3 3 0], allD 53, true⟩, ⟨[.op 3 3 0], allD 53, true⟩, ⟨[], allD 53, false⟩, ⟨[], allD 53, true⟩, ⟨[], allD 53, true⟩, ⟨[], allD 53, true⟩, ⟨[], allD 53, true⟩, ⟨[], allD 53, true⟩, ⟨[], allD 53, true⟩, ⟨[], allD 53, true⟩, ⟨[], allD 53, true⟩, ⟨[], allD 53, true⟩, ⟨[], allD 53, true⟩, ⟨[], allD 53, true⟩, ⟨[], allD 53, true⟩, ⟨[.op 3 3 0], allD 53, true⟩, ⟨[.op 3 3 0], allD 53, true⟩, ⟨[], allD 53, false⟩, ⟨[], allD 53, true⟩, ⟨[], allD 53, true⟩, ⟨[], allD 53, true⟩, ⟨[], allD 53, true⟩, ⟨[], allD 53, true⟩, ⟨[], allD 53, true⟩, ⟨[], allD 53, true⟩, ⟨[], allD 53, true⟩, ⟨[.op 3 3 0], allD 53, true⟩, ⟨[.op 3 3 0], allD 53, true⟩, ⟨[], allD 53, false⟩, ⟨[], allD 53, true⟩, ⟨[], allD 53, true⟩, ⟨[], allD 53, true⟩] h0 hm (tabEnv_ok (tab_cons (ok_areWords k l[i].Path hx1 hx2) (tab_cons (ok_isWord l[i].Value hx3) (tab_cons (ok_cmpP k k l[j].Path l[i].Path hy1 hx1) (tab_cons (ok_begins k k l[j].Path l[i].Path hy1 hx1) tab_nil))))) (by kernel_rfl) (by kernel_rfl) ?_
        cases c1 : isP l[i].Path with
        | false =>
          have hk : okLeaf l[i] = false := by simp [okLeaf, c1]
          rw [hk, Bool.false_and, Bool.false_and] at hg
          simp [c1, goodC, ← hg]
        | true =>
          cases c2 : isW l[i].Value with
          | false =>
            have hk : okLeaf l[i] = false := by simp [okLeaf, c2]
            rw [hk, Bool.false_and, Bool.false_and] at hg
            simp [c1, c2, goodC, ← hg]
          | true =>
            have hk : okLeaf l[i] = true := by simp [okLeaf, c1, c2]
            rw [hk, Bool.true_and] at hg
            cases c3 : lessP l[j].Path l[i].Path with
            | false =>
              rw [c3, Bool.false_and, Bool.false_and] at hg
              have c3' : 0 ≤ cmpP l[j].Path l[i].Path := by simpa [c3] using hcl
              simp [c1, c2, c3', e0, hw, aj, hdj, hlen, hltj, goodC, ← hg]
            | true =>
              have c3' : ¬ 0 ≤ cmpP l[j].Path l[i].Path := by simpa [c3] using hcl
              cases c4 : begP l[j].Path l[i].Path with
              | true =>
                rw [c3, c4] at hg
                have hg' : false = goodG none l := hg
                simp [c1, c2, c3', c4, e0, hw, aj, hdj, hlen, hltj, goodC, ← hg']
              | false =>
                rw [c3, c4] at hg
                have hg' : goodG (some l[i]) (l.drop (i + 1)) = goodG none l := hg
                simp [c1, c2, c3', c4, e0, hw, aj, hdj, hlen, hltj]
                subst hI
                exact Less_mk (n - 1) (by omega) ⟨i + 1, by omega, by rw [en]; exact hg', by rw [wrNext i (by omega)]⟩
    · simp at a
      rw [List.drop_of_length_le (by omega)] at hg
      have hg' : true = goodG none l := by rw [← hg]; cases prevC l i <;> rfl
      simp [goodC, ← hg']
      omega
theorem ok_IndexFunc_LeafS (k q g : Nat) (caps : List (List PT)) (p : (List GLeaf) → Bool) (xs : List (List GLeaf)) (ha : xs.length ≤ 140737488351232)
    (hg : ∀ x ∈ xs, CallOK Try.prog g (.c (rd k x.length (x.flatMap (GLeaf.ci k))) :: caps.map (PV.ip q)) (.c (pb (p x))) (.c (rd k x.length (x.flatMap (GLeaf.ci k))) :: caps.map (PV.ip q))) :
    CallOK Try.prog 160 [.c (rd k xs.length (xs.map (cLeafSi k))), .c (.fn q g caps)] (.c (pi (idxOf p xs))) [.c (rd k xs.length (xs.map (cLeafSi k))), .c (.fn q g caps)] := by
  refine okS (fn := Try.f160) [] h0 Try.func160 (by kernel_rfl) rfl Try.ntmps160 Try.results160 (by simp) ?_
  simp
  refine loopS [0, 1, 7, 8] [] (fun n st => ∃ (i : Nat), i + n = xs.length ∧ (∀ (j : Nat) (hj : j < i) (hj' : j < xs.length), p xs[j] = false) ∧ st = ⟨slOf 19 [(0, .t (rd k xs.length (xs.map (cLeafSi k)))), (1, .t (.fn q g caps)), (7, .t (pi xs.length)), (8, .t (pi i))], ofL []⟩) xs.length ?_ ?_
  · rintro Inv hI
    simp
    subst hI
    exact ⟨0, by omega, by intro j hj; omega, rfl⟩
  · rintro Inv hI n st ⟨i, hi, hall, rfl⟩
    refine ewr_sound (M := []) h0 ?_
    simp
    refine brn_app (fun h => ?_) (fun h => ?_)
    · simp at h
      simp [h]
      refine Inv_intro (hg _ (List.getElem_mem h)) ?_
      simp
      refine brn_app (fun h2 => ?_) (fun h2 => ?_)
      · simp
        exact (idxOf_hit p xs i h h2 fun j hj => hall j hj (by omega)).symm
      · simp
        subst hI
        refine Less_mk (n - 1) (by omega) ⟨i + 1, by omega, ?_, by rw [wrNext i (by omega)]⟩
        intro j hj hj'
        by_cases hji : j = i
        · subst hji; exact h2
        · exact hall j (by omega) hj'
    · simp at h
      simp
      exact (idxOf_no p xs fun j hj => hall j (by omega) hj).symm
theorem ok_ContainsFunc_LeafS (k q g : Nat) (caps : List (List PT)) (p : (List GLeaf) → Bool) (xs : List (List GLeaf)) (ha : xs.length ≤ 140737488351232)
    (hg : ∀ x ∈ xs, CallOK Try.prog g (.c (rd k x.length (x.flatMap (GLeaf.ci k))) :: caps.map (PV.ip q)) (.c (pb (p x))) (.c (rd k x.length (x.flatMap (GLeaf.ci k))) :: caps.map (PV.ip q))) :
    CallOK Try.prog 130 [.c (rd k xs.length (xs.map (cLeafSi k))), .c (.fn q g caps)] (.c (pb (xs.any p))) [.c (rd k xs.length (xs.map (cLeafSi k))), .c (.fn q g caps)] := by
  refine okS (fn := Try.f130) [] h0 Try.func130 (by kernel_rfl) rfl Try.ntmps130 Try.results130 (by simp) ?_
  simp
  refine Inv_intro (ok_IndexFunc_LeafS k q g caps p xs ha hg) ?_
  simp [idxOf_any]
theorem ok_sameConfig1 (k k' : Nat) (x y : GLeaf) (hx : x.Path.length ≤ 140737488351232) (hy : y.Path.length ≤ 140737488351232) : CallOK Try.prog 162 [.agg (GLeaf.ci k x), .agg (GLeaf.ci k' y)] (.c (pb (decide (x = y)))) [.agg (GLeaf.ci k x), .agg (GLeaf.ci k' y)] := by
  refine okS (fn := Try.f162) [] h0 Try.func162 (by kernel_rfl) rfl Try.ntmps162 Try.results162 (by simp) ?_
  have e : decide (x = y) = (decide (x.Value = y.Value) && decide (x.Path = y.Path)) := by
    cases x
    cases y
    simp
    rw [Bool.and_comm]
  rw [e]
  simp
  refine gT (fun a => ?_) (fun a => ?_)
  · simp [a]
    refine Inv_intro (ok_EqualS k k' x.Path y.Path hx hy) ?_
    simp at a
    simp [a]
  · simp [a]
theorem ok_EqualFunc_Leaf (k k' : Nat) (xs ys : List GLeaf) (hx : confOK xs) (hy : confOK ys) : CallOK Try.prog 161 [.c (rd k xs.length (xs.flatMap (GLeaf.ci k))), .c (rd k' ys.length (ys.flatMap (GLeaf.ci k'))), .c (.fn 0 162 [])] (.c (pb (decide (xs = ys)))) [.c (rd k xs.length (xs.flatMap (GLeaf.ci k))), .c (rd k' ys.length (ys.flatMap (GLeaf.ci k'))), .c (.fn 0 162 [])] := by
  obtain ⟨hxl, hxx⟩ := hx
  obtain ⟨hyl, hyy⟩ := hy
  refine okS (fn := Try.f161) [] h0 Try.func161 (by kernel_rfl) rfl Try.ntmps161 Try.results161 (by simp) ?_
  simp
  refine brn_app (fun h => ?_) (fun h => ?_)
  · simp at h
    simp
    rintro rfl
    exact h rfl
  · simp at h
    have hl : ys.length = xs.length := by omega
    simp
    refine loopS [1, 2, 15, 16, 17] [] (fun n st => ∃ (i : Nat), i + n = xs.length ∧ (xs.drop i = ys.drop i ↔ xs = ys) ∧ st = ⟨slOf 32 [(1, .t (rd k' ys.length (ys.flatMap (GLeaf.ci k')))), (2, .t (.fn 0 162 [])), (15, .t (rd k xs.length (xs.flatMap (GLeaf.ci k)))), (16, .t (pi xs.length)), (17, .t (pi i))], ofL []⟩) xs.length ?_ ?_
    · rintro Inv hI
      simp
      subst hI
      exact ⟨0, by omega, by simp, rfl⟩
    · rintro Inv hI n st ⟨i, hi, htk, rfl⟩
      refine ewr_sound (M := []) h0 ?_
      simp
      refine brn_app (fun h => ?_) (fun h => ?_)
      · simp at h
        have hib : i < ys.length := by omega
        rw [drop_step xs i h, drop_step ys i hib, List.cons.injEq] at htk
        have hd := fm_drop (GLeaf.ci k) 2 (fun _ => rfl) xs i h
        have hlen := fm_len (GLeaf.ci k) 2 (fun _ => rfl) xs
        have hlt : i * 2 < xs.length * 2 := by omega
        have hd' := fm_drop (GLeaf.ci k') 2 (fun _ => rfl) ys i hib
        have hlen' := fm_len (GLeaf.ci k') 2 (fun _ => rfl) ys
        have hlt' : i * 2 < ys.length * 2 := by omega
        simp [h, hd, hlen, hlt, hib, hd', hlen', hlt']
        refine Inv_intro (ok_sameConfig1 k k' xs[i] ys[i] (hxx _ (List.getElem_mem h)).1.1 (hyy _ (List.getElem_mem hib)).1.1) ?_
        simp
        refine brn_app (fun h2 => ?_) (fun h2 => ?_)
        · simp at h2
          simp
          intro he
          exact h2 (htk.2 he).1
        · simp at h2
          simp
          subst hI
          exact Less_mk (n - 1) (by omega) ⟨i + 1, by omega, ⟨fun h4 => htk.1 ⟨h2, h4⟩, fun h4 => (htk.2 h4).2⟩, by rw [wrNext i (by omega)]⟩
      · simp at h
        rw [List.drop_of_length_le (by omega), List.drop_of_length_le (by omega)] at htk
        simp
        exact htk.1 rfl
theorem ok_sameConfig (k k' : Nat) (xs ys : List GLeaf) (hx : confOK xs) (hy : confOK ys) : CallOK Try.prog 132 [.c (rd k xs.length (xs.flatMap (GLeaf.ci k))), .c (rd k' ys.length (ys.flatMap (GLeaf.ci k')))] (.c (pb (decide (xs = ys)))) [.c (rd k xs.length (xs.flatMap (GLeaf.ci k))), .c (rd k' ys.length (ys.flatMap (GLeaf.ci k')))] := by
  refine okS (fn := Try.f132) [] h0 Try.func132 (by kernel_rfl) rfl Try.ntmps132 Try.results132 (by simp) ?_
  simp
  refine Inv_intro (ok_EqualFunc_Leaf k k' xs ys hx hy) ?_
  simp
def storeOK (s : GStore) : Prop := confOK s.Candidate ∧ confOK s.Running ∧ s.History.length ≤ 140737488351232 ∧ ∀ l ∈ s.History, confOK l
def goodS (s : GStore) : Bool := goodC s.Candidate && goodC s.Running && decide ((1 : Int) ≤ s.History.length ∧ (s.History.length : Int) ≤ 10) && s.History.all goodC && decide (0 ≤ s.Left ∧ s.Left ≤ 100) && (decide (s.Left = 0) == decide (s.Running = s.History.headD []))
theorem ok_GoodStore1 (k : Nat) (l : List GLeaf) (hl : confOK l) : CallOK Try.prog 131 [.c (rd k l.length (l.flatMap (GLeaf.ci k)))] (.c (pb (!goodC l))) [.c (rd k l.length (l.flatMap (GLeaf.ci k)))] := by
  refine okS (fn := Try.f131) [] h0 Try.func131 (by kernel_rfl) rfl Try.ntmps131 Try.results131 (by simp) ?_
  simp
  refine Inv_intro (ok_iGoodConfig k l hl) ?_
  simp
theorem head_cells (k : Nat) (h : List (List GLeaf)) (l : List GLeaf) (t : List (List GLeaf)) (e : h = l :: t) : h.map (cLeafSi k) = cLeafSi k l :: t.map (cLeafSi k) := by rw [e]; rfl
theorem ok_iGoodStore (k : Nat) (s : GStore) (hs : storeOK s) : CallOK Try.prog 96 [.agg (GStore.ci k s)] (.c (pb (goodS s))) [.agg (GStore.ci k s)] := by
  obtain ⟨h1, h2, h3, h4⟩ := hs
  refine okS (fn := Try.f96) [] h0 Try.func96 (by kernel_rfl) rfl Try.ntmps96 Try.results96 (by simp) ?_
  simp
  refine Inv_intro (ok_iGoodConfig k s.Candidate h1) ?_
  simp
  cases c1 : goodC s.Candidate with
  | false => simp [goodS, c1]
  | true =>
    simp
    refine Inv_intro (ok_iGoodConfig k s.Running h2) ?_
    simp
    cases c2 : goodC s.Running with
    | false => simp [goodS, c2]
    | true =>
      simp
      refine Inv_intro (ok_within _ _ _) ?_
      simp
      by_cases c3 : (1 : Int) ≤ s.History.length ∧ (s.History.length : Int) ≤ 10
      · simp [c3.1, c3.2]
        refine Inv_intro (ok_ContainsFunc_LeafS k 0 131 [] (fun l => !goodC l) s.History h3 fun l hl => ok_GoodStore1 k l (h4 l hl)) ?_
        rw [any_not]
        simp
        cases c4 : s.History.all goodC with
        | false => simp [goodS, c4]
        | true =>
          obtain ⟨l, t, e⟩ : ∃ l t, s.History = l :: t := by
            cases hh : s.History with
            | nil => rw [hh] at c3; simp at c3
            | cons l t => exact ⟨l, t, rfl⟩
          have hl : confOK l := h4 l (by rw [e]; simp)
          have hc := head_cells k s.History l t e
          have hlen : 0 < s.History.length := by rw [e]; simp
          simp
          refine drawP (tabEnv [] _) [⟨[.op 0 0 0], allD 41, true⟩, ⟨[.op 0 0 0], allD 41, true⟩, ⟨[], allD 41, false⟩, ⟨[], allD 41, true⟩, ⟨[.op 0 0 0], allD 41, true⟩, ⟨[.op 0 0 0], allD 41, true⟩, ⟨[], allD 41, true⟩, ⟨[.op 0 0 0], allD 41, true⟩, ⟨[.op 0 0 0], allD 41, true⟩, ⟨[.op 0 0 0], allD 41, true⟩, ⟨[.op 0 0 0], allD 41, true⟩, ⟨[], allD 41, true⟩, ⟨[], allD 41, true⟩, ⟨[], allD 41, false⟩, ⟨[], allD 41, true⟩, ⟨[], allD 41, true⟩, ⟨[], allD 41, true⟩] h0 hm (tabEnv_ok (tab_cons (ok_within s.Left 0 100) (tab_cons (ok_sameConfig k k s.Running l h2 hl) tab_nil))) (by kernel_rfl) (by kernel_rfl) ?_
          by_cases c5 : 0 ≤ s.Left ∧ s.Left ≤ 100
          · have eg : goodS s = (decide (s.Left = 0) == decide (s.Running = l)) := by
              unfold goodS
              rw [c1, c2, c4, decide_eq_true c3, decide_eq_true c5, e]
              simp
            simp [c5.1, c5.2, hc, hlen, eg]
          · have eg : goodS s = false := by
              unfold goodS
              rw [decide_eq_false c5]
              simp
            have c5' : (decide (0 ≤ s.Left) && decide (s.Left ≤ 100)) = false := by simpa using c5
            simp [c5', eg]
      · have eg : goodS s = false := by
          unfold goodS
          rw [decide_eq_false c3]
          simp
        have c3' : (decide ((1 : Int) ≤ s.History.length) && decide ((s.History.length : Int) ≤ 10)) = false := by simpa using c3
        have c3b : (!decide ((1 : Int) ≤ s.History.length) || !decide ((s.History.length : Int) ≤ 10)) = true := by rw [← Bool.not_and, c3']; rfl
        simp [c3', c3b, eg]
theorem ok_sGoodConfig (k : Nat) (l : List GLeaf) (hl : confOK l) : CallOK Try.prog 78 [.c (rd k l.length (l.flatMap (GLeaf.ci k)))] (.c (pb (goodC l))) [.c (rd k l.length (l.flatMap (GLeaf.ci k)))] := by
  obtain ⟨hll, hlx⟩ := hl
  refine okS (fn := Try.f78) [] h0 Try.func78 (by kernel_rfl) rfl Try.ntmps78 Try.results78 (by simp) ?_
  simp
  refine loopS [0, 5, 6, 7] [] (fun n st => ∃ (i : Nat), i + n = l.length ∧ goodG (prevC l i) (l.drop i) = goodG none l ∧ st = ⟨slOf 51 [(0, .t (rd k l.length (l.flatMap (GLeaf.ci k)))), (5, .t (rd k l.length (l.flatMap (GLeaf.ci k)))), (6, .t (pi l.length)), (7, .t (pi i))], ofL []⟩) l.length ?_ ?_
  · rintro Inv hI
    simp
    subst hI
    exact ⟨0, by omega, rfl, rfl⟩
  · rintro Inv hI n st ⟨i, hi, hg, rfl⟩
    refine ewr_sound (M := []) h0 ?_
    simp
    refine brn_app (fun a => ?_) (fun a => ?_)
    · simp at a
      have hx := hlx l[i] (List.getElem_mem a)
      obtain ⟨⟨hx1, hx2⟩, hx3⟩ := hx
      rw [drop_step _ i a, goodG] at hg
      have hd := fm_drop (GLeaf.ci k) 2 (fun _ => rfl) l i a
      have hlen := fm_len (GLeaf.ci k) 2 (fun _ => rfl) l
      have hlt : i * 2 < l.length * 2 := by omega
      have en : prevC l (i + 1) = some l[i] := prevC_next l i a
      simp [a, hd, hlen, hlt]
      refine Inv_intro (ok_l15Path k l[i].Path hx1 hx2) ?_
      simp
      cases c1 : isP l[i].Path with
      | false =>
        have hk : okLeaf l[i] = false := by simp [okLeaf, c1]
        rw [hk, Bool.false_and, Bool.false_and] at hg
        simp [goodC, ← hg]
      | true =>
        simp
        refine Inv_intro (ok_l15Word l[i].Value hx3) ?_
        simp
        cases c2 : isW l[i].Value with
        | false =>
          have hk : okLeaf l[i] = false := by simp [okLeaf, c2]
          rw [hk, Bool.false_and, Bool.false_and] at hg
          simp [goodC, ← hg]
        | true =>
          have hk : okLeaf l[i] = true := by simp [okLeaf, c1, c2]
          rw [hk, Bool.true_and] at hg
          simp
          by_cases c0 : i = 0
          · have e0 : ¬ 0 < i := by omega
            have ep : prevC l i = none := by simp [prevC, c0]
            rw [ep, adjC, Bool.true_and] at hg
            refine drawP (tabEnv [] _) [⟨[], allD 51, true⟩, ⟨[], allD 51, true⟩, ⟨[], allD 51, true⟩, ⟨[], allD 51, true⟩, ⟨[], allD 51, true⟩, ⟨[], allD 51, true⟩, ⟨[], allD 51, true⟩, ⟨[], allD 51, true⟩, ⟨[], allD 51, true⟩, ⟨[.op 3 3 0], allD 51, true⟩, ⟨[.op 3 3 0], allD 51, true⟩, ⟨[], allD 51, false⟩, ⟨[], allD 51, true⟩, ⟨[], allD 51, true⟩, ⟨[], allD 51, true⟩, ⟨[], allD 51, true⟩, ⟨[], allD 51, true⟩, ⟨[], allD 51, true⟩, ⟨[], allD 51, true⟩, ⟨[], allD 51, true⟩, ⟨[.op 3 3 0], allD 51, true⟩, ⟨[.op 3 3 0], allD 51, true⟩, ⟨[], allD 51, false⟩, ⟨[], allD 51, true⟩, ⟨[], allD 51, true⟩] h0 hm (tabEnv_ok tab_nil) (by kernel_rfl) (by kernel_rfl) ?_
            simp [e0]
            subst hI
            exact Less_mk (n - 1) (by omega) ⟨i + 1, by omega, by rw [en]; exact hg, by rw [wrNext i (by omega)]⟩
          · obtain ⟨j, hj⟩ : ∃ j, i = j + 1 := ⟨i - 1, by omega⟩
            have aj : j < l.length := by omega
            have ep : prevC l i = some l[j] := by subst hj; exact prevC_next l j aj
            obtain ⟨⟨hy1, hy2⟩, hy3⟩ := hlx l[j] (List.getElem_mem aj)
            have hdj := fm_drop (GLeaf.ci k) 2 (fun _ => rfl) l j aj
            have hltj : j * 2 < l.length * 2 := by omega
            have hw : IntKind.wrap .i64 ((i : Int) - 1) = j := (wrap64 (by omega) (by omega)).trans (by omega)
            have e0 : 0 < i := by omega
            rw [ep, adjC] at hg
            refine drawP (tabEnv [] _) [⟨[], allD 51, true⟩, ⟨[], allD 51, true⟩, ⟨[], allD 51, true⟩, ⟨[], allD 51, true⟩, ⟨[], allD 51, true⟩, ⟨[], allD 51, true⟩, ⟨[], allD 51, true⟩, ⟨[], allD 51, true⟩, ⟨[], allD 51, true⟩, ⟨[.op 3 3 0], allD 51, true⟩, ⟨[.op 3 3 0], allD 51, true⟩, ⟨[], allD 51, false⟩, ⟨[], allD 51, true⟩, ⟨[], allD 51, true⟩, ⟨[], allD 51, true⟩, ⟨[], allD 51, true⟩, ⟨[], allD 51, true⟩, ⟨[], allD 51, true⟩, ⟨[], allD 51, true⟩, ⟨[], allD 51, true⟩, ⟨[.op 3 3 0], allD 51, true⟩, ⟨[.op 3 3 0], allD 51, true⟩, ⟨[], allD 51, false⟩, ⟨[], allD 51, true⟩, ⟨[], allD 51, true⟩] h0 hm (tabEnv_ok (tab_cons (ok_l15Less k k l[j].Path l[i].Path hy1 hx1) (tab_cons (ok_l15Begins k k l[j].Path l[i].Path hy1 hx1) tab_nil))) (by kernel_rfl) (by kernel_rfl) ?_
            cases c3 : lessP l[j].Path l[i].Path with
            | false =>
              rw [c3, Bool.false_and, Bool.false_and] at hg
              simp [c3, e0, hw, aj, hdj, hlen, hltj, goodC, ← hg]
            | true =>
              cases c4 : begP l[j].Path l[i].Path with
              | true =>
                rw [c3, c4] at hg
                have hg' : false = goodG none l := hg
                simp [c3, c4, e0, hw, aj, hdj, hlen, hltj, goodC, ← hg']
              | false =>
                rw [c3, c4] at hg
                have hg' : goodG (some l[i]) (l.drop (i + 1)) = goodG none l := hg
                simp [c3, c4, e0, hw, aj, hdj, hlen, hltj]
                subst hI
                exact Less_mk (n - 1) (by omega) ⟨i + 1, by omega, by rw [en]; exact hg', by rw [wrNext i (by omega)]⟩
    · simp at a
      rw [List.drop_of_length_le (by omega)] at hg
      have hg' : true = goodG none l := by rw [← hg]; cases prevC l i <;> rfl
      simp [goodC, ← hg']
      omega
end Go.V
