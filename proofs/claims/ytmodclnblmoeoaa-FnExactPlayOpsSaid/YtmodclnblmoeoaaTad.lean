/- What functions of the seat's program do, each proved of its code, under the bounds that its theorem names. -/
import Derived.Test.YtmodclnblmoeoaaTac
set_option linter.all false
namespace Go.V
open Go.Proofs
set_option maxHeartbeats 1000000
set_option maxRecDepth 10000
set_option linter.unusedSimpArgs false
set_option linter.unusedVariables false
theorem byteAt_list (s : ByteArray) (i : Nat) (h : i < s.size) : byteAt s i = ((s.data.toList[i]'(by simpa using h)).toNat : Int) := by
  unfold byteAt
  have : s[i]? = some s[i] := by simp [h]
  rw [this]
  rfl
def wb (c : Int) : Bool := decide (97 ≤ c ∧ c ≤ 122) || decide (48 ≤ c ∧ c ≤ 57) || decide (c = 45)
theorem ok_isWordByte (c : Int) : CallOK Try.prog 155 [.c (pu c)] (.c (pb (wb c))) [.c (pu c)] := by
  refine okS (fn := Try.f155) [] h0 Try.func155 (by kernel_rfl) rfl Try.ntmps155 Try.results155 (by simp) ?_
  simp
  refine gT (fun a => ?_) (fun a => ?_)
  · simp [a]
    refine gF (fun b => ?_) (fun b => ?_)
    · simp [b]
      refine gT (fun d => ?_) (fun d => ?_)
      · simp [d]
        refine gF (fun e => ?_) (fun e => ?_)
        · simp [e]
          simp only [decide_eq_true_eq, decide_eq_false_iff_not] at a b d e; simp [wb]; omega
        · simp [e]
          simp only [decide_eq_true_eq, decide_eq_false_iff_not] at a b d e; simp [wb]; omega
      · simp [d]
        simp only [decide_eq_true_eq, decide_eq_false_iff_not] at a b d; simp [wb]; omega
    · simp [b]
      simp only [decide_eq_true_eq, decide_eq_false_iff_not] at a b; simp [wb]; omega
  · simp [a]
    refine gT (fun d => ?_) (fun d => ?_)
    · simp [d]
      refine gF (fun e => ?_) (fun e => ?_)
      · simp [e]
        simp only [decide_eq_true_eq, decide_eq_false_iff_not] at a d e; simp [wb]; omega
      · simp [e]
        simp only [decide_eq_true_eq, decide_eq_false_iff_not] at a d e; simp [wb]; omega
    · simp [d]
      simp only [decide_eq_true_eq, decide_eq_false_iff_not] at a d; simp [wb]; omega
theorem ok_l15Byte (c : Int) : CallOK Try.prog 117 [.c (pu c)] (.c (pb (wb c))) [.c (pu c)] := by
  refine okS (fn := Try.f117) [] h0 Try.func117 (by kernel_rfl) rfl Try.ntmps117 Try.results117 (by simp) ?_
  simp
  refine gT (fun a => ?_) (fun a => ?_)
  · simp [a]
    refine gF (fun b => ?_) (fun b => ?_)
    · simp [b]
      refine gT (fun d => ?_) (fun d => ?_)
      · simp [d]
        refine gF (fun e => ?_) (fun e => ?_)
        · simp [e]
          simp only [decide_eq_true_eq, decide_eq_false_iff_not] at a b d e; simp [wb]; omega
        · simp [e]
          simp only [decide_eq_true_eq, decide_eq_false_iff_not] at a b d e; simp [wb]; omega
      · simp [d]
        simp only [decide_eq_true_eq, decide_eq_false_iff_not] at a b d; simp [wb]; omega
    · simp [b]
      simp only [decide_eq_true_eq, decide_eq_false_iff_not] at a b; simp [wb]; omega
  · simp [a]
    refine gT (fun d => ?_) (fun d => ?_)
    · simp [d]
      refine gF (fun e => ?_) (fun e => ?_)
      · simp [e]
        simp only [decide_eq_true_eq, decide_eq_false_iff_not] at a d e; simp [wb]; omega
      · simp [e]
        simp only [decide_eq_true_eq, decide_eq_false_iff_not] at a d e; simp [wb]; omega
    · simp [d]
      simp only [decide_eq_true_eq, decide_eq_false_iff_not] at a d; simp [wb]; omega

def wbs (s : ByteArray) (i : Nat) : Bool := wb (byteAt s i)
/-- How many bytes of words a text begins with. -/
def wlen (s : ByteArray) : Nat := (s.data.toList.takeWhile (fun b => wb b.toNat)).length
def wAll (s : ByteArray) : Bool := s.data.toList.all (fun b => wb b.toNat)
def isW (s : ByteArray) : Bool := decide ((1 : Int) ≤ s.size ∧ (s.size : Int) ≤ 8) && wAll s
def isP (p : List ByteArray) : Bool := decide ((1 : Int) ≤ p.length ∧ (p.length : Int) ≤ 5) && p.all isW
theorem wlen_drop (s : ByteArray) (i : Nat) (h : i < s.size) : (s.data.toList.drop i).takeWhile (fun b => wb b.toNat) = if wb (byteAt s i) = true then s.data.toList[i]'(by simpa using h) :: (s.data.toList.drop (i + 1)).takeWhile (fun b => wb b.toNat) else [] := by
  have hl : i < s.data.toList.length := by simpa using h
  rw [List.drop_eq_getElem_cons hl, List.takeWhile_cons, byteAt_list s i h]
theorem ok_wordAt (s : ByteArray) (hs : s.size ≤ 140737488355328) : CallOK Try.prog 121 [.c (ps s)] (.c (ps (s.extract 0 (wlen s)))) [.c (ps s)] := by
  refine okS (fn := Try.f121) [] h0 Try.func121 (by kernel_rfl) rfl Try.ntmps121 Try.results121 (by simp) ?_
  simp
  refine loopS [0, 3] [] (fun n st => ∃ (i : Nat), i + n = s.size ∧ i + ((s.data.toList.drop i).takeWhile (fun b => wb b.toNat)).length = wlen s ∧ st = ⟨slOf 19 [(0, .t (ps s)), (3, .t (pi i))], ofL []⟩) s.size ?_ ?_
  · rintro Inv hI
    simp
    subst hI
    exact ⟨0, by omega, by simp [wlen], rfl⟩
  · rintro Inv hI n st ⟨i, hi, hw, rfl⟩
    refine ewr_sound (M := []) h0 ?_
    simp
    refine gT (fun a => ?_) (fun a => ?_)
    · have a1 : i < s.size := by simpa using a
      simp [a, a1]
      rw [wlen_drop s i a1] at hw
      refine Inv_intro (ok_isWordByte _) ?_
      simp
      refine brn_app (fun b => ?_) (fun b => ?_)
      · simp
        rw [if_pos b, List.length_cons] at hw
        subst hI
        refine Less_mk (n - 1) (by omega) ⟨i + 1, by omega, by omega, by rw [wrNext i (by omega)]⟩
      · simp
        rw [if_neg (by simpa using b)] at hw
        have hw' : i = wlen s := hw
        subst hw'
        have hle : (wlen s : Int) ≤ s.size := by omega
        simp [hle]
    · simp [a]
      simp at a
      rw [List.drop_of_length_le (by simp; omega)] at hw
      have hw' : i = wlen s := hw
      subst hw'
      have hle : (wlen s : Int) ≤ s.size := by omega
      simp [hle]
def okLeaf (x : GLeaf) : Bool := isP x.Path && isW x.Value
def adjC (q : Option GLeaf) (x : GLeaf) : Bool := match q with
  | none => true
  | some q => lessP q.Path x.Path && !begP q.Path x.Path
def goodG : Option GLeaf → List GLeaf → Bool
  | _, [] => true
  | q, x :: xs => okLeaf x && adjC q x && goodG (some x) xs
def goodC (l : List GLeaf) : Bool := goodG none l && decide (l.length ≤ 30)
def prevC (l : List GLeaf) (i : Nat) : Option GLeaf := if i = 0 then none else l[i - 1]?
theorem prevC_next (l : List GLeaf) (i : Nat) (h : i < l.length) : prevC l (i + 1) = some l[i] := by simp [prevC, h]
def strsOK (p : List ByteArray) : Prop := p.length ≤ 140737488351232 ∧ ∀ s ∈ p, s.size ≤ 140737488355328
def leafOK (x : GLeaf) : Prop := strsOK x.Path ∧ x.Value.size ≤ 140737488355328
def confOK (l : List GLeaf) : Prop := l.length ≤ 140737488351232 ∧ ∀ x ∈ l, leafOK x
theorem ok_within (n lo hi : Int) : CallOK Try.prog 118 [.c (pi n), .c (pi lo), .c (pi hi)] (.c (pb (decide (lo ≤ n ∧ n ≤ hi)))) [.c (pi n), .c (pi lo), .c (pi hi)] := by
  refine okS (fn := Try.f118) [] h0 Try.func118 (by kernel_rfl) rfl Try.ntmps118 Try.results118 (by simp) ?_
  simp
  refine gT (fun h => ?_) (fun h => ?_) <;> simp [h]
/-- Where a condition holds first, or -1. -/
def idxOf {α : Type} (p : α → Bool) (xs : List α) : Int := match xs.findIdx? p with | some i => i | none => -1
theorem idxOf_hit {α : Type} (p : α → Bool) (xs : List α) (i : Nat) (h : i < xs.length) (hp : p xs[i] = true) (hall : ∀ (j : Nat) (hj : j < i), p (xs[j]'(by omega)) = false) : idxOf p xs = i := by
  unfold idxOf
  rw [(List.findIdx?_eq_some_iff_getElem (i := i)).2 ⟨h, hp, fun j hj => by simp [hall j hj]⟩]
theorem idxOf_no {α : Type} (p : α → Bool) (xs : List α) (hall : ∀ (j : Nat) (hj : j < xs.length), p xs[j] = false) : idxOf p xs = -1 := by
  unfold idxOf
  rw [List.findIdx?_eq_none_iff.2 (fun s hs => by
    obtain ⟨j, hj, rfl⟩ := List.getElem_of_mem hs
    simp [hall j hj])]
theorem idxOf_any {α : Type} (p : α → Bool) (xs : List α) : decide (0 ≤ idxOf p xs) = xs.any p := by
  unfold idxOf
  cases h : xs.findIdx? p with
  | none =>
    rw [List.findIdx?_eq_none_iff] at h
    simp
    exact fun x hx => by simpa using h x hx
  | some i =>
    rw [List.findIdx?_eq_some_iff_getElem] at h
    obtain ⟨h1, h2, _⟩ := h
    simp
    exact ⟨_, List.getElem_mem h1, h2⟩
theorem ok_IndexFunc_String (k q g : Nat) (caps : List (List PT)) (p : ByteArray → Bool) (xs : List ByteArray) (ha : xs.length ≤ 140737488351232)
    (hg : ∀ x ∈ xs, CallOK Try.prog g (.c (ps x) :: caps.map (PV.ip q)) (.c (pb (p x))) (.c (ps x) :: caps.map (PV.ip q))) :
    CallOK Try.prog 154 [.c (rd k xs.length (xs.map ps)), .c (.fn q g caps)] (.c (pi (idxOf p xs))) [.c (rd k xs.length (xs.map ps)), .c (.fn q g caps)] := by
  refine okS (fn := Try.f154) [] h0 Try.func154 (by kernel_rfl) rfl Try.ntmps154 Try.results154 (by simp) ?_
  simp
  refine loopS [0, 1, 7, 8] [] (fun n st => ∃ (i : Nat), i + n = xs.length ∧ (∀ (j : Nat) (hj : j < i) (hj' : j < xs.length), p xs[j] = false) ∧ st = ⟨slOf 19 [(0, .t (rd k xs.length (xs.map ps))), (1, .t (.fn q g caps)), (7, .t (pi xs.length)), (8, .t (pi i))], ofL []⟩) xs.length ?_ ?_
  · rintro Inv hI
    simp
    subst hI
    exact ⟨0, by omega, by intro j hj; omega, rfl⟩
  · rintro Inv hI n st ⟨i, hi, hall, rfl⟩
    refine ewr_sound (M := []) h0 ?_
    simp
    refine brn_app (fun h => ?_) (fun h => ?_)
    · simp at h
      simp [h]
      refine Inv_intro (hg _ (List.getElem_mem h)) ?_
      simp
      refine brn_app (fun h2 => ?_) (fun h2 => ?_)
      · simp
        exact (idxOf_hit p xs i h h2 fun j hj => hall j hj (by omega)).symm
      · simp
        subst hI
        refine Less_mk (n - 1) (by omega) ⟨i + 1, by omega, ?_, by rw [wrNext i (by omega)]⟩
        intro j hj hj'
        by_cases hji : j = i
        · subst hji; exact h2
        · exact hall j (by omega) hj'
    · simp at h
      simp
      exact (idxOf_no p xs fun j hj => hall j (by omega) hj).symm
theorem ok_ContainsFunc_String (k q g : Nat) (caps : List (List PT)) (p : ByteArray → Bool) (xs : List ByteArray) (ha : xs.length ≤ 140737488351232)
    (hg : ∀ x ∈ xs, CallOK Try.prog g (.c (ps x) :: caps.map (PV.ip q)) (.c (pb (p x))) (.c (ps x) :: caps.map (PV.ip q))) :
    CallOK Try.prog 119 [.c (rd k xs.length (xs.map ps)), .c (.fn q g caps)] (.c (pb (xs.any p))) [.c (rd k xs.length (xs.map ps)), .c (.fn q g caps)] := by
  refine okS (fn := Try.f119) [] h0 Try.func119 (by kernel_rfl) rfl Try.ntmps119 Try.results119 (by simp) ?_
  simp
  refine Inv_intro (ok_IndexFunc_String k q g caps p xs ha hg) ?_
  simp [idxOf_any]
theorem any_not {α : Type} (p : α → Bool) (xs : List α) : xs.any (fun x => !p x) = !xs.all p := by
  induction xs with
  | nil => rfl
  | cons x xs ih => simp [ih]
theorem ok_l1In (n lo hi : Int) : CallOK Try.prog 116 [.c (pi n), .c (pi lo), .c (pi hi)] (.c (pb (decide (lo ≤ n ∧ n ≤ hi)))) [.c (pi n), .c (pi lo), .c (pi hi)] := by
  refine okS (fn := Try.f116) [] h0 Try.func116 (by kernel_rfl) rfl Try.ntmps116 Try.results116 (by simp) ?_
  simp
  refine gT (fun h => ?_) (fun h => ?_) <;> simp [h]
theorem wlen_le (s : ByteArray) : wlen s ≤ s.size := by
  unfold wlen
  have := List.Sublist.length_le (List.takeWhile_sublist (fun b : UInt8 => wb b.toNat) (l := s.data.toList))
  simpa using this
theorem tw_all {α : Type} (p : α → Bool) : ∀ l : List α, ((l.takeWhile p).length = l.length) = (l.all p = true)
  | [] => by simp
  | x :: l => by
    rw [List.takeWhile_cons, List.all_cons]
    cases h : p x with
    | true => simpa using tw_all p l
    | false => simp
theorem word_all (s : ByteArray) : decide (s.extract 0 (wlen s) = s) = wAll s := by
  have h := wlen_le s
  have hA := tw_all (fun b : UInt8 => wb b.toNat) s.data.toList
  have hl : s.data.toList.length = s.size := by simp
  rw [hl] at hA
  have hB : (s.extract 0 (wlen s) = s) = (wlen s = s.size) := by
    apply propext
    constructor
    · intro e
      have := congrArg ByteArray.size e
      simp at this
      omega
    · intro e
      rw [e]
      exact ext_all s
  rw [Bool.eq_iff_iff, decide_eq_true_eq, hB, wAll, ← hA]
  rfl
theorem ok_isWord (s : ByteArray) (hs : s.size ≤ 140737488355328) : CallOK Try.prog 75 [.c (ps s)] (.c (pb (isW s))) [.c (ps s)] := by
  refine okS (fn := Try.f75) [] h0 Try.func75 (by kernel_rfl) rfl Try.ntmps75 Try.results75 (by simp) ?_
  simp
  refine Inv_intro (ok_within _ _ _) ?_
  simp
  refine gT (fun a => ?_) (fun a => ?_)
  · simp [a]
    refine Inv_intro (ok_wordAt s hs) ?_
    simp [isW, word_all, a]
  · simp [a, isW]
theorem ok_areWords1 (s : ByteArray) (hs : s.size ≤ 140737488355328) : CallOK Try.prog 120 [.c (ps s)] (.c (pb (!isW s))) [.c (ps s)] := by
  refine okS (fn := Try.f120) [] h0 Try.func120 (by kernel_rfl) rfl Try.ntmps120 Try.results120 (by simp) ?_
  simp
  refine Inv_intro (ok_isWord s hs) ?_
  simp
theorem ok_areWords (k : Nat) (p : List ByteArray) (hl : p.length ≤ 140737488351232) (hs : ∀ s ∈ p, s.size ≤ 140737488355328) : CallOK Try.prog 74 [.c (rd k p.length (p.map ps))] (.c (pb (isP p))) [.c (rd k p.length (p.map ps))] := by
  refine okS (fn := Try.f74) [] h0 Try.func74 (by kernel_rfl) rfl Try.ntmps74 Try.results74 (by simp) ?_
  simp
  refine Inv_intro (ok_within _ _ _) ?_
  simp
  refine gT (fun a => ?_) (fun a => ?_)
  · simp [a]
    refine Inv_intro (ok_ContainsFunc_String k 0 120 [] (fun s => !isW s) p hl fun x hx => ok_areWords1 x (hs x hx)) ?_
    simp [isP, any_not, a]
  · simp [a, isP]
theorem ok_l15Word (s : ByteArray) (hs : s.size ≤ 140737488355328) : CallOK Try.prog 73 [.c (ps s)] (.c (pb (isW s))) [.c (ps s)] := by
  refine okS (fn := Try.f73) [] h0 Try.func73 (by kernel_rfl) rfl Try.ntmps73 Try.results73 (by simp) ?_
  simp
  refine loopS [0, 3] [] (fun n st => ∃ (i : Nat), i + n = s.size ∧ (s.data.toList.drop i).all (fun b => wb b.toNat) = wAll s ∧ st = ⟨slOf 18 [(0, .t (ps s)), (3, .t (pi i))], ofL []⟩) s.size ?_ ?_
  · rintro Inv hI
    simp
    subst hI
    exact ⟨0, by omega, rfl, rfl⟩
  · rintro Inv hI n st ⟨i, hi, hw, rfl⟩
    refine ewr_sound (M := []) h0 ?_
    simp
    refine brn_app (fun a => ?_) (fun a => ?_)
    · simp at a
      have hl : i < s.data.toList.length := by simpa using a
      rw [List.drop_eq_getElem_cons hl, List.all_cons] at hw
      rw [← byteAt_list s i a] at hw
      simp [a]
      refine Inv_intro (ok_l15Byte _) ?_
      simp
      refine brn_app (fun b => ?_) (fun b => ?_)
      · simp at b
        rw [b, Bool.false_and] at hw
        simp [isW, ← hw]
      · simp at b
        rw [b, Bool.true_and] at hw
        simp
        subst hI
        exact Less_mk (n - 1) (by omega) ⟨i + 1, by omega, hw, by rw [wrNext i (by omega)]⟩
    · simp at a
      rw [List.drop_of_length_le (by simp; omega), List.all_nil] at hw
      simp
      refine Inv_intro (ok_l1In _ _ _) ?_
      simp [isW, ← hw]
theorem ok_l15Path (k : Nat) (p : List ByteArray) (hl : p.length ≤ 140737488351232) (hs : ∀ s ∈ p, s.size ≤ 140737488355328) : CallOK Try.prog 72 [.c (rd k p.length (p.map ps))] (.c (pb (isP p))) [.c (rd k p.length (p.map ps))] := by
  refine okS (fn := Try.f72) [] h0 Try.func72 (by kernel_rfl) rfl Try.ntmps72 Try.results72 (by simp) ?_
  simp
  refine loopS [0, 5, 6, 7] [] (fun n st => ∃ (i : Nat), i + n = p.length ∧ (p.drop i).all isW = p.all isW ∧ st = ⟨slOf 18 [(0, .t (rd k p.length (p.map ps))), (5, .t (rd k p.length (p.map ps))), (6, .t (pi p.length)), (7, .t (pi i))], ofL []⟩) p.length ?_ ?_
  · rintro Inv hI
    simp
    subst hI
    exact ⟨0, by omega, rfl, rfl⟩
  · rintro Inv hI n st ⟨i, hi, hw, rfl⟩
    refine ewr_sound (M := []) h0 ?_
    simp
    refine brn_app (fun a => ?_) (fun a => ?_)
    · simp at a
      rw [drop_step _ i a, List.all_cons] at hw
      simp [a]
      refine Inv_intro (ok_l15Word _ (hs _ (List.getElem_mem a))) ?_
      simp
      refine brn_app (fun b => ?_) (fun b => ?_)
      · simp at b
        rw [b, Bool.false_and] at hw
        simp [isP, ← hw]
      · simp at b
        rw [b, Bool.true_and] at hw
        simp
        subst hI
        exact Less_mk (n - 1) (by omega) ⟨i + 1, by omega, hw, by rw [wrNext i (by omega)]⟩
    · simp at a
      rw [List.drop_of_length_le (by omega), List.all_nil] at hw
      simp
      refine Inv_intro (ok_l1In _ _ _) ?_
      simp [isP, ← hw]
def isOpB (o : GOp) : Bool := decide (1 ≤ o.Kind ∧ o.Kind ≤ 8) && (decide (o.Kind = 1 ∨ o.Kind = 2) || decide (o.Path.length = 0)) && (decide (o.Kind = 1) || decide (o.Value = ⟨#[]⟩)) && (decide (o.Kind = 4 ∨ o.Kind = 6) || decide (o.N = 0))
theorem ok_isOp (k : Nat) (o : GOp) : CallOK Try.prog 149 [.agg (GOp.ci k o)] (.c (pb (isOpB o))) [.agg (GOp.ci k o)] := by
  refine okS (fn := Try.f149) [] h0 Try.func149 (by kernel_rfl) rfl Try.ntmps149 Try.results149 (by simp) ?_
  simp
  by_cases k1 : o.Kind = 1
  · simp [k1]
    refine Inv_intro (ok_within 1 1 8) ?_
    simp [isOpB, k1]
  · by_cases k2 : o.Kind = 2
    · simp [k1, k2]
      refine Inv_intro (ok_within 2 1 8) ?_
      by_cases hv : o.Value = ⟨#[]⟩
      · simp [isOpB, k2, hv]
      · simp [isOpB, k2, hv]
    · have hw := ok_within o.Kind 1 8
      by_cases k4 : o.Kind = 4
      · simp [k1, k2, k4]
        refine Inv_intro (ok_within 4 1 8) ?_
        by_cases hp : o.Path = []
        · by_cases hv : o.Value = ⟨#[]⟩
          · simp [isOpB, k4, hp, hv]
          · simp [isOpB, k4, hp, hv]
        · simp [isOpB, k4, hp]
      · by_cases k6 : o.Kind = 6
        · simp [k1, k2, k4, k6]
          refine Inv_intro (ok_within 6 1 8) ?_
          by_cases hp : o.Path = []
          · by_cases hv : o.Value = ⟨#[]⟩
            · simp [isOpB, k6, hp, hv]
            · simp [isOpB, k6, hp, hv]
          · simp [isOpB, k6, hp]
        · simp [k1, k2, k4, k6]
          refine Inv_intro hw ?_
          by_cases hk : 1 ≤ o.Kind ∧ o.Kind ≤ 8
          · by_cases hp : o.Path = []
            · by_cases hv : o.Value = ⟨#[]⟩
              · simp [isOpB, k1, k2, k4, k6, hp, hv, hk]
              · simp [isOpB, k1, k2, k4, k6, hp, hv, hk]
            · simp [isOpB, k1, k2, k4, k6, hp, hk]
          · simp [isOpB, k1, k2, k4, k6, hk]
def opOK (o : GOp) : Prop := strsOK o.Path ∧ o.Path.length ≤ 1048576 ∧ o.Value.size ≤ 140737488355328
def textB (o : GOp) : Bool := decide (o.Path.length = 0) && decide (o.Value = ⟨#[]⟩)
def l16OpB (o : GOp) : Bool :=
  if o.Kind = 1 then decide (o.N = 0) && isP o.Path && isW o.Value
  else if o.Kind = 2 then decide (o.N = 0) && isP o.Path && decide (o.Value = ⟨#[]⟩)
  else if o.Kind = 4 then textB o && decide (1 ≤ o.N ∧ o.N ≤ 100)
  else if o.Kind = 6 then textB o && decide (0 ≤ o.N ∧ o.N ≤ 9)
  else if o.Kind = 3 ∨ o.Kind = 5 ∨ o.Kind = 7 ∨ o.Kind = 8 then textB o && decide (o.N = 0)
  else false
theorem ok_l16Op (k : Nat) (o : GOp) (ho : opOK o) : CallOK Try.prog 147 [.agg (GOp.ci k o)] (.c (pb (l16OpB o))) [.agg (GOp.ci k o)] := by
  obtain ⟨o1, o2, o3⟩ := ho
  refine okS (fn := Try.f147) [] h0 Try.func147 (by kernel_rfl) rfl Try.ntmps147 Try.results147 (by simp) ?_
  by_cases hp : o.Path = []
  · by_cases hv : o.Value = ⟨#[]⟩
    · by_cases hn : o.N = 0
      · have ht : textB o = true := by simp [textB, hp, hv]
        by_cases k1 : o.Kind = 1
        · have e : l16OpB o = (decide (o.N = 0) && isP o.Path && isW o.Value) := by simp [l16OpB, k1]
          rw [e]
          simp [k1, hp, hv, hn]
          refine Inv_intro (ok_l15Path k [] (by simp) (by simp)) ?_
          simp [isP]
        · by_cases k2 : o.Kind = 2
          · have e : l16OpB o = (decide (o.N = 0) && isP o.Path && decide (o.Value = ⟨#[]⟩)) := by simp [l16OpB, k1, k2]
            rw [e]
            simp [k1, k2, hp, hv, hn]
            refine Inv_intro (ok_l15Path k [] (by simp) (by simp)) ?_
            simp [isP]
          · by_cases k4 : o.Kind = 4
            · have e : l16OpB o = (textB o && decide (1 ≤ o.N ∧ o.N ≤ 100)) := by simp [l16OpB, k1, k2, k4]
              rw [e]
              simp [k1, k2, k4, hp, hv, hn, ht]
              refine Inv_intro (ok_l1In 0 1 100) ?_
              simp
            · by_cases k6 : o.Kind = 6
              · have e : l16OpB o = (textB o && decide (0 ≤ o.N ∧ o.N ≤ 9)) := by simp [l16OpB, k1, k2, k4, k6]
                rw [e]
                simp [k1, k2, k4, k6, hp, hv, hn, ht]
                refine Inv_intro (ok_l1In 0 0 9) ?_
                simp
              · by_cases k3 : o.Kind = 3
                · have e : l16OpB o = (textB o && decide (o.N = 0)) := by simp [l16OpB, k1, k2, k4, k6, k3]
                  rw [e]
                  simp [k1, k2, k4, k6, k3, hp, hv, hn, ht]
                · by_cases k5 : o.Kind = 5
                  · have e : l16OpB o = (textB o && decide (o.N = 0)) := by simp [l16OpB, k1, k2, k4, k6, k3, k5]
                    rw [e]
                    simp [k1, k2, k4, k6, k3, k5, hp, hv, hn, ht]
                  · by_cases k7 : o.Kind = 7
                    · have e : l16OpB o = (textB o && decide (o.N = 0)) := by simp [l16OpB, k1, k2, k4, k6, k3, k5, k7]
                      rw [e]
                      simp [k1, k2, k4, k6, k3, k5, k7, hp, hv, hn, ht]
                    · by_cases k8 : o.Kind = 8
                      · have e : l16OpB o = (textB o && decide (o.N = 0)) := by simp [l16OpB, k1, k2, k4, k6, k3, k5, k7, k8]
                        rw [e]
                        simp [k1, k2, k4, k6, k3, k5, k7, k8, hp, hv, hn, ht]
                      · have e : l16OpB o = false := by simp [l16OpB, k1, k2, k4, k6, k3, k5, k7, k8]
                        rw [e]
                        simp [k1, k2, k4, k6, k3, k5, k7, k8, hp, hv, hn]
      · have ht : textB o = true := by simp [textB, hp, hv]
        by_cases k1 : o.Kind = 1
        · have e : l16OpB o = (decide (o.N = 0) && isP o.Path && isW o.Value) := by simp [l16OpB, k1]
          rw [e]
          simp [k1, hp, hv, hn]
        · by_cases k2 : o.Kind = 2
          · have e : l16OpB o = (decide (o.N = 0) && isP o.Path && decide (o.Value = ⟨#[]⟩)) := by simp [l16OpB, k1, k2]
            rw [e]
            simp [k1, k2, hp, hv, hn]
          · by_cases k4 : o.Kind = 4
            · have e : l16OpB o = (textB o && decide (1 ≤ o.N ∧ o.N ≤ 100)) := by simp [l16OpB, k1, k2, k4]
              rw [e]
              simp [k1, k2, k4, hp, hv, hn, ht]
              refine Inv_intro (ok_l1In o.N 1 100) ?_
              simp
            · by_cases k6 : o.Kind = 6
              · have e : l16OpB o = (textB o && decide (0 ≤ o.N ∧ o.N ≤ 9)) := by simp [l16OpB, k1, k2, k4, k6]
                rw [e]
                simp [k1, k2, k4, k6, hp, hv, hn, ht]
                refine Inv_intro (ok_l1In o.N 0 9) ?_
                simp
              · by_cases k3 : o.Kind = 3
                · have e : l16OpB o = (textB o && decide (o.N = 0)) := by simp [l16OpB, k1, k2, k4, k6, k3]
                  rw [e]
                  simp [k1, k2, k4, k6, k3, hp, hv, hn, ht]
                · by_cases k5 : o.Kind = 5
                  · have e : l16OpB o = (textB o && decide (o.N = 0)) := by simp [l16OpB, k1, k2, k4, k6, k3, k5]
                    rw [e]
                    simp [k1, k2, k4, k6, k3, k5, hp, hv, hn, ht]
                  · by_cases k7 : o.Kind = 7
                    · have e : l16OpB o = (textB o && decide (o.N = 0)) := by simp [l16OpB, k1, k2, k4, k6, k3, k5, k7]
                      rw [e]
                      simp [k1, k2, k4, k6, k3, k5, k7, hp, hv, hn, ht]
                    · by_cases k8 : o.Kind = 8
                      · have e : l16OpB o = (textB o && decide (o.N = 0)) := by simp [l16OpB, k1, k2, k4, k6, k3, k5, k7, k8]
                        rw [e]
                        simp [k1, k2, k4, k6, k3, k5, k7, k8, hp, hv, hn, ht]
                      · have e : l16OpB o = false := by simp [l16OpB, k1, k2, k4, k6, k3, k5, k7, k8]
                        rw [e]
                        simp [k1, k2, k4, k6, k3, k5, k7, k8, hp, hv, hn]
    · by_cases hn : o.N = 0
      · have ht : textB o = false := by simp [textB, hv]
        by_cases k1 : o.Kind = 1
        · have e : l16OpB o = (decide (o.N = 0) && isP o.Path && isW o.Value) := by simp [l16OpB, k1]
          rw [e]
          simp [k1, hp, hv, hn]
          refine Inv_intro (ok_l15Path k [] (by simp) (by simp)) ?_
          simp [isP]
        · by_cases k2 : o.Kind = 2
          · have e : l16OpB o = (decide (o.N = 0) && isP o.Path && decide (o.Value = ⟨#[]⟩)) := by simp [l16OpB, k1, k2]
            rw [e]
            simp [k1, k2, hp, hv, hn]
            refine Inv_intro (ok_l15Path k [] (by simp) (by simp)) ?_
            simp [isP]
          · by_cases k4 : o.Kind = 4
            · have e : l16OpB o = (textB o && decide (1 ≤ o.N ∧ o.N ≤ 100)) := by simp [l16OpB, k1, k2, k4]
              rw [e]
              simp [k1, k2, k4, hp, hv, hn, ht]
            · by_cases k6 : o.Kind = 6
              · have e : l16OpB o = (textB o && decide (0 ≤ o.N ∧ o.N ≤ 9)) := by simp [l16OpB, k1, k2, k4, k6]
                rw [e]
                simp [k1, k2, k4, k6, hp, hv, hn, ht]
              · by_cases k3 : o.Kind = 3
                · have e : l16OpB o = (textB o && decide (o.N = 0)) := by simp [l16OpB, k1, k2, k4, k6, k3]
                  rw [e]
                  simp [k1, k2, k4, k6, k3, hp, hv, hn, ht]
                · by_cases k5 : o.Kind = 5
                  · have e : l16OpB o = (textB o && decide (o.N = 0)) := by simp [l16OpB, k1, k2, k4, k6, k3, k5]
                    rw [e]
                    simp [k1, k2, k4, k6, k3, k5, hp, hv, hn, ht]
                  · by_cases k7 : o.Kind = 7
                    · have e : l16OpB o = (textB o && decide (o.N = 0)) := by simp [l16OpB, k1, k2, k4, k6, k3, k5, k7]
                      rw [e]
                      simp [k1, k2, k4, k6, k3, k5, k7, hp, hv, hn, ht]
                    · by_cases k8 : o.Kind = 8
                      · have e : l16OpB o = (textB o && decide (o.N = 0)) := by simp [l16OpB, k1, k2, k4, k6, k3, k5, k7, k8]
                        rw [e]
                        simp [k1, k2, k4, k6, k3, k5, k7, k8, hp, hv, hn, ht]
                      · have e : l16OpB o = false := by simp [l16OpB, k1, k2, k4, k6, k3, k5, k7, k8]
                        rw [e]
                        simp [k1, k2, k4, k6, k3, k5, k7, k8, hp, hv, hn]
      · have ht : textB o = false := by simp [textB, hv]
        by_cases k1 : o.Kind = 1
        · have e : l16OpB o = (decide (o.N = 0) && isP o.Path && isW o.Value) := by simp [l16OpB, k1]
          rw [e]
          simp [k1, hp, hv, hn]
        · by_cases k2 : o.Kind = 2
          · have e : l16OpB o = (decide (o.N = 0) && isP o.Path && decide (o.Value = ⟨#[]⟩)) := by simp [l16OpB, k1, k2]
            rw [e]
            simp [k1, k2, hp, hv, hn]
          · by_cases k4 : o.Kind = 4
            · have e : l16OpB o = (textB o && decide (1 ≤ o.N ∧ o.N ≤ 100)) := by simp [l16OpB, k1, k2, k4]
              rw [e]
              simp [k1, k2, k4, hp, hv, hn, ht]
            · by_cases k6 : o.Kind = 6
              · have e : l16OpB o = (textB o && decide (0 ≤ o.N ∧ o.N ≤ 9)) := by simp [l16OpB, k1, k2, k4, k6]
                rw [e]
                simp [k1, k2, k4, k6, hp, hv, hn, ht]
              · by_cases k3 : o.Kind = 3
                · have e : l16OpB o = (textB o && decide (o.N = 0)) := by simp [l16OpB, k1, k2, k4, k6, k3]
                  rw [e]
                  simp [k1, k2, k4, k6, k3, hp, hv, hn, ht]
                · by_cases k5 : o.Kind = 5
                  · have e : l16OpB o = (textB o && decide (o.N = 0)) := by simp [l16OpB, k1, k2, k4, k6, k3, k5]
                    rw [e]
                    simp [k1, k2, k4, k6, k3, k5, hp, hv, hn, ht]
                  · by_cases k7 : o.Kind = 7
                    · have e : l16OpB o = (textB o && decide (o.N = 0)) := by simp [l16OpB, k1, k2, k4, k6, k3, k5, k7]
                      rw [e]
                      simp [k1, k2, k4, k6, k3, k5, k7, hp, hv, hn, ht]
                    · by_cases k8 : o.Kind = 8
                      · have e : l16OpB o = (textB o && decide (o.N = 0)) := by simp [l16OpB, k1, k2, k4, k6, k3, k5, k7, k8]
                        rw [e]
                        simp [k1, k2, k4, k6, k3, k5, k7, k8, hp, hv, hn, ht]
                      · have e : l16OpB o = false := by simp [l16OpB, k1, k2, k4, k6, k3, k5, k7, k8]
                        rw [e]
                        simp [k1, k2, k4, k6, k3, k5, k7, k8, hp, hv, hn]
  · have ht : textB o = false := by simp [textB, hp]
    by_cases hn : o.N = 0
    · by_cases hv : o.Value = ⟨#[]⟩
      · have _h := hn
        by_cases k1 : o.Kind = 1
        · have e : l16OpB o = (decide (o.N = 0) && isP o.Path && isW o.Value) := by simp [l16OpB, k1]
          rw [e]
          simp [k1, hp, hv, hn]
          refine Inv_intro (ok_l15Path k o.Path o1.1 o1.2) ?_
          cases c2 : isP o.Path with
          | false => simp
          | true =>
            simp
            refine Inv_intro (ok_l15Word ⟨#[]⟩ (by first | exact o3 | (rw [← hv]; exact o3))) ?_
            simp
        · by_cases k2 : o.Kind = 2
          · have e : l16OpB o = (decide (o.N = 0) && isP o.Path && decide (o.Value = ⟨#[]⟩)) := by simp [l16OpB, k1, k2]
            rw [e]
            simp [k1, k2, hp, hv, hn]
            refine Inv_intro (ok_l15Path k o.Path o1.1 o1.2) ?_
            cases c2 : isP o.Path with
            | false => simp
            | true => simp [hv]
          · by_cases k4 : o.Kind = 4
            · have e : l16OpB o = (textB o && decide (1 ≤ o.N ∧ o.N ≤ 100)) := by simp [l16OpB, k1, k2, k4]
              rw [e]
              simp [k1, k2, k4, hp, hv, hn, ht]
            · by_cases k6 : o.Kind = 6
              · have e : l16OpB o = (textB o && decide (0 ≤ o.N ∧ o.N ≤ 9)) := by simp [l16OpB, k1, k2, k4, k6]
                rw [e]
                simp [k1, k2, k4, k6, hp, hv, hn, ht]
              · by_cases k3 : o.Kind = 3
                · have e : l16OpB o = (textB o && decide (o.N = 0)) := by simp [l16OpB, k1, k2, k4, k6, k3]
                  rw [e]
                  simp [k1, k2, k4, k6, k3, hp, hv, hn, ht]
                · by_cases k5 : o.Kind = 5
                  · have e : l16OpB o = (textB o && decide (o.N = 0)) := by simp [l16OpB, k1, k2, k4, k6, k3, k5]
                    rw [e]
                    simp [k1, k2, k4, k6, k3, k5, hp, hv, hn, ht]
                  · by_cases k7 : o.Kind = 7
                    · have e : l16OpB o = (textB o && decide (o.N = 0)) := by simp [l16OpB, k1, k2, k4, k6, k3, k5, k7]
                      rw [e]
                      simp [k1, k2, k4, k6, k3, k5, k7, hp, hv, hn, ht]
                    · by_cases k8 : o.Kind = 8
                      · have e : l16OpB o = (textB o && decide (o.N = 0)) := by simp [l16OpB, k1, k2, k4, k6, k3, k5, k7, k8]
                        rw [e]
                        simp [k1, k2, k4, k6, k3, k5, k7, k8, hp, hv, hn, ht]
                      · have e : l16OpB o = false := by simp [l16OpB, k1, k2, k4, k6, k3, k5, k7, k8]
                        rw [e]
                        simp [k1, k2, k4, k6, k3, k5, k7, k8, hp, hv, hn]
      · have _h := hn
        by_cases k1 : o.Kind = 1
        · have e : l16OpB o = (decide (o.N = 0) && isP o.Path && isW o.Value) := by simp [l16OpB, k1]
          rw [e]
          simp [k1, hp, hv, hn]
          refine Inv_intro (ok_l15Path k o.Path o1.1 o1.2) ?_
          cases c2 : isP o.Path with
          | false => simp
          | true =>
            simp
            refine Inv_intro (ok_l15Word o.Value (by first | exact o3 | (rw [← hv]; exact o3))) ?_
            simp
        · by_cases k2 : o.Kind = 2
          · have e : l16OpB o = (decide (o.N = 0) && isP o.Path && decide (o.Value = ⟨#[]⟩)) := by simp [l16OpB, k1, k2]
            rw [e]
            simp [k1, k2, hp, hv, hn]
            refine Inv_intro (ok_l15Path k o.Path o1.1 o1.2) ?_
            cases c2 : isP o.Path with
            | false => simp
            | true => simp [hv]
          · by_cases k4 : o.Kind = 4
            · have e : l16OpB o = (textB o && decide (1 ≤ o.N ∧ o.N ≤ 100)) := by simp [l16OpB, k1, k2, k4]
              rw [e]
              simp [k1, k2, k4, hp, hv, hn, ht]
            · by_cases k6 : o.Kind = 6
              · have e : l16OpB o = (textB o && decide (0 ≤ o.N ∧ o.N ≤ 9)) := by simp [l16OpB, k1, k2, k4, k6]
                rw [e]
                simp [k1, k2, k4, k6, hp, hv, hn, ht]
              · by_cases k3 : o.Kind = 3
                · have e : l16OpB o = (textB o && decide (o.N = 0)) := by simp [l16OpB, k1, k2, k4, k6, k3]
                  rw [e]
                  simp [k1, k2, k4, k6, k3, hp, hv, hn, ht]
                · by_cases k5 : o.Kind = 5
                  · have e : l16OpB o = (textB o && decide (o.N = 0)) := by simp [l16OpB, k1, k2, k4, k6, k3, k5]
                    rw [e]
                    simp [k1, k2, k4, k6, k3, k5, hp, hv, hn, ht]
                  · by_cases k7 : o.Kind = 7
                    · have e : l16OpB o = (textB o && decide (o.N = 0)) := by simp [l16OpB, k1, k2, k4, k6, k3, k5, k7]
                      rw [e]
                      simp [k1, k2, k4, k6, k3, k5, k7, hp, hv, hn, ht]
                    · by_cases k8 : o.Kind = 8
                      · have e : l16OpB o = (textB o && decide (o.N = 0)) := by simp [l16OpB, k1, k2, k4, k6, k3, k5, k7, k8]
                        rw [e]
                        simp [k1, k2, k4, k6, k3, k5, k7, k8, hp, hv, hn, ht]
                      · have e : l16OpB o = false := by simp [l16OpB, k1, k2, k4, k6, k3, k5, k7, k8]
                        rw [e]
                        simp [k1, k2, k4, k6, k3, k5, k7, k8, hp, hv, hn]
    · by_cases hv : o.Value = ⟨#[]⟩
      · have _h := hn
        by_cases k1 : o.Kind = 1
        · have e : l16OpB o = (decide (o.N = 0) && isP o.Path && isW o.Value) := by simp [l16OpB, k1]
          rw [e]
          simp [k1, hp, hv, hn]
        · by_cases k2 : o.Kind = 2
          · have e : l16OpB o = (decide (o.N = 0) && isP o.Path && decide (o.Value = ⟨#[]⟩)) := by simp [l16OpB, k1, k2]
            rw [e]
            simp [k1, k2, hp, hv, hn]
          · by_cases k4 : o.Kind = 4
            · have e : l16OpB o = (textB o && decide (1 ≤ o.N ∧ o.N ≤ 100)) := by simp [l16OpB, k1, k2, k4]
              rw [e]
              simp [k1, k2, k4, hp, hv, hn, ht]
            · by_cases k6 : o.Kind = 6
              · have e : l16OpB o = (textB o && decide (0 ≤ o.N ∧ o.N ≤ 9)) := by simp [l16OpB, k1, k2, k4, k6]
                rw [e]
                simp [k1, k2, k4, k6, hp, hv, hn, ht]
              · by_cases k3 : o.Kind = 3
                · have e : l16OpB o = (textB o && decide (o.N = 0)) := by simp [l16OpB, k1, k2, k4, k6, k3]
                  rw [e]
                  simp [k1, k2, k4, k6, k3, hp, hv, hn, ht]
                · by_cases k5 : o.Kind = 5
                  · have e : l16OpB o = (textB o && decide (o.N = 0)) := by simp [l16OpB, k1, k2, k4, k6, k3, k5]
                    rw [e]
                    simp [k1, k2, k4, k6, k3, k5, hp, hv, hn, ht]
                  · by_cases k7 : o.Kind = 7
                    · have e : l16OpB o = (textB o && decide (o.N = 0)) := by simp [l16OpB, k1, k2, k4, k6, k3, k5, k7]
                      rw [e]
                      simp [k1, k2, k4, k6, k3, k5, k7, hp, hv, hn, ht]
                    · by_cases k8 : o.Kind = 8
                      · have e : l16OpB o = (textB o && decide (o.N = 0)) := by simp [l16OpB, k1, k2, k4, k6, k3, k5, k7, k8]
                        rw [e]
                        simp [k1, k2, k4, k6, k3, k5, k7, k8, hp, hv, hn, ht]
                      · have e : l16OpB o = false := by simp [l16OpB, k1, k2, k4, k6, k3, k5, k7, k8]
                        rw [e]
                        simp [k1, k2, k4, k6, k3, k5, k7, k8, hp, hv, hn]
      · have _h := hn
        by_cases k1 : o.Kind = 1
        · have e : l16OpB o = (decide (o.N = 0) && isP o.Path && isW o.Value) := by simp [l16OpB, k1]
          rw [e]
          simp [k1, hp, hv, hn]
        · by_cases k2 : o.Kind = 2
          · have e : l16OpB o = (decide (o.N = 0) && isP o.Path && decide (o.Value = ⟨#[]⟩)) := by simp [l16OpB, k1, k2]
            rw [e]
            simp [k1, k2, hp, hv, hn]
          · by_cases k4 : o.Kind = 4
            · have e : l16OpB o = (textB o && decide (1 ≤ o.N ∧ o.N ≤ 100)) := by simp [l16OpB, k1, k2, k4]
              rw [e]
              simp [k1, k2, k4, hp, hv, hn, ht]
            · by_cases k6 : o.Kind = 6
              · have e : l16OpB o = (textB o && decide (0 ≤ o.N ∧ o.N ≤ 9)) := by simp [l16OpB, k1, k2, k4, k6]
                rw [e]
                simp [k1, k2, k4, k6, hp, hv, hn, ht]
              · by_cases k3 : o.Kind = 3
                · have e : l16OpB o = (textB o && decide (o.N = 0)) := by simp [l16OpB, k1, k2, k4, k6, k3]
                  rw [e]
                  simp [k1, k2, k4, k6, k3, hp, hv, hn, ht]
                · by_cases k5 : o.Kind = 5
                  · have e : l16OpB o = (textB o && decide (o.N = 0)) := by simp [l16OpB, k1, k2, k4, k6, k3, k5]
                    rw [e]
                    simp [k1, k2, k4, k6, k3, k5, hp, hv, hn, ht]
                  · by_cases k7 : o.Kind = 7
                    · have e : l16OpB o = (textB o && decide (o.N = 0)) := by simp [l16OpB, k1, k2, k4, k6, k3, k5, k7]
                      rw [e]
                      simp [k1, k2, k4, k6, k3, k5, k7, hp, hv, hn, ht]
                    · by_cases k8 : o.Kind = 8
                      · have e : l16OpB o = (textB o && decide (o.N = 0)) := by simp [l16OpB, k1, k2, k4, k6, k3, k5, k7, k8]
                        rw [e]
                        simp [k1, k2, k4, k6, k3, k5, k7, k8, hp, hv, hn, ht]
                      · have e : l16OpB o = false := by simp [l16OpB, k1, k2, k4, k6, k3, k5, k7, k8]
                        rw [e]
                        simp [k1, k2, k4, k6, k3, k5, k7, k8, hp, hv, hn]
end Go.V
