/- What functions of the seat's program do, each proved of its code, under the bounds that its theorem names. -/
import Derived.Test.YtnmfcpgelajolaaTab
set_option linter.all false
namespace Go.V
open Go.Proofs
set_option maxHeartbeats 1000000
set_option maxRecDepth 10000
set_option linter.unusedSimpArgs false
set_option linter.unusedVariables false
theorem ok_within (n lo hi : Int) : CallOK Try.prog 22 [.c (pi n), .c (pi lo), .c (pi hi)] (.c (pb (decide (lo ≤ n ∧ n ≤ hi)))) [.c (pi n), .c (pi lo), .c (pi hi)] := by
  refine okS (fn := Try.f22) [] h0 Try.func22 (by kernel_rfl) rfl Try.ntmps22 Try.results22 (by simp) ?_
  simp
  refine gT (fun h => ?_) (fun h => ?_) <;> simp [h]
/-- Where a condition holds first, or -1. -/
def idxOf {α : Type} (p : α → Bool) (xs : List α) : Int := match xs.findIdx? p with | some i => i | none => -1
theorem idxOf_hit {α : Type} (p : α → Bool) (xs : List α) (i : Nat) (h : i < xs.length) (hp : p xs[i] = true) (hall : ∀ (j : Nat) (hj : j < i), p (xs[j]'(by omega)) = false) : idxOf p xs = i := by
  unfold idxOf
  rw [(List.findIdx?_eq_some_iff_getElem (i := i)).2 ⟨h, hp, fun j hj => by simp [hall j hj]⟩]
theorem idxOf_no {α : Type} (p : α → Bool) (xs : List α) (hall : ∀ (j : Nat) (hj : j < xs.length), p xs[j] = false) : idxOf p xs = -1 := by
  unfold idxOf
  rw [List.findIdx?_eq_none_iff.2 (fun s hs => by
    obtain ⟨j, hj, rfl⟩ := List.getElem_of_mem hs
    simp [hall j hj])]
theorem idxOf_any {α : Type} (p : α → Bool) (xs : List α) : decide (0 ≤ idxOf p xs) = xs.any p := by
  unfold idxOf
  cases h : xs.findIdx? p with
  | none =>
    rw [List.findIdx?_eq_none_iff] at h
    simp
    exact fun x hx => by simpa using h x hx
  | some i =>
    rw [List.findIdx?_eq_some_iff_getElem] at h
    obtain ⟨h1, h2, _⟩ := h
    simp
    exact ⟨_, List.getElem_mem h1, h2⟩
theorem ok_IndexFunc_String (k q g : Nat) (caps : List (List PT)) (p : ByteArray → Bool) (xs : List ByteArray) (ha : xs.length ≤ 140737488351232)
    (hg : ∀ x ∈ xs, CallOK Try.prog g (.c (ps x) :: caps.map (PV.ip q)) (.c (pb (p x))) (.c (ps x) :: caps.map (PV.ip q))) :
    CallOK Try.prog 81 [.c (rd k xs.length (xs.map ps)), .c (.fn q g caps)] (.c (pi (idxOf p xs))) [.c (rd k xs.length (xs.map ps)), .c (.fn q g caps)] := by
  refine okS (fn := Try.f81) [] h0 Try.func81 (by kernel_rfl) rfl Try.ntmps81 Try.results81 (by simp) ?_
  simp
  refine loopS [0, 1, 7, 8] [] (fun n st => ∃ (i : Nat), i + n = xs.length ∧ (∀ (j : Nat) (hj : j < i) (hj' : j < xs.length), p xs[j] = false) ∧ st = ⟨slOf 19 [(0, .t (rd k xs.length (xs.map ps))), (1, .t (.fn q g caps)), (7, .t (pi xs.length)), (8, .t (pi i))], ofL []⟩) xs.length ?_ ?_
  · rintro Inv hI
    simp
    subst hI
    exact ⟨0, by omega, by intro j hj; omega, rfl⟩
  · rintro Inv hI n st ⟨i, hi, hall, rfl⟩
    refine ewr_sound (M := []) h0 ?_
    simp
    refine brn_app (fun h => ?_) (fun h => ?_)
    · simp at h
      simp [h]
      refine Inv_intro (hg _ (List.getElem_mem h)) ?_
      simp
      refine brn_app (fun h2 => ?_) (fun h2 => ?_)
      · simp
        exact (idxOf_hit p xs i h h2 fun j hj => hall j hj (by omega)).symm
      · simp
        subst hI
        refine Less_mk (n - 1) (by omega) ⟨i + 1, by omega, ?_, by rw [wrNext i (by omega)]⟩
        intro j hj hj'
        by_cases hji : j = i
        · subst hji; exact h2
        · exact hall j (by omega) hj'
    · simp at h
      simp
      exact (idxOf_no p xs fun j hj => hall j (by omega) hj).symm
theorem ok_ContainsFunc_String (k q g : Nat) (caps : List (List PT)) (p : ByteArray → Bool) (xs : List ByteArray) (ha : xs.length ≤ 140737488351232)
    (hg : ∀ x ∈ xs, CallOK Try.prog g (.c (ps x) :: caps.map (PV.ip q)) (.c (pb (p x))) (.c (ps x) :: caps.map (PV.ip q))) :
    CallOK Try.prog 68 [.c (rd k xs.length (xs.map ps)), .c (.fn q g caps)] (.c (pb (xs.any p))) [.c (rd k xs.length (xs.map ps)), .c (.fn q g caps)] := by
  refine okS (fn := Try.f68) [] h0 Try.func68 (by kernel_rfl) rfl Try.ntmps68 Try.results68 (by simp) ?_
  simp
  refine Inv_intro (ok_IndexFunc_String k q g caps p xs ha hg) ?_
  simp [idxOf_any]
theorem any_not {α : Type} (p : α → Bool) (xs : List α) : xs.any (fun x => !p x) = !xs.all p := by
  induction xs with
  | nil => rfl
  | cons x xs ih => simp [ih]
theorem ok_l1In (n lo hi : Int) : CallOK Try.prog 63 [.c (pi n), .c (pi lo), .c (pi hi)] (.c (pb (decide (lo ≤ n ∧ n ≤ hi)))) [.c (pi n), .c (pi lo), .c (pi hi)] := by
  refine okS (fn := Try.f63) [] h0 Try.func63 (by kernel_rfl) rfl Try.ntmps63 Try.results63 (by simp) ?_
  simp
  refine gT (fun h => ?_) (fun h => ?_) <;> simp [h]
theorem wlen_le (s : ByteArray) : wlen s ≤ s.size := by
  unfold wlen
  have := List.Sublist.length_le (List.takeWhile_sublist (fun b : UInt8 => wb b.toNat) (l := s.data.toList))
  simpa using this
theorem tw_all {α : Type} (p : α → Bool) : ∀ l : List α, ((l.takeWhile p).length = l.length) = (l.all p = true)
  | [] => by simp
  | x :: l => by
    rw [List.takeWhile_cons, List.all_cons]
    cases h : p x with
    | true => simpa using tw_all p l
    | false => simp
theorem word_all (s : ByteArray) : decide (s.extract 0 (wlen s) = s) = wAll s := by
  have h := wlen_le s
  have hA := tw_all (fun b : UInt8 => wb b.toNat) s.data.toList
  have hl : s.data.toList.length = s.size := by simp
  rw [hl] at hA
  have hB : (s.extract 0 (wlen s) = s) = (wlen s = s.size) := by
    apply propext
    constructor
    · intro e
      have := congrArg ByteArray.size e
      simp at this
      omega
    · intro e
      rw [e]
      exact ext_all s
  rw [Bool.eq_iff_iff, decide_eq_true_eq, hB, wAll, ← hA]
  rfl
theorem ok_isWord (s : ByteArray) (hs : s.size ≤ 140737488355328) : CallOK Try.prog 45 [.c (ps s)] (.c (pb (isW s))) [.c (ps s)] := by
  refine okS (fn := Try.f45) [] h0 Try.func45 (by kernel_rfl) rfl Try.ntmps45 Try.results45 (by simp) ?_
  simp
  refine Inv_intro (ok_within _ _ _) ?_
  simp
  refine gT (fun a => ?_) (fun a => ?_)
  · simp [a]
    refine Inv_intro (ok_wordAt s hs) ?_
    simp [isW, word_all, a]
  · simp [a, isW]
theorem ok_areWords1 (s : ByteArray) (hs : s.size ≤ 140737488355328) : CallOK Try.prog 69 [.c (ps s)] (.c (pb (!isW s))) [.c (ps s)] := by
  refine okS (fn := Try.f69) [] h0 Try.func69 (by kernel_rfl) rfl Try.ntmps69 Try.results69 (by simp) ?_
  simp
  refine Inv_intro (ok_isWord s hs) ?_
  simp
theorem ok_areWords (k : Nat) (p : List ByteArray) (hl : p.length ≤ 140737488351232) (hs : ∀ s ∈ p, s.size ≤ 140737488355328) : CallOK Try.prog 44 [.c (rd k p.length (p.map ps))] (.c (pb (isP p))) [.c (rd k p.length (p.map ps))] := by
  refine okS (fn := Try.f44) [] h0 Try.func44 (by kernel_rfl) rfl Try.ntmps44 Try.results44 (by simp) ?_
  simp
  refine Inv_intro (ok_within _ _ _) ?_
  simp
  refine gT (fun a => ?_) (fun a => ?_)
  · simp [a]
    refine Inv_intro (ok_ContainsFunc_String k 0 69 [] (fun s => !isW s) p hl fun x hx => ok_areWords1 x (hs x hx)) ?_
    simp [isP, any_not, a]
  · simp [a, isP]
theorem ok_l15Word (s : ByteArray) (hs : s.size ≤ 140737488355328) : CallOK Try.prog 62 [.c (ps s)] (.c (pb (isW s))) [.c (ps s)] := by
  refine okS (fn := Try.f62) [] h0 Try.func62 (by kernel_rfl) rfl Try.ntmps62 Try.results62 (by simp) ?_
  simp
  refine loopS [0, 3] [] (fun n st => ∃ (i : Nat), i + n = s.size ∧ (s.data.toList.drop i).all (fun b => wb b.toNat) = wAll s ∧ st = ⟨slOf 18 [(0, .t (ps s)), (3, .t (pi i))], ofL []⟩) s.size ?_ ?_
  · rintro Inv hI
    simp
    subst hI
    exact ⟨0, by omega, rfl, rfl⟩
  · rintro Inv hI n st ⟨i, hi, hw, rfl⟩
    refine ewr_sound (M := []) h0 ?_
    simp
    refine brn_app (fun a => ?_) (fun a => ?_)
    · simp at a
      have hl : i < s.data.toList.length := by simpa using a
      rw [List.drop_eq_getElem_cons hl, List.all_cons] at hw
      rw [← byteAt_list s i a] at hw
      simp [a]
      refine Inv_intro (ok_l15Byte _) ?_
      simp
      refine brn_app (fun b => ?_) (fun b => ?_)
      · simp at b
        rw [b, Bool.false_and] at hw
        simp [isW, ← hw]
      · simp at b
        rw [b, Bool.true_and] at hw
        simp
        subst hI
        exact Less_mk (n - 1) (by omega) ⟨i + 1, by omega, hw, by rw [wrNext i (by omega)]⟩
    · simp at a
      rw [List.drop_of_length_le (by simp; omega), List.all_nil] at hw
      simp
      refine Inv_intro (ok_l1In _ _ _) ?_
      simp [isW, ← hw]
theorem ok_l15Path (k : Nat) (p : List ByteArray) (hl : p.length ≤ 140737488351232) (hs : ∀ s ∈ p, s.size ≤ 140737488355328) : CallOK Try.prog 61 [.c (rd k p.length (p.map ps))] (.c (pb (isP p))) [.c (rd k p.length (p.map ps))] := by
  refine okS (fn := Try.f61) [] h0 Try.func61 (by kernel_rfl) rfl Try.ntmps61 Try.results61 (by simp) ?_
  simp
  refine loopS [0, 5, 6, 7] [] (fun n st => ∃ (i : Nat), i + n = p.length ∧ (p.drop i).all isW = p.all isW ∧ st = ⟨slOf 18 [(0, .t (rd k p.length (p.map ps))), (5, .t (rd k p.length (p.map ps))), (6, .t (pi p.length)), (7, .t (pi i))], ofL []⟩) p.length ?_ ?_
  · rintro Inv hI
    simp
    subst hI
    exact ⟨0, by omega, rfl, rfl⟩
  · rintro Inv hI n st ⟨i, hi, hw, rfl⟩
    refine ewr_sound (M := []) h0 ?_
    simp
    refine brn_app (fun a => ?_) (fun a => ?_)
    · simp at a
      rw [drop_step _ i a, List.all_cons] at hw
      simp [a]
      refine Inv_intro (ok_l15Word _ (hs _ (List.getElem_mem a))) ?_
      simp
      refine brn_app (fun b => ?_) (fun b => ?_)
      · simp at b
        rw [b, Bool.false_and] at hw
        simp [isP, ← hw]
      · simp at b
        rw [b, Bool.true_and] at hw
        simp
        subst hI
        exact Less_mk (n - 1) (by omega) ⟨i + 1, by omega, hw, by rw [wrNext i (by omega)]⟩
    · simp at a
      rw [List.drop_of_length_le (by omega), List.all_nil] at hw
      simp
      refine Inv_intro (ok_l1In _ _ _) ?_
      simp [isP, ← hw]
theorem ok_iGoodConfig (k : Nat) (l : List GLeaf) (hl : confOK l) : CallOK Try.prog 21 [.c (rd k l.length (l.flatMap (GLeaf.ci k)))] (.c (pb (goodC l))) [.c (rd k l.length (l.flatMap (GLeaf.ci k)))] := by
  obtain ⟨hll, hlx⟩ := hl
  refine okS (fn := Try.f21) [] h0 Try.func21 (by kernel_rfl) rfl Try.ntmps21 Try.results21 (by simp) ?_
  simp
  refine loopS [0, 5, 6, 7] [] (fun n st => ∃ (i : Nat), i + n = l.length ∧ goodG (prevC l i) (l.drop i) = goodG none l ∧ st = ⟨slOf 53 [(0, .t (rd k l.length (l.flatMap (GLeaf.ci k)))), (5, .t (rd k l.length (l.flatMap (GLeaf.ci k)))), (6, .t (pi l.length)), (7, .t (pi i))], ofL []⟩) l.length ?_ ?_
  · rintro Inv hI
    simp
    subst hI
    exact ⟨0, by omega, rfl, rfl⟩
  · rintro Inv hI n st ⟨i, hi, hg, rfl⟩
    refine ewr_sound (M := []) h0 ?_
    simp
    refine brn_app (fun a => ?_) (fun a => ?_)
    · simp at a
      have hx := hlx l[i] (List.getElem_mem a)
      obtain ⟨⟨hx1, hx2⟩, hx3⟩ := hx
      rw [drop_step _ i a, goodG] at hg
      have hd := fm_drop (GLeaf.ci k) 2 (fun _ => rfl) l i a
      have hlen := fm_len (GLeaf.ci k) 2 (fun _ => rfl) l
      have hlt : i * 2 < l.length * 2 := by omega
      have en : prevC l (i + 1) = some l[i] := prevC_next l i a
      by_cases c0 : i = 0
      · have e0 : ¬ 0 < i := by omega
        have ep : prevC l i = none := by simp [prevC, c0]
        rw [ep, adjC, Bool.and_true] at hg
        simp [a, hd, hlen, hlt]
        refine drawP (tabEnv [] _) [⟨[.op 3 3 0], allD 53, true⟩, ⟨[.op 3 3 0], allD 53, true⟩, ⟨[], allD 53, false⟩, ⟨[], allD 53, true⟩, ⟨[], allD 53, true⟩, ⟨[.op 3 3 0], allD 53, true⟩, ⟨[.op 3 3 0], allD 53, true⟩, ⟨[], allD 53, false⟩, ⟨[], allD 53, true⟩, ⟨[], allD 53, true⟩, ⟨[], allD 53, true⟩, ⟨[], allD 53, true⟩, ⟨[], allD 53, true⟩, ⟨[], allD 53, true⟩, ⟨[], allD 53, true⟩, ⟨[], allD 53, true⟩, ⟨[], allD 53, true⟩, ⟨[], allD 53, true⟩, ⟨[], allD 53, true⟩, ⟨[], allD 53, true⟩, ⟨[.op 3 3 0], allD 53, true⟩, ⟨[.op 3 3 0], allD 53, true⟩, ⟨[], allD 53, false⟩, ⟨[], allD 53, true⟩, ⟨[], allD 53, true⟩, ⟨[], allD 53, true⟩, ⟨[], allD 53, true⟩, ⟨[], allD 53, true⟩, ⟨[], allD 53, true⟩, ⟨[], allD 53, true⟩, ⟨[], allD 53, true⟩, ⟨[.op 3 3 0], allD 53, true⟩, ⟨[.op 3 3 0], allD 53, true⟩, ⟨[], allD 53, false⟩, ⟨[], allD 53, true⟩, ⟨[], allD 53, true⟩, ⟨[], allD 53, true⟩] h0 hm (tabEnv_ok (tab_cons (ok_areWords k l[i].Path hx1 hx2) (tab_cons (ok_isWord l[i].Value hx3) tab_nil))) (by kernel_rfl) (by kernel_rfl) ?_
        cases c1 : isP l[i].Path with
        | false =>
          have hk : okLeaf l[i] = false := by simp [okLeaf, c1]
          rw [hk, Bool.false_and] at hg
          simp [c1, goodC, ← hg]
        | true =>
          cases c2 : isW l[i].Value with
          | false =>
            have hk : okLeaf l[i] = false := by simp [okLeaf, c2]
            rw [hk, Bool.false_and] at hg
            simp [c1, c2, goodC, ← hg]
          | true =>
            have hk : okLeaf l[i] = true := by simp [okLeaf, c1, c2]
            rw [hk, Bool.true_and] at hg
            simp [c1, c2, e0]
            subst hI
            exact Less_mk (n - 1) (by omega) ⟨i + 1, by omega, by rw [en]; exact hg, by rw [wrNext i (by omega)]⟩
      · obtain ⟨j, hj⟩ : ∃ j, i = j + 1 := ⟨i - 1, by omega⟩
        have aj : j < l.length := by omega
        have ep : prevC l i = some l[j] := by subst hj; exact prevC_next l j aj
        obtain ⟨⟨hy1, hy2⟩, hy3⟩ := hlx l[j] (List.getElem_mem aj)
        have hdj := fm_drop (GLeaf.ci k) 2 (fun _ => rfl) l j aj
        have hltj : j * 2 < l.length * 2 := by omega
        have hw : IntKind.wrap .i64 ((i : Int) - 1) = j := (wrap64 (by omega) (by omega)).trans (by omega)
        have e0 : 0 < i := by omega
        rw [ep, adjC] at hg
        have hcl := cmpP_less l[j].Path l[i].Path
        simp [a, hd, hlen, hlt]
        refine drawP (tabEnv [] _) [⟨[.op 3 3 0], allD 53, true⟩, ⟨[.op 3 3 0], allD 53, true⟩, ⟨[], allD 53, false⟩, ⟨[], allD 53, true⟩, ⟨[], allD 53, true⟩, ⟨[.op 3 3 0], allD 53, true⟩, ⟨[.op 3 3 0], allD 53, true⟩, ⟨[], allD 53, false⟩, ⟨[], allD 53, true⟩, ⟨[], allD 53, true⟩, ⟨[], allD 53, true⟩, ⟨[], allD 53, true⟩, ⟨[], allD 53, true⟩, ⟨[], allD 53, true⟩, ⟨[], allD 53, true⟩, ⟨[], allD 53, true⟩, ⟨[], allD 53, true⟩, ⟨[], allD 53, true⟩, ⟨[], allD 53, true⟩, ⟨[], allD 53, true⟩, ⟨[.op 3 3 0], allD 53, true⟩, ⟨[.op 3 3 0], allD 53, true⟩, ⟨[], allD 53, false⟩, ⟨[], allD 53, true⟩, ⟨[], allD 53, true⟩, ⟨[], allD 53, true⟩, ⟨[], allD 53, true⟩, ⟨[], allD 53, true⟩, ⟨[], allD 53, true⟩, ⟨[], allD 53, true⟩, ⟨[], allD 53, true⟩, ⟨[.op 3 3 0], allD 53, true⟩, ⟨[.op 3 3 0], allD 53, true⟩, ⟨[], allD 53, false⟩, ⟨[], allD 53, true⟩, ⟨[], allD 53, true⟩, ⟨[], allD 53, true⟩] h0 hm (tabEnv_ok (tab_cons (ok_areWords k l[i].Path hx1 hx2) (tab_cons (ok_isWord l[i].Value hx3) (tab_cons (ok_cmpP k k l[j].Path l[i].Path hy1 hx1) (tab_cons (ok_begins k k l[j].Path l[i].Path hy1 hx1) tab_nil))))) (by kernel_rfl) (by kernel_rfl) ?_
        cases c1 : isP l[i].Path with
        | false =>
          have hk : okLeaf l[i] = false := by simp [okLeaf, c1]
          rw [hk, Bool.false_and, Bool.false_and] at hg
          simp [c1, goodC, ← hg]
        | true =>
          cases c2 : isW l[i].Value with
          | false =>
            have hk : okLeaf l[i] = false := by simp [okLeaf, c2]
            rw [hk, Bool.false_and, Bool.false_and] at hg
            simp [c1, c2, goodC, ← hg]
          | true =>
            have hk : okLeaf l[i] = true := by simp [okLeaf, c1, c2]
            rw [hk, Bool.true_and] at hg
            cases c3 : lessP l[j].Path l[i].Path with
            | false =>
              rw [c3, Bool.false_and, Bool.false_and] at hg
              have c3' : 0 ≤ cmpP l[j].Path l[i].Path := by simpa [c3] using hcl
              simp [c1, c2, c3', e0, hw, aj, hdj, hlen, hltj, goodC, ← hg]
            | true =>
              have c3' : ¬ 0 ≤ cmpP l[j].Path l[i].Path := by simpa [c3] using hcl
              cases c4 : begP l[j].Path l[i].Path with
              | true =>
                rw [c3, c4] at hg
                have hg' : false = goodG none l := hg
                simp [c1, c2, c3', c4, e0, hw, aj, hdj, hlen, hltj, goodC, ← hg']
              | false =>
                rw [c3, c4] at hg
                have hg' : goodG (some l[i]) (l.drop (i + 1)) = goodG none l := hg
                simp [c1, c2, c3', c4, e0, hw, aj, hdj, hlen, hltj]
                subst hI
                exact Less_mk (n - 1) (by omega) ⟨i + 1, by omega, by rw [en]; exact hg', by rw [wrNext i (by omega)]⟩
    · simp at a
      rw [List.drop_of_length_le (by omega)] at hg
      have hg' : true = goodG none l := by rw [← hg]; cases prevC l i <;> rfl
      simp [goodC, ← hg']
      omega
abbrev cLeafSo (xs : List GLeaf) : PT := .sl 0 58 xs.length (xs.flatMap GLeaf.co)
abbrev cLeafSi (k : Nat) (xs : List GLeaf) : PT := rd k xs.length (xs.flatMap (GLeaf.ci k))
def wt_LeafS (xs : List GLeaf) : Nat := wtR GLeaf.wt xs
theorem len_wt_LeafS (xs : List GLeaf) : xs.length ≤ wt_LeafS xs := by unfold wt_LeafS wtR; omega
theorem mem_wt_LeafS {xs : List GLeaf} {x : GLeaf} (h : x ∈ xs) : GLeaf.wt x ≤ wt_LeafS xs := by
  have := wt_mem GLeaf.wt h
  unfold wt_LeafS wtR
  omega
def fits_LeafS (xs : List GLeaf) : Prop := xs.length ≤ 140737488351232 ∧ ∀ x ∈ xs, GLeaf.fits x
def lens_LeafS (xs : List GLeaf) : Prop := xs.length ≤ 140737488351232 ∧ ∀ x ∈ xs, GLeaf.lens x
def mk_LeafS (xs : List GLeaf) (k : Int) : List GLeaf × Int := mkR GLeaf.mark xs k
def cn_LeafS (xs : List GLeaf) : Nat := cnR GLeaf.cn xs
theorem mk_LeafS_len (xs : List GLeaf) (k : Int) : (mk_LeafS xs k).1.length = xs.length := mkR_len _ xs k
attribute [simp] mk_LeafS_len
theorem mk_LeafS_snd (xs : List GLeaf) (k : Int) : (mk_LeafS xs k).2 = k + cn_LeafS xs := mkR_snd (GLeaf.mark_snd) xs k
theorem lens_of_LeafS {xs : List GLeaf} (h : wt_LeafS xs ≤ 1048576) : lens_LeafS xs := by
  have hl := len_wt_LeafS xs
  exact ⟨by omega, fun x hx => lens_of_Leaf (by have := mem_wt_LeafS hx; omega)⟩
theorem cn_le_LeafS (xs : List GLeaf) : cn_LeafS xs ≤ 32 * wt_LeafS xs := cnR_le (fun x => by have := cnE_le_Leaf x; omega) xs
theorem ok_IndexFunc_LeafS (k q g : Nat) (caps : List (List PT)) (p : (List GLeaf) → Bool) (xs : List (List GLeaf)) (ha : xs.length ≤ 140737488351232)
    (hg : ∀ x ∈ xs, CallOK Try.prog g (.c (rd k x.length (x.flatMap (GLeaf.ci k))) :: caps.map (PV.ip q)) (.c (pb (p x))) (.c (rd k x.length (x.flatMap (GLeaf.ci k))) :: caps.map (PV.ip q))) :
    CallOK Try.prog 48 [.c (rd k xs.length (xs.map (cLeafSi k))), .c (.fn q g caps)] (.c (pi (idxOf p xs))) [.c (rd k xs.length (xs.map (cLeafSi k))), .c (.fn q g caps)] := by
  refine okS (fn := Try.f48) [] h0 Try.func48 (by kernel_rfl) rfl Try.ntmps48 Try.results48 (by simp) ?_
  simp
  refine loopS [0, 1, 7, 8] [] (fun n st => ∃ (i : Nat), i + n = xs.length ∧ (∀ (j : Nat) (hj : j < i) (hj' : j < xs.length), p xs[j] = false) ∧ st = ⟨slOf 19 [(0, .t (rd k xs.length (xs.map (cLeafSi k)))), (1, .t (.fn q g caps)), (7, .t (pi xs.length)), (8, .t (pi i))], ofL []⟩) xs.length ?_ ?_
  · rintro Inv hI
    simp
    subst hI
    exact ⟨0, by omega, by intro j hj; omega, rfl⟩
  · rintro Inv hI n st ⟨i, hi, hall, rfl⟩
    refine ewr_sound (M := []) h0 ?_
    simp
    refine brn_app (fun h => ?_) (fun h => ?_)
    · simp at h
      simp [h]
      refine Inv_intro (hg _ (List.getElem_mem h)) ?_
      simp
      refine brn_app (fun h2 => ?_) (fun h2 => ?_)
      · simp
        exact (idxOf_hit p xs i h h2 fun j hj => hall j hj (by omega)).symm
      · simp
        subst hI
        refine Less_mk (n - 1) (by omega) ⟨i + 1, by omega, ?_, by rw [wrNext i (by omega)]⟩
        intro j hj hj'
        by_cases hji : j = i
        · subst hji; exact h2
        · exact hall j (by omega) hj'
    · simp at h
      simp
      exact (idxOf_no p xs fun j hj => hall j (by omega) hj).symm
theorem ok_ContainsFunc_LeafS (k q g : Nat) (caps : List (List PT)) (p : (List GLeaf) → Bool) (xs : List (List GLeaf)) (ha : xs.length ≤ 140737488351232)
    (hg : ∀ x ∈ xs, CallOK Try.prog g (.c (rd k x.length (x.flatMap (GLeaf.ci k))) :: caps.map (PV.ip q)) (.c (pb (p x))) (.c (rd k x.length (x.flatMap (GLeaf.ci k))) :: caps.map (PV.ip q))) :
    CallOK Try.prog 23 [.c (rd k xs.length (xs.map (cLeafSi k))), .c (.fn q g caps)] (.c (pb (xs.any p))) [.c (rd k xs.length (xs.map (cLeafSi k))), .c (.fn q g caps)] := by
  refine okS (fn := Try.f23) [] h0 Try.func23 (by kernel_rfl) rfl Try.ntmps23 Try.results23 (by simp) ?_
  simp
  refine Inv_intro (ok_IndexFunc_LeafS k q g caps p xs ha hg) ?_
  simp [idxOf_any]
theorem ok_sameConfig1 (k k' : Nat) (x y : GLeaf) (hx : x.Path.length ≤ 140737488351232) (hy : y.Path.length ≤ 140737488351232) : CallOK Try.prog 50 [.agg (GLeaf.ci k x), .agg (GLeaf.ci k' y)] (.c (pb (decide (x = y)))) [.agg (GLeaf.ci k x), .agg (GLeaf.ci k' y)] := by
  refine okS (fn := Try.f50) [] h0 Try.func50 (by kernel_rfl) rfl Try.ntmps50 Try.results50 (by simp) ?_
  have e : decide (x = y) = (decide (x.Value = y.Value) && decide (x.Path = y.Path)) := by
    cases x
    cases y
    simp
    rw [Bool.and_comm]
  rw [e]
  simp
  refine gT (fun a => ?_) (fun a => ?_)
  · simp [a]
    refine Inv_intro (ok_EqualS k k' x.Path y.Path hx hy) ?_
    simp at a
    simp [a]
  · simp [a]
theorem ok_EqualFunc_Leaf (k k' : Nat) (xs ys : List GLeaf) (hx : confOK xs) (hy : confOK ys) : CallOK Try.prog 49 [.c (rd k xs.length (xs.flatMap (GLeaf.ci k))), .c (rd k' ys.length (ys.flatMap (GLeaf.ci k'))), .c (.fn 0 50 [])] (.c (pb (decide (xs = ys)))) [.c (rd k xs.length (xs.flatMap (GLeaf.ci k))), .c (rd k' ys.length (ys.flatMap (GLeaf.ci k'))), .c (.fn 0 50 [])] := by
  obtain ⟨hxl, hxx⟩ := hx
  obtain ⟨hyl, hyy⟩ := hy
  refine okS (fn := Try.f49) [] h0 Try.func49 (by kernel_rfl) rfl Try.ntmps49 Try.results49 (by simp) ?_
  simp
  refine brn_app (fun h => ?_) (fun h => ?_)
  · simp at h
    simp
    rintro rfl
    exact h rfl
  · simp at h
    have hl : ys.length = xs.length := by omega
    simp
    refine loopS [1, 2, 15, 16, 17] [] (fun n st => ∃ (i : Nat), i + n = xs.length ∧ (xs.drop i = ys.drop i ↔ xs = ys) ∧ st = ⟨slOf 32 [(1, .t (rd k' ys.length (ys.flatMap (GLeaf.ci k')))), (2, .t (.fn 0 50 [])), (15, .t (rd k xs.length (xs.flatMap (GLeaf.ci k)))), (16, .t (pi xs.length)), (17, .t (pi i))], ofL []⟩) xs.length ?_ ?_
    · rintro Inv hI
      simp
      subst hI
      exact ⟨0, by omega, by simp, rfl⟩
    · rintro Inv hI n st ⟨i, hi, htk, rfl⟩
      refine ewr_sound (M := []) h0 ?_
      simp
      refine brn_app (fun h => ?_) (fun h => ?_)
      · simp at h
        have hib : i < ys.length := by omega
        rw [drop_step xs i h, drop_step ys i hib, List.cons.injEq] at htk
        have hd := fm_drop (GLeaf.ci k) 2 (fun _ => rfl) xs i h
        have hlen := fm_len (GLeaf.ci k) 2 (fun _ => rfl) xs
        have hlt : i * 2 < xs.length * 2 := by omega
        have hd' := fm_drop (GLeaf.ci k') 2 (fun _ => rfl) ys i hib
        have hlen' := fm_len (GLeaf.ci k') 2 (fun _ => rfl) ys
        have hlt' : i * 2 < ys.length * 2 := by omega
        simp [h, hd, hlen, hlt, hib, hd', hlen', hlt']
        refine Inv_intro (ok_sameConfig1 k k' xs[i] ys[i] (hxx _ (List.getElem_mem h)).1.1 (hyy _ (List.getElem_mem hib)).1.1) ?_
        simp
        refine brn_app (fun h2 => ?_) (fun h2 => ?_)
        · simp at h2
          simp
          intro he
          exact h2 (htk.2 he).1
        · simp at h2
          simp
          subst hI
          exact Less_mk (n - 1) (by omega) ⟨i + 1, by omega, ⟨fun h4 => htk.1 ⟨h2, h4⟩, fun h4 => (htk.2 h4).2⟩, by rw [wrNext i (by omega)]⟩
      · simp at h
        rw [List.drop_of_length_le (by omega), List.drop_of_length_le (by omega)] at htk
        simp
        exact htk.1 rfl
theorem ok_sameConfig (k k' : Nat) (xs ys : List GLeaf) (hx : confOK xs) (hy : confOK ys) : CallOK Try.prog 25 [.c (rd k xs.length (xs.flatMap (GLeaf.ci k))), .c (rd k' ys.length (ys.flatMap (GLeaf.ci k')))] (.c (pb (decide (xs = ys)))) [.c (rd k xs.length (xs.flatMap (GLeaf.ci k))), .c (rd k' ys.length (ys.flatMap (GLeaf.ci k')))] := by
  refine okS (fn := Try.f25) [] h0 Try.func25 (by kernel_rfl) rfl Try.ntmps25 Try.results25 (by simp) ?_
  simp
  refine Inv_intro (ok_EqualFunc_Leaf k k' xs ys hx hy) ?_
  simp
abbrev cLeafSSo (xs : List (List GLeaf)) : PT := .sl 0 25 xs.length (xs.map (cLeafSo))
abbrev cLeafSSi (k : Nat) (xs : List (List GLeaf)) : PT := rd k xs.length (xs.map (cLeafSi k))
theorem un_LeafSS (xs : List (List GLeaf)) : PT.unownL (xs.map (cLeafSo)) = (xs.map (cLeafSi 0)) := by
  rw [unownL_map]
  congr 1
  funext r
  simp [cLeafSo, cLeafSi, rd]
theorem uni_LeafSS (k : Nat) (xs : List (List GLeaf)) : PT.unownL (xs.map (cLeafSi k)) = (xs.map (cLeafSi 0)) := by
  rw [unownL_map]
  congr 1
  funext r
  simp [cLeafSo, cLeafSi, rd]
theorem nt_LeafSS (xs : List (List GLeaf)) : PT.noTmpL (xs.map (cLeafSo)) = true := noTmpL_map _ xs fun r => by simp [cLeafSo]
theorem nti_LeafSS (k : Nat) (xs : List (List GLeaf)) : PT.noTmpL (xs.map (cLeafSi (k + 1))) = true := noTmpL_map _ xs fun r => by simp [cLeafSi, rd]
attribute [simp] un_LeafSS uni_LeafSS nt_LeafSS nti_LeafSS
def wt_LeafSS (xs : List (List GLeaf)) : Nat := wtR wt_LeafS xs
theorem len_wt_LeafSS (xs : List (List GLeaf)) : xs.length ≤ wt_LeafSS xs := by unfold wt_LeafSS wtR; omega
theorem mem_wt_LeafSS {xs : List (List GLeaf)} {x : (List GLeaf)} (h : x ∈ xs) : wt_LeafS x ≤ wt_LeafSS xs := by
  have := wt_mem wt_LeafS h
  unfold wt_LeafSS wtR
  omega
def fits_LeafSS (xs : List (List GLeaf)) : Prop := xs.length ≤ 140737488351232 ∧ ∀ x ∈ xs, fits_LeafS x
def lens_LeafSS (xs : List (List GLeaf)) : Prop := xs.length ≤ 140737488351232 ∧ ∀ x ∈ xs, lens_LeafS x
def mk_LeafSS (xs : List (List GLeaf)) (k : Int) : List (List GLeaf) × Int := mkR mk_LeafS xs k
def cn_LeafSS (xs : List (List GLeaf)) : Nat := cnR cn_LeafS xs
theorem mk_LeafSS_len (xs : List (List GLeaf)) (k : Int) : (mk_LeafSS xs k).1.length = xs.length := mkR_len _ xs k
attribute [simp] mk_LeafSS_len
theorem mk_LeafSS_snd (xs : List (List GLeaf)) (k : Int) : (mk_LeafSS xs k).2 = k + cn_LeafSS xs := mkR_snd (mk_LeafS_snd) xs k
theorem lens_of_LeafSS {xs : List (List GLeaf)} (h : wt_LeafSS xs ≤ 1048576) : lens_LeafSS xs := by
  have hl := len_wt_LeafSS xs
  exact ⟨by omega, fun x hx => lens_of_LeafS (by have := mem_wt_LeafSS hx; omega)⟩
theorem cn_le_LeafSS (xs : List (List GLeaf)) : cn_LeafSS xs ≤ 32 * wt_LeafSS xs := cnR_le (fun x => by have := cn_le_LeafS x; omega) xs
structure GStore where
  Candidate : (List GLeaf)
  Running : (List GLeaf)
  History : (List (List GLeaf))
  Left : Int
  deriving DecidableEq
def GStore.co (x : GStore) : List PT := [.sl 0 58 x.Candidate.length (x.Candidate.flatMap GLeaf.co), .sl 0 58 x.Running.length (x.Running.flatMap GLeaf.co), .sl 0 25 x.History.length (x.History.map (cLeafSo)), pi x.Left]
def GStore.ci (k : Nat) (x : GStore) : List PT := [rd k x.Candidate.length (x.Candidate.flatMap (GLeaf.ci k)), rd k x.Running.length (x.Running.flatMap (GLeaf.ci k)), rd k x.History.length (x.History.map (cLeafSi k)), pi x.Left]
attribute [simp] GStore.co GStore.ci
theorem GStore.len_o (x : GStore) : x.co.length = 4 := rfl
theorem GStore.len_i (k : Nat) (x : GStore) : (x.ci k).length = 4 := rfl
theorem GStore.un1 (x : GStore) : PT.unownL x.co = x.ci 0 := by simp [rd]
theorem GStore.uni1 (k : Nat) (x : GStore) : PT.unownL (x.ci k) = x.ci 0 := by simp [rd]
theorem GStore.un (xs : List GStore) : PT.unownL (xs.flatMap GStore.co) = xs.flatMap (GStore.ci 0) := by
  rw [unownL_fm]
  congr 1
  funext x
  exact GStore.un1 x
theorem GStore.uni (k : Nat) (xs : List GStore) : PT.unownL (xs.flatMap (GStore.ci k)) = xs.flatMap (GStore.ci 0) := by
  rw [unownL_fm]
  congr 1
  funext x
  exact GStore.uni1 k x
theorem GStore.nt (xs : List GStore) : PT.noTmpL (xs.flatMap GStore.co) = true := noTmpL_fm _ xs fun x => by simp
theorem GStore.nti (k : Nat) (xs : List GStore) : PT.noTmpL (xs.flatMap (GStore.ci (k + 1))) = true := noTmpL_fm _ xs fun x => by simp [rd]
attribute [simp] GStore.un GStore.uni GStore.nt GStore.nti
theorem GStore.lenR (xs : List GStore) : (xs.flatMap GStore.co).length = xs.length * 4 := fm_len _ 4 (fun _ => rfl) xs
theorem GStore.lenRi (k : Nat) (xs : List GStore) : (xs.flatMap (GStore.ci k)).length = xs.length * 4 := fm_len _ 4 (fun _ => rfl) xs
theorem GStore.tkR (xs : List GStore) : (xs.flatMap GStore.co).take (xs.length * 4) = xs.flatMap GStore.co := List.take_of_length_le (by rw [GStore.lenR]; exact Nat.le_refl _)
theorem GStore.tkRi (k : Nat) (xs : List GStore) : (xs.flatMap (GStore.ci k)).take (xs.length * 4) = xs.flatMap (GStore.ci k) := List.take_of_length_le (by rw [GStore.lenRi]; exact Nat.le_refl _)
attribute [simp high] GStore.lenR GStore.tkR GStore.lenRi GStore.tkRi
def GStore.wt (x : GStore) : Nat := wt_LeafS x.Candidate + wt_LeafS x.Running + wt_LeafSS x.History
def GStore.fits (x : GStore) : Prop := fits_LeafS x.Candidate ∧ fits_LeafS x.Running ∧ fits_LeafSS x.History
def GStore.lens (x : GStore) : Prop := lens_LeafS x.Candidate ∧ lens_LeafS x.Running ∧ lens_LeafSS x.History
def GStore.mark (x : GStore) (k : Int) : GStore × Int := (⟨(mk_LeafS x.Candidate k).1, (mk_LeafS x.Running (mk_LeafS x.Candidate k).2).1, (mk_LeafSS x.History (mk_LeafS x.Running (mk_LeafS x.Candidate k).2).2).1, (mk_LeafSS x.History (mk_LeafS x.Running (mk_LeafS x.Candidate k).2).2).2⟩, ((mk_LeafSS x.History (mk_LeafS x.Running (mk_LeafS x.Candidate k).2).2).2 + 1))
def GStore.cn (x : GStore) : Nat := cn_LeafS x.Candidate + cn_LeafS x.Running + cn_LeafSS x.History + 1
theorem GStore.mark_snd (x : GStore) (k : Int) : (GStore.mark x k).2 = k + GStore.cn x := by
  simp only [GStore.mark, GStore.cn, mk_LeafSS_snd, mk_LeafS_snd] <;> omega
def GStore.markT (x : GStore) (k : Int) : GStore × Int := (⟨(mk_LeafS x.Candidate k).1, (mk_LeafS x.Running (mk_LeafS x.Candidate k).2).1, (mk_LeafSS x.History (mk_LeafS x.Running (mk_LeafS x.Candidate k).2).2).1, x.Left⟩, (mk_LeafSS x.History (mk_LeafS x.Running (mk_LeafS x.Candidate k).2).2).2)
def GStore.cnT (x : GStore) : Nat := cn_LeafS x.Candidate + cn_LeafS x.Running + cn_LeafSS x.History
theorem GStore.markT_snd (x : GStore) (k : Int) : (GStore.markT x k).2 = k + GStore.cnT x := by
  simp only [GStore.markT, GStore.cnT, mk_LeafSS_snd, mk_LeafS_snd] <;> omega
theorem lens_of_Store {x : GStore} (h : GStore.wt x ≤ 1048576) : GStore.lens x := by
  unfold GStore.wt at h
  exact ⟨lens_of_LeafS (by omega), lens_of_LeafS (by omega), lens_of_LeafSS (by omega)⟩
theorem cn_le_Store (x : GStore) : GStore.cnT x ≤ 32 * GStore.wt x := by
  unfold GStore.cnT GStore.wt
  have := cn_le_LeafS x.Candidate
  have := cn_le_LeafS x.Running
  have := cn_le_LeafSS x.History
  omega
theorem cnE_le_Store (x : GStore) : GStore.cn x ≤ 32 * GStore.wt x + 16 := by
  unfold GStore.cn GStore.wt
  have := cn_le_LeafS x.Candidate
  have := cn_le_LeafS x.Running
  have := cn_le_LeafSS x.History
  omega
end Go.V
