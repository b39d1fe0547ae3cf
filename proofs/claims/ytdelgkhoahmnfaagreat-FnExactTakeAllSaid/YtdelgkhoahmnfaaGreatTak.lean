/- What functions of the seat's program do, each proved of its code, under the bounds that its theorem names. -/
import Derived.Test.YtdelgkhoahmnfaaGreatTaj
set_option linter.all false
namespace Go.V
open Go.Proofs
set_option maxHeartbeats 1000000
set_option maxRecDepth 10000
set_option linter.unusedSimpArgs false
set_option linter.unusedVariables false
theorem sum_le {α : Type} (f : α → Nat) (c : Nat) : ∀ xs : List α, (∀ x ∈ xs, f x ≤ c) → (xs.map f).sum ≤ xs.length * c
  | [], _ => by simp
  | x :: xs, h => by
    have ih := sum_le f c xs fun y hy => h y (List.mem_cons_of_mem _ hy)
    have hx := h x List.mem_cons_self
    simp only [List.map_cons, List.sum_cons, List.length_cons, Nat.add_mul]
    omega
theorem putq {α : Type} (C : List α) (a b : α) (i j : Nat) (h : i * 2 + 2 ≤ C.length) (hij : i ≤ j) : (C.take (i * 2) ++ a :: b :: C.drop (i * 2 + 2)).length = C.length ∧ (C.take (i * 2) ++ a :: b :: C.drop (i * 2 + 2)).take ((i + 1) * 2) = C.take (i * 2) ++ [a, b] ∧ (C.take (i * 2) ++ a :: b :: C.drop (i * 2 + 2)).drop ((j + 1) * 2) = C.drop ((j + 1) * 2) := by
  have hl : (C.take (i * 2)).length = i * 2 := by rw [List.length_take]; omega
  have e1 : (i + 1) * 2 = (C.take (i * 2)).length + 2 := by omega
  refine ⟨?_, ?_, ?_⟩
  · simp only [List.length_append, List.length_cons, List.length_drop, hl]
    omega
  · rw [e1, List.take_length_add_append]
    rfl
  · have e2 : (j + 1) * 2 = (C.take (i * 2)).length + (2 + (j - i) * 2) := by omega
    rw [e2, List.drop_length_add_append, ← List.drop_drop]
    show List.drop ((j - i) * 2) (C.drop (i * 2 + 2)) = _
    rw [List.drop_drop, hl]
    congr 1
    omega
def lastP : GPrefix → List GPrefix → GPrefix
  | q, [] => q
  | _, x :: l => lastP x l
theorem compF_snoc (y : GPrefix) : ∀ (q : GPrefix) (l : List GPrefix), compF q (l ++ [y]) = compF q l ++ (if y = lastP q l then [] else [y])
  | q, [] => by by_cases h : y = q <;> simp [compF, lastP, h]
  | q, x :: l => by
    simp only [List.cons_append, compF, lastP]
    by_cases h : x = q
    · rw [if_pos h, if_pos h]
      subst h
      exact compF_snoc y x l
    · rw [if_neg h, if_neg h, compF_snoc y x l]
      by_cases hy : y = lastP x l <;> simp [hy]
theorem lastP_at : ∀ (q : GPrefix) (l : List GPrefix) (h : l.length < (q :: l).length), lastP q l = (q :: l)[l.length]
  | q, [], _ => rfl
  | q, x :: l, _ => by
    simp only [lastP]
    rw [lastP_at x l (by simp)]
    rfl
theorem comp_step (xs : List GPrefix) (i : Nat) (h1 : 1 ≤ i) (h : i < xs.length) : compP (xs.take (i + 1)) = compP (xs.take i) ++ (if xs[i] = xs[i - 1] then [] else [xs[i]]) := by
  cases xs with
  | nil => simp at h
  | cons x l =>
    obtain ⟨j, rfl⟩ : ∃ j, i = j + 1 := ⟨i - 1, by omega⟩
    have hj : j < l.length := by simpa using h
    rw [List.take_succ_cons, List.take_succ_cons]
    simp only [compP, List.cons_append]
    rw [take_step l j hj, compF_snoc, List.getElem_cons_succ]
    have e : lastP x (l.take j) = (x :: l)[j + 1 - 1]'(by simp; omega) := by
      rw [lastP_at x (l.take j) (by simp)]
      have hl : (l.take j).length = j := by rw [List.length_take]; omega
      simp only [hl, Nat.add_sub_cancel]
      have e2 : x :: l.take j = (x :: l).take (j + 1) := by rw [List.take_succ_cons]
      simp only [e2, List.getElem_take]
    rw [e]
theorem comp_len : ∀ (l : List GPrefix), (compP l).length ≤ l.length := by
  have h : ∀ (l : List GPrefix) (q : GPrefix), (compF q l).length ≤ l.length := by
    intro l
    induction l with
    | nil => intro q; simp [compF]
    | cons x l ih =>
      intro q
      unfold compF
      split
      · have := ih q; rw [List.length_cons]; omega
      · have := ih x; rw [List.length_cons, List.length_cons]; omega
  intro l
  cases l with
  | nil => simp [compP]
  | cons x l =>
    have := h l x
    simp only [compP, List.length_cons]
    omega
theorem ok_Compact_Prefix (xs : List GPrefix) (hl : xs.length ≤ 1000000) : CallOK Tryz.prog 130 [.c (.sl 0 77 xs.length (xs.flatMap GPrefix.c))] (.c (.sl 0 77 (compP xs).length ((compP xs).flatMap GPrefix.c))) [.c .hole] := by
  refine okS (fn := Tryz.f130) [] h0 Tryz.func130 (by kernel_rfl) rfl Tryz.ntmps130 Tryz.results130 (by simp) ?_
  simp
  by_cases h2 : xs.length < 2
  · have d2 : (xs.length : Int) < 2 := by omega
    have e : compP xs = xs := by
      match xs, h2 with
      | [], _ => rfl
      | [x], _ => rfl
    simp [d2, e]
  · have d2 : ¬ (xs.length : Int) < 2 := by omega
    simp [d2]
    refine loopS [0, 3] [.arg 0 0] (fun m st => ∃ (i : Nat), i + m = xs.length ∧ 1 ≤ i ∧ compP (xs.take i) = xs.take i ∧ st = ⟨slOf 61 [(0, .ref ⟨.arg 0 0, []⟩ 0 xs.length), (3, .t (pi i))], ofL [(.arg 0 0, .sl 0 77 xs.length (xs.flatMap GPrefix.c))]⟩) (xs.length - 1) ?_ ?_
    · rintro Inv hI
      simp
      subst hI
      refine ⟨1, by omega, by omega, ?_, rfl⟩
      cases xs with
      | nil => rfl
      | cons x l => rfl
    · rintro Inv hI m st ⟨i, hi, h1, hc, rfl⟩
      refine ewr_sound (M := []) h0 ?_
      simp
      refine brn_app (fun a => ?_) (fun a => ?_)
      · simp at a
        have hst := comp_step xs i h1 a
        have hd := fm_drop GPrefix.c 2 (fun _ => rfl) xs i a
        have hd1 := fm_drop GPrefix.c 2 (fun _ => rfl) xs (i - 1) (by omega)
        have hlen := fm_len GPrefix.c 2 (fun _ => rfl) xs
        have hlt : i * 2 < xs.length * 2 := by omega
        have hlt1 : (i - 1) * 2 < xs.length * 2 := by omega
        have hle : i * 2 + 2 ≤ xs.length * 2 := by omega
        have hle1 : (i - 1) * 2 + 2 ≤ xs.length * 2 := by omega
        have hi1 : i - 1 < xs.length := by omega
        have w1 : IntKind.i64.wrap ((i : Int) - 1) = ((i - 1 : Nat) : Int) := by
          rw [wrap64 (by omega) (by omega)]
          omega
        simp
        refine drawP (tabEnv [] _) [⟨[.arg 0 0], allD 61, true⟩, ⟨[], allD 61, true⟩, ⟨[.arg 0 0], allD 61, true⟩, ⟨[.arg 0 0], allD 61, true⟩, ⟨[.arg 0 0], allD 61, true⟩, ⟨[], allD 61, true⟩, ⟨[], allD 61, true⟩, ⟨[.arg 0 0], allD 61, true⟩, ⟨[.arg 0 0], allD 61, true⟩, ⟨[], allD 61, true⟩] h0 hm (tabEnv_ok tab_nil) (by kernel_rfl) (by kernel_rfl) ?_
        simp [a, hd, hd1, hlen, hlt, hlt1, w1, hi1, hle, hle1]
        have hx : (decide (xs[i].Addr = xs[i - 1].Addr) && decide (xs[i].Len = xs[i - 1].Len)) = decide (xs[i] = xs[i - 1]) := by
          rw [← Bool.decide_and]
          exact decide_eq_decide.2 (px_ext _ _).symm
        rw [hx]
        by_cases e : xs[i] = xs[i - 1]
        · rw [decide_eq_true e]
          have hile : i ≤ xs.length := by omega
          simp [hile]
          refine loopS [0, 3, 4, 5] [.arg 0 0] (fun m st => ∃ (j : Nat) (C : List PT), j + m = xs.length - i ∧ 1 ≤ j ∧ (compP (xs.take (i + j))).length + 1 ≤ i + j ∧ C.length = xs.length * 2 ∧ C.take ((compP (xs.take (i + j))).length * 2) = (compP (xs.take (i + j))).flatMap GPrefix.c ∧ C.drop ((i + j - 1) * 2) = (xs.drop (i + j - 1)).flatMap GPrefix.c ∧ st = ⟨slOf 61 [(0, .ref ⟨.arg 0 0, []⟩ 0 xs.length), (3, .t (pi (compP (xs.take (i + j))).length)), (4, .ref ⟨.arg 0 0, []⟩ (i * 2) (xs.length - i)), (5, .t (pi j))], ofL [(.arg 0 0, .sl 0 77 xs.length C)]⟩) (xs.length - i - 1) ?_ ?_
          · rintro Inv2 hI2
            simp
            subst hI2
            have hst' := hst
            rw [if_pos e, List.append_nil, hc] at hst'
            have hl1 : (xs.take i).length = i := by rw [List.length_take]; omega
            refine ⟨1, xs.flatMap GPrefix.c, by omega, by omega, by rw [hst', hl1]; exact Nat.le_refl _, hlen, ?_, ?_, ?_⟩
            · rw [hst', hl1]; exact fm_take GPrefix.c 2 (fun _ => rfl) xs i
            · rw [Nat.add_sub_cancel]; exact fm_dropAll GPrefix.c 2 (fun _ => rfl) xs i
            · rw [hst', hl1]
              rfl
          · rintro Inv2 hI2 m2 st ⟨j, C, hj, h1j, hlc, hCl, hCt, hCd, rfl⟩
            have hcs : ∀ (h : i + j < xs.length) (h' : i + j - 1 < xs.length), compP (xs.take (i + (j + 1))) = compP (xs.take (i + j)) ++ (if xs[i + j] = xs[i + j - 1] then [] else [xs[i + j]]) := fun h _ => comp_step xs (i + j) (by omega) h
            have hfin : j = xs.length - i → compP (xs.take (i + j)) = compP xs := fun e => by rw [List.take_of_length_le (by omega)]
            generalize compP (xs.take (i + j)) = O at hlc hCt hcs hfin ⊢
            refine ewr_sound (M := []) h0 ?_
            simp
            refine brn_app (fun c => ?_) (fun c => ?_)
            · simp at c
              have hij : i + j < xs.length := by omega
              have e1 : i + j - 1 < xs.length := by omega
              have hcs' := hcs hij e1
              have hd0 : C.drop ((i + j - 1) * 2) = GPrefix.c xs[i + j - 1] ++ (xs.drop (i + j)).flatMap GPrefix.c := by
                rw [hCd, drop_step _ _ e1, List.flatMap_cons, show i + j - 1 + 1 = i + j by omega]
              have hdj : C.drop ((i + j) * 2) = GPrefix.c xs[i + j] ++ (xs.drop (i + j + 1)).flatMap GPrefix.c := by
                have : (i + j) * 2 = (i + j - 1) * 2 + 2 := by omega
                rw [this, ← List.drop_drop, hd0]
                show (xs.drop (i + j)).flatMap GPrefix.c = _
                rw [drop_step _ _ hij, List.flatMap_cons]
              have wj : IntKind.i64.wrap ((j : Int) - 1) = ((j - 1 : Nat) : Int) := by
                rw [wrap64 (by omega) (by omega)]
                omega
              have g1 : j - 1 < xs.length - i := by omega
              have g2 : i * 2 + j * 2 = (i + j) * 2 := by omega
              have g3 : i * 2 + (j - 1) * 2 = (i + j - 1) * 2 := by omega
              have g4 : (i + j) * 2 + 2 ≤ xs.length * 2 := by omega
              have g5 : (i + j - 1) * 2 + 2 ≤ xs.length * 2 := by omega
              refine drawP (tabEnv [] _) [⟨[.arg 0 0], allD 61, true⟩, ⟨[], allD 61, true⟩, ⟨[.arg 0 0], allD 61, true⟩, ⟨[.arg 0 0], allD 61, true⟩, ⟨[.arg 0 0], allD 61, true⟩, ⟨[], allD 61, true⟩, ⟨[], allD 61, true⟩, ⟨[.arg 0 0], allD 61, true⟩, ⟨[.arg 0 0], allD 61, true⟩, ⟨[], allD 61, true⟩] h0 hm (tabEnv_ok tab_nil) (by kernel_rfl) (by kernel_rfl) ?_
              simp [c, hd0, hdj, hCl, wj, g1, g2, g3, g4, g5]
              have hx2 : (!decide (xs[i + j].Addr = xs[i + j - 1].Addr) || !decide (xs[i + j].Len = xs[i + j - 1].Len)) = !decide (xs[i + j] = xs[i + j - 1]) := by
                rw [← Bool.not_and, ← Bool.decide_and]
                congr 1
                exact decide_eq_decide.2 (px_ext _ _).symm
              rw [hx2]
              by_cases e2 : xs[i + j] = xs[i + j - 1]
              · rw [decide_eq_true e2]
                rw [if_pos e2, List.append_nil] at hcs'
                simp
                subst hI2
                refine Less_mk (m2 - 1) (by omega) ⟨j + 1, C, by omega, by omega, by rw [hcs']; omega, hCl, by rw [hcs']; exact hCt, ?_, ?_⟩
                · rw [show i + (j + 1) - 1 = i + j by omega, hdj, drop_step _ _ hij, List.flatMap_cons]
                · rw [hcs', wrNext j (by omega)]
              · rw [decide_eq_false e2]
                rw [if_neg e2] at hcs'
                have hO1 : O.length < xs.length := by omega
                have hO2 : O.length * 2 < xs.length * 2 := by omega
                have hO3 : O.length * 2 + 2 ≤ xs.length * 2 := by omega
                simp [hCl, c, hdj, hO1, hO2, hO3, g2, g4]
                subst hI2
                obtain ⟨q1, q2, q3⟩ := putq C (pi xs[i + j].Addr) (pi xs[i + j].Len) O.length (i + j - 1) (by omega) (by omega)
                have hOl : (O ++ [xs[i + j]]).length = O.length + 1 := by simp
                refine Less_mk (m2 - 1) (by omega) ⟨j + 1, _, by omega, by omega, by rw [hcs', hOl]; omega, q1.trans hCl, ?_, ?_, ?_⟩
                · rw [hcs', hOl, q2, hCt, List.flatMap_append]
                  rfl
                · rw [show i + (j + 1) - 1 = i + j - 1 + 1 by omega, q3, show i + j - 1 + 1 = i + j by omega, hdj, drop_step _ _ hij, List.flatMap_cons]
                · rw [hcs', hOl, wrNext O.length (by omega), wrNext j (by omega)]
            · simp at c
              have hjn : j = xs.length - i := by omega
              have hf := hfin hjn
              subst hf
              have hOl : (compP xs).length ≤ xs.length := by omega
              have hz0 : ¬ xs.length - (compP xs).length = 0 := by omega
              have hz1 : (compP xs).length * 2 + (xs.length - (compP xs).length) * 2 ≤ C.length := by omega
              have hz2 : (compP xs).length * 2 ≤ min ((compP xs).length * 2) C.length + ((xs.length - (compP xs).length) * 2 + (C.length - ((compP xs).length * 2 + (xs.length - (compP xs).length) * 2))) := by omega
              have hCtl : (C.take ((compP xs).length * 2)).length = (compP xs).length * 2 := by rw [List.length_take]; omega
              have hTT : ∀ Y, List.take ((compP xs).length * 2) (C.take ((compP xs).length * 2) ++ Y) = C.take ((compP xs).length * 2) := fun Y => List.take_left' hCtl
              rw [← hCt]
              simp [hOl, hz0, hz1, hz2, hTT]
        · rw [decide_eq_false e]
          rw [if_neg e, hc] at hst
          simp
          subst hI
          refine Less_mk (m - 1) (by omega) ⟨i + 1, by omega, by omega, ?_, by rw [wrNext i (by omega)]⟩
          rw [hst, take_step xs i a]
      · simp at a
        have hin : i = xs.length := by omega
        rw [hin, List.take_length] at hc
        rw [hc]
        simp
theorem ok_IndexFunc_Prefix (k q g : Nat) (caps : List (List PT)) (p : GPrefix → Bool) (xs : List GPrefix) (ha : xs.length ≤ 140737488351232)
    (hg : ∀ x ∈ xs, CallOK Tryz.prog g (.agg (GPrefix.c x) :: caps.map (PV.ip q)) (.c (pb (p x))) (.agg (GPrefix.c x) :: caps.map (PV.ip q))) :
    CallOK Tryz.prog 174 [.c (rd k xs.length (xs.flatMap GPrefix.c)), .c (.fn q g caps)] (.c (pi (idxOf p xs))) [.c (rd k xs.length (xs.flatMap GPrefix.c)), .c (.fn q g caps)] := by
  refine okS (fn := Tryz.f174) [] h0 Tryz.func174 (by kernel_rfl) rfl Tryz.ntmps174 Tryz.results174 (by simp) ?_
  simp
  refine loopS [0, 1, 7, 8] [] (fun n st => ∃ (i : Nat), i + n = xs.length ∧ (∀ (j : Nat) (hj : j < i) (hj' : j < xs.length), p xs[j] = false) ∧ st = ⟨slOf 19 [(0, .t (rd k xs.length (xs.flatMap GPrefix.c))), (1, .t (.fn q g caps)), (7, .t (pi xs.length)), (8, .t (pi i))], ofL []⟩) xs.length ?_ ?_
  · rintro Inv hI
    simp
    subst hI
    exact ⟨0, by omega, by intro j hj; omega, rfl⟩
  · rintro Inv hI n st ⟨i, hi, hall, rfl⟩
    refine ewr_sound (M := []) h0 ?_
    simp
    refine brn_app (fun h => ?_) (fun h => ?_)
    · simp at h
      have hd := fm_drop GPrefix.c 2 (fun _ => rfl) xs i h
      have hlen := fm_len GPrefix.c 2 (fun _ => rfl) xs
      have hlt : i * 2 < xs.length * 2 := by omega
      simp [h, hd, hlen, hlt]
      refine Inv_intro (hg _ (List.getElem_mem h)) ?_
      simp
      refine brn_app (fun h2 => ?_) (fun h2 => ?_)
      · simp
        exact (idxOf_hit p xs i h h2 fun j hj => hall j hj (by omega)).symm
      · simp
        subst hI
        refine Less_mk (n - 1) (by omega) ⟨i + 1, by omega, ?_, by rw [wrNext i (by omega)]⟩
        intro j hj hj'
        by_cases hji : j = i
        · subst hji; exact h2
        · exact hall j (by omega) hj'
    · simp at h
      simp
      exact (idxOf_no p xs fun j hj => hall j (by omega) hj).symm
theorem putp2 {α : Type} (C : List α) (a b : α) (i j : Nat) (h : i * 2 + 2 ≤ C.length) (hij : i < j) : (C.take (i * 2) ++ a :: b :: C.drop (i * 2 + 2)).length = C.length ∧ (C.take (i * 2) ++ a :: b :: C.drop (i * 2 + 2)).take ((i + 1) * 2) = C.take (i * 2) ++ [a, b] ∧ (C.take (i * 2) ++ a :: b :: C.drop (i * 2 + 2)).drop ((j + 1) * 2) = C.drop ((j + 1) * 2) := by
  have hl : (C.take (i * 2)).length = i * 2 := by rw [List.length_take]; omega
  have e1 : (i + 1) * 2 = (C.take (i * 2)).length + 2 := by omega
  refine ⟨?_, ?_, ?_⟩
  · simp only [List.length_append, List.length_cons, List.length_drop, hl]
    omega
  · rw [e1, List.take_length_add_append]
    rfl
  · have e2 : (j + 1) * 2 = (C.take (i * 2)).length + (2 + (j - i) * 2) := by omega
    rw [e2, List.drop_length_add_append, ← List.drop_drop]
    show List.drop ((j - i) * 2) (C.drop (i * 2 + 2)) = _
    rw [List.drop_drop, hl]
    congr 1
    omega
theorem ok_DeleteFunc_Prefix (q g : Nat) (caps : List (List PT)) (p : GPrefix → Bool) (xs : List GPrefix) (ha : xs.length ≤ 140737488351232)
    (hg : ∀ x ∈ xs, CallOK Tryz.prog g (.agg (GPrefix.c x) :: caps.map (PV.ip q)) (.c (pb (p x))) (.agg (GPrefix.c x) :: caps.map (PV.ip q))) :
    CallOK Tryz.prog 129 [.c (.sl 0 77 xs.length (xs.flatMap GPrefix.c)), .c (.fn q g caps)] (.c (.sl 0 77 (xs.filter fun x => !p x).length ((xs.filter fun x => !p x).flatMap GPrefix.c))) [.c .hole, .c (.fn q g caps)] := by
  refine okS (fn := Tryz.f129) [] h0 Tryz.func129 (by kernel_rfl) rfl Tryz.ntmps129 Tryz.results129 (by simp) ?_
  simp
  refine Inv_intro (ok_IndexFunc_Prefix 0 q g caps p xs ha hg) ?_
  simp
  rcases idxOf_find p xs with ⟨e, hf⟩ | ⟨i0, hi0, e, hf⟩
  · rw [e]
    have hall : xs.filter (fun x => !p x) = xs := by
      rw [List.findIdx?_eq_none_iff] at hf
      exact List.filter_eq_self.2 fun x hx => by simp [hf x hx]
    rw [hall]
    simp
  · rw [e]
    have hne : ¬ (i0 : Int) = -1 := by omega
    have hw0 : IntKind.wrap .i64 ((i0 : Int) + 1) = ((i0 + 1 : Nat) : Int) := wrNext i0 (by omega)
    simp [hne, hw0]
    refine loopS [0, 1, 5, 6] [.arg 0 0] (fun m st => ∃ (j i : Nat) (C : List PT), j + m = xs.length ∧ i < j ∧ ((xs.take j).filter fun x => !p x).length = i ∧ C.length = xs.length * 2 ∧ C.take (i * 2) = ((xs.take j).filter fun x => !p x).flatMap GPrefix.c ∧ C.drop (j * 2) = (xs.drop j).flatMap GPrefix.c ∧ st = ⟨slOf 42 [(0, .ref ⟨.arg 0 0, []⟩ 0 xs.length), (1, .t (.fn q g caps)), (5, .t (pi i)), (6, .t (pi j))], ofL [(.arg 0 0, .sl 0 77 xs.length C)]⟩) (xs.length - (i0 + 1)) ?_ ?_
    · rintro Inv hI
      have hfirst : (xs.take (i0 + 1)).filter (fun x => !p x) = xs.take i0 := by
        rw [List.findIdx?_eq_some_iff_getElem] at hf
        obtain ⟨h1, h2, h3⟩ := hf
        rw [take_step xs i0 hi0, List.filter_append]
        have e1 : (xs.take i0).filter (fun x => !p x) = xs.take i0 := by
          refine List.filter_eq_self.2 fun x hx => ?_
          obtain ⟨j, hj, rfl⟩ := List.mem_iff_getElem.1 hx
          have hj' : j < i0 := by rw [List.length_take] at hj; omega
          rw [List.getElem_take]
          simpa using h3 j hj'
        rw [e1]
        simp [h2]
      simp
      subst hI
      refine ⟨i0 + 1, i0, xs.flatMap GPrefix.c, by omega, by omega, by rw [hfirst, List.length_take]; omega, fm_len GPrefix.c 2 (fun _ => rfl) xs, ?_, ?_, ?_⟩
      · rw [hfirst]; exact fm_take GPrefix.c 2 (fun _ => rfl) xs i0
      · exact fm_dropAll GPrefix.c 2 (fun _ => rfl) xs (i0 + 1)
      · rfl
    · rintro Inv hI m st ⟨j, i, C, hj, hlt, hi, hCl, hCt, hCd0, rfl⟩
      refine ewr_sound (M := []) h0 ?_
      simp
      refine brn_app (fun a => ?_) (fun a => ?_)
      · simp at a
        have hCd : C.drop (j * 2) = GPrefix.c xs[j] ++ (xs.drop (j + 1)).flatMap GPrefix.c := by
          rw [hCd0, drop_step _ j a, List.flatMap_cons]
        have hCn : C.drop ((j + 1) * 2) = (xs.drop (j + 1)).flatMap GPrefix.c := by
          have : (j + 1) * 2 = j * 2 + 2 := by omega
          rw [this, ← List.drop_drop, hCd]
          rfl
        have hb : j * 2 + 2 ≤ xs.length * 2 := by omega
        have hfs : (xs.take (j + 1)).filter (fun x => !p x) = (xs.take j).filter (fun x => !p x) ++ (if p xs[j] = true then [] else [xs[j]]) := by
          rw [take_step xs j a, List.filter_append]
          cases hpx : p xs[j] <;> simp [hpx]
        simp [a, hCl, hCd, hb]
        refine Inv_intro (hg _ (List.getElem_mem a)) ?_
        simp
        refine brn_app (fun b => ?_) (fun b => ?_)
        · simp at b
          rw [if_neg (by simp [b])] at hfs
          have hib : i * 2 < xs.length * 2 := by omega
          have hib2 : i < xs.length := by omega
          have hib3 : i * 2 + 2 ≤ xs.length * 2 := by omega
          simp [hCl, hib, hib2, hib3]
          subst hI
          obtain ⟨g1, g2, g3⟩ := putp2 C (pi xs[j].Addr) (pi xs[j].Len) i j (by omega) hlt
          refine Less_mk (m - 1) (by omega) ⟨j + 1, i + 1, _, by omega, by omega, by rw [hfs, List.length_append, hi]; rfl, g1.trans hCl, ?_, ?_, ?_⟩
          · rw [g2, hCt, hfs, List.flatMap_append]
            simp
          · rw [g3, hCn]
          · rw [wrNext i (by omega), wrNext j (by omega)]
        · simp at b
          rw [if_pos b, List.append_nil] at hfs
          simp
          subst hI
          refine Less_mk (m - 1) (by omega) ⟨j + 1, i, C, by omega, by omega, by rw [hfs, hi], hCl, ?_, hCn, ?_⟩
          · rw [hCt, hfs]
          · rw [wrNext j (by omega)]
      · simp at a
        have hjn : j = xs.length := by omega
        subst hjn
        rw [List.take_length] at hi hCt
        have hil : i ≤ xs.length := by omega
        have hCtl : (C.take (i * 2)).length = i * 2 := by rw [List.length_take]; omega
        have hz0 : ¬ xs.length - i = 0 := by omega
        have hz1 : i * 2 + (xs.length - i) * 2 ≤ C.length := by omega
        have hz2 : i * 2 ≤ min (i * 2) C.length + ((xs.length - i) * 2 + (C.length - (i * 2 + (xs.length - i) * 2))) := by omega
        have hTT : ∀ Y, List.take (i * 2) (C.take (i * 2) ++ Y) = C.take (i * 2) := fun Y => List.take_left' hCtl
        rw [hi, ← hCt]
        simp [hil, hz0, hz1, hz2, hTT]
end Go.V
