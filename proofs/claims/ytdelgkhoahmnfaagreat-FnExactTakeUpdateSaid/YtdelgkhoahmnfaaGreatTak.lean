/- What functions of the seat's program do, each proved of its code, under the bounds that its theorem names. -/
import Derived.Test.YtdelgkhoahmnfaaGreatTaj
set_option linter.all false
namespace Go.V
open Go.Proofs
set_option maxHeartbeats 1000000
set_option maxRecDepth 10000
set_option linter.unusedSimpArgs false
set_option linter.unusedVariables false
theorem bestR_good {r : GRib} {p : GPrefix} (hg : goodRib r = true) (hi : rowIs p r.Rows = true) : ∃ hl : rowAt p r.Rows < r.Rows.length, bestR r p = bestO (restO r.Own r.Rows[rowAt p r.Rows].Offers) := by
  obtain ⟨ho, _, _, hrows⟩ := goodRib_all hg
  obtain ⟨hl, he⟩ := rowIs_lt hi
  have hgx := hrows _ (List.getElem_mem hl)
  have hgo : goodOs r.Rows[rowAt p r.Rows].Offers = true := by
    simp only [goodRow, Bool.and_eq_true] at hgx
    exact hgx.2.2
  refine ⟨hl, ?_⟩
  unfold bestR
  rw [if_pos hi, List.getElem?_eq_getElem hl]
  simp only [bstBy]
  rw [if_pos ⟨hgo, ho⟩]
theorem ok_l13BestAt (k : Nat) (r : GRib) (p : GPrefix) (hr : ribOK r) (hx : ∀ x ∈ r.Rows, x.Offers.length ≤ 1048576) (hg : goodRib r = true) : CallOK Tryz.prog 108 [.agg (GRib.ci (k + 1) r), .agg p.c] (.tup [.agg (outO (k + 1) (bestR r p)), .c (pb (bestR r p).isSome)]) [.agg (GRib.ci (k + 1) r), .agg p.c] := by
  refine okS (fn := Tryz.f108) [] h0 Tryz.func108 (by kernel_rfl) rfl Tryz.ntmps108 Tryz.results108 (by simp) ?_
  simp
  refine Inv_intro (ok_l13At (k + 1) r p hr.1) ?_
  by_cases hi : rowIs p r.Rows = true
  · obtain ⟨hl, hbr⟩ := bestR_good hg hi
    rw [hbr]
    have ho := hr.2 _ (List.getElem_mem hl)
    have hol := hx _ (List.getElem_mem hl)
    generalize rowAt p r.Rows = i at *
    have hd := fm_drop (GRow.ci (k + 1)) 3 (fun _ => rfl) r.Rows i hl
    have hlen := fm_len (GRow.ci (k + 1)) 3 (fun _ => rfl) r.Rows
    have hlt : i * 3 < r.Rows.length * 3 := by omega
    have hlt2 : i * 3 + 2 < r.Rows.length * 3 := by omega
    have hB := ok_l13Best k r.Own r.Rows[i].Offers ho hol
    simp [hi]
    cases hb : bestO (restO r.Own r.Rows[i].Offers) with
    | none =>
      rw [hb] at hB
      simp [outO] at hB ⊢
      refine drawP (tabEnv [] _) [⟨[.op 0 0 0], allD 28, true⟩, ⟨[.op 0 0 0], allD 28, true⟩, ⟨[.op 0 0 0], allD 28, true⟩, ⟨[.op 0 0 0], allD 28, true⟩, ⟨[], allD 28, true⟩, ⟨[], allD 28, true⟩, ⟨[], allD 28, true⟩, ⟨[], allD 28, true⟩, ⟨[], allD 28, false⟩, ⟨[.op 4 8 2, .op 4 8 6], allD 28, true⟩, ⟨[.op 4 8 2, .op 4 8 6], allD 28, true⟩, ⟨[.op 0 2 0, .op 4 8 2, .op 4 8 6], [17, 18, 19, 20, 21, 22, 23, 24, 25, 26, 27, 5], false⟩, ⟨[], allD 28, true⟩] h0 hm (tabEnv_ok (tab_cons hB tab_nil)) (by kernel_rfl) (by kernel_rfl) ?_
      simp [hl, hd, hlen, hlt, hlt2]
    | some o =>
      rw [hb] at hB
      simp [outO] at hB ⊢
      refine drawP (tabEnv [] _) [⟨[.op 0 0 0], allD 28, true⟩, ⟨[.op 0 0 0], allD 28, true⟩, ⟨[.op 0 0 0], allD 28, true⟩, ⟨[.op 0 0 0], allD 28, true⟩, ⟨[], allD 28, true⟩, ⟨[], allD 28, true⟩, ⟨[], allD 28, true⟩, ⟨[], allD 28, true⟩, ⟨[], allD 28, false⟩, ⟨[], allD 28, true⟩, ⟨[], allD 28, true⟩, ⟨[.op 0 2 0], [17, 18, 19, 20, 21, 22, 23, 24, 25, 26, 27, 5], false⟩, ⟨[], allD 28, true⟩] h0 hm (tabEnv_ok (tab_cons hB tab_nil)) (by kernel_rfl) (by kernel_rfl) ?_
      simp [hl, hd, hlen, hlt, hlt2]
  · have hi' : rowIs p r.Rows = false := by simpa using hi
    simp [bestR, hi', outO]
theorem ok_ownOffers (k : Nat) (l : List GOffer) (hl : l.length ≤ 1048576) (hx : ∀ x ∈ l, x.Attrs.Path.length ≤ 1048576 ∧ x.Attrs.Comms.length ≤ 1048576) : CallOK Tryz.prog 67 [.c (rd k l.length (l.flatMap (GOffer.ci k)))] (.c (.sl 0 81 l.length (l.flatMap GOffer.co))) [.c (rd k l.length (l.flatMap (GOffer.ci k)))] := by
  refine okS (fn := Tryz.f67) [] h0 Tryz.func67 (by kernel_rfl) rfl Tryz.ntmps67 Tryz.results67 (by simp) ?_
  simp
  refine ewp_sw (.op 1 0 0) (.op 5 8 0) rfl rfl ?_
  simp
  refine loopS [3, 7, 8, 9] [.op 5 8 0] (fun n st => ∃ (i : Nat), i + n = l.length ∧ st = ⟨slOf 24 [(3, .ref ⟨.op 5 8 0, []⟩ 0 i), (7, .t (rd k l.length (l.flatMap (GOffer.ci k)))), (8, .t (pi l.length)), (9, .t (pi i))], ofL [(.op 5 8 0, .sl 0 81 i ((l.take i).flatMap GOffer.co))]⟩) l.length ?_ ?_
  · rintro Inv hI
    simp
    subst hI
    exact ⟨0, by omega, by simp⟩
  · rintro Inv hI n st ⟨i, hi, rfl⟩
    have hA := fm_take_len GOffer.co 7 (fun _ => rfl) l i (by omega)
    generalize hAe : ((l.take i).flatMap GOffer.co) = A at hA ⊢
    refine ewr_sound (M := []) h0 ?_
    simp
    refine brn_app (fun a => ?_) (fun a => ?_)
    · simp at a
      have hd := fm_drop (GOffer.ci k) 7 (fun _ => rfl) l i a
      have hlen := fm_len (GOffer.ci k) 7 (fun _ => rfl) l
      have hlt : i * 7 < l.length * 7 := by omega
      have hb1 : (i + 1) * 88 ≤ 140737488355328 := by omega
      have hb2 : i ≤ 9223372036854775806 := by omega
      have hp := hx _ (List.getElem_mem a)
      have ht : A.take (i * 7) = A := List.take_of_length_le (by omega)
      have e3 : ((l.take (i + 1)).flatMap GOffer.co) = A ++ GOffer.co l[i] := by rw [take_step l i a, List.flatMap_append, hAe, List.flatMap_cons, List.flatMap_nil, List.append_nil]
      simp [a, hd, hlen, hlt]
      refine drawP (tabEnv [] _) [⟨[.op 5 8 0], allD 24, true⟩, ⟨[.op 4 2 0], allD 24, true⟩, ⟨[.op 4 2 0], allD 24, true⟩, ⟨[.op 4 2 0], allD 24, true⟩, ⟨[.op 4 2 0], allD 24, true⟩, ⟨[], allD 24, false⟩, ⟨[.op 5 5 1, .op 5 5 5], allD 24, true⟩, ⟨[.op 5 5 1, .op 5 5 5], [13, 14, 15, 16, 17, 18, 19, 20, 21, 3], false⟩, ⟨[.op 5 8 0, .op 5 7 0], [13, 14, 15, 16, 17, 18, 19, 20, 21, 3], false⟩, ⟨[.op 5 8 0], allD 24, true⟩] h0 hm (tabEnv_ok (tab_cons (ok_ownAttrs k l[i].Attrs hp.1 hp.2) tab_nil)) (by kernel_rfl) (by kernel_rfl) ?_
      simp [hA, hb1, hb2, ht]
      subst hI
      refine Less_mk (n - 1) (by omega) ⟨i + 1, by omega, ?_⟩
      rw [wrNext i (by omega), e3]
      all_goals simp
    · simp at a
      have hn : n = 0 := by omega
      subst hn
      have ht : List.take i l = l := List.take_of_length_le (by omega)
      have hil : i = l.length := by omega
      rw [← hAe, ht, hil]
      simp
theorem free_px (l : List GPrefix) : PT.freeL (l.flatMap GPrefix.c) = true := freeL_fm _ _ fun o => by simp [PT.freeL, PT.free]
theorem sum_le {α : Type} (f : α → Nat) (c : Nat) : ∀ xs : List α, (∀ x ∈ xs, f x ≤ c) → (xs.map f).sum ≤ xs.length * c
  | [], _ => by simp
  | x :: xs, h => by
    have ih := sum_le f c xs fun y hy => h y (List.mem_cons_of_mem _ hy)
    have hx := h x List.mem_cons_self
    simp only [List.map_cons, List.sum_cons, List.length_cons, Nat.add_mul]
    omega
theorem putq {α : Type} (C : List α) (a b : α) (i j : Nat) (h : i * 2 + 2 ≤ C.length) (hij : i ≤ j) : (C.take (i * 2) ++ a :: b :: C.drop (i * 2 + 2)).length = C.length ∧ (C.take (i * 2) ++ a :: b :: C.drop (i * 2 + 2)).take ((i + 1) * 2) = C.take (i * 2) ++ [a, b] ∧ (C.take (i * 2) ++ a :: b :: C.drop (i * 2 + 2)).drop ((j + 1) * 2) = C.drop ((j + 1) * 2) := by
  have hl : (C.take (i * 2)).length = i * 2 := by rw [List.length_take]; omega
  have e1 : (i + 1) * 2 = (C.take (i * 2)).length + 2 := by omega
  refine ⟨?_, ?_, ?_⟩
  · simp only [List.length_append, List.length_cons, List.length_drop, hl]
    omega
  · rw [e1, List.take_length_add_append]
    rfl
  · have e2 : (j + 1) * 2 = (C.take (i * 2)).length + (2 + (j - i) * 2) := by omega
    rw [e2, List.drop_length_add_append, ← List.drop_drop]
    show List.drop ((j - i) * 2) (C.drop (i * 2 + 2)) = _
    rw [List.drop_drop, hl]
    congr 1
    omega
def lastP : GPrefix → List GPrefix → GPrefix
  | q, [] => q
  | _, x :: l => lastP x l
theorem compF_snoc (y : GPrefix) : ∀ (q : GPrefix) (l : List GPrefix), compF q (l ++ [y]) = compF q l ++ (if y = lastP q l then [] else [y])
  | q, [] => by by_cases h : y = q <;> simp [compF, lastP, h]
  | q, x :: l => by
    simp only [List.cons_append, compF, lastP]
    by_cases h : x = q
    · rw [if_pos h, if_pos h]
      subst h
      exact compF_snoc y x l
    · rw [if_neg h, if_neg h, compF_snoc y x l]
      by_cases hy : y = lastP x l <;> simp [hy]
theorem lastP_at : ∀ (q : GPrefix) (l : List GPrefix) (h : l.length < (q :: l).length), lastP q l = (q :: l)[l.length]
  | q, [], _ => rfl
  | q, x :: l, _ => by
    simp only [lastP]
    rw [lastP_at x l (by simp)]
    rfl
theorem comp_step (xs : List GPrefix) (i : Nat) (h1 : 1 ≤ i) (h : i < xs.length) : compP (xs.take (i + 1)) = compP (xs.take i) ++ (if xs[i] = xs[i - 1] then [] else [xs[i]]) := by
  cases xs with
  | nil => simp at h
  | cons x l =>
    obtain ⟨j, rfl⟩ : ∃ j, i = j + 1 := ⟨i - 1, by omega⟩
    have hj : j < l.length := by simpa using h
    rw [List.take_succ_cons, List.take_succ_cons]
    simp only [compP, List.cons_append]
    rw [take_step l j hj, compF_snoc, List.getElem_cons_succ]
    have e : lastP x (l.take j) = (x :: l)[j + 1 - 1]'(by simp; omega) := by
      rw [lastP_at x (l.take j) (by simp)]
      have hl : (l.take j).length = j := by rw [List.length_take]; omega
      simp only [hl, Nat.add_sub_cancel]
      have e2 : x :: l.take j = (x :: l).take (j + 1) := by rw [List.take_succ_cons]
      simp only [e2, List.getElem_take]
    rw [e]
theorem comp_len : ∀ (l : List GPrefix), (compP l).length ≤ l.length := by
  have h : ∀ (l : List GPrefix) (q : GPrefix), (compF q l).length ≤ l.length := by
    intro l
    induction l with
    | nil => intro q; simp [compF]
    | cons x l ih =>
      intro q
      unfold compF
      split
      · have := ih q; rw [List.length_cons]; omega
      · have := ih x; rw [List.length_cons, List.length_cons]; omega
  intro l
  cases l with
  | nil => simp [compP]
  | cons x l =>
    have := h l x
    simp only [compP, List.length_cons]
    omega
theorem ok_Compact_Prefix (xs : List GPrefix) (hl : xs.length ≤ 1000000) : CallOK Tryz.prog 130 [.c (.sl 0 77 xs.length (xs.flatMap GPrefix.c))] (.c (.sl 0 77 (compP xs).length ((compP xs).flatMap GPrefix.c))) [.c .hole] := by
  refine okS (fn := Tryz.f130) [] h0 Tryz.func130 (by kernel_rfl) rfl Tryz.ntmps130 Tryz.results130 (by simp) ?_
  simp
  by_cases h2 : xs.length < 2
  · have d2 : (xs.length : Int) < 2 := by omega
    have e : compP xs = xs := by
      match xs, h2 with
      | [], _ => rfl
      | [x], _ => rfl
    simp [d2, e]
  · have d2 : ¬ (xs.length : Int) < 2 := by omega
    simp [d2]
    refine loopS [0, 3] [.arg 0 0] (fun m st => ∃ (i : Nat), i + m = xs.length ∧ 1 ≤ i ∧ compP (xs.take i) = xs.take i ∧ st = ⟨slOf 61 [(0, .ref ⟨.arg 0 0, []⟩ 0 xs.length), (3, .t (pi i))], ofL [(.arg 0 0, .sl 0 77 xs.length (xs.flatMap GPrefix.c))]⟩) (xs.length - 1) ?_ ?_
    · rintro Inv hI
      simp
      subst hI
      refine ⟨1, by omega, by omega, ?_, rfl⟩
      cases xs with
      | nil => rfl
      | cons x l => rfl
    · rintro Inv hI m st ⟨i, hi, h1, hc, rfl⟩
      refine ewr_sound (M := []) h0 ?_
      simp
      refine brn_app (fun a => ?_) (fun a => ?_)
      · simp at a
        have hst := comp_step xs i h1 a
        have hd := fm_drop GPrefix.c 2 (fun _ => rfl) xs i a
        have hd1 := fm_drop GPrefix.c 2 (fun _ => rfl) xs (i - 1) (by omega)
        have hlen := fm_len GPrefix.c 2 (fun _ => rfl) xs
        have hlt : i * 2 < xs.length * 2 := by omega
        have hlt1 : (i - 1) * 2 < xs.length * 2 := by omega
        have hle : i * 2 + 2 ≤ xs.length * 2 := by omega
        have hle1 : (i - 1) * 2 + 2 ≤ xs.length * 2 := by omega
        have hi1 : i - 1 < xs.length := by omega
        have w1 : IntKind.i64.wrap ((i : Int) - 1) = ((i - 1 : Nat) : Int) := by
          rw [wrap64 (by omega) (by omega)]
          omega
        simp
        refine drawP (tabEnv [] _) [⟨[.arg 0 0], allD 61, true⟩, ⟨[], allD 61, true⟩, ⟨[.arg 0 0], allD 61, true⟩, ⟨[.arg 0 0], allD 61, true⟩, ⟨[.arg 0 0], allD 61, true⟩, ⟨[], allD 61, true⟩, ⟨[], allD 61, true⟩, ⟨[.arg 0 0], allD 61, true⟩, ⟨[.arg 0 0], allD 61, true⟩, ⟨[], allD 61, true⟩] h0 hm (tabEnv_ok tab_nil) (by kernel_rfl) (by kernel_rfl) ?_
        simp [a, hd, hd1, hlen, hlt, hlt1, w1, hi1, hle, hle1]
        have hx : (decide (xs[i].Addr = xs[i - 1].Addr) && decide (xs[i].Len = xs[i - 1].Len)) = decide (xs[i] = xs[i - 1]) := by
          rw [← Bool.decide_and]
          exact decide_eq_decide.2 (px_ext _ _).symm
        rw [hx]
        by_cases e : xs[i] = xs[i - 1]
        · rw [decide_eq_true e]
          have hile : i ≤ xs.length := by omega
          simp [hile]
          refine loopS [0, 3, 4, 5] [.arg 0 0] (fun m st => ∃ (j : Nat) (C : List PT), j + m = xs.length - i ∧ 1 ≤ j ∧ (compP (xs.take (i + j))).length + 1 ≤ i + j ∧ C.length = xs.length * 2 ∧ C.take ((compP (xs.take (i + j))).length * 2) = (compP (xs.take (i + j))).flatMap GPrefix.c ∧ C.drop ((i + j - 1) * 2) = (xs.drop (i + j - 1)).flatMap GPrefix.c ∧ st = ⟨slOf 61 [(0, .ref ⟨.arg 0 0, []⟩ 0 xs.length), (3, .t (pi (compP (xs.take (i + j))).length)), (4, .ref ⟨.arg 0 0, []⟩ (i * 2) (xs.length - i)), (5, .t (pi j))], ofL [(.arg 0 0, .sl 0 77 xs.length C)]⟩) (xs.length - i - 1) ?_ ?_
          · rintro Inv2 hI2
            simp
            subst hI2
            have hst' := hst
            rw [if_pos e, List.append_nil, hc] at hst'
            have hl1 : (xs.take i).length = i := by rw [List.length_take]; omega
            refine ⟨1, xs.flatMap GPrefix.c, by omega, by omega, by rw [hst', hl1]; exact Nat.le_refl _, hlen, ?_, ?_, ?_⟩
            · rw [hst', hl1]; exact fm_take GPrefix.c 2 (fun _ => rfl) xs i
            · rw [Nat.add_sub_cancel]; exact fm_dropAll GPrefix.c 2 (fun _ => rfl) xs i
            · rw [hst', hl1]
              rfl
          · rintro Inv2 hI2 m2 st ⟨j, C, hj, h1j, hlc, hCl, hCt, hCd, rfl⟩
            have hcs : ∀ (h : i + j < xs.length) (h' : i + j - 1 < xs.length), compP (xs.take (i + (j + 1))) = compP (xs.take (i + j)) ++ (if xs[i + j] = xs[i + j - 1] then [] else [xs[i + j]]) := fun h _ => comp_step xs (i + j) (by omega) h
            have hfin : j = xs.length - i → compP (xs.take (i + j)) = compP xs := fun e => by rw [List.take_of_length_le (by omega)]
            generalize compP (xs.take (i + j)) = O at hlc hCt hcs hfin ⊢
            refine ewr_sound (M := []) h0 ?_
            simp
            refine brn_app (fun c => ?_) (fun c => ?_)
            · simp at c
              have hij : i + j < xs.length := by omega
              have e1 : i + j - 1 < xs.length := by omega
              have hcs' := hcs hij e1
              have hd0 : C.drop ((i + j - 1) * 2) = GPrefix.c xs[i + j - 1] ++ (xs.drop (i + j)).flatMap GPrefix.c := by
                rw [hCd, drop_step _ _ e1, List.flatMap_cons, show i + j - 1 + 1 = i + j by omega]
              have hdj : C.drop ((i + j) * 2) = GPrefix.c xs[i + j] ++ (xs.drop (i + j + 1)).flatMap GPrefix.c := by
                have : (i + j) * 2 = (i + j - 1) * 2 + 2 := by omega
                rw [this, ← List.drop_drop, hd0]
                show (xs.drop (i + j)).flatMap GPrefix.c = _
                rw [drop_step _ _ hij, List.flatMap_cons]
              have wj : IntKind.i64.wrap ((j : Int) - 1) = ((j - 1 : Nat) : Int) := by
                rw [wrap64 (by omega) (by omega)]
                omega
              have g1 : j - 1 < xs.length - i := by omega
              have g2 : i * 2 + j * 2 = (i + j) * 2 := by omega
              have g3 : i * 2 + (j - 1) * 2 = (i + j - 1) * 2 := by omega
              have g4 : (i + j) * 2 + 2 ≤ xs.length * 2 := by omega
              have g5 : (i + j - 1) * 2 + 2 ≤ xs.length * 2 := by omega
              refine drawP (tabEnv [] _) [⟨[.arg 0 0], allD 61, true⟩, ⟨[], allD 61, true⟩, ⟨[.arg 0 0], allD 61, true⟩, ⟨[.arg 0 0], allD 61, true⟩, ⟨[.arg 0 0], allD 61, true⟩, ⟨[], allD 61, true⟩, ⟨[], allD 61, true⟩, ⟨[.arg 0 0], allD 61, true⟩, ⟨[.arg 0 0], allD 61, true⟩, ⟨[], allD 61, true⟩] h0 hm (tabEnv_ok tab_nil) (by kernel_rfl) (by kernel_rfl) ?_
              simp [c, hd0, hdj, hCl, wj, g1, g2, g3, g4, g5]
              have hx2 : (!decide (xs[i + j].Addr = xs[i + j - 1].Addr) || !decide (xs[i + j].Len = xs[i + j - 1].Len)) = !decide (xs[i + j] = xs[i + j - 1]) := by
                rw [← Bool.not_and, ← Bool.decide_and]
                congr 1
                exact decide_eq_decide.2 (px_ext _ _).symm
              rw [hx2]
              by_cases e2 : xs[i + j] = xs[i + j - 1]
              · rw [decide_eq_true e2]
                rw [if_pos e2, List.append_nil] at hcs'
                simp
                subst hI2
                refine Less_mk (m2 - 1) (by omega) ⟨j + 1, C, by omega, by omega, by rw [hcs']; omega, hCl, by rw [hcs']; exact hCt, ?_, ?_⟩
                · rw [show i + (j + 1) - 1 = i + j by omega, hdj, drop_step _ _ hij, List.flatMap_cons]
                · rw [hcs', wrNext j (by omega)]
              · rw [decide_eq_false e2]
                rw [if_neg e2] at hcs'
                have hO1 : O.length < xs.length := by omega
                have hO2 : O.length * 2 < xs.length * 2 := by omega
                have hO3 : O.length * 2 + 2 ≤ xs.length * 2 := by omega
                simp [hCl, c, hdj, hO1, hO2, hO3, g2, g4]
                subst hI2
                obtain ⟨q1, q2, q3⟩ := putq C (pi xs[i + j].Addr) (pi xs[i + j].Len) O.length (i + j - 1) (by omega) (by omega)
                have hOl : (O ++ [xs[i + j]]).length = O.length + 1 := by simp
                refine Less_mk (m2 - 1) (by omega) ⟨j + 1, _, by omega, by omega, by rw [hcs', hOl]; omega, q1.trans hCl, ?_, ?_, ?_⟩
                · rw [hcs', hOl, q2, hCt, List.flatMap_append]
                  rfl
                · rw [show i + (j + 1) - 1 = i + j - 1 + 1 by omega, q3, show i + j - 1 + 1 = i + j by omega, hdj, drop_step _ _ hij, List.flatMap_cons]
                · rw [hcs', hOl, wrNext O.length (by omega), wrNext j (by omega)]
            · simp at c
              have hjn : j = xs.length - i := by omega
              have hf := hfin hjn
              subst hf
              have hOl : (compP xs).length ≤ xs.length := by omega
              have hz0 : ¬ xs.length - (compP xs).length = 0 := by omega
              have hz1 : (compP xs).length * 2 + (xs.length - (compP xs).length) * 2 ≤ C.length := by omega
              have hz2 : (compP xs).length * 2 ≤ min ((compP xs).length * 2) C.length + ((xs.length - (compP xs).length) * 2 + (C.length - ((compP xs).length * 2 + (xs.length - (compP xs).length) * 2))) := by omega
              have hCtl : (C.take ((compP xs).length * 2)).length = (compP xs).length * 2 := by rw [List.length_take]; omega
              have hTT : ∀ Y, List.take ((compP xs).length * 2) (C.take ((compP xs).length * 2) ++ Y) = C.take ((compP xs).length * 2) := fun Y => List.take_left' hCtl
              rw [← hCt]
              simp [hOl, hz0, hz1, hz2, hTT]
        · rw [decide_eq_false e]
          rw [if_neg e, hc] at hst
          simp
          subst hI
          refine Less_mk (m - 1) (by omega) ⟨i + 1, by omega, by omega, ?_, by rw [wrNext i (by omega)]⟩
          rw [hst, take_step xs i a]
      · simp at a
        have hin : i = xs.length := by omega
        rw [hin, List.take_length] at hc
        rw [hc]
        simp
end Go.V
