/- What functions of the seat's program do, each proved of its code, under the bounds that its theorem names. -/
import Derived.Test.YtnjiehcikhlliaaTad
set_option linter.all false
namespace Go.V
open Go.Proofs
set_option maxHeartbeats 1000000
set_option maxRecDepth 10000
set_option linter.unusedSimpArgs false
set_option linter.unusedVariables false
theorem ok_l4Rising (k : Nat) (l : List GPrefix) (hll : l.length ≤ 140737488351232) : CallOK Try.prog 44 [.c (rd k l.length (l.flatMap GPrefix.c))] (.c (pb (goodPs l))) [.c (rd k l.length (l.flatMap GPrefix.c))] := by
  refine okS (fn := Try.f44) [] h0 Try.func44 (by kernel_rfl) rfl Try.ntmps44 Try.results44 (by simp) ?_
  simp
  refine loopS [0, 5, 6, 7] [] (fun n st => ∃ (i : Nat), i + n = l.length ∧ risG (prevPx l i) (l.drop i) = risG none l ∧ st = ⟨slOf 33 [(0, .t (rd k l.length (l.flatMap GPrefix.c))), (5, .t (rd k l.length (l.flatMap GPrefix.c))), (6, .t (pi l.length)), (7, .t (pi i))], ofL []⟩) l.length ?_ ?_
  · rintro Inv hI
    simp
    subst hI
    exact ⟨0, by omega, rfl, rfl⟩
  · rintro Inv hI n st ⟨i, hi, hg, rfl⟩
    refine ewr_sound (M := []) h0 ?_
    simp
    refine brn_app (fun a => ?_) (fun a => ?_)
    · simp at a
      rw [drop_step _ i a, risG] at hg
      have hd := fm_drop GPrefix.c 2 (fun _ => rfl) l i a
      have hlen := fm_len GPrefix.c 2 (fun _ => rfl) l
      have hlt : i * 2 < l.length * 2 := by omega
      have en : prevPx l (i + 1) = some l[i] := prevPx_next l i a
      simp [a, hd, hlen, hlt]
      have hR := ok_sGoodPrefix l[i]
      by_cases c0 : i = 0
      · have e0 : ¬ 0 < i := by omega
        have ep : prevPx l i = none := by simp [prevPx, c0]
        rw [ep, adjPx, Bool.and_true] at hg
        refine drawP (tabEnv [] _) [⟨[.op 3 3 0], allD 33, true⟩, ⟨[], allD 33, false⟩, ⟨[], allD 33, true⟩, ⟨[], allD 33, true⟩, ⟨[], allD 33, true⟩, ⟨[], allD 33, true⟩, ⟨[], allD 33, true⟩, ⟨[], allD 33, true⟩, ⟨[], allD 33, true⟩, ⟨[], allD 33, true⟩, ⟨[], allD 33, true⟩, ⟨[], allD 33, true⟩, ⟨[.op 3 3 0], allD 33, true⟩, ⟨[], allD 33, false⟩, ⟨[], allD 33, true⟩, ⟨[], allD 33, true⟩, ⟨[], allD 33, true⟩] h0 hm (tabEnv_ok (tab_cons hR tab_nil)) (by kernel_rfl) (by kernel_rfl) ?_
        cases c1 : goodPx l[i] with
        | false =>
          rw [c1, Bool.false_and] at hg
          simp [c1, goodPs, ← hg]
        | true =>
          rw [c1, Bool.true_and] at hg
          simp [c1, e0]
          subst hI
          exact Less_mk (n - 1) (by omega) ⟨i + 1, by omega, by rw [en]; exact hg, by rw [wrNext i (by omega)]⟩
      · obtain ⟨j, hj⟩ : ∃ j, i = j + 1 := ⟨i - 1, by omega⟩
        have aj : j < l.length := by omega
        have ep : prevPx l i = some l[j] := by subst hj; exact prevPx_next l j aj
        have hdj := fm_drop GPrefix.c 2 (fun _ => rfl) l j aj
        have hltj : j * 2 < l.length * 2 := by omega
        have hw : IntKind.wrap .i64 ((i : Int) - 1) = j := (wrap64 (by omega) (by omega)).trans (by omega)
        have e0 : 0 < i := by omega
        rw [ep, adjPx] at hg
        refine drawP (tabEnv [] _) [⟨[.op 3 3 0], allD 33, true⟩, ⟨[], allD 33, false⟩, ⟨[], allD 33, true⟩, ⟨[], allD 33, true⟩, ⟨[], allD 33, true⟩, ⟨[], allD 33, true⟩, ⟨[], allD 33, true⟩, ⟨[], allD 33, true⟩, ⟨[], allD 33, true⟩, ⟨[], allD 33, true⟩, ⟨[], allD 33, true⟩, ⟨[], allD 33, true⟩, ⟨[.op 3 3 0], allD 33, true⟩, ⟨[], allD 33, false⟩, ⟨[], allD 33, true⟩, ⟨[], allD 33, true⟩, ⟨[], allD 33, true⟩] h0 hm (tabEnv_ok (tab_cons hR (tab_cons (ok_l1Compare l[j] l[i]) tab_nil))) (by kernel_rfl) (by kernel_rfl) ?_
        cases c1 : goodPx l[i] with
        | false =>
          rw [c1, Bool.false_and, Bool.false_and] at hg
          simp [c1, goodPs, ← hg]
        | true =>
          rw [c1, Bool.true_and] at hg
          by_cases c2 : cmpPx l[j] l[i] < 0
          · have c3 : ¬ 0 ≤ cmpPx l[j] l[i] := by omega
            rw [decide_eq_true c2, Bool.true_and] at hg
            simp [c1, e0, hw, aj, hdj, hlen, hltj, c3]
            subst hI
            exact Less_mk (n - 1) (by omega) ⟨i + 1, by omega, by rw [en]; exact hg, by rw [wrNext i (by omega)]⟩
          · have c3 : 0 ≤ cmpPx l[j] l[i] := by omega
            rw [decide_eq_false c2, Bool.false_and] at hg
            simp [c1, e0, hw, aj, hdj, hlen, hltj, c3, goodPs, ← hg]
    · simp at a
      rw [List.drop_of_length_le (by omega), risG] at hg
      simp [goodPs, ← hg]
      omega
theorem px_dec (p q : GPrefix) : (decide (p.Addr = q.Addr) && decide (p.Len = q.Len)) = decide (p = q) := by
  rw [← Bool.decide_and]
  exact decide_eq_decide.2 (px_ext p q).symm
theorem ok_l4In (k : Nat) (l : List GPrefix) (p : GPrefix) (hll : l.length ≤ 140737488351232) : CallOK Try.prog 40 [.c (rd k l.length (l.flatMap GPrefix.c)), .agg p.c] (.c (pb (decide (p ∈ l)))) [.c (rd k l.length (l.flatMap GPrefix.c)), .agg p.c] := by
  refine okS (fn := Try.f40) [] h0 Try.func40 (by kernel_rfl) rfl Try.ntmps40 Try.results40 (by simp) ?_
  simp
  refine loopS [3, 7, 8, 9] [.op 0 0 0] (fun n st => ∃ (i : Nat), i + n = l.length ∧ decide (p ∈ l) = decide (p ∈ l.drop i) ∧ st = ⟨slOf 17 [(3, .ptr ⟨.op 0 0 0, []⟩ 0), (7, .t (rd k l.length (l.flatMap GPrefix.c))), (8, .t (pi l.length)), (9, .t (pi i))], ofL [(.op 0 0 0, .sl 0 56 1 p.c)]⟩) l.length ?_ ?_
  · rintro Inv hI
    simp
    subst hI
    exact ⟨0, by omega, rfl, rfl⟩
  · rintro Inv hI n st ⟨i, hi, hg, rfl⟩
    refine ewr_sound (M := []) h0 ?_
    simp
    refine brn_app (fun a => ?_) (fun a => ?_)
    · simp at a
      have hd := fm_drop GPrefix.c 2 (fun _ => rfl) l i a
      have hlen := fm_len GPrefix.c 2 (fun _ => rfl) l
      have hlt : i * 2 < l.length * 2 := by omega
      rw [drop_step _ i a] at hg
      by_cases c : l[i] = p
      · have hg' : decide (p ∈ l) = true := by rw [hg]; exact decide_eq_true (by rw [c]; exact List.mem_cons_self ..)
        simp [a, hd, hlen, hlt, px_dec, c, hg']
      · have hg' : decide (p ∈ l) = decide (p ∈ l.drop (i + 1)) := by
          have this : ¬ p = l[i] := fun e => c e.symm
          rw [hg]
          exact decide_eq_decide.2 (by rw [List.mem_cons]; exact or_iff_right this)
        simp [a, hd, hlen, hlt, px_dec, c]
        subst hI
        exact Less_mk (n - 1) (by omega) ⟨i + 1, by omega, hg', by rw [wrNext i (by omega)]; rfl⟩
    · simp at a
      rw [List.drop_of_length_le (by omega)] at hg
      simp [hg]
theorem ok_l4Zero (k : Nat) (a : GAttrs) : CallOK Try.prog 46 [.agg (GAttrs.ci k a)] (.c (pb (decide (a = zeroA)))) [.agg (GAttrs.ci k a)] := by
  have e : decide (a = zeroA) = (decide (a.Origin = 0) && (decide (a.Path = []) && (decide (a.Next = 0) && (decide (a.Med = 0) && (decide (a.Pref = 0) && decide (a.Comms = [])))))) := attrs_ext a zeroA
  rw [e]
  refine okS (fn := Try.f46) [] h0 Try.func46 (by kernel_rfl) rfl Try.ntmps46 Try.results46 (by simp) ?_
  by_cases c1 : a.Origin = 0
  · by_cases c2 : a.Path = []
    · by_cases c3 : a.Next = 0
      · by_cases c4 : a.Med = 0
        · by_cases c5 : a.Pref = 0
          · by_cases c6 : a.Comms = []
            · simp [c1, c2, c3, c4, c5, c6]
            · simp [c1, c2, c3, c4, c5, c6]
          · simp [c1, c2, c3, c4, c5]
        · simp [c1, c2, c3, c4]
      · simp [c1, c2, c3]
    · simp [c1, c2]
  · simp [c1]
theorem idxPx_mem (l : List GPrefix) (p : GPrefix) : decide (0 ≤ idxOf (fun x => decide (p = x)) l) = decide (p ∈ l) := by
  rw [idxOf_any]
  by_cases h : p ∈ l
  · rw [decide_eq_true h]; exact List.any_eq_true.2 ⟨p, h, by simp⟩
  · rw [decide_eq_false h]
    refine List.any_eq_false.2 fun x hx => ?_
    simp
    rintro rfl
    exact h hx
theorem ok_IndexPx (k : Nat) (l : List GPrefix) (p : GPrefix) (hll : l.length ≤ 140737488351232) : CallOK Try.prog 81 [.c (rd k l.length (l.flatMap GPrefix.c)), .agg p.c] (.c (pi (idxOf (fun x => decide (p = x)) l))) [.c (rd k l.length (l.flatMap GPrefix.c)), .agg p.c] := by
  refine okS (fn := Try.f81) [] h0 Try.func81 (by kernel_rfl) rfl Try.ntmps81 Try.results81 (by simp) ?_
  simp
  refine loopS [0, 3, 6, 7, 8] [.op 0 0 0] (fun n st => ∃ (i : Nat), i + n = l.length ∧ (∀ (j : Nat) (hj : j < i) (hl : j < l.length), ¬ p = l[j]) ∧ st = ⟨slOf 19 [(0, .t (rd k l.length (l.flatMap GPrefix.c))), (3, .ptr ⟨.op 0 0 0, []⟩ 0), (6, .t (rd k l.length (l.flatMap GPrefix.c))), (7, .t (pi l.length)), (8, .t (pi i))], ofL [(.op 0 0 0, .sl 0 56 1 p.c)]⟩) l.length ?_ ?_
  · rintro Inv hI
    simp
    subst hI
    exact ⟨0, by omega, fun j hj => absurd hj (by omega), rfl⟩
  · rintro Inv hI n st ⟨i, hi, hg, rfl⟩
    refine ewr_sound (M := []) h0 ?_
    simp
    refine brn_app (fun a => ?_) (fun a => ?_)
    · simp at a
      have hd := fm_drop GPrefix.c 2 (fun _ => rfl) l i a
      have hlen := fm_len GPrefix.c 2 (fun _ => rfl) l
      have hlt : i * 2 < l.length * 2 := by omega
      simp
      refine drawP E0 [⟨[.op 0 0 0], allD 19, true⟩, ⟨[], allD 19, true⟩, ⟨[], allD 19, true⟩, ⟨[], allD 19, true⟩, ⟨[], allD 19, true⟩, ⟨[], allD 19, true⟩] h0 hm (E0_ok _) (by kernel_rfl) (by kernel_rfl) ?_
      by_cases c : p = l[i]
      · have e : idxOf (fun x => decide (p = x)) l = i := idxOf_hit _ l i a (by simpa using c) fun j hj => by simpa using hg j hj (by omega)
        simp [a, hd, hlen, hlt, px_dec, decide_eq_true c, e]
      · simp [a, hd, hlen, hlt, px_dec, c]
        subst hI
        refine Less_mk (n - 1) (by omega) ⟨i + 1, by omega, fun j hj hl => ?_, by rw [wrNext i (by omega)]; rfl⟩
        rcases Nat.lt_or_ge j i with h | h
        · exact hg j h hl
        · have : j = i := by omega
          subst this
          exact c
    · simp at a
      have e : idxOf (fun x => decide (p = x)) l = -1 := idxOf_no _ l fun j hj => by simpa using hg j (by omega) hj
      simp [e]
theorem ok_ContainsPx (k : Nat) (l : List GPrefix) (p : GPrefix) (hll : l.length ≤ 140737488351232) : CallOK Try.prog 57 [.c (rd k l.length (l.flatMap GPrefix.c)), .agg p.c] (.c (pb (decide (p ∈ l)))) [.c (rd k l.length (l.flatMap GPrefix.c)), .agg p.c] := by
  refine okS (fn := Try.f57) [] h0 Try.func57 (by kernel_rfl) rfl Try.ntmps57 Try.results57 (by simp) ?_
  simp
  refine Inv_intro (ok_IndexPx k l p hll) ?_
  have e := idxPx_mem l p
  generalize idxOf (fun x => decide (p = x)) l = z at e ⊢
  rw [← e]
  simp
theorem ok_areRising (k : Nat) (l : List GPrefix) (hll : l.length ≤ 140737488351232) : CallOK Try.prog 53 [.c (rd k l.length (l.flatMap GPrefix.c))] (.c (pb (risG none l))) [.c (rd k l.length (l.flatMap GPrefix.c))] := by
  refine okS (fn := Try.f53) [] h0 Try.func53 (by kernel_rfl) rfl Try.ntmps53 Try.results53 (by simp) ?_
  simp
  refine loopS [0, 5, 6, 7] [] (fun n st => ∃ (i : Nat), i + n = l.length ∧ risG (prevPx l i) (l.drop i) = risG none l ∧ st = ⟨slOf 30 [(0, .t (rd k l.length (l.flatMap GPrefix.c))), (5, .t (rd k l.length (l.flatMap GPrefix.c))), (6, .t (pi l.length)), (7, .t (pi i))], ofL []⟩) l.length ?_ ?_
  · rintro Inv hI
    simp
    subst hI
    exact ⟨0, by omega, rfl, rfl⟩
  · rintro Inv hI n st ⟨i, hi, hg, rfl⟩
    refine ewr_sound (M := []) h0 ?_
    simp
    refine brn_app (fun a => ?_) (fun a => ?_)
    · simp at a
      rw [drop_step _ i a, risG] at hg
      have hd := fm_drop GPrefix.c 2 (fun _ => rfl) l i a
      have hlen := fm_len GPrefix.c 2 (fun _ => rfl) l
      have hlt : i * 2 < l.length * 2 := by omega
      have en : prevPx l (i + 1) = some l[i] := prevPx_next l i a
      simp [a, hd, hlen, hlt]
      have hR := ok_iGoodPrefix l[i]
      by_cases c0 : i = 0
      · have e0 : ¬ 0 < i := by omega
        have ep : prevPx l i = none := by simp [prevPx, c0]
        rw [ep, adjPx, Bool.and_true] at hg
        refine drawP (tabEnv [] _) [⟨[.op 3 3 0], allD 30, true⟩, ⟨[], allD 30, false⟩, ⟨[], allD 30, true⟩, ⟨[], allD 30, true⟩, ⟨[], allD 30, true⟩, ⟨[], allD 30, true⟩, ⟨[], allD 30, true⟩, ⟨[], allD 30, true⟩, ⟨[], allD 30, true⟩, ⟨[], allD 30, true⟩, ⟨[], allD 30, true⟩, ⟨[], allD 30, true⟩, ⟨[.op 3 3 0], allD 30, true⟩, ⟨[], allD 30, false⟩, ⟨[], allD 30, true⟩, ⟨[], allD 30, true⟩, ⟨[], allD 30, true⟩] h0 hm (tabEnv_ok (tab_cons hR tab_nil)) (by kernel_rfl) (by kernel_rfl) ?_
        cases c1 : goodPx l[i] with
        | false =>
          rw [c1, Bool.false_and] at hg
          simp [c1, ← hg]
        | true =>
          rw [c1, Bool.true_and] at hg
          simp [c1, e0]
          subst hI
          exact Less_mk (n - 1) (by omega) ⟨i + 1, by omega, by rw [en]; exact hg, by rw [wrNext i (by omega)]⟩
      · obtain ⟨j, hj⟩ : ∃ j, i = j + 1 := ⟨i - 1, by omega⟩
        have aj : j < l.length := by omega
        have ep : prevPx l i = some l[j] := by subst hj; exact prevPx_next l j aj
        have hdj := fm_drop GPrefix.c 2 (fun _ => rfl) l j aj
        have hltj : j * 2 < l.length * 2 := by omega
        have hw : IntKind.wrap .i64 ((i : Int) - 1) = j := (wrap64 (by omega) (by omega)).trans (by omega)
        have e0 : 0 < i := by omega
        rw [ep, adjPx] at hg
        refine drawP (tabEnv [] _) [⟨[.op 3 3 0], allD 30, true⟩, ⟨[], allD 30, false⟩, ⟨[], allD 30, true⟩, ⟨[], allD 30, true⟩, ⟨[], allD 30, true⟩, ⟨[], allD 30, true⟩, ⟨[], allD 30, true⟩, ⟨[], allD 30, true⟩, ⟨[], allD 30, true⟩, ⟨[], allD 30, true⟩, ⟨[], allD 30, true⟩, ⟨[], allD 30, true⟩, ⟨[.op 3 3 0], allD 30, true⟩, ⟨[], allD 30, false⟩, ⟨[], allD 30, true⟩, ⟨[], allD 30, true⟩, ⟨[], allD 30, true⟩] h0 hm (tabEnv_ok (tab_cons hR (tab_cons (ok_compare l[j] l[i]) tab_nil))) (by kernel_rfl) (by kernel_rfl) ?_
        cases c1 : goodPx l[i] with
        | false =>
          rw [c1, Bool.false_and, Bool.false_and] at hg
          simp [c1, ← hg]
        | true =>
          rw [c1, Bool.true_and] at hg
          by_cases c2 : cmpPx l[j] l[i] < 0
          · have c3 : ¬ 0 ≤ cmpPx l[j] l[i] := by omega
            rw [decide_eq_true c2, Bool.true_and] at hg
            simp [c1, e0, hw, aj, hdj, hlen, hltj, c3]
            subst hI
            exact Less_mk (n - 1) (by omega) ⟨i + 1, by omega, by rw [en]; exact hg, by rw [wrNext i (by omega)]⟩
          · have c3 : 0 ≤ cmpPx l[j] l[i] := by omega
            rw [decide_eq_false c2, Bool.false_and] at hg
            simp [c1, e0, hw, aj, hdj, hlen, hltj, c3, ← hg]
    · simp at a
      rw [List.drop_of_length_le (by omega), risG] at hg
      simp [← hg]
def updOK (u : GUpdate) : Prop := u.Gone.length ≤ 140737488351232 ∧ u.Come.length ≤ 140737488351232 ∧ attrOK u.Attrs
theorem ok_GoodUpdate1 (q k : Nat) (p : GPrefix) (u : GUpdate) (h : u.Come.length ≤ 140737488351232) : CallOK Try.prog 56 [.agg p.c, .ip q (GUpdate.ci k u)] (.c (pb (decide (p ∈ u.Come)))) [.agg p.c, .ip q (GUpdate.ci k u)] := by
  refine okS (fn := Try.f56) [] h0 Try.func56 (by kernel_rfl) rfl Try.ntmps56 Try.results56 (by simp) ?_
  simp
  refine Inv_intro (ok_ContainsPx k u.Come p h) ?_
  simp
theorem any_come (u : GUpdate) : u.Gone.any (fun p => decide (p ∈ u.Come)) = !u.Come.all (fun p => !decide (p ∈ u.Gone)) := by
  rw [Bool.eq_iff_iff]
  simp
  constructor
  · rintro ⟨x, h1, h2⟩; exact ⟨x, h2, h1⟩
  · rintro ⟨x, h1, h2⟩; exact ⟨x, h2, h1⟩
theorem ok_iGoodUpdate (k : Nat) (u : GUpdate) (hu : updOK u) : CallOK Try.prog 25 [.agg (GUpdate.ci k u)] (.c (pb (goodU u))) [.agg (GUpdate.ci k u)] := by
  obtain ⟨u1, u2, u3⟩ := hu
  have hz := ok_sameAttrs k 1 u.Attrs zeroA u3 ⟨by decide, by decide⟩
  refine okS (fn := Try.f25) [] h0 Try.func25 (by kernel_rfl) rfl Try.ntmps25 Try.results25 (by simp) ?_
  by_cases c1 : u.Gone.length ≤ 10
  · by_cases c2 : u.Come.length ≤ 10
    · have d1 : ¬ (10 : Int) < (u.Gone.length : Int) := by omega
      have d2 : ¬ (10 : Int) < (u.Come.length : Int) := by omega
      simp [d1, d2]
      refine Inv_intro (ok_areRising k u.Gone u1) ?_
      cases c3 : risG none u.Gone with
      | false => simp [goodU, goodPs, c3]
      | true =>
        simp
        refine Inv_intro (ok_areRising k u.Come u2) ?_
        cases c4 : risG none u.Come with
        | false => simp [goodU, goodPs, c4]
        | true =>
          simp
          refine Inv_intro (ok_iGoodAttrs k u.Attrs u3) ?_
          cases c5 : goodA u.Attrs with
          | false => simp [goodU, goodPs, c5]
          | true =>
            simp
            refine Inv_intro (ok_ContainsFunc_Prefix k 1 56 [GUpdate.ci 0 u] (fun p => decide (p ∈ u.Come)) u.Gone u1 fun x _ => ok_GoodUpdate1 1 0 x u u2) ?_
            rw [any_come]
            cases c6 : u.Come.all (fun p => !decide (p ∈ u.Gone)) with
            | false => simp [goodU, c6]
            | true =>
              have e : goodU u = (decide (u.Come ≠ []) || decide (u.Attrs = zeroA)) := by simp only [goodU, goodPs, c3, c4, c5, c6, c1, c2, decide_true, Bool.true_and]
              rw [e]
              by_cases c7 : u.Come = []
              · simp [c7]
                refine Inv_intro hz ?_
                simp
              · have c8 : 0 < u.Come.length := List.length_pos_iff.2 c7
                simp [c7, c8]
    · have d1 : ¬ (10 : Int) < (u.Gone.length : Int) := by omega
      have d2 : (10 : Int) < (u.Come.length : Int) := by omega
      simp [d1, d2, goodU, goodPs, c2]
  · have d1 : (10 : Int) < (u.Gone.length : Int) := by omega
    simp [d1, goodU, goodPs, c1]
theorem ok_HearAll1 (k : Nat) (u : GUpdate) (hu : updOK u) : CallOK Try.prog 24 [.agg (GUpdate.ci k u)] (.c (pb (!goodU u))) [.agg (GUpdate.ci k u)] := by
  refine okS (fn := Try.f24) [] h0 Try.func24 (by kernel_rfl) rfl Try.ntmps24 Try.results24 (by simp) ?_
  simp
  refine Inv_intro (ok_iGoodUpdate k u hu) ?_
  simp
theorem ok_iGoodRoutes (k : Nat) (l : List GRoute) (hl : routesOK l) : CallOK Try.prog 22 [.c (rd k l.length (l.flatMap (GRoute.ci k)))] (.c (pb (goodRs l))) [.c (rd k l.length (l.flatMap (GRoute.ci k)))] := by
  obtain ⟨hll, hlx⟩ := hl
  refine okS (fn := Try.f22) [] h0 Try.func22 (by kernel_rfl) rfl Try.ntmps22 Try.results22 (by simp) ?_
  simp
  refine loopS [0, 5, 6, 7] [] (fun n st => ∃ (i : Nat), i + n = l.length ∧ routesG (prevR l i) (l.drop i) = routesG none l ∧ st = ⟨slOf 35 [(0, .t (rd k l.length (l.flatMap (GRoute.ci k)))), (5, .t (rd k l.length (l.flatMap (GRoute.ci k)))), (6, .t (pi l.length)), (7, .t (pi i))], ofL []⟩) l.length ?_ ?_
  · rintro Inv hI
    simp
    subst hI
    exact ⟨0, by omega, rfl, rfl⟩
  · rintro Inv hI n st ⟨i, hi, hg, rfl⟩
    refine ewr_sound (M := []) h0 ?_
    simp
    refine brn_app (fun a => ?_) (fun a => ?_)
    · simp at a
      have hx := hlx l[i] (List.getElem_mem a)
      rw [drop_step _ i a, routesG] at hg
      have hd := fm_drop (GRoute.ci k) 8 (fun _ => rfl) l i a
      have hlen := fm_len (GRoute.ci k) 8 (fun _ => rfl) l
      have hlt : i * 8 < l.length * 8 := by omega
      have en : prevR l (i + 1) = some l[i] := prevR_next l i a
      simp [a, hd, hlen, hlt]
      have hR := ok_iGoodRoute k l[i] hx
      by_cases c0 : i = 0
      · have e0 : ¬ 0 < i := by omega
        have ep : prevR l i = none := by simp [prevR, c0]
        rw [ep, adjR, Bool.and_true] at hg
        refine drawP (tabEnv [] _) [⟨[.op 3 3 0], allD 35, true⟩, ⟨[], allD 35, false⟩, ⟨[], allD 35, true⟩, ⟨[], allD 35, true⟩, ⟨[], allD 35, true⟩, ⟨[], allD 35, true⟩, ⟨[], allD 35, true⟩, ⟨[], allD 35, true⟩, ⟨[], allD 35, true⟩, ⟨[], allD 35, true⟩, ⟨[], allD 35, true⟩, ⟨[], allD 35, true⟩, ⟨[], allD 35, true⟩, ⟨[.op 3 3 0], allD 35, true⟩, ⟨[.op 3 3 0], allD 35, true⟩, ⟨[], allD 35, false⟩, ⟨[], allD 35, true⟩, ⟨[], allD 35, true⟩, ⟨[], allD 35, true⟩] h0 hm (tabEnv_ok (tab_cons hR tab_nil)) (by kernel_rfl) (by kernel_rfl) ?_
        cases c1 : goodR l[i] with
        | false =>
          rw [c1, Bool.false_and] at hg
          simp [c1, goodRs, ← hg]
        | true =>
          rw [c1, Bool.true_and] at hg
          simp [c1, e0]
          subst hI
          exact Less_mk (n - 1) (by omega) ⟨i + 1, by omega, by rw [en]; exact hg, by rw [wrNext i (by omega)]⟩
      · obtain ⟨j, hj⟩ : ∃ j, i = j + 1 := ⟨i - 1, by omega⟩
        have aj : j < l.length := by omega
        have ep : prevR l i = some l[j] := by subst hj; exact prevR_next l j aj
        have hdj := fm_drop (GRoute.ci k) 8 (fun _ => rfl) l j aj
        have hltj : j * 8 < l.length * 8 := by omega
        have hw : IntKind.wrap .i64 ((i : Int) - 1) = j := (wrap64 (by omega) (by omega)).trans (by omega)
        have e0 : 0 < i := by omega
        rw [ep, adjR] at hg
        refine drawP (tabEnv [] _) [⟨[.op 3 3 0], allD 35, true⟩, ⟨[], allD 35, false⟩, ⟨[], allD 35, true⟩, ⟨[], allD 35, true⟩, ⟨[], allD 35, true⟩, ⟨[], allD 35, true⟩, ⟨[], allD 35, true⟩, ⟨[], allD 35, true⟩, ⟨[], allD 35, true⟩, ⟨[], allD 35, true⟩, ⟨[], allD 35, true⟩, ⟨[], allD 35, true⟩, ⟨[], allD 35, true⟩, ⟨[.op 3 3 0], allD 35, true⟩, ⟨[.op 3 3 0], allD 35, true⟩, ⟨[], allD 35, false⟩, ⟨[], allD 35, true⟩, ⟨[], allD 35, true⟩, ⟨[], allD 35, true⟩] h0 hm (tabEnv_ok (tab_cons hR (tab_cons (ok_compare l[j].Prefix l[i].Prefix) tab_nil))) (by kernel_rfl) (by kernel_rfl) ?_
        cases c1 : goodR l[i] with
        | false =>
          rw [c1, Bool.false_and, Bool.false_and] at hg
          simp [c1, goodRs, ← hg]
        | true =>
          rw [c1, Bool.true_and] at hg
          by_cases c2 : cmpPx l[j].Prefix l[i].Prefix < 0
          · have c3 : ¬ 0 ≤ cmpPx l[j].Prefix l[i].Prefix := by omega
            rw [decide_eq_true c2, Bool.true_and] at hg
            simp [c1, e0, hw, aj, hdj, hlen, hltj, c3]
            subst hI
            exact Less_mk (n - 1) (by omega) ⟨i + 1, by omega, by rw [en]; exact hg, by rw [wrNext i (by omega)]⟩
          · have c3 : 0 ≤ cmpPx l[j].Prefix l[i].Prefix := by omega
            rw [decide_eq_false c2, Bool.false_and] at hg
            simp [c1, e0, hw, aj, hdj, hlen, hltj, c3, goodRs, ← hg]
    · simp at a
      rw [List.drop_of_length_le (by omega), routesG] at hg
      simp [goodRs, ← hg]
      omega
theorem ok_sGoodAttrs (k : Nat) (x : GAttrs) (hx : attrOK x) : CallOK Try.prog 45 [.agg (GAttrs.ci k x)] (.c (pb (goodA x))) [.agg (GAttrs.ci k x)] := by
  obtain ⟨h1, h2⟩ := hx
  refine okS (fn := Try.f45) [] h0 Try.func45 (by kernel_rfl) rfl Try.ntmps45 Try.results45 (by simp) ?_
  simp
  refine loopS [1, 8, 9, 10] [.op 0 0 0] (fun n st => ∃ (i : Nat), i + n = x.Path.length ∧ (x.Path.drop i).all isAsnB = x.Path.all isAsnB ∧ st = ⟨slOf 74 [(1, .ptr ⟨.op 0 0 0, []⟩ 0), (8, .t (rd k x.Path.length (x.Path.map pi))), (9, .t (pi x.Path.length)), (10, .t (pi i))], ofL [(.op 0 0 0, .sl 0 52 1 (GAttrs.ci k x))]⟩) x.Path.length ?_ ?_
  · rintro Inv hI
    simp
    subst hI
    exact ⟨0, by omega, rfl, rfl⟩
  · rintro Inv hI n st ⟨i, hi, hg, rfl⟩
    refine ewr_sound (M := []) h0 ?_
    simp
    refine brn_app (fun a => ?_) (fun a => ?_)
    · simp at a
      rw [drop_step _ i a, List.all_cons] at hg
      simp [a]
      refine Inv_intro (ok_l1In _ _ _) ?_
      by_cases c : 1 ≤ x.Path[i] ∧ x.Path[i] ≤ 65535
      · have c' : isAsnB x.Path[i] = true := inR_t c
        rw [c', Bool.true_and] at hg
        simp [c]
        subst hI
        exact Less_mk (n - 1) (by omega) ⟨i + 1, by omega, hg, by rw [wrNext i (by omega)]; rfl⟩
      · have c' : isAsnB x.Path[i] = false := by simp only [isAsnB, inR, decide_eq_false_iff_not]; exact c
        rw [c', Bool.false_and] at hg
        simp [c, goodA, goodPa, ← hg]
    · simp at a
      rw [List.drop_of_length_le (by omega), List.all_nil] at hg
      simp
      refine loopS [1, 19, 20, 21] [.op 0 0 0] (fun n st => ∃ (i : Nat), i + n = x.Comms.length ∧ commsG (prevI x.Comms i) (x.Comms.drop i) = commsG none x.Comms ∧ st = ⟨slOf 74 [(1, .ptr ⟨.op 0 0 0, []⟩ 0), (19, .t (rd k x.Comms.length (x.Comms.map pi))), (20, .t (pi x.Comms.length)), (21, .t (pi i))], ofL [(.op 0 0 0, .sl 0 52 1 (GAttrs.ci k x))]⟩) x.Comms.length ?_ ?_
      · rintro Inv hI
        simp
        subst hI
        exact ⟨0, by omega, rfl, rfl⟩
      · rintro Inv hI n st ⟨i, hi, hc, rfl⟩
        refine ewr_sound (M := []) h0 ?_
        simp
        refine brn_app (fun a => ?_) (fun a => ?_)
        · simp at a
          rw [drop_step _ i a, commsG] at hc
          have en : prevI x.Comms (i + 1) = some x.Comms[i] := prevI_next x.Comms i a
          simp [a]
          refine Inv_intro (ok_l1In _ _ _) ?_
          by_cases c1 : 0 ≤ x.Comms[i] ∧ x.Comms[i] ≤ 1000000
          · have c1' : isValB x.Comms[i] = true := inR_t c1
            rw [c1', Bool.true_and] at hc
            by_cases c0 : i = 0
            · have e0 : ¬ 0 < i := by omega
              have ep : prevI x.Comms i = none := by simp [prevI, c0]
              rw [ep, adjI, Bool.true_and] at hc
              simp [c1, e0]
              subst hI
              exact Less_mk (n - 1) (by omega) ⟨i + 1, by omega, by rw [en]; exact hc, by rw [wrNext i (by omega)]; rfl⟩
            · obtain ⟨j, hj⟩ : ∃ j, i = j + 1 := ⟨i - 1, by omega⟩
              have aj : j < x.Comms.length := by omega
              have ep : prevI x.Comms i = some x.Comms[j] := by subst hj; exact prevI_next x.Comms j aj
              have hw : IntKind.wrap .i64 ((i : Int) - 1) = j := (wrap64 (by omega) (by omega)).trans (by omega)
              have e0 : 0 < i := by omega
              rw [ep, adjI] at hc
              simp [c1, e0, hw, aj]
              refine brn_app (fun c => ?_) (fun c => ?_)
              · simp at c
                have c' : ¬ x.Comms[j] < x.Comms[i] := by omega
                simp [c'] at hc
                simp [goodA, goodCm, hc]
              · simp at c
                have c' : x.Comms[j] < x.Comms[i] := by omega
                simp [c'] at hc
                simp
                subst hI
                exact Less_mk (n - 1) (by omega) ⟨i + 1, by omega, by rw [en]; exact hc, by rw [wrNext i (by omega)]; rfl⟩
          · have c1' : isValB x.Comms[i] = false := by simp only [isValB, inR, decide_eq_false_iff_not]; exact c1
            rw [c1', Bool.false_and, Bool.false_and] at hc
            simp [c1, goodA, goodCm, ← hc]
        · simp at a
          rw [List.drop_of_length_le (by omega), commsG] at hc
          simp
          refine Inv_intro (ok_l1In _ _ _) ?_
          by_cases c1 : 0 ≤ x.Origin ∧ x.Origin ≤ 2
          · simp [c1]
            by_cases c2 : x.Path.length ≤ 10
            · have c2' : (x.Path.length : Int) ≤ 10 := by omega
              simp [c2']
              refine Inv_intro (ok_l1Addr _) ?_
              cases c3 : inR x.Next 0 4294967295 with
              | false => simp [goodA, c3]
              | true =>
                simp
                refine Inv_intro (ok_l1In _ _ _) ?_
                by_cases c4 : 0 ≤ x.Med ∧ x.Med ≤ 1000000
                · simp [c4]
                  refine Inv_intro (ok_l1In _ _ _) ?_
                  by_cases c5 : 0 ≤ x.Pref ∧ x.Pref ≤ 1000000
                  · have c4' : isValB x.Med = true := inR_t c4
                    have c5' : isValB x.Pref = true := inR_t c5
                    have hp : goodPa x.Path = true := by simp [goodPa, c2, ← hg]
                    have hcm : goodCm x.Comms = decide ((x.Comms.length : Int) ≤ 6) := by
                      simp only [goodCm, ← hc, Bool.true_and]
                      exact decide_eq_decide.2 (by omega)
                    simp [c5, goodA, c3, c4', c5', hp, hcm, inR_t c1]
                  · have c5' : isValB x.Pref = false := by simp only [isValB, inR, decide_eq_false_iff_not]; exact c5
                    simp [c5, goodA, c5']
                · have c4' : isValB x.Med = false := by simp only [isValB, inR, decide_eq_false_iff_not]; exact c4
                  simp [c4, goodA, c4']
            · have c2' : ¬ (x.Path.length : Int) ≤ 10 := by omega
              simp [c2', goodA, goodPa, c2]
          · have c1' : inR x.Origin 0 2 = false := by simp only [inR, decide_eq_false_iff_not]; exact c1
            simp [c1, goodA, c1']
theorem ok_sGoodRoute (k : Nat) (r : GRoute) (hx : attrOK r.Attrs) : CallOK Try.prog 38 [.agg (GRoute.ci k r)] (.c (pb (goodR r))) [.agg (GRoute.ci k r)] := by
  refine okS (fn := Try.f38) [] h0 Try.func38 (by kernel_rfl) rfl Try.ntmps38 Try.results38 (by simp) ?_
  simp
  refine Inv_intro (ok_sGoodPrefix r.Prefix) ?_
  cases c1 : goodPx r.Prefix with
  | false => simp [goodR, c1]
  | true =>
    simp
    refine Inv_intro (ok_sGoodAttrs k r.Attrs hx) ?_
    simp [goodR, c1]
theorem ok_sGoodRoutes (k : Nat) (l : List GRoute) (hl : routesOK l) : CallOK Try.prog 17 [.c (rd k l.length (l.flatMap (GRoute.ci k)))] (.c (pb (goodRs l))) [.c (rd k l.length (l.flatMap (GRoute.ci k)))] := by
  obtain ⟨hll, hlx⟩ := hl
  refine okS (fn := Try.f17) [] h0 Try.func17 (by kernel_rfl) rfl Try.ntmps17 Try.results17 (by simp) ?_
  simp
  refine loopS [0, 5, 6, 7] [] (fun n st => ∃ (i : Nat), i + n = l.length ∧ routesG (prevR l i) (l.drop i) = routesG none l ∧ st = ⟨slOf 35 [(0, .t (rd k l.length (l.flatMap (GRoute.ci k)))), (5, .t (rd k l.length (l.flatMap (GRoute.ci k)))), (6, .t (pi l.length)), (7, .t (pi i))], ofL []⟩) l.length ?_ ?_
  · rintro Inv hI
    simp
    subst hI
    exact ⟨0, by omega, rfl, rfl⟩
  · rintro Inv hI n st ⟨i, hi, hg, rfl⟩
    refine ewr_sound (M := []) h0 ?_
    simp
    refine brn_app (fun a => ?_) (fun a => ?_)
    · simp at a
      have hx := hlx l[i] (List.getElem_mem a)
      rw [drop_step _ i a, routesG] at hg
      have hd := fm_drop (GRoute.ci k) 8 (fun _ => rfl) l i a
      have hlen := fm_len (GRoute.ci k) 8 (fun _ => rfl) l
      have hlt : i * 8 < l.length * 8 := by omega
      have en : prevR l (i + 1) = some l[i] := prevR_next l i a
      simp [a, hd, hlen, hlt]
      have hR := ok_sGoodRoute k l[i] hx
      by_cases c0 : i = 0
      · have e0 : ¬ 0 < i := by omega
        have ep : prevR l i = none := by simp [prevR, c0]
        rw [ep, adjR, Bool.and_true] at hg
        refine drawP (tabEnv [] _) [⟨[.op 3 3 0], allD 35, true⟩, ⟨[], allD 35, false⟩, ⟨[], allD 35, true⟩, ⟨[], allD 35, true⟩, ⟨[], allD 35, true⟩, ⟨[], allD 35, true⟩, ⟨[], allD 35, true⟩, ⟨[], allD 35, true⟩, ⟨[], allD 35, true⟩, ⟨[], allD 35, true⟩, ⟨[], allD 35, true⟩, ⟨[], allD 35, true⟩, ⟨[], allD 35, true⟩, ⟨[.op 3 3 0], allD 35, true⟩, ⟨[.op 3 3 0], allD 35, true⟩, ⟨[], allD 35, false⟩, ⟨[], allD 35, true⟩, ⟨[], allD 35, true⟩, ⟨[], allD 35, true⟩] h0 hm (tabEnv_ok (tab_cons hR tab_nil)) (by kernel_rfl) (by kernel_rfl) ?_
        cases c1 : goodR l[i] with
        | false =>
          rw [c1, Bool.false_and] at hg
          simp [c1, goodRs, ← hg]
        | true =>
          rw [c1, Bool.true_and] at hg
          simp [c1, e0]
          subst hI
          exact Less_mk (n - 1) (by omega) ⟨i + 1, by omega, by rw [en]; exact hg, by rw [wrNext i (by omega)]⟩
      · obtain ⟨j, hj⟩ : ∃ j, i = j + 1 := ⟨i - 1, by omega⟩
        have aj : j < l.length := by omega
        have ep : prevR l i = some l[j] := by subst hj; exact prevR_next l j aj
        have hdj := fm_drop (GRoute.ci k) 8 (fun _ => rfl) l j aj
        have hltj : j * 8 < l.length * 8 := by omega
        have hw : IntKind.wrap .i64 ((i : Int) - 1) = j := (wrap64 (by omega) (by omega)).trans (by omega)
        have e0 : 0 < i := by omega
        rw [ep, adjR] at hg
        refine drawP (tabEnv [] _) [⟨[.op 3 3 0], allD 35, true⟩, ⟨[], allD 35, false⟩, ⟨[], allD 35, true⟩, ⟨[], allD 35, true⟩, ⟨[], allD 35, true⟩, ⟨[], allD 35, true⟩, ⟨[], allD 35, true⟩, ⟨[], allD 35, true⟩, ⟨[], allD 35, true⟩, ⟨[], allD 35, true⟩, ⟨[], allD 35, true⟩, ⟨[], allD 35, true⟩, ⟨[], allD 35, true⟩, ⟨[.op 3 3 0], allD 35, true⟩, ⟨[.op 3 3 0], allD 35, true⟩, ⟨[], allD 35, false⟩, ⟨[], allD 35, true⟩, ⟨[], allD 35, true⟩, ⟨[], allD 35, true⟩] h0 hm (tabEnv_ok (tab_cons hR (tab_cons (ok_l1Compare l[j].Prefix l[i].Prefix) tab_nil))) (by kernel_rfl) (by kernel_rfl) ?_
        cases c1 : goodR l[i] with
        | false =>
          rw [c1, Bool.false_and, Bool.false_and] at hg
          simp [c1, goodRs, ← hg]
        | true =>
          rw [c1, Bool.true_and] at hg
          by_cases c2 : cmpPx l[j].Prefix l[i].Prefix < 0
          · have c3 : ¬ 0 ≤ cmpPx l[j].Prefix l[i].Prefix := by omega
            rw [decide_eq_true c2, Bool.true_and] at hg
            simp [c1, e0, hw, aj, hdj, hlen, hltj, c3]
            subst hI
            exact Less_mk (n - 1) (by omega) ⟨i + 1, by omega, by rw [en]; exact hg, by rw [wrNext i (by omega)]⟩
          · have c3 : 0 ≤ cmpPx l[j].Prefix l[i].Prefix := by omega
            rw [decide_eq_false c2, Bool.false_and] at hg
            simp [c1, e0, hw, aj, hdj, hlen, hltj, c3, goodRs, ← hg]
    · simp at a
      rw [List.drop_of_length_le (by omega), routesG] at hg
      simp [goodRs, ← hg]
      omega
end Go.V
