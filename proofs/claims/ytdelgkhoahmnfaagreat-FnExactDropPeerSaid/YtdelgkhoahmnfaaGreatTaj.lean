/- What functions of the seat's program do, each proved of its code, under the bounds that its theorem names. -/
import Derived.Test.YtdelgkhoahmnfaaGreatTai
set_option linter.all false
namespace Go.V
open Go.Proofs
set_option maxHeartbeats 1000000
set_option maxRecDepth 10000
set_option linter.unusedSimpArgs false
set_option linter.unusedVariables false
def bJ (l : List GOffer) : Nat → Option Nat
  | 0 => none
  | i + 1 => match bJ l i with
    | none => some i
    | some j => match l[i]?, l[j]? with
      | some x, some y => if ordO x y < 0 then some i else some j
      | _, _ => some j
def jI (b : Option Nat) : Int := match b with
  | none => -1
  | some j => j
theorem bJ_best (l : List GOffer) : ∀ i, i ≤ l.length → (bJ l i = none ∧ i = 0) ∨ ∃ (j : Nat) (hj : j < i) (hl : j < l.length), bJ l i = some j ∧ bestO (l.take i) = some l[j]
  | 0, _ => .inl ⟨rfl, rfl⟩
  | i + 1, h => by
    right
    have hi : i < l.length := by omega
    have hb : bestO (l.take (i + 1)) = match bestO (l.take i) with
        | none => some l[i]
        | some y => if ordO l[i] y < 0 then some l[i] else some y := by
      rw [take_step l i hi]
      unfold bestO
      rw [List.foldl_append]
      rfl
    rw [hb]
    rcases bJ_best l i (by omega) with ⟨h1, h2⟩ | ⟨j, hj, hl, h1, h2⟩
    · subst h2
      exact ⟨0, by omega, hi, by simp only [bJ], rfl⟩
    · rw [h2]
      simp only [bJ, h1, List.getElem?_eq_getElem hi, List.getElem?_eq_getElem hl]
      by_cases hc : ordO l[i] l[j] < 0
      · rw [if_pos hc, if_pos hc]
        exact ⟨i, by omega, hi, rfl, rfl⟩
      · rw [if_neg hc, if_neg hc]
        exact ⟨j, by omega, hl, rfl, rfl⟩
theorem ok_l8Best (k : Nat) (l : List GOffer) (hl : l.length ≤ 1048576) : CallOK Tryz.prog 115 [.c (rd k l.length (l.flatMap (GOffer.ci k)))] (.c (pi (jI (bJ l l.length)))) [.c (rd k l.length (l.flatMap (GOffer.ci k)))] := by
  refine okS (fn := Tryz.f115) [] h0 Tryz.func115 (by kernel_rfl) rfl Tryz.ntmps115 Tryz.results115 (by simp) ?_
  simp
  refine loopS [0, 3, 6, 7, 8] [] (fun n st => ∃ (i : Nat), i + n = l.length ∧ st = ⟨slOf 27 [(0, .t (rd k l.length (l.flatMap (GOffer.ci k)))), (3, .t (pi (jI (bJ l i)))), (6, .t (rd k l.length (l.flatMap (GOffer.ci k)))), (7, .t (pi l.length)), (8, .t (pi i))], ofL []⟩) l.length ?_ ?_
  · rintro Inv hI
    simp
    subst hI
    exact ⟨0, by omega, rfl⟩
  · rintro Inv hI n st ⟨i, hi, rfl⟩
    refine ewr_sound (M := []) h0 ?_
    simp
    refine brn_app (fun h => ?_) (fun h => ?_)
    · simp at h
      have hd := fm_drop (GOffer.ci k) 7 (fun _ => rfl) l i h
      have hlen := fm_len (GOffer.ci k) 7 (fun _ => rfl) l
      have hlt : i * 7 < l.length * 7 := by omega
      simp [h, hd, hlen, hlt]
      rcases bJ_best l i (by omega) with ⟨h1, h2⟩ | ⟨j, hj, hjl, h1, h2⟩
      · have e2 : bJ l (i + 1) = some i := by simp only [bJ, h1]
        simp only [h1, jI]
        refine drawP (tabEnv [] _) [⟨[], allD 27, true⟩, ⟨[], allD 27, true⟩, ⟨[], allD 27, true⟩, ⟨[.op 4 3 0], allD 27, true⟩, ⟨[], allD 27, true⟩, ⟨[], allD 27, true⟩, ⟨[], allD 27, true⟩, ⟨[], allD 27, true⟩, ⟨[], allD 27, false⟩, ⟨[], allD 27, true⟩, ⟨[], allD 27, true⟩] h0 hm (tabEnv_ok tab_nil) (by kernel_rfl) (by kernel_rfl) ?_
        simp
        subst hI
        exact Less_mk (n - 1) (by omega) ⟨i + 1, by omega, by rw [wrNext i (by omega), e2]; rfl⟩
      · have hdj := fm_drop (GOffer.ci k) 7 (fun _ => rfl) l j hjl
        have hltj : j * 7 < l.length * 7 := by omega
        have e2 : bJ l (i + 1) = if ordO l[i] l[j] < 0 then some i else some j := by simp only [bJ, h1, List.getElem?_eq_getElem h, List.getElem?_eq_getElem hjl]
        have hnn : ¬ (j : Int) < 0 := by omega
        simp only [h1, jI]
        refine drawP (tabEnv [] _) [⟨[], allD 27, true⟩, ⟨[], allD 27, true⟩, ⟨[], allD 27, true⟩, ⟨[.op 4 3 0], allD 27, true⟩, ⟨[], allD 27, true⟩, ⟨[], allD 27, true⟩, ⟨[], allD 27, true⟩, ⟨[], allD 27, true⟩, ⟨[], allD 27, false⟩, ⟨[], allD 27, true⟩, ⟨[], allD 27, true⟩] h0 hm (tabEnv_ok (tab_cons (ok_l8Compare k k l[i] l[j]) tab_nil)) (by kernel_rfl) (by kernel_rfl) ?_
        simp [hnn, hjl, hdj, hlen, hltj]
        refine brn_app (fun b => ?_) (fun b => ?_)
        · simp at b
          simp
          subst hI
          exact Less_mk (n - 1) (by omega) ⟨i + 1, by omega, by rw [wrNext i (by omega), e2, if_pos b]; rfl⟩
        · simp at b
          simp
          subst hI
          exact Less_mk (n - 1) (by omega) ⟨i + 1, by omega, by rw [wrNext i (by omega), e2, if_neg (by omega)]; rfl⟩
    · simp at h
      have : i = l.length := by omega
      subst this
      simp
theorem ok_l13Best (k : Nat) (asn : Int) (l : List GOffer) (hl : offersOK l) (hlen : l.length ≤ 1048576) : CallOK Tryz.prog 63 [.c (pi asn), .c (rd (k + 1) l.length (l.flatMap (GOffer.ci (k + 1))))] (.tup [.agg (outO (k + 1) (bestO (restO asn l))), .c (pb (bestO (restO asn l)).isSome)]) [.c (pi asn), .c (rd (k + 1) l.length (l.flatMap (GOffer.ci (k + 1))))] := by
  refine okS (fn := Tryz.f63) [] h0 Tryz.func63 (by kernel_rfl) rfl Tryz.ntmps63 Tryz.results63 (by simp) ?_
  simp
  refine ewp_nil 6 (.op 6 3 0) 81 (by decide) rfl rfl rfl ?_
  refine loopS [0, 4, 6, 10, 11, 12] [.op 6 3 0, .op 0 0 0] (fun n st => ∃ (i : Nat), i + n = l.length ∧ st = ⟨slOf 36 [(0, .t (pi asn)), (4, .ptr ⟨.op 0 0 0, []⟩ 0), (6, .ref ⟨.op 6 3 0, []⟩ 0 (restO asn (l.take i)).length), (10, .t (rd (k + 1) l.length (l.flatMap (GOffer.ci (k + 1))))), (11, .t (pi l.length)), (12, .t (pi i))], ofL [(.op 6 3 0, .sl 0 81 (restO asn (l.take i)).length ((restO asn (l.take i)).flatMap (GOffer.ci (k + 1)))), (.op 0 0 0, .sl 0 81 1 [pi 0, pi 0, .sl 0 nilE 0 [], pi 0, pi 0, pi 0, .sl 0 nilE 0 []])]⟩) l.length ?_ ?_
  · rintro Inv hI
    simp
    subst hI
    refine ⟨0, by omega, ?_⟩
    simp [restO]
  · rintro Inv hI n st ⟨i, hi, rfl⟩
    have hRl : (restO asn (l.take i)).length ≤ i := by
      unfold restO
      exact Nat.le_trans (List.length_filter_le _ _) (by rw [List.length_take]; omega)
    have hS : ∀ h : i < l.length, restO asn (l.take (i + 1)) = restO asn (l.take i) ++ (if hasI l[i].Attrs.Path asn = true then [] else [l[i]]) := by
      intro h
      unfold restO
      rw [take_step l i h, List.filter_append]
      cases hc : hasI l[i].Attrs.Path asn <;> simp [hc]
    have hend : i = l.length → restO asn (l.take i) = restO asn l := fun h => by rw [List.take_of_length_le (by omega)]
    generalize restO asn (l.take i) = R at hRl hS hend ⊢
    refine ewr_sound (M := []) h0 ?_
    simp
    refine brn_app (fun a => ?_) (fun a => ?_)
    · simp at a
      have hS' := hS a
      have hx := hl.2 l[i] (List.getElem_mem a)
      have hd := fm_drop (GOffer.ci (k + 1)) 7 (fun _ => rfl) l i a
      have hlen := fm_len (GOffer.ci (k + 1)) 7 (fun _ => rfl) l
      have hlt : i * 7 < l.length * 7 := by omega
      simp [a, hd, hlen, hlt]
      refine Inv_intro (ok_l1Has (k + 1) l[i].Attrs.Path asn hx.1) ?_
      simp
      refine brn_app (fun b => ?_) (fun b => ?_)
      · simp at b
        rw [if_neg (by simp [b])] at hS'
        have hA := fm_len (GOffer.ci (k + 1)) 7 (fun _ => rfl) R
        have ht : List.take (R.length * 7) (R.flatMap (GOffer.ci (k + 1))) = R.flatMap (GOffer.ci (k + 1)) := List.take_of_length_le (by omega)
        have hb1 : (R.length + 1) * 88 ≤ 140737488355328 := by omega
        have hb2 : R.length ≤ 9223372036854775806 := by omega
        simp [hA, ht, hb1, hb2]
        subst hI
        refine Less_mk (n - 1) (by omega) ⟨i + 1, by omega, ?_⟩
        rw [wrNext i (by omega), hS']
        all_goals simp
      · simp at b
        rw [if_pos b, List.append_nil] at hS'
        simp
        subst hI
        refine Less_mk (n - 1) (by omega) ⟨i + 1, by omega, ?_⟩
        rw [wrNext i (by omega), hS']
    · simp at a
      have hil : i = l.length := by omega
      rw [hend hil] at hRl ⊢
      generalize restO asn l = R at hRl ⊢
      simp
      refine Inv_intro (ok_l8Best 0 R (by omega)) ?_
      rcases bJ_best R R.length (Nat.le_refl _) with ⟨h1, h2⟩ | ⟨j, hj, hjl, h1, h2⟩
      · have hR0 : R = [] := List.length_eq_zero_iff.1 h2
        subst hR0
        have h3 : bJ ([] : List GOffer) 0 = none := rfl
        simp [h3, jI, bestO, outO]
      · rw [List.take_length] at h2
        have hnn : ¬ (j : Int) < 0 := by omega
        have hdj := fm_drop (GOffer.ci (k + 1)) 7 (fun _ => rfl) R j hjl
        have hlen := fm_len (GOffer.ci (k + 1)) 7 (fun _ => rfl) R
        have hltj : j * 7 < R.length * 7 := by omega
        have hltj7 : j * 7 + 7 ≤ R.length * 7 := by omega
        simp [h1, jI, h2, hnn, hjl, hdj, hlen, hltj, hltj7, outO]
theorem ok_l13At (k : Nat) (r : GRib) (p : GPrefix) (hr : r.Rows.length ≤ 140737488351232) : CallOK Tryz.prog 121 [.agg (GRib.ci k r), .agg p.c] (.tup [.c (pi (rowAt p r.Rows)), .c (pb (rowIs p r.Rows))]) [.agg (GRib.ci k r), .agg p.c] := by
  refine okS (fn := Tryz.f121) [] h0 Tryz.func121 (by kernel_rfl) rfl Tryz.ntmps121 Tryz.results121 (by simp) ?_
  simp
  refine loopS [2, 3, 6] [.op 0 0 0, .op 0 1 0] (fun n st => ∃ (i : Nat), i + n = r.Rows.length ∧ (∀ (q : Nat) (hq : q < i) (hl : q < r.Rows.length), cmpPx r.Rows[q].Prefix p < 0) ∧ st = ⟨slOf 41 [(2, .ptr ⟨.op 0 0 0, []⟩ 0), (3, .ptr ⟨.op 0 1 0, []⟩ 0), (6, .t (pi i))], ofL [(.op 0 0 0, .sl 0 32 1 (GRib.ci k r)), (.op 0 1 0, .sl 0 77 1 p.c)]⟩) r.Rows.length ?_ ?_
  · rintro Inv hI
    simp
    subst hI
    exact ⟨0, by omega, by intro q hq; omega, by simp⟩
  · rintro Inv hI n st ⟨i, hi, hall, rfl⟩
    refine ewr_sound (M := []) h0 ?_
    simp
    by_cases a : i < r.Rows.length
    · have hd := fm_drop (GRow.ci k) 3 (fun _ => rfl) r.Rows i a
      have hlen := fm_len (GRow.ci k) 3 (fun _ => rfl) r.Rows
      have hlt : i * 3 < r.Rows.length * 3 := by omega
      refine drawP (tabEnv [] _) [⟨[], allD 41, true⟩, ⟨[.op 0 0 0], allD 41, true⟩, ⟨[.op 0 0 0], allD 41, true⟩, ⟨[], allD 41, true⟩, ⟨[], allD 41, true⟩, ⟨[], allD 41, true⟩, ⟨[.op 0 0 0], allD 41, true⟩, ⟨[.op 0 0 0], allD 41, true⟩, ⟨[], allD 41, true⟩, ⟨[], allD 41, true⟩, ⟨[], allD 41, true⟩, ⟨[], allD 41, true⟩, ⟨[.op 0 1 0], allD 41, true⟩, ⟨[], allD 41, false⟩, ⟨[], allD 41, true⟩, ⟨[], allD 41, true⟩] h0 hm (tabEnv_ok (tab_cons (ok_l1Compare r.Rows[i].Prefix p) tab_nil)) (by kernel_rfl) (by kernel_rfl) ?_
      simp [a, hd, hlen, hlt]
      refine brn_app (fun b => ?_) (fun b => ?_)
      · simp at b
        simp
        subst hI
        refine Less_mk (n - 1) (by omega) ⟨i + 1, by omega, ?_, by rw [wrNext i (by omega)]; simp⟩
        intro q hq hql
        by_cases hqi : q = i
        · subst hqi; exact b
        · exact hall q (by omega) hql
      · simp at b
        have e1 : rowAt p r.Rows = i := bsI_eq _ r.Rows i (by omega) hall fun h => b
        have e2 : rowIs p r.Rows = decide (cmpPx r.Rows[i].Prefix p = 0) := by
          have : bsI (fun x : GRow => cmpPx x.Prefix p) r.Rows = i := e1
          simp only [rowIs, bsF, this, List.getElem?_eq_getElem a]
        rw [e1, e2]
        simp only [cmpPx_eq, px_ext]
        simp
        refine drawP (tabEnv [] _) [⟨[], allD 41, true⟩, ⟨[], allD 41, true⟩, ⟨[.op 0 0 0], allD 41, true⟩, ⟨[.op 0 0 0], allD 41, true⟩, ⟨[], allD 41, true⟩, ⟨[], allD 41, true⟩, ⟨[], allD 41, true⟩, ⟨[.op 0 0 0], allD 41, true⟩, ⟨[.op 0 0 0], allD 41, true⟩, ⟨[], allD 41, true⟩, ⟨[], allD 41, true⟩, ⟨[], allD 41, true⟩, ⟨[], allD 41, true⟩, ⟨[.op 0 1 0], allD 41, true⟩, ⟨[], allD 41, true⟩, ⟨[], allD 41, true⟩, ⟨[], allD 41, true⟩, ⟨[], allD 41, true⟩] h0 hm (tabEnv_ok tab_nil) (by kernel_rfl) (by kernel_rfl) ?_
        simp [a, hd, hlen, hlt]
    · have hil : i = r.Rows.length := by omega
      have e1 : rowAt p r.Rows = i := bsI_eq _ r.Rows i (by omega) hall fun h => by omega
      have e2 : rowIs p r.Rows = false := by
        have : bsI (fun x : GRow => cmpPx x.Prefix p) r.Rows = i := e1
        simp only [rowIs, bsF, this, List.getElem?_eq_none (Nat.le_of_not_lt a)]
      rw [e1, e2]
      refine drawP (tabEnv [] _) [⟨[], allD 41, true⟩, ⟨[.op 0 0 0], allD 41, true⟩, ⟨[.op 0 0 0], allD 41, true⟩, ⟨[], allD 41, true⟩, ⟨[], allD 41, true⟩, ⟨[], allD 41, true⟩, ⟨[.op 0 0 0], allD 41, true⟩, ⟨[.op 0 0 0], allD 41, true⟩, ⟨[], allD 41, true⟩, ⟨[], allD 41, true⟩, ⟨[], allD 41, true⟩, ⟨[], allD 41, true⟩, ⟨[.op 0 1 0], allD 41, true⟩, ⟨[], allD 41, false⟩, ⟨[], allD 41, true⟩, ⟨[], allD 41, true⟩] h0 hm (tabEnv_ok tab_nil) (by kernel_rfl) (by kernel_rfl) ?_
      simp [a]
      refine drawP (tabEnv [] _) [⟨[], allD 41, true⟩, ⟨[], allD 41, true⟩, ⟨[.op 0 0 0], allD 41, true⟩, ⟨[.op 0 0 0], allD 41, true⟩, ⟨[], allD 41, true⟩, ⟨[], allD 41, true⟩, ⟨[], allD 41, true⟩, ⟨[.op 0 0 0], allD 41, true⟩, ⟨[.op 0 0 0], allD 41, true⟩, ⟨[], allD 41, true⟩, ⟨[], allD 41, true⟩, ⟨[], allD 41, true⟩, ⟨[], allD 41, true⟩, ⟨[.op 0 1 0], allD 41, true⟩, ⟨[], allD 41, true⟩, ⟨[], allD 41, true⟩, ⟨[], allD 41, true⟩, ⟨[], allD 41, true⟩] h0 hm (tabEnv_ok tab_nil) (by kernel_rfl) (by kernel_rfl) ?_
      simp [a]
theorem bestR_good {r : GRib} {p : GPrefix} (hg : goodRib r = true) (hi : rowIs p r.Rows = true) : ∃ hl : rowAt p r.Rows < r.Rows.length, bestR r p = bestO (restO r.Own r.Rows[rowAt p r.Rows].Offers) := by
  obtain ⟨ho, _, _, hrows⟩ := goodRib_all hg
  obtain ⟨hl, he⟩ := rowIs_lt hi
  have hgx := hrows _ (List.getElem_mem hl)
  have hgo : goodOs r.Rows[rowAt p r.Rows].Offers = true := by
    simp only [goodRow, Bool.and_eq_true] at hgx
    exact hgx.2.2
  refine ⟨hl, ?_⟩
  unfold bestR
  rw [if_pos hi, List.getElem?_eq_getElem hl]
  simp only [bstBy]
  rw [if_pos ⟨hgo, ho⟩]
theorem ok_l13BestAt (k : Nat) (r : GRib) (p : GPrefix) (hr : ribOK r) (hx : ∀ x ∈ r.Rows, x.Offers.length ≤ 1048576) (hg : goodRib r = true) : CallOK Tryz.prog 108 [.agg (GRib.ci (k + 1) r), .agg p.c] (.tup [.agg (outO (k + 1) (bestR r p)), .c (pb (bestR r p).isSome)]) [.agg (GRib.ci (k + 1) r), .agg p.c] := by
  refine okS (fn := Tryz.f108) [] h0 Tryz.func108 (by kernel_rfl) rfl Tryz.ntmps108 Tryz.results108 (by simp) ?_
  simp
  refine Inv_intro (ok_l13At (k + 1) r p hr.1) ?_
  by_cases hi : rowIs p r.Rows = true
  · obtain ⟨hl, hbr⟩ := bestR_good hg hi
    rw [hbr]
    have ho := hr.2 _ (List.getElem_mem hl)
    have hol := hx _ (List.getElem_mem hl)
    generalize rowAt p r.Rows = i at *
    have hd := fm_drop (GRow.ci (k + 1)) 3 (fun _ => rfl) r.Rows i hl
    have hlen := fm_len (GRow.ci (k + 1)) 3 (fun _ => rfl) r.Rows
    have hlt : i * 3 < r.Rows.length * 3 := by omega
    have hlt2 : i * 3 + 2 < r.Rows.length * 3 := by omega
    have hB := ok_l13Best k r.Own r.Rows[i].Offers ho hol
    simp [hi]
    cases hb : bestO (restO r.Own r.Rows[i].Offers) with
    | none =>
      rw [hb] at hB
      simp [outO] at hB ⊢
      refine drawP (tabEnv [] _) [⟨[.op 0 0 0], allD 28, true⟩, ⟨[.op 0 0 0], allD 28, true⟩, ⟨[.op 0 0 0], allD 28, true⟩, ⟨[.op 0 0 0], allD 28, true⟩, ⟨[], allD 28, true⟩, ⟨[], allD 28, true⟩, ⟨[], allD 28, true⟩, ⟨[], allD 28, true⟩, ⟨[], allD 28, false⟩, ⟨[.op 4 8 2, .op 4 8 6], allD 28, true⟩, ⟨[.op 4 8 2, .op 4 8 6], allD 28, true⟩, ⟨[.op 0 2 0, .op 4 8 2, .op 4 8 6], [17, 18, 19, 20, 21, 22, 23, 24, 25, 26, 27, 5], false⟩, ⟨[], allD 28, true⟩] h0 hm (tabEnv_ok (tab_cons hB tab_nil)) (by kernel_rfl) (by kernel_rfl) ?_
      simp [hl, hd, hlen, hlt, hlt2]
    | some o =>
      rw [hb] at hB
      simp [outO] at hB ⊢
      refine drawP (tabEnv [] _) [⟨[.op 0 0 0], allD 28, true⟩, ⟨[.op 0 0 0], allD 28, true⟩, ⟨[.op 0 0 0], allD 28, true⟩, ⟨[.op 0 0 0], allD 28, true⟩, ⟨[], allD 28, true⟩, ⟨[], allD 28, true⟩, ⟨[], allD 28, true⟩, ⟨[], allD 28, true⟩, ⟨[], allD 28, false⟩, ⟨[], allD 28, true⟩, ⟨[], allD 28, true⟩, ⟨[.op 0 2 0], [17, 18, 19, 20, 21, 22, 23, 24, 25, 26, 27, 5], false⟩, ⟨[], allD 28, true⟩] h0 hm (tabEnv_ok (tab_cons hB tab_nil)) (by kernel_rfl) (by kernel_rfl) ?_
      simp [hl, hd, hlen, hlt, hlt2]
  · have hi' : rowIs p r.Rows = false := by simpa using hi
    simp [bestR, hi', outO]
theorem ok_sBestAt1 (k : Nat) (r : GRib) (p : GPrefix) (hr : ribOK r) (hx : ∀ x ∈ r.Rows, x.Offers.length ≤ 1048576) : CallOK Tryz.prog 50 [.agg (GRib.ci (k + 1) r), .agg p.c] (.tup [.agg (GOffer.co ((bestAtG r p).getD zeroO)), .c (pb (bestAtG r p).isSome)]) [.agg (GRib.ci (k + 1) r), .agg p.c] := by
  refine okS (fn := Tryz.f50) [] h0 Tryz.func50 (by kernel_rfl) rfl Tryz.ntmps50 Tryz.results50 (by simp) ?_
  simp
  refine Inv_intro (ok_sGoodRib (k + 1) r hr) ?_
  cases hg : goodRib r with
  | false => simp [bestAtG, hg, zeroO]
  | true =>
    simp
    refine Inv_intro (ok_sGoodPrefix p) ?_
    cases hp : goodPx p with
    | false => simp [bestAtG, hp, zeroO]
    | true =>
      have e : bestAtG r p = bestR r p := if_pos ⟨hg, hp⟩
      rw [e]
      simp
      refine Inv_intro (ok_l13BestAt k r p hr hx hg) ?_
      cases hb : bestR r p with
      | none =>
        simp [outO]
        refine drawP (tabEnv [] _) [⟨[.op 3 6 0], allD 30, true⟩, ⟨[.op 3 6 0], allD 30, true⟩, ⟨[.op 3 6 0], allD 30, true⟩, ⟨[.op 3 6 0], allD 30, true⟩, ⟨[.op 3 6 0], allD 30, true⟩, ⟨[.op 4 4 1, .op 4 4 5], allD 30, true⟩, ⟨[], allD 30, true⟩, ⟨[.op 0 2 0, .op 4 4 1, .op 4 4 5], [23, 24, 25, 26, 27, 28, 29, 5], false⟩, ⟨[], allD 30, true⟩] h0 hm (tabEnv_ok (tab_cons (ok_l4Own 0 zeroO.Attrs (by decide) (by decide)) tab_nil)) (by kernel_rfl) (by kernel_rfl) ?_
        simp [zeroO]
      | some o =>
        have hs := bestR_small hb
        simp [outO]
        refine drawP (tabEnv [] _) [⟨[.op 3 6 0], allD 30, true⟩, ⟨[.op 3 6 0], allD 30, true⟩, ⟨[.op 3 6 0], allD 30, true⟩, ⟨[.op 3 6 0], allD 30, true⟩, ⟨[], allD 30, false⟩, ⟨[.op 4 4 1, .op 4 4 5], allD 30, true⟩, ⟨[], allD 30, true⟩, ⟨[.op 0 2 0, .op 4 4 1, .op 4 4 5], [23, 24, 25, 26, 27, 28, 29, 5], false⟩, ⟨[], allD 30, true⟩] h0 hm (tabEnv_ok (tab_cons (ok_l4Own (k + 1) o.Attrs (by omega) (by omega)) tab_nil)) (by kernel_rfl) (by kernel_rfl) ?_
        simp
theorem ok_sBestAt (k : Nat) (r : GRib) (p : GPrefix) (hr : ribOK r) (hx : ∀ x ∈ r.Rows, x.Offers.length ≤ 1048576) : CallOK Tryz.prog 50 [.agg (GRib.ci k r), .agg p.c] (.tup [.agg (GOffer.co ((bestAtG r p).getD zeroO)), .c (pb (bestAtG r p).isSome)]) [.agg (GRib.ci k r), .agg p.c] := by
  have h := ok_sBestAt1 0 r p hr hx
  refine CallOK.relabel ?_ rfl ?_
  · have e2 : PV.up (.agg p.c) = .agg p.c := by simp [PV.up, PT.up]
    simpa only [List.map_cons, List.map_nil, rib_up, e2] using h
  · intro w I I' lr he hh
    refine free_ac ?_ rfl he hh
    simp [PT.freeL, PT.free, freeL_pi]
def rBestAt (v0 : GRib) (v1 : GPrefix) : GOffer × Bool := ((bestAtG v0 v1).getD zeroO, (bestAtG v0 v1).isSome)
theorem rows_len {v0 : GRib} (h : GRib.wt v0 ≤ 1048576) : ∀ x ∈ v0.Rows, x.Offers.length ≤ 1048576 := by
  intro x hx
  unfold GRib.wt at h
  have h1 := mem_wt_RowS hx
  unfold GRow.wt at h1
  have := len_wt_OfferS x.Offers
  omega
theorem law_iBestAt (v0 : GRib) (v1 : GPrefix) (h : GRib.wt v0 ≤ 1048576) : CallOK Tryz.prog 44 [.agg (GRib.ci 0 v0), .agg (GPrefix.c v1)] (.tup [.agg (GOffer.co (rBestAt v0 v1).1), .c (pb (rBestAt v0 v1).2)]) [.agg (GRib.ci 0 v0), .agg (GPrefix.c v1)] := ok_iBestAt 0 v0 v1 (rib_ok h)
theorem law_sBestAt (v0 : GRib) (v1 : GPrefix) (h : GRib.wt v0 ≤ 1048576) : CallOK Tryz.prog 50 [.agg (GRib.ci 0 v0), .agg (GPrefix.c v1)] (.tup [.agg (GOffer.co (rBestAt v0 v1).1), .c (pb (rBestAt v0 v1).2)]) [.agg (GRib.ci 0 v0), .agg (GPrefix.c v1)] := ok_sBestAt 0 v0 v1 (rib_ok h) (rows_len h)
theorem rBestAt_small (v0 : GRib) (v1 : GPrefix) : (rBestAt v0 v1).1.Attrs.Path.length ≤ 10 ∧ (rBestAt v0 v1).1.Attrs.Comms.length ≤ 6 := by
  unfold rBestAt bestAtG
  split
  · cases hb : bestR v0 v1 with
    | none => exact ⟨by decide, by decide⟩
    | some o => exact bestR_small hb
  · exact ⟨by decide, by decide⟩
theorem rBestAt_ok (v0 : GRib) (v1 : GPrefix) : GOffer.lens (rBestAt v0 v1).1 ∧ GOffer.cnT (rBestAt v0 v1).1 ≤ 1152921504606846976 := by
  obtain ⟨h1, h2⟩ := rBestAt_small v0 v1
  have hw : GOffer.wt (rBestAt v0 v1).1 ≤ 1048576 := by
    unfold GOffer.wt GAttrs.wt wt_IntS
    omega
  have := cn_le_Offer (rBestAt v0 v1).1
  exact ⟨lens_of_Offer hw, by omega⟩
theorem ok_ownOffers (k : Nat) (l : List GOffer) (hl : l.length ≤ 1048576) (hx : ∀ x ∈ l, x.Attrs.Path.length ≤ 1048576 ∧ x.Attrs.Comms.length ≤ 1048576) : CallOK Tryz.prog 67 [.c (rd k l.length (l.flatMap (GOffer.ci k)))] (.c (.sl 0 81 l.length (l.flatMap GOffer.co))) [.c (rd k l.length (l.flatMap (GOffer.ci k)))] := by
  refine okS (fn := Tryz.f67) [] h0 Tryz.func67 (by kernel_rfl) rfl Tryz.ntmps67 Tryz.results67 (by simp) ?_
  simp
  refine ewp_sw (.op 1 0 0) (.op 5 8 0) rfl rfl ?_
  simp
  refine loopS [3, 7, 8, 9] [.op 5 8 0] (fun n st => ∃ (i : Nat), i + n = l.length ∧ st = ⟨slOf 24 [(3, .ref ⟨.op 5 8 0, []⟩ 0 i), (7, .t (rd k l.length (l.flatMap (GOffer.ci k)))), (8, .t (pi l.length)), (9, .t (pi i))], ofL [(.op 5 8 0, .sl 0 81 i ((l.take i).flatMap GOffer.co))]⟩) l.length ?_ ?_
  · rintro Inv hI
    simp
    subst hI
    exact ⟨0, by omega, by simp⟩
  · rintro Inv hI n st ⟨i, hi, rfl⟩
    have hA := fm_take_len GOffer.co 7 (fun _ => rfl) l i (by omega)
    generalize hAe : ((l.take i).flatMap GOffer.co) = A at hA ⊢
    refine ewr_sound (M := []) h0 ?_
    simp
    refine brn_app (fun a => ?_) (fun a => ?_)
    · simp at a
      have hd := fm_drop (GOffer.ci k) 7 (fun _ => rfl) l i a
      have hlen := fm_len (GOffer.ci k) 7 (fun _ => rfl) l
      have hlt : i * 7 < l.length * 7 := by omega
      have hb1 : (i + 1) * 88 ≤ 140737488355328 := by omega
      have hb2 : i ≤ 9223372036854775806 := by omega
      have hp := hx _ (List.getElem_mem a)
      have ht : A.take (i * 7) = A := List.take_of_length_le (by omega)
      have e3 : ((l.take (i + 1)).flatMap GOffer.co) = A ++ GOffer.co l[i] := by rw [take_step l i a, List.flatMap_append, hAe, List.flatMap_cons, List.flatMap_nil, List.append_nil]
      simp [a, hd, hlen, hlt]
      refine drawP (tabEnv [] _) [⟨[.op 5 8 0], allD 24, true⟩, ⟨[.op 4 2 0], allD 24, true⟩, ⟨[.op 4 2 0], allD 24, true⟩, ⟨[.op 4 2 0], allD 24, true⟩, ⟨[.op 4 2 0], allD 24, true⟩, ⟨[], allD 24, false⟩, ⟨[.op 5 5 1, .op 5 5 5], allD 24, true⟩, ⟨[.op 5 5 1, .op 5 5 5], [13, 14, 15, 16, 17, 18, 19, 20, 21, 3], false⟩, ⟨[.op 5 8 0, .op 5 7 0], [13, 14, 15, 16, 17, 18, 19, 20, 21, 3], false⟩, ⟨[.op 5 8 0], allD 24, true⟩] h0 hm (tabEnv_ok (tab_cons (ok_ownAttrs k l[i].Attrs hp.1 hp.2) tab_nil)) (by kernel_rfl) (by kernel_rfl) ?_
      simp [hA, hb1, hb2, ht]
      subst hI
      refine Less_mk (n - 1) (by omega) ⟨i + 1, by omega, ?_⟩
      rw [wrNext i (by omega), e3]
      all_goals simp
    · simp at a
      have hn : n = 0 := by omega
      subst hn
      have ht : List.take i l = l := List.take_of_length_le (by omega)
      have hil : i = l.length := by omega
      rw [← hAe, ht, hil]
      simp
def browO (own : Int) (x : GRow) : Option GOffer := bestO (restO own x.Offers)
def browsO (own : Int) (l : List GRow) : List GOffer := l.flatMap fun x => (browO own x).toList
def browsP (own : Int) (l : List GRow) : List GPrefix := l.flatMap fun x => if (browO own x).isSome = true then [x.Prefix] else []
theorem browsO_snoc (own : Int) (l : List GRow) (i : Nat) (h : i < l.length) : browsO own (l.take (i + 1)) = browsO own (l.take i) ++ (browO own l[i]).toList := by
  unfold browsO
  rw [take_step l i h, List.flatMap_append]
  simp
theorem browsP_snoc (own : Int) (l : List GRow) (i : Nat) (h : i < l.length) : browsP own (l.take (i + 1)) = browsP own (l.take i) ++ (if (browO own l[i]).isSome = true then [l[i].Prefix] else []) := by
  unfold browsP
  rw [take_step l i h, List.flatMap_append]
  simp
theorem browsO_len (own : Int) : ∀ l : List GRow, (browsO own l).length ≤ l.length
  | [] => by simp [browsO]
  | x :: l => by
    have ih := browsO_len own l
    unfold browsO at ih ⊢
    rw [List.flatMap_cons, List.length_append, List.length_cons]
    have : (browO own x).toList.length ≤ 1 := by cases browO own x <;> simp
    omega
theorem browsP_len (own : Int) : ∀ l : List GRow, (browsP own l).length ≤ l.length
  | [] => by simp [browsP]
  | x :: l => by
    have ih := browsP_len own l
    unfold browsP at ih ⊢
    rw [List.flatMap_cons, List.length_append, List.length_cons]
    have : (if (browO own x).isSome = true then [x.Prefix] else []).length ≤ 1 := by split <;> simp
    omega
theorem row_self {l : List GRow} (h : srtW l) (i : Nat) (hi : i < l.length) : rowAt l[i].Prefix l = i ∧ rowIs l[i].Prefix l = true := by
  have e : bsI (fun x : GRow => cmpPx x.Prefix l[i].Prefix) l = i := by
    refine bsI_eq _ l i (by omega) ?_ ?_
    · intro m hm hl
      exact List.pairwise_iff_getElem.1 h m i hl hi hm
    · intro _
      have := ltP_irr l[i].Prefix
      omega
  refine ⟨e, ?_⟩
  unfold rowIs bsF
  rw [e, List.getElem?_eq_getElem hi]
  simp only [decide_eq_true_eq]
  exact (cmpPx_eq _ _).2 rfl
theorem bestR_row {r : GRib} (hg : goodRib r = true) (i : Nat) (hi : i < r.Rows.length) : bestR r r.Rows[i].Prefix = browO r.Own r.Rows[i] := by
  obtain ⟨_, _, hs, _⟩ := goodRib_all hg
  obtain ⟨e1, e2⟩ := row_self hs i hi
  obtain ⟨hl, hb⟩ := bestR_good hg e2
  rw [hb]
  unfold browO
  congr 3
  have : ∀ (j : Nat) (hj : j < r.Rows.length), j = i → r.Rows[j] = r.Rows[i] := by
    rintro j hj rfl
    rfl
  exact this _ hl e1
theorem browsO_small {r : GRib} (hg : goodRib r = true) : ∀ o ∈ browsO r.Own r.Rows, o.Attrs.Path.length ≤ 10 ∧ o.Attrs.Comms.length ≤ 6 := by
  intro o ho
  obtain ⟨x, hx, hox⟩ := List.mem_flatMap.1 ho
  obtain ⟨i, hi, rfl⟩ := List.mem_iff_getElem.1 hx
  have e := bestR_row hg i hi
  have : bestR r r.Rows[i].Prefix = some o := by rw [e]; simpa using hox
  exact bestR_small this
theorem ok_iBestRows1 (k : Nat) (r : GRib) (hr : ribOK r) (hg : goodRib r = true) : CallOK Tryz.prog 12 [.agg (GRib.ci (k + 1) r)] (.tup [.c (.sl 0 81 (browsO r.Own r.Rows).length ((browsO r.Own r.Rows).flatMap GOffer.co)), .c (.sl 0 77 (browsP r.Own r.Rows).length ((browsP r.Own r.Rows).flatMap GPrefix.c)), .c (pb true)]) [.agg (GRib.ci (k + 1) r)] := by
  obtain ⟨_, h20, _, _⟩ := goodRib_all hg
  refine okS (fn := Tryz.f12) [] h0 Tryz.func12 (by kernel_rfl) rfl Tryz.ntmps12 Tryz.results12 (by simp) ?_
  simp
  refine Inv_intro (ok_iGoodRib (k + 1) r hr) ?_
  simp [hg]
  refine ewp_sw (.op 3 0 0) (.op 9 3 0) rfl rfl ?_
  refine ewp_sw (.op 3 1 0) (.op 10 4 0) rfl rfl ?_
  simp
  refine loopS [1, 5, 6, 17, 18, 19] [.op 0 0 0, .op 9 3 0, .op 10 4 0] (fun m st => ∃ (i : Nat), i + m = r.Rows.length ∧ st = ⟨slOf 44 [(1, .ptr ⟨.op 0 0 0, []⟩ 0), (5, .ref ⟨.op 9 3 0, []⟩ 0 (browsO r.Own (r.Rows.take i)).length), (6, .ref ⟨.op 10 4 0, []⟩ 0 (browsP r.Own (r.Rows.take i)).length), (17, .t (rd (k + 1) r.Rows.length (r.Rows.flatMap (GRow.ci (k + 1))))), (18, .t (pi r.Rows.length)), (19, .t (pi i))], ofL [(.op 0 0 0, .sl 0 32 1 (GRib.ci (k + 1) r)), (.op 9 3 0, .sl 0 81 (browsO r.Own (r.Rows.take i)).length ((browsO r.Own (r.Rows.take i)).flatMap (GOffer.ci (k + 1)))), (.op 10 4 0, .sl 0 77 (browsP r.Own (r.Rows.take i)).length ((browsP r.Own (r.Rows.take i)).flatMap GPrefix.c))]⟩) r.Rows.length ?_ ?_
  · rintro Inv hI
    simp
    subst hI
    refine ⟨0, by omega, ?_⟩
    simp [browsO, browsP]
  · rintro Inv hI m st ⟨i, hi, rfl⟩
    have hO : (browsO r.Own (r.Rows.take i)).length ≤ i := Nat.le_trans (browsO_len _ _) (by rw [List.length_take]; omega)
    have hP : (browsP r.Own (r.Rows.take i)).length ≤ i := Nat.le_trans (browsP_len _ _) (by rw [List.length_take]; omega)
    have hSO := browsO_snoc r.Own r.Rows i
    have hSP := browsP_snoc r.Own r.Rows i
    have hend : i = r.Rows.length → browsO r.Own (r.Rows.take i) = browsO r.Own r.Rows ∧ browsP r.Own (r.Rows.take i) = browsP r.Own r.Rows := fun h => by rw [List.take_of_length_le (by omega)]; exact ⟨rfl, rfl⟩
    generalize browsO r.Own (r.Rows.take i) = O at hO hSO hend ⊢
    generalize browsP r.Own (r.Rows.take i) = P at hP hSP hend ⊢
    refine ewr_sound (M := []) h0 ?_
    simp
    refine brn_app (fun a => ?_) (fun a => ?_)
    · simp at a
      have hSO' := hSO a
      have hSP' := hSP a
      have hd := fm_drop (GRow.ci (k + 1)) 3 (fun _ => rfl) r.Rows i a
      have hlen := fm_len (GRow.ci (k + 1)) 3 (fun _ => rfl) r.Rows
      have hlt : i * 3 < r.Rows.length * 3 := by omega
      simp [a, hd, hlen, hlt]
      have hB := ok_bestAt k r r.Rows[i].Prefix hr hg
      rw [bestR_row hg i a] at hB
      refine Inv_intro hB ?_
      cases hb : browO r.Own r.Rows[i] with
      | none =>
        rw [hb] at hSO' hSP'
        simp at hSO' hSP'
        simp [outO]
        subst hI
        refine Less_mk (m - 1) (by omega) ⟨i + 1, by omega, ?_⟩
        rw [wrNext i (by omega), hSO', hSP']
        all_goals simp
      | some o =>
        rw [hb] at hSO' hSP'
        simp at hSO' hSP'
        have hA := fm_len (GOffer.ci (k + 1)) 7 (fun _ => rfl) O
        have ht : List.take (O.length * 7) (O.flatMap (GOffer.ci (k + 1))) = O.flatMap (GOffer.ci (k + 1)) := List.take_of_length_le (by omega)
        have hb1 : (O.length + 1) * 88 ≤ 140737488355328 := by omega
        have hb2 : O.length ≤ 9223372036854775806 := by omega
        have hA' := fm_len GPrefix.c 2 (fun _ => rfl) P
        have ht' : List.take (P.length * 2) (P.flatMap GPrefix.c) = P.flatMap GPrefix.c := List.take_of_length_le (by omega)
        have hb1' : (P.length + 1) * 16 ≤ 140737488355328 := by omega
        have hb2' : P.length ≤ 9223372036854775806 := by omega
        simp [outO, hA, ht, hb1, hb2, hA', ht', hb1', hb2']
        subst hI
        refine Less_mk (m - 1) (by omega) ⟨i + 1, by omega, ?_⟩
        rw [wrNext i (by omega), hSO', hSP']
        all_goals simp
    · simp at a
      have hil : i = r.Rows.length := by omega
      obtain ⟨e1, e2⟩ := hend hil
      subst e1
      subst e2
      have hsm := browsO_small hg
      have hOO := ok_ownOffers 0 (browsO r.Own r.Rows) (by omega) (fun x hx => by have := hsm x hx; omega)
      generalize browsO r.Own r.Rows = O at hO hOO ⊢
      generalize browsP r.Own r.Rows = P at hP ⊢
      simp
      refine Inv_intro hOO ?_
      have hA' := fm_len GPrefix.c 2 (fun _ => rfl) P
      have ht' : List.take (P.length * 2) (P.flatMap GPrefix.c) = P.flatMap GPrefix.c := List.take_of_length_le (by omega)
      simp [hA', ht']
def bestRowsG (r : GRib) : List GOffer × List GPrefix × Bool := if goodRib r = true then (browsO r.Own r.Rows, browsP r.Own r.Rows, true) else ([], [], false)
theorem ok_iBestRows2 (k : Nat) (r : GRib) (hr : ribOK r) : CallOK Tryz.prog 12 [.agg (GRib.ci (k + 1) r)] (.tup [.c (.sl 0 81 (bestRowsG r).1.length ((bestRowsG r).1.flatMap GOffer.co)), .c (.sl 0 77 (bestRowsG r).2.1.length ((bestRowsG r).2.1.flatMap GPrefix.c)), .c (pb (bestRowsG r).2.2)]) [.agg (GRib.ci (k + 1) r)] := by
  by_cases hg : goodRib r = true
  · have := ok_iBestRows1 k r hr hg
    unfold bestRowsG
    rw [if_pos hg]
    exact this
  · unfold bestRowsG
    rw [if_neg hg]
    have hg' : goodRib r = false := by simpa using hg
    refine okS (fn := Tryz.f12) [] h0 Tryz.func12 (by kernel_rfl) rfl Tryz.ntmps12 Tryz.results12 (by simp) ?_
    simp
    refine Inv_intro (ok_iGoodRib (k + 1) r hr) ?_
    simp [hg']
theorem free_off (l : List GOffer) : PT.freeL (l.flatMap GOffer.co) = true := freeL_fm _ _ fun o => by simp [PT.freeL, PT.free, freeL_pi]
theorem free_px (l : List GPrefix) : PT.freeL (l.flatMap GPrefix.c) = true := freeL_fm _ _ fun o => by simp [PT.freeL, PT.free]
theorem ok_iBestRows (k : Nat) (r : GRib) (hr : ribOK r) : CallOK Tryz.prog 12 [.agg (GRib.ci k r)] (.tup [.c (.sl 0 81 (bestRowsG r).1.length ((bestRowsG r).1.flatMap GOffer.co)), .c (.sl 0 77 (bestRowsG r).2.1.length ((bestRowsG r).2.1.flatMap GPrefix.c)), .c (pb (bestRowsG r).2.2)]) [.agg (GRib.ci k r)] := by
  have h := ok_iBestRows2 0 r hr
  refine CallOK.relabel ?_ rfl ?_
  · simpa only [List.map_cons, List.map_nil, rib_up] using h
  · intro w I I' lr he hh
    refine free_ccc ?_ ?_ rfl he hh
    · simp only [PT.free]; exact free_off _
    · simp only [PT.free]; exact free_px _
end Go.V
