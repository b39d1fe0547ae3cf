/- What functions of the seat's program do, each proved of its code, under the bounds that its theorem names. -/
import Derived.Test.YtdelgkhoahmnfaaGreatTaf
set_option linter.all false
namespace Go.V
open Go.Proofs
set_option maxHeartbeats 1000000
set_option maxRecDepth 10000
set_option linter.unusedSimpArgs false
set_option linter.unusedVariables false
theorem ok_order (k k' : Nat) (a b : GOffer) : CallOK Tryz.prog 208 [.agg (GOffer.ci k a), .agg (GOffer.ci k' b)] (.c (pi (ordO a b))) [.agg (GOffer.ci k a), .agg (GOffer.ci k' b)] := by
  refine okS (fn := Tryz.f208) [] h0 Tryz.func208 (by kernel_rfl) rfl Tryz.ntmps208 Tryz.results208 (by simp) ?_
  simp
  refine brn_app (fun c => ?_) (fun c => ?_)
  · simp at c
    simp [ordO, c]
  · simp at c
    simp
    refine drawP (tabEnv [] _) [⟨[.op 0 0 0], allD 50, true⟩, ⟨[.op 0 0 0], allD 50, true⟩, ⟨[.op 0 1 0], allD 50, true⟩, ⟨[.op 0 1 0], allD 50, true⟩, ⟨[], allD 50, false⟩, ⟨[], allD 50, false⟩, ⟨[.op 3 4 0], [12, 13, 14, 15, 5, 6], false⟩, ⟨[.op 3 5 0], [12, 13, 14, 15, 5, 6], false⟩] h0 hm (tabEnv_ok tab_nil) (by kernel_rfl) (by kernel_rfl) ?_
    simp
    obtain ⟨v, hv⟩ : ∃ v, v = orI [cmpI b.Attrs.Pref a.Attrs.Pref, cmpI a.Attrs.Path.length b.Attrs.Path.length, cmpI a.Attrs.Origin b.Attrs.Origin, cmpI a.Attrs.Med b.Attrs.Med, cmpI a.Attrs.Next b.Attrs.Next, cmpI a.Peer b.Peer] := ⟨_, rfl⟩
    have ho := ok_orI 0 [cmpI b.Attrs.Pref a.Attrs.Pref, cmpI a.Attrs.Path.length b.Attrs.Path.length, cmpI a.Attrs.Origin b.Attrs.Origin, cmpI a.Attrs.Med b.Attrs.Med, cmpI a.Attrs.Next b.Attrs.Next, cmpI a.Peer b.Peer] (by simp)
    rw [← hv] at ho
    simp at ho
    refine drawP (fnEnv 153 (fI2 fun a b => pi (cmpI a b)) (tabEnv [] _)) [⟨[.op 3 5 0], allD 50, true⟩, ⟨[.op 3 5 0], allD 50, true⟩, ⟨[.op 3 4 0], allD 50, true⟩, ⟨[.op 3 4 0], allD 50, true⟩, ⟨[], allD 50, false⟩, ⟨[.op 3 4 0], allD 50, true⟩, ⟨[.op 3 4 0], allD 50, true⟩, ⟨[], allD 50, true⟩, ⟨[.op 3 5 0], allD 50, true⟩, ⟨[.op 3 5 0], allD 50, true⟩, ⟨[], allD 50, true⟩, ⟨[], allD 50, false⟩, ⟨[.op 3 4 0], allD 50, true⟩, ⟨[.op 3 4 0], allD 50, true⟩, ⟨[.op 3 5 0], allD 50, true⟩, ⟨[.op 3 5 0], allD 50, true⟩, ⟨[], allD 50, false⟩, ⟨[.op 3 4 0], allD 50, true⟩, ⟨[.op 3 4 0], allD 50, true⟩, ⟨[.op 3 5 0], allD 50, true⟩, ⟨[.op 3 5 0], allD 50, true⟩, ⟨[], allD 50, false⟩, ⟨[.op 3 4 0], allD 50, true⟩, ⟨[.op 3 4 0], allD 50, true⟩, ⟨[.op 3 5 0], allD 50, true⟩, ⟨[.op 3 5 0], allD 50, true⟩, ⟨[], allD 50, false⟩, ⟨[.op 0 0 0], allD 50, true⟩, ⟨[.op 0 0 0], allD 50, true⟩, ⟨[.op 0 1 0], allD 50, true⟩, ⟨[.op 0 1 0], allD 50, true⟩, ⟨[], allD 50, false⟩, ⟨[], allD 50, false⟩, ⟨[.op 4 32 0], [16, 17, 18, 19, 20, 21, 22, 23, 24, 25, 26, 27, 28, 29, 30, 31, 32, 33, 34, 35, 36, 37, 38, 39, 40, 41, 42, 43, 44, 45, 46, 47, 48, 49, 4], false⟩, ⟨[], allD 50, true⟩] h0 hm (fnEnv_ok (tabEnv_ok (tab_cons ho tab_nil)) (fI2_ok ok_cmpI)) (by kernel_rfl) (by kernel_rfl) ?_
    simp
    rw [hv]
    unfold ordO
    rw [if_neg c]
theorem insRv_split {x : GOffer} : ∀ (q r : List GOffer), (∀ y ∈ q, ordO x y < 0) → insRv x (q ++ r) = q ++ insRv x r
  | [], r, _ => rfl
  | y :: q, r, h => by
    have h1 := h y List.mem_cons_self
    show (if ordO x y < 0 then y :: insRv x (q ++ r) else x :: y :: (q ++ r)) = _
    rw [if_pos h1, insRv_split q r fun z hz => h z (List.mem_cons_of_mem _ hz)]
    rfl
theorem sortRv_step (xs : List GOffer) (i : Nat) (h : i < xs.length) : sortRv (xs.take (i + 1)) = insRv xs[i] (sortRv (xs.take i)) := by
  unfold sortRv
  rw [List.take_succ_eq_append_getElem h, List.foldl_append]
  rfl
theorem sortRv_len : ∀ (xs acc : List GOffer), (xs.foldl (fun acc x => insRv x acc) acc).length = acc.length + xs.length
  | [], acc => by simp
  | x :: xs, acc => by
    rw [List.foldl_cons, sortRv_len xs, insRv_len]
    simp only [List.length_cons]
    omega
theorem sortRv_len' (xs : List GOffer) : (sortRv xs).length = xs.length := by
  unfold sortRv
  rw [sortRv_len]
  simp
def isSl (k n i : Nat) (C : List PT) : St := ⟨slOf 53 [(0, .ref ⟨.arg 0 0, []⟩ 0 n), (1, .t (pi 0)), (2, .t (pi n)), (3, .t (.fn 0 208 [])), (8, .t (pi i))], ofL [(.arg 0 0, .sl 0 81 n C)]⟩
def isSj (k n i j : Nat) (C : List PT) : St := ⟨slOf 53 [(0, .ref ⟨.arg 0 0, []⟩ 0 n), (1, .t (pi 0)), (2, .t (pi n)), (3, .t (.fn 0 208 [])), (8, .t (pi i)), (9, .t (pi j))], ofL [(.arg 0 0, .sl 0 81 n C)]⟩
theorem ok_isort (k : Nat) (xs : List GOffer) (hn : xs.length ≤ 1000000) :
    CallOK Tryz.prog 224 [.c (.sl 0 81 xs.length (xs.flatMap (GOffer.ci k))), .c (pi 0), .c (pi xs.length), .c (.fn 0 208 [])] (.tup []) [.c (.sl 0 81 xs.length ((sortRv xs).reverse.flatMap (GOffer.ci k))), .c (pi 0), .c (pi xs.length), .c (.fn 0 208 [])] := by
  refine okS (fn := Tryz.f224) [] h0 Tryz.func224 (by kernel_rfl) rfl Tryz.ntmps224 Tryz.results224 (by simp) ?_
  simp
  refine loopS [0, 1, 2, 3, 8] [.arg 0 0] (fun m st => ∃ (i : Nat), 1 ≤ i ∧ (i + m = xs.length ∨ (m = 0 ∧ xs.length < i)) ∧ st = isSl k xs.length i (((sortRv (xs.take i)).reverse ++ xs.drop i).flatMap (GOffer.ci k))) (xs.length - 1) ?_ ?_
  · rintro Inv hI
    simp
    subst hI
    refine ⟨1, by omega, by omega, ?_⟩
    have e : ((sortRv (xs.take 1)).reverse ++ xs.drop 1) = xs := by
      cases xs with
      | nil => rfl
      | cons x r => simp [sortRv, insRv]
    rw [e]
    rfl
  · rintro Inv hI m st ⟨i, hi1, hi2, rfl⟩
    unfold isSl
    refine ewr_sound (M := []) h0 ?_
    simp
    refine brn_app (fun a => ?_) (fun a => ?_)
    · simp at a
      have hacc : (sortRv (xs.take i)).length = i := by rw [sortRv_len', List.length_take]; omega
      simp
      refine loopS [0, 1, 2, 3, 8, 9] [.arg 0 0] (fun m st => ∃ (q r : List GOffer), sortRv (xs.take i) = q ++ r ∧ r.length = m ∧ (∀ y ∈ q, ordO xs[i] y < 0) ∧ st = isSj k xs.length i m ((r.reverse ++ xs[i] :: (q.reverse ++ xs.drop (i + 1))).flatMap (GOffer.ci k))) i ?_ ?_
      · rintro Inv2 hI2
        simp
        subst hI2
        refine ⟨[], sortRv (xs.take i), rfl, hacc, by simp, ?_⟩
        rw [List.drop_eq_getElem_cons a]
        simp [isSj]
      · rintro Inv2 hI2 j st ⟨q, r, hqr, hrl, hq, rfl⟩
        unfold isSj
        refine ewr_sound (M := []) h0 ?_
        cases r with
        | nil =>
          simp at hrl
          subst hrl
          simp
          refine drawP (tabEnv [] _) [⟨[.arg 0 0], allD 53, true⟩, ⟨[.arg 0 0], allD 53, true⟩, ⟨[.arg 0 0], allD 53, true⟩, ⟨[.arg 0 0], allD 53, true⟩, ⟨[.arg 0 0], allD 53, true⟩, ⟨[.arg 0 0], allD 53, true⟩, ⟨[.arg 0 0], allD 53, true⟩, ⟨[.arg 0 0], allD 53, true⟩, ⟨[.arg 0 0], allD 53, true⟩, ⟨[.arg 0 0], allD 53, true⟩, ⟨[.arg 0 0], allD 53, true⟩, ⟨[.arg 0 0], allD 53, true⟩, ⟨[.arg 0 0], allD 53, true⟩, ⟨[.arg 0 0], allD 53, true⟩, ⟨[.arg 0 0], [18, 19, 20, 21, 22, 23, 24, 25, 26, 27, 28, 29, 30, 31, 32, 33, 34], false⟩, ⟨[.arg 0 0], allD 53, true⟩, ⟨[.arg 0 0], allD 53, true⟩] h0 hm (tabEnv_ok tab_nil) (by kernel_rfl) (by kernel_rfl) ?_
          simp
          subst hI
          refine Less_mk (m - 1) (by omega) ⟨i + 1, by omega, by omega, ?_⟩
          rw [wrNext i (by omega)]
          unfold isSl
          rw [sortRv_step xs i a, hqr, insRv_split q [] hq]
          simp [insRv]
        | cons y r =>
          simp only [List.length_cons] at hrl
          have hmi : j ≤ i := by
            have := congrArg List.length hqr
            rw [hacc, List.length_append, List.length_cons] at this
            omega
          have hql : q.length = i - j := by
            have := congrArg List.length hqr
            rw [hacc, List.length_append, List.length_cons] at this
            omega
          obtain ⟨R, hR⟩ : ∃ R, R = r.reverse.flatMap (GOffer.ci k) := ⟨_, rfl⟩
          obtain ⟨Z, hZ⟩ : ∃ Z, Z = (q.reverse ++ xs.drop (i + 1)).flatMap (GOffer.ci k) := ⟨_, rfl⟩
          have hRl : R.length = r.length * 7 := by rw [hR, fm_len (GOffer.ci k) 7 (fun _ => rfl), List.length_reverse]
          have hZl : Z.length = (xs.length - (j + 1)) * 7 := by rw [hZ, fm_len (GOffer.ci k) 7 (fun _ => rfl), List.length_append, List.length_reverse, List.length_drop]; congr 1; omega
          have hC0 : ((y :: r).reverse ++ xs[i] :: (q.reverse ++ xs.drop (i + 1))).flatMap (GOffer.ci k) = R ++ (GOffer.ci k y ++ (GOffer.ci k xs[i] ++ Z)) := by
            rw [hR, hZ]
            simp only [List.reverse_cons, List.flatMap_append, List.flatMap_cons, List.flatMap_nil, List.append_assoc, List.append_nil]
          rw [hC0]
          obtain ⟨C, hC⟩ : ∃ C, C = R ++ (GOffer.ci k y ++ (GOffer.ci k xs[i] ++ Z)) := ⟨_, rfl⟩
          rw [← hC]
          have hlC : C.length = xs.length * 7 := by
            rw [hC]
            simp only [List.length_append, hRl, hZl, GOffer.len_i]
            omega
          have hd0 : C.drop (r.length * 7) = GOffer.ci k y ++ (GOffer.ci k xs[i] ++ Z) := by
            rw [hC, ← hRl, List.drop_left]
          have hd1 : C.drop (j * 7) = GOffer.ci k xs[i] ++ Z := by
            rw [show j * 7 = r.length * 7 + 7 by omega, ← List.drop_drop, hd0]
            rfl
          have hw : IntKind.wrap .i64 ((j : Int) - 1) = (r.length : Int) := by
            rw [show (j : Int) - 1 = (r.length : Int) by omega]
            exact wrap64 (by omega) (by omega)
          have hb0 : r.length < xs.length := by omega
          have hb1 : j < xs.length := by omega
          have hb2 : r.length * 7 < xs.length * 7 := by omega
          have hb3 : j * 7 < xs.length * 7 := by omega
          have hj0 : 0 < j := by omega
          have hb4 : j * 7 + 7 ≤ xs.length * 7 := by omega
          have hb5 : r.length * 7 + 7 ≤ xs.length * 7 := by omega
          have hmin : min j xs.length = j := Nat.min_eq_left (by omega)
          have hb6 : r.length * 7 + 7 ≤ j * 7 + (xs.length * 7 - (j * 7 + 7) + 1 + 1 + 1 + 1 + 1 + 1 + 1) := by omega
          have hT : C.take (j * 7) = R ++ GOffer.ci k y := by
            rw [hC, ← List.append_assoc, List.take_left' (by rw [List.length_append, hRl, GOffer.len_i]; omega)]
          have hD : C.drop (j * 7 + 7) = Z := by
            rw [← List.drop_drop, hd1]
            rfl
          have hfin : List.take (r.length * 7) (List.take (j * 7) C ++ (GOffer.ci k y ++ List.drop (j * 7 + 7) C)) ++ (GOffer.ci k xs[i] ++ List.drop (r.length * 7 + 7) (List.take (j * 7) C ++ (GOffer.ci k y ++ List.drop (j * 7 + 7) C))) = (r.reverse ++ xs[i] :: ((q ++ [y]).reverse ++ xs.drop (i + 1))).flatMap (GOffer.ci k) := by
            rw [hT, hD]
            have e1 : List.take (r.length * 7) (R ++ GOffer.ci k y ++ (GOffer.ci k y ++ Z)) = R := by
              rw [List.append_assoc, List.take_left' hRl]
            have e2 : List.drop (r.length * 7 + 7) (R ++ GOffer.ci k y ++ (GOffer.ci k y ++ Z)) = GOffer.ci k y ++ Z := by
              rw [List.drop_left' (by rw [List.length_append, hRl, GOffer.len_i])]
            rw [e1, e2, hR, hZ]
            simp only [List.reverse_append, List.reverse_cons, List.reverse_nil, List.nil_append, List.flatMap_append, List.flatMap_cons, List.flatMap_nil, List.append_assoc, List.append_nil, List.cons_append]
          simp only [GOffer.ci, List.cons_append, List.nil_append] at hfin
          have ho := ok_order k k xs[i] y
          simp at ho
          simp
          refine drawP (tabEnv [] _) [⟨[.arg 0 0], allD 53, true⟩, ⟨[.arg 0 0], allD 53, true⟩, ⟨[.arg 0 0], allD 53, true⟩, ⟨[.arg 0 0], allD 53, true⟩, ⟨[.arg 0 0], allD 53, true⟩, ⟨[.arg 0 0], allD 53, true⟩, ⟨[.arg 0 0], allD 53, true⟩, ⟨[.arg 0 0], allD 53, true⟩, ⟨[.arg 0 0], allD 53, true⟩, ⟨[.arg 0 0], allD 53, true⟩, ⟨[.arg 0 0], allD 53, true⟩, ⟨[.arg 0 0], allD 53, true⟩, ⟨[.arg 0 0], allD 53, true⟩, ⟨[.arg 0 0], allD 53, true⟩, ⟨[.arg 0 0], [18, 19, 20, 21, 22, 23, 24, 25, 26, 27, 28, 29, 30, 31, 32, 33, 34], false⟩, ⟨[.arg 0 0], allD 53, true⟩, ⟨[.arg 0 0], allD 53, true⟩] h0 hm (tabEnv_ok (tab_cons ho tab_nil)) (by kernel_rfl) (by kernel_rfl) ?_
          simp [hw, hb0, hb1, hb2, hb3, hb4, hb5, hj0, hlC, hd0, hd1]
          refine brn_app (fun b => ?_) (fun b => ?_)
          · simp at b
            simp
            refine drawK [0, 1, 2, 3, 5, 6, 10, 11] (tabEnv [] _) [⟨[], allD 53, true⟩, ⟨[], allD 53, true⟩, ⟨[], allD 53, true⟩, ⟨[], allD 53, true⟩, ⟨[], allD 53, true⟩, ⟨[], allD 53, true⟩, ⟨[], allD 53, true⟩, ⟨[], allD 53, true⟩, ⟨[.arg 0 0], allD 53, true⟩, ⟨[.arg 0 0], allD 53, true⟩, ⟨[], allD 53, true⟩, ⟨[], allD 53, true⟩, ⟨[.arg 0 0], allD 53, true⟩, ⟨[.arg 0 0], allD 53, true⟩, ⟨[.arg 0 0], allD 53, true⟩, ⟨[.arg 0 0], [41, 44, 45, 46, 49, 50, 51, 52], false⟩, ⟨[.arg 0 0], allD 53, true⟩, ⟨[.arg 0 0], [41, 44, 45, 46, 49, 50, 51, 52], false⟩] h0 hm (tabEnv_ok tab_nil) (by kernel_rfl) (by kernel_rfl) ?_
            simp [hw, hb0, hb1, hb2, hb3, hb4, hb5, hb6, hmin, hj0, hlC, hd0, hd1]
            subst hI2
            refine Less_mk r.length (by omega) ⟨q ++ [y], r, by rw [hqr]; simp, rfl, ?_, ?_⟩
            · intro z hz
              rcases List.mem_append.1 hz with hz | hz
              · exact hq z hz
              · rw [List.mem_singleton.1 hz]; exact b
            · unfold isSj
              rw [← hfin]
          · simp at b
            simp
            subst hI
            refine Less_mk (m - 1) (by omega) ⟨i + 1, by omega, by omega, ?_⟩
            rw [wrNext i (by omega)]
            unfold isSl
            have e : insRv xs[i] (y :: r) = xs[i] :: y :: r := if_neg (by omega)
            rw [sortRv_step xs i a, hqr, insRv_split q _ hq, e]
            have e3 : ((q ++ xs[i] :: y :: r).reverse ++ xs.drop (i + 1)).flatMap (GOffer.ci k) = C := by
              rw [hC, hR, hZ]
              simp only [List.reverse_append, List.reverse_cons, List.flatMap_append, List.flatMap_cons, List.flatMap_nil, List.append_assoc, List.append_nil, List.cons_append, List.nil_append]
            rw [e3]
    · simp at a
      have e1 : xs.take i = xs := List.take_of_length_le (by omega)
      have e2 : xs.drop i = [] := List.drop_eq_nil_of_le (by omega)
      simp [e1, e2]
theorem ok_IndexFunc_Int (k q g : Nat) (caps : List (List PT)) (p : Int → Bool) (xs : List Int) (ha : xs.length ≤ 140737488351232)
    (hg : ∀ x ∈ xs, CallOK Tryz.prog g (.c (pi x) :: caps.map (PV.ip q)) (.c (pb (p x))) (.c (pi x) :: caps.map (PV.ip q))) :
    CallOK Tryz.prog 214 [.c (rd k xs.length (xs.map pi)), .c (.fn q g caps)] (.c (pi (idxOf p xs))) [.c (rd k xs.length (xs.map pi)), .c (.fn q g caps)] := by
  refine okS (fn := Tryz.f214) [] h0 Tryz.func214 (by kernel_rfl) rfl Tryz.ntmps214 Tryz.results214 (by simp) ?_
  simp
  refine loopS [0, 1, 7, 8] [] (fun n st => ∃ (i : Nat), i + n = xs.length ∧ (∀ (j : Nat) (hj : j < i) (hj' : j < xs.length), p xs[j] = false) ∧ st = ⟨slOf 19 [(0, .t (rd k xs.length (xs.map pi))), (1, .t (.fn q g caps)), (7, .t (pi xs.length)), (8, .t (pi i))], ofL []⟩) xs.length ?_ ?_
  · rintro Inv hI
    simp
    subst hI
    exact ⟨0, by omega, by intro j hj; omega, rfl⟩
  · rintro Inv hI n st ⟨i, hi, hall, rfl⟩
    refine ewr_sound (M := []) h0 ?_
    simp
    refine brn_app (fun h => ?_) (fun h => ?_)
    · simp at h
      simp [h]
      refine Inv_intro (hg _ (List.getElem_mem h)) ?_
      simp
      refine brn_app (fun h2 => ?_) (fun h2 => ?_)
      · simp
        exact (idxOf_hit p xs i h h2 fun j hj => hall j hj (by omega)).symm
      · simp
        subst hI
        refine Less_mk (n - 1) (by omega) ⟨i + 1, by omega, ?_, by rw [wrNext i (by omega)]⟩
        intro j hj hj'
        by_cases hji : j = i
        · subst hji; exact h2
        · exact hall j (by omega) hj'
    · simp at h
      simp
      exact (idxOf_no p xs fun j hj => hall j (by omega) hj).symm
theorem ok_ContainsFunc_Int (k q g : Nat) (caps : List (List PT)) (p : Int → Bool) (xs : List Int) (ha : xs.length ≤ 140737488351232)
    (hg : ∀ x ∈ xs, CallOK Tryz.prog g (.c (pi x) :: caps.map (PV.ip q)) (.c (pb (p x))) (.c (pi x) :: caps.map (PV.ip q))) :
    CallOK Tryz.prog 201 [.c (rd k xs.length (xs.map pi)), .c (.fn q g caps)] (.c (pb (xs.any p))) [.c (rd k xs.length (xs.map pi)), .c (.fn q g caps)] := by
  refine okS (fn := Tryz.f201) [] h0 Tryz.func201 (by kernel_rfl) rfl Tryz.ntmps201 Tryz.results201 (by simp) ?_
  simp
  refine Inv_intro (ok_IndexFunc_Int k q g caps p xs ha hg) ?_
  simp [idxOf_any]
theorem any_not {α : Type} (p : α → Bool) (xs : List α) : xs.any (fun x => !p x) = !xs.all p := by
  induction xs with
  | nil => rfl
  | cons x xs ih => simp [ih]
theorem ok_isValue (n : Int) : CallOK Tryz.prog 178 [.c (pi n)] (.c (pb (isValB n))) [.c (pi n)] := by
  refine okS (fn := Tryz.f178) [] h0 Tryz.func178 (by kernel_rfl) rfl Tryz.ntmps178 Tryz.results178 (by simp) ?_
  simp
  refine Inv_intro (ok_within _ _ _) ?_
  simp [isValB, inR]
theorem ok_isPath1 (n : Int) : CallOK Tryz.prog 202 [.c (pi n)] (.c (pb (!isAsnB n))) [.c (pi n)] := by
  refine okS (fn := Tryz.f202) [] h0 Tryz.func202 (by kernel_rfl) rfl Tryz.ntmps202 Tryz.results202 (by simp) ?_
  simp
  refine Inv_intro (ok_isAsn n) ?_
  simp
theorem ok_isPath (k : Nat) (p : List Int) (hl : p.length ≤ 140737488351232) : CallOK Tryz.prog 177 [.c (rd k p.length (p.map pi))] (.c (pb (goodPa p))) [.c (rd k p.length (p.map pi))] := by
  refine okS (fn := Tryz.f177) [] h0 Tryz.func177 (by kernel_rfl) rfl Tryz.ntmps177 Tryz.results177 (by simp) ?_
  simp
  refine gT (fun a => ?_) (fun a => ?_)
  · have a' : p.length ≤ 10 := by simp at a; omega
    simp [a]
    refine Inv_intro (ok_ContainsFunc_Int k 0 202 [] (fun n => !isAsnB n) p hl fun x hx => ok_isPath1 x) ?_
    simp [goodPa, any_not, a']
  · have a' : ¬ p.length ≤ 10 := by simp at a; omega
    simp [goodPa, a, a']
theorem ok_areComms (k : Nat) (l : List Int) (hl : l.length ≤ 140737488351232) : CallOK Tryz.prog 179 [.c (rd k l.length (l.map pi))] (.c (pb (goodCm l))) [.c (rd k l.length (l.map pi))] := by
  refine okS (fn := Tryz.f179) [] h0 Tryz.func179 (by kernel_rfl) rfl Tryz.ntmps179 Tryz.results179 (by simp) ?_
  simp
  refine loopS [0, 5, 6, 7] [] (fun n st => ∃ (i : Nat), i + n = l.length ∧ commsG (prevI l i) (l.drop i) = commsG none l ∧ st = ⟨slOf 32 [(0, .t (rd k l.length (l.map pi))), (5, .t (rd k l.length (l.map pi))), (6, .t (pi l.length)), (7, .t (pi i))], ofL []⟩) l.length ?_ ?_
  · rintro Inv hI
    simp
    subst hI
    exact ⟨0, by omega, rfl, rfl⟩
  · rintro Inv hI n st ⟨i, hi, hg, rfl⟩
    refine ewr_sound (M := []) h0 ?_
    simp
    refine brn_app (fun a => ?_) (fun a => ?_)
    · simp at a
      rw [drop_step _ i a, commsG] at hg
      have en : prevI l (i + 1) = some l[i] := prevI_next l i a
      simp [a]
      refine Inv_intro (ok_isValue l[i]) ?_
      cases c1 : isValB l[i] with
      | false =>
        rw [c1, Bool.false_and, Bool.false_and] at hg
        simp [goodCm, ← hg]
      | true =>
        rw [c1, Bool.true_and] at hg
        by_cases c0 : i = 0
        · have e0 : ¬ 0 < i := by omega
          have ep : prevI l i = none := by simp [prevI, c0]
          rw [ep, adjI, Bool.true_and] at hg
          simp [e0]
          subst hI
          exact Less_mk (n - 1) (by omega) ⟨i + 1, by omega, by rw [en]; exact hg, by rw [wrNext i (by omega)]⟩
        · obtain ⟨j, hj⟩ : ∃ j, i = j + 1 := ⟨i - 1, by omega⟩
          have aj : j < l.length := by omega
          have ep : prevI l i = some l[j] := by subst hj; exact prevI_next l j aj
          have hw : IntKind.wrap .i64 ((i : Int) - 1) = j := (wrap64 (by omega) (by omega)).trans (by omega)
          have e0 : 0 < i := by omega
          rw [ep, adjI] at hg
          simp [e0, hw, aj]
          refine brn_app (fun c => ?_) (fun c => ?_)
          · simp at c
            have c' : ¬ l[j] < l[i] := by omega
            simp [c'] at hg
            simp [goodCm, hg]
          · simp at c
            have c' : l[j] < l[i] := by omega
            simp [c'] at hg
            simp
            subst hI
            exact Less_mk (n - 1) (by omega) ⟨i + 1, by omega, by rw [en]; exact hg, by rw [wrNext i (by omega)]⟩
    · simp at a
      rw [List.drop_of_length_le (by omega), commsG] at hg
      simp [goodCm, ← hg]
      omega
theorem ok_iGoodAttrs (k : Nat) (x : GAttrs) (hx : attrOK x) : CallOK Tryz.prog 141 [.agg (GAttrs.ci k x)] (.c (pb (goodA x))) [.agg (GAttrs.ci k x)] := by
  obtain ⟨h1, h2⟩ := hx
  refine okS (fn := Tryz.f141) [] h0 Tryz.func141 (by kernel_rfl) rfl Tryz.ntmps141 Tryz.results141 (by simp) ?_
  simp
  refine Inv_intro (ok_within _ _ _) ?_
  by_cases c1 : 0 ≤ x.Origin ∧ x.Origin ≤ 2
  · simp [c1]
    refine Inv_intro (ok_isPath k x.Path h1) ?_
    cases c2 : goodPa x.Path with
    | false => simp [goodA, c2]
    | true =>
      simp
      refine Inv_intro (ok_isAddr _) ?_
      cases c3 : inR x.Next 0 4294967295 with
      | false => simp [goodA, c3]
      | true =>
        simp
        refine Inv_intro (ok_isValue _) ?_
        cases c4 : isValB x.Med with
        | false => simp [goodA, c4]
        | true =>
          simp
          refine Inv_intro (ok_isValue _) ?_
          cases c5 : isValB x.Pref with
          | false => simp [goodA, c5]
          | true =>
            simp
            refine Inv_intro (ok_areComms k x.Comms h2) ?_
            simp [goodA, c2, c3, c4, c5, inR_t c1]
  · have c1' : inR x.Origin 0 2 = false := by simp only [inR, decide_eq_false_iff_not]; exact c1
    simp [c1, goodA, c1']
theorem ok_isPeer (n : Int) : CallOK Tryz.prog 77 [.c (pi n)] (.c (pb (isPeerB n))) [.c (pi n)] := by
  refine okS (fn := Tryz.f77) [] h0 Tryz.func77 (by kernel_rfl) rfl Tryz.ntmps77 Tryz.results77 (by simp) ?_
  simp
  refine Inv_intro (ok_within _ _ _) ?_
  simp [isPeerB, inR]
theorem ok_isOffer (k : Nat) (o : GOffer) (hx : attrOK o.Attrs) : CallOK Tryz.prog 154 [.agg (GOffer.ci k o)] (.c (pb (goodO o))) [.agg (GOffer.ci k o)] := by
  refine okS (fn := Tryz.f154) [] h0 Tryz.func154 (by kernel_rfl) rfl Tryz.ntmps154 Tryz.results154 (by simp) ?_
  simp
  refine Inv_intro (ok_isPeer o.Peer) ?_
  cases c1 : isPeerB o.Peer with
  | false => simp [goodO, c1]
  | true =>
    simp
    refine Inv_intro (ok_iGoodAttrs k o.Attrs hx) ?_
    simp [goodO, c1]
theorem ok_iGoodOffers (k : Nat) (l : List GOffer) (hl : offersOK l) : CallOK Tryz.prog 98 [.c (rd k l.length (l.flatMap (GOffer.ci k)))] (.c (pb (goodOs l))) [.c (rd k l.length (l.flatMap (GOffer.ci k)))] := by
  obtain ⟨hll, hlx⟩ := hl
  refine okS (fn := Tryz.f98) [] h0 Tryz.func98 (by kernel_rfl) rfl Tryz.ntmps98 Tryz.results98 (by simp) ?_
  simp
  refine loopS [0, 5, 6, 7] [] (fun n st => ∃ (i : Nat), i + n = l.length ∧ offersG (prevO l i) (l.drop i) = offersG none l ∧ st = ⟨slOf 31 [(0, .t (rd k l.length (l.flatMap (GOffer.ci k)))), (5, .t (rd k l.length (l.flatMap (GOffer.ci k)))), (6, .t (pi l.length)), (7, .t (pi i))], ofL []⟩) l.length ?_ ?_
  · rintro Inv hI
    simp
    subst hI
    exact ⟨0, by omega, rfl, rfl⟩
  · rintro Inv hI n st ⟨i, hi, hg, rfl⟩
    refine ewr_sound (M := []) h0 ?_
    simp
    refine brn_app (fun a => ?_) (fun a => ?_)
    · simp at a
      have hx := hlx l[i] (List.getElem_mem a)
      rw [drop_step _ i a, offersG] at hg
      have hd := fm_drop (GOffer.ci k) 7 (fun _ => rfl) l i a
      have hlen := fm_len (GOffer.ci k) 7 (fun _ => rfl) l
      have hlt : i * 7 < l.length * 7 := by omega
      have en : prevO l (i + 1) = some l[i] := prevO_next l i a
      simp [a, hd, hlen, hlt]
      have hR := ok_isOffer k l[i] hx
      by_cases c0 : i = 0
      · have e0 : ¬ 0 < i := by omega
        have ep : prevO l i = none := by simp [prevO, c0]
        rw [ep, adjO, Bool.and_true] at hg
        refine drawP (tabEnv [] _) [⟨[.op 3 3 0], allD 31, true⟩, ⟨[], allD 31, false⟩, ⟨[], allD 31, true⟩, ⟨[], allD 31, true⟩, ⟨[], allD 31, true⟩, ⟨[], allD 31, true⟩, ⟨[], allD 31, true⟩, ⟨[.op 3 3 0], allD 31, true⟩, ⟨[.op 3 3 0], allD 31, true⟩, ⟨[], allD 31, true⟩, ⟨[], allD 31, true⟩, ⟨[], allD 31, true⟩, ⟨[], allD 31, true⟩, ⟨[], allD 31, true⟩, ⟨[], allD 31, true⟩, ⟨[], allD 31, true⟩, ⟨[], allD 31, true⟩, ⟨[], allD 31, true⟩] h0 hm (tabEnv_ok (tab_cons hR tab_nil)) (by kernel_rfl) (by kernel_rfl) ?_
        cases c1 : goodO l[i] with
        | false =>
          rw [c1, Bool.false_and] at hg
          simp [c1, goodOs, ← hg]
        | true =>
          rw [c1, Bool.true_and] at hg

          simp [c1, e0]
          subst hI
          exact Less_mk (n - 1) (by omega) ⟨i + 1, by omega, by rw [en]; exact hg, by rw [wrNext i (by omega)]⟩
      · obtain ⟨j, hj⟩ : ∃ j, i = j + 1 := ⟨i - 1, by omega⟩
        have aj : j < l.length := by omega
        have ep : prevO l i = some l[j] := by subst hj; exact prevO_next l j aj
        have hdj := fm_drop (GOffer.ci k) 7 (fun _ => rfl) l j aj
        have hltj : j * 7 < l.length * 7 := by omega
        have hw : IntKind.wrap .i64 ((i : Int) - 1) = j := (wrap64 (by omega) (by omega)).trans (by omega)
        have e0 : 0 < i := by omega
        rw [ep, adjO] at hg
        refine drawP (tabEnv [] _) [⟨[.op 3 3 0], allD 31, true⟩, ⟨[], allD 31, false⟩, ⟨[], allD 31, true⟩, ⟨[], allD 31, true⟩, ⟨[], allD 31, true⟩, ⟨[], allD 31, true⟩, ⟨[], allD 31, true⟩, ⟨[.op 3 3 0], allD 31, true⟩, ⟨[.op 3 3 0], allD 31, true⟩, ⟨[], allD 31, true⟩, ⟨[], allD 31, true⟩, ⟨[], allD 31, true⟩, ⟨[], allD 31, true⟩, ⟨[], allD 31, true⟩, ⟨[], allD 31, true⟩, ⟨[], allD 31, true⟩, ⟨[], allD 31, true⟩, ⟨[], allD 31, true⟩] h0 hm (tabEnv_ok (tab_cons hR tab_nil)) (by kernel_rfl) (by kernel_rfl) ?_
        cases c1 : goodO l[i] with
        | false =>
          rw [c1, Bool.false_and, Bool.false_and] at hg
          simp [c1, goodOs, ← hg]
        | true =>
          rw [c1, Bool.true_and] at hg

          by_cases c2 : l[j].Peer < l[i].Peer
          · have c3 : ¬ l[i].Peer ≤ l[j].Peer := by omega
            rw [decide_eq_true c2, Bool.true_and] at hg
            simp [c1, e0, hw, aj, hdj, hlen, hltj, c3]
            subst hI
            exact Less_mk (n - 1) (by omega) ⟨i + 1, by omega, by rw [en]; exact hg, by rw [wrNext i (by omega)]⟩
          · have c3 : l[i].Peer ≤ l[j].Peer := by omega
            rw [decide_eq_false c2, Bool.false_and] at hg
            simp [c1, e0, hw, aj, hdj, hlen, hltj, c3, goodOs, ← hg]
    · simp at a
      rw [List.drop_of_length_le (by omega), offersG] at hg
      simp [goodOs, ← hg]
def yldV (l : Nat) : Value := .func (.yield l) #[] #[]
def mu7 (n : Nat) (a : Act) : Nat := match (a.tmps[7]? : Option Value) with
  | some (Value.int _ i) => n - i.toNat
  | _ => 0
def vSl (xs : List GOffer) (k' l i : Nat) : List (Nat × SV) := [(0, .t (.raw (yldV l))), (5, .t (rd k' xs.length (xs.flatMap (GOffer.ci k')))), (6, .t (pi xs.length)), (7, .t (pi i))]
theorem values1_in (xs : List GOffer) (k k' l n : Nat) (x : Addr) (I : Nat → Nat → Prop) (J : Nat → World → Prop) (W : World) (hn : xs.length ≤ 1000000)
    (hcap : ImL W I k (some x) 0 [rd k' xs.length (xs.flatMap (GOffer.ci k'))]) (hI : ∀ k b, I k b → b < W.heap.size)
    (hJb : ∀ i W', J i W' → W.heap.size ≤ W'.heap.size ∧ ∀ k b, I k b → W'.heap[b]? = W.heap[b]?)
    (hJg : ∀ i W1 W2, J i W1 → RowKit.Below W1.heap.size W1 W2 → W1.drawn ≤ W2.drawn → J i W2)
    (hY : ∀ (i : Nat) (hi : i < xs.length) (W1 : World) (vs : List Value), J i W1 → SVRL (tsz Tryz.prog) (fun _ => none) W1 I vs ((GOffer.ci k' xs[i]).map SV.t) → (∀ u ∈ vs, one u = true) → YieldAt (wideR none) n Tryz.prog l #[.agg vs.toArray] W1 fun e W' => e = .returned (.bool true) ∧ J (i + 1) W')
    (hJ0 : J 0 W) :
    CallsIn (wideR none) (n + 1) Tryz.prog 219 #[yldV l, .pointer (some x)] W fun e W' => (∃ v, e = .returned v) ∧ J xs.length W' := by
  refine callsIn_of_wp Tryz.func219 rfl trivial ?_ rfl
  generalize hA : (⟨#[yldV l, .pointer (some x)] ++ Array.replicate (Tryz.f219.ntmps - (#[yldV l, Value.pointer (some x)] : Array Value).size) undef, []⟩ : Act) = a0
  have hsz : a0.tmps.toList.length = 16 := by subst hA; rfl
  have hd0 : a0.defers = [] := by subst hA; rfl
  have h0' : a0.tmps.toList[0]? = some (yldV l) := by subst hA; rfl
  have h1' : a0.tmps.toList[1]? = some (.pointer (some x)) := by subst hA; rfl
  have hs0 : SimI (tsz Tryz.prog) I (slOf 16 [(0, .t (.raw (yldV l))), (1, .ip k [rd k' xs.length (xs.flatMap (GOffer.ci k'))])]) a0 W := by
    refine SimI.mk hI hd0 (SVRL.of_slOf hsz ?_)
    intro y hy
    simp only [List.mem_cons, List.not_mem_nil, or_false] at hy
    rcases hy with rfl | rfl
    · exact ⟨_, h0', by simp only [SVR, Im]⟩
    · exact ⟨_, h1', by simp only [SVR]; exact ⟨x, rfl, hcap⟩⟩
  refine wpIn_seq ?_
  refine regT [] [0, 5, 6, 7] [] ⟨slOf 16 [(0, .t (.raw (yldV l))), (5, .t (rd k' xs.length (xs.flatMap (GOffer.ci k')))), (6, .t (pi xs.length)), (7, .t (pi 0))], ofL []⟩ h0 hs0 (by kernel_rfl) ?_ ?_
  · intro K hK
    simp
    refine hK _ ?_
    simp
  · intro a1 w1 L1 hs1
    refine wpIn_block ?_
    refine wpIn_loop (fun a w => ∃ i : Nat, i ≤ xs.length ∧ J i w ∧ SimI (tsz Tryz.prog) I (slOf 16 (vSl xs k' l i)) a w) (fun a _ => mu7 xs.length a) ⟨0, Nat.zero_le _, hJg 0 W w1 hJ0 hs1.keeps.below hs1.keeps.drawn, hs1.toI⟩ ?_
    rintro a w ⟨i, hi, hJ, hs2⟩
    have hmu : mu7 xs.length a = xs.length - i := by
      obtain ⟨u7, q7, r7⟩ := Sim.slot (i := 7) hs2 (by decide)
      have r7' : SVR (tsz Tryz.prog) (fun _ => none) w I u7 (.t (pi i)) := r7
      simp only [SVR, Im] at r7'
      unfold mu7
      rw [q7, r7']
      simp
    unfold vSl at hs2
    refine wpIn_seq ?_
    refine regT [] [0, 5, 6, 7, 8] [] ⟨slOf 16 [(0, .t (.raw (yldV l))), (5, .t (rd k' xs.length (xs.flatMap (GOffer.ci k')))), (6, .t (pi xs.length)), (7, .t (pi i)), (8, .t (pb (decide (i < xs.length))))], ofL []⟩ h0 hs2 (by kernel_rfl) (by
      intro K hK
      simp
      refine hK _ ?_
      simp) ?_
    intro a3 w3 L3 hs3
    have hJ3 := hJg i w w3 hJ hs3.keeps.below hs3.keeps.drawn
    have hs3' := hs3.toI
    obtain ⟨u8, q8, r8⟩ := Sim.slot (i := 8) hs3' (by decide)
    have r8' : SVR (tsz Tryz.prog) (fun _ => none) w3 I u8 (.t (pb (decide (i < xs.length)))) := r8
    simp only [SVR, Im] at r8'
    have hc : a3.eval (.tmp 8) = .bool (decide (i < xs.length)) := by
      simp only [Act.eval, Array.getD_eq_getD_getElem?, q8, r8', Option.getD_some]
    refine wpIn_seq ?_
    by_cases hlt : i < xs.length
    · rw [decide_eq_true hlt] at hc
      refine wpIn_cond_true hc (wpIn_skip ?_)
      refine wpIn_seq ?_
      refine wpIn_block ?_
      refine wpIn_seq ?_
      have hd := fm_drop (GOffer.ci k') 7 (fun _ => rfl) xs i hlt
      have hlen := fm_len (GOffer.ci k') 7 (fun _ => rfl) xs
      have hlt7 : i * 7 < xs.length * 7 := by omega
      refine regT [] [0, 4, 5, 6, 7] [.op 2 2 0] ⟨slOf 16 [(0, .t (.raw (yldV l))), (4, .ptr ⟨.op 2 2 0, []⟩ 0), (5, .t (rd k' xs.length (xs.flatMap (GOffer.ci k')))), (6, .t (pi xs.length)), (7, .t (pi i))], ofL [(.op 2 2 0, .sl 0 81 1 (GOffer.ci k' xs[i]))]⟩ h0 hs3' (by kernel_rfl) (by
        intro K hK
        simp [hlt, hd, hlen, hlt7]
        refine hK _ ?_
        simp) ?_
      intro a4 w4 L4 hs4
      have hJ4 := hJg i w3 w4 hJ3 hs4.keeps.below hs4.keeps.drawn
      refine wpIn_seq ?_
      refine regP [] 2 [0, 5, 6, 7, 11, 12] [] ⟨slOf 16 [(0, .t (.raw (yldV l))), (5, .t (rd k' xs.length (xs.flatMap (GOffer.ci k')))), (6, .t (pi xs.length)), (7, .t (pi i)), (11, .t (.raw (yldV l))), (12, .agg ((GOffer.ci k' xs[i]).map SV.t))], ofL []⟩ h0 hs4 (by decide) (by kernel_rfl) (by
        intro K hK
        simp
        refine hK _ ?_
        simp) ?_
      intro a5 w5 L5 hs5
      have hJ5 := hJg i w3 w5 hJ3 hs5.keeps.below hs5.keeps.drawn
      have hs5' := hs5.toI
      obtain ⟨u11, q11, r11⟩ := Sim.slot (i := 11) hs5' (by decide)
      have r11' : SVR (tsz Tryz.prog) (fun _ => none) w5 I u11 (.t (.raw (yldV l))) := r11
      simp only [SVR, Im] at r11'
      obtain ⟨u12, q12, r12⟩ := Sim.slot (i := 12) hs5' (by decide)
      have r12' : SVR (tsz Tryz.prog) (fun _ => none) w5 I u12 (.agg ((GOffer.ci k' xs[i]).map SV.t)) := r12
      simp only [SVR] at r12'
      obtain ⟨vs, hvs, hsv, hone⟩ := r12'
      have e11 : a5.eval (.tmp 11) = .func (.yield l) #[] #[] := by
        simp only [Act.eval, Array.getD_eq_getD_getElem?, q11, r11', Option.getD_some, yldV]
      have e12 : a5.eval (.tmp 12) = .agg vs.toArray := by
        simp only [Act.eval, Array.getD_eq_getD_getElem?, q12, hvs, Option.getD_some]
      obtain ⟨fn, tm, asg, bdy, hy, hR⟩ := hY i hlt w5 vs hJ5 hsv hone
      refine wpOpsIn_one (i := 2) (rest := [3]) rfl rfl (yieldOp rfl rfl rfl e11 ⟨fn, tm, asg, bdy, by rw [e12]; exact hy, hR.mono ?_⟩)
      rintro e w6 ⟨rfl, hJ6⟩
      refine ⟨rfl, ?_⟩
      obtain ⟨g1, g2⟩ := hJb i w5 hJ5
      obtain ⟨g3, g4⟩ := hJb (i + 1) w6 hJ6
      have hs6 := SimI.later hs5' (w' := w6) (fun k b hb => (g4 k b hb).trans (g2 k b hb).symm) (fun k b hb => Nat.lt_of_lt_of_le (hI k b hb) g3)
      have hs7 := Sim.put hs6 (some 13) (v := .bool true) (s := .t (pb true)) (by simp only [SVR, Im])
      have hs8 : SimI (tsz Tryz.prog) I (slOf 16 [(0, .t (.raw (yldV l))), (5, .t (rd k' xs.length (xs.flatMap (GOffer.ci k')))), (6, .t (pi xs.length)), (7, .t (pi i)), (13, .t (pb true))]) (a5.put (some 13) (.bool true)) w6 := by
        obtain ⟨L8, h8⟩ := hs7.lose [0, 5, 6, 7, 13] []
        have e8 : St.drop ⟨(slOf 16 [(0, .t (.raw (yldV l))), (5, .t (rd k' xs.length (xs.flatMap (GOffer.ci k')))), (6, .t (pi xs.length)), (7, .t (pi i)), (11, .t (.raw (yldV l))), (12, .agg ((GOffer.ci k' xs[i]).map SV.t))]).set 13 (.t (pb true)), ofL []⟩ [0, 5, 6, 7, 13] [] = ⟨slOf 16 [(0, .t (.raw (yldV l))), (5, .t (rd k' xs.length (xs.flatMap (GOffer.ci k')))), (6, .t (pi xs.length)), (7, .t (pi i)), (13, .t (pb true))], ofL []⟩ := by
          simp
        simp only at h8
        rw [e8] at h8
        exact h8.toI
      refine opsT (id := 3) [] 3 [0, 5, 6, 7, 14] [] ⟨slOf 16 [(0, .t (.raw (yldV l))), (5, .t (rd k' xs.length (xs.flatMap (GOffer.ci k')))), (6, .t (pi xs.length)), (7, .t (pi i)), (14, .t (pb false))], ofL []⟩ h0 hs8 (by kernel_rfl) (by
        intro K hK
        simp
        refine hK _ ?_
        simp) ?_
      intro a9 w9 L9 hs9
      have hJ9 := hJg (i + 1) w6 w9 hJ6 hs9.keeps.below hs9.keeps.drawn
      have hs9' := hs9.toI
      obtain ⟨u14, q14, r14⟩ := Sim.slot (i := 14) hs9' (by decide)
      have r14' : SVR (tsz Tryz.prog) (fun _ => none) w9 I u14 (.t (pb false)) := r14
      simp only [SVR, Im] at r14'
      have hc9 : a9.eval (.tmp 14) = .bool false := by
        simp only [Act.eval, Array.getD_eq_getD_getElem?, q14, r14', Option.getD_some]
      refine wpIn_cond_false hc9 (wpIn_skip ?_)
      have wi : IntKind.i64.wrap ((i : Int) + 1) = ((i + 1 : Nat) : Int) := wrNext i (by omega)
      refine regT [] [0, 5, 6, 7] [] ⟨slOf 16 (vSl xs k' l (i + 1)), ofL []⟩ h0 hs9' (by kernel_rfl) (by
        intro K hK
        simp [wi]
        refine hK _ ?_
        simp [vSl]) ?_
      intro aA wA LA hsA
      have hsA' := hsA.toI
      refine ⟨⟨i + 1, by omega, hJg (i + 1) w9 wA hJ9 hsA.keeps.below hsA.keeps.drawn, hsA'⟩, ?_⟩
      obtain ⟨u7, q7, r7⟩ := Sim.slot (i := 7) hsA' (by decide)
      have r7' : SVR (tsz Tryz.prog) (fun _ => none) wA I u7 (.t (pi ((i + 1 : Nat) : Int))) := r7
      simp only [SVR, Im] at r7'
      rw [hmu]
      unfold mu7
      rw [q7, r7']
      simp only [Int.toNat_natCast]
      omega
    · rw [decide_eq_false hlt] at hc
      refine wpIn_cond_false hc (wpIn_exit ?_)
      have hi' : i = xs.length := by omega
      subst hi'
      simp only [Exit.then, Exit.inBlock, if_true]
      exact ⟨hs3'.nodef, _, results_none rfl _ _ _, ⟨_, rfl⟩, hJ3⟩
end Go.V
