/- What functions of the seat's program do, each proved of its code, under the bounds that its theorem names. -/
import Derived.Test.YtildjkidohpmbaaGreatTae
set_option linter.all false
namespace Go.V
open Go.Proofs
set_option maxHeartbeats 1000000
set_option maxRecDepth 10000
set_option linter.unusedSimpArgs false
set_option linter.unusedVariables false
theorem ok_sGoodConfig (k : Nat) (l : List GLeaf) (hl : confOK l) : CallOK Tryz.prog 31 [.c (rd k l.length (l.flatMap (GLeaf.ci k)))] (.c (pb (goodC l))) [.c (rd k l.length (l.flatMap (GLeaf.ci k)))] := by
  obtain ⟨hll, hlx⟩ := hl
  refine okS (fn := Tryz.f31) [] h0 Tryz.func31 (by kernel_rfl) rfl Tryz.ntmps31 Tryz.results31 (by simp) ?_
  simp
  refine loopS [0, 5, 6, 7] [] (fun n st => ∃ (i : Nat), i + n = l.length ∧ goodG (prevC l i) (l.drop i) = goodG none l ∧ st = ⟨slOf 51 [(0, .t (rd k l.length (l.flatMap (GLeaf.ci k)))), (5, .t (rd k l.length (l.flatMap (GLeaf.ci k)))), (6, .t (pi l.length)), (7, .t (pi i))], ofL []⟩) l.length ?_ ?_
  · rintro Inv hI
    simp
    subst hI
    exact ⟨0, by omega, rfl, rfl⟩
  · rintro Inv hI n st ⟨i, hi, hg, rfl⟩
    refine ewr_sound (M := []) h0 ?_
    simp
    refine brn_app (fun a => ?_) (fun a => ?_)
    · simp at a
      have hx := hlx l[i] (List.getElem_mem a)
      obtain ⟨⟨hx1, hx2⟩, hx3⟩ := hx
      rw [drop_step _ i a, goodG] at hg
      have hd := fm_drop (GLeaf.ci k) 2 (fun _ => rfl) l i a
      have hlen := fm_len (GLeaf.ci k) 2 (fun _ => rfl) l
      have hlt : i * 2 < l.length * 2 := by omega
      have en : prevC l (i + 1) = some l[i] := prevC_next l i a
      simp [a, hd, hlen, hlt]
      refine Inv_intro (ok_l15Path k l[i].Path hx1 hx2) ?_
      simp
      cases c1 : isP l[i].Path with
      | false =>
        have hk : okLeaf l[i] = false := by simp [okLeaf, c1]
        rw [hk, Bool.false_and, Bool.false_and] at hg
        simp [goodC, ← hg]
      | true =>
        simp
        refine Inv_intro (ok_l15Word l[i].Value hx3) ?_
        simp
        cases c2 : isW l[i].Value with
        | false =>
          have hk : okLeaf l[i] = false := by simp [okLeaf, c2]
          rw [hk, Bool.false_and, Bool.false_and] at hg
          simp [goodC, ← hg]
        | true =>
          have hk : okLeaf l[i] = true := by simp [okLeaf, c1, c2]
          rw [hk, Bool.true_and] at hg
          simp
          by_cases c0 : i = 0
          · have e0 : ¬ 0 < i := by omega
            have ep : prevC l i = none := by simp [prevC, c0]
            rw [ep, adjC, Bool.true_and] at hg
            refine drawP (tabEnv [] _) [⟨[], allD 51, true⟩, ⟨[], allD 51, true⟩, ⟨[], allD 51, true⟩, ⟨[], allD 51, true⟩, ⟨[], allD 51, true⟩, ⟨[], allD 51, true⟩, ⟨[], allD 51, true⟩, ⟨[], allD 51, true⟩, ⟨[], allD 51, true⟩, ⟨[.op 3 3 0], allD 51, true⟩, ⟨[.op 3 3 0], allD 51, true⟩, ⟨[], allD 51, false⟩, ⟨[], allD 51, true⟩, ⟨[], allD 51, true⟩, ⟨[], allD 51, true⟩, ⟨[], allD 51, true⟩, ⟨[], allD 51, true⟩, ⟨[], allD 51, true⟩, ⟨[], allD 51, true⟩, ⟨[], allD 51, true⟩, ⟨[.op 3 3 0], allD 51, true⟩, ⟨[.op 3 3 0], allD 51, true⟩, ⟨[], allD 51, false⟩, ⟨[], allD 51, true⟩, ⟨[], allD 51, true⟩] h0 hm (tabEnv_ok tab_nil) (by kernel_rfl) (by kernel_rfl) ?_
            simp [e0]
            subst hI
            exact Less_mk (n - 1) (by omega) ⟨i + 1, by omega, by rw [en]; exact hg, by rw [wrNext i (by omega)]⟩
          · obtain ⟨j, hj⟩ : ∃ j, i = j + 1 := ⟨i - 1, by omega⟩
            have aj : j < l.length := by omega
            have ep : prevC l i = some l[j] := by subst hj; exact prevC_next l j aj
            obtain ⟨⟨hy1, hy2⟩, hy3⟩ := hlx l[j] (List.getElem_mem aj)
            have hdj := fm_drop (GLeaf.ci k) 2 (fun _ => rfl) l j aj
            have hltj : j * 2 < l.length * 2 := by omega
            have hw : IntKind.wrap .i64 ((i : Int) - 1) = j := (wrap64 (by omega) (by omega)).trans (by omega)
            have e0 : 0 < i := by omega
            rw [ep, adjC] at hg
            refine drawP (tabEnv [] _) [⟨[], allD 51, true⟩, ⟨[], allD 51, true⟩, ⟨[], allD 51, true⟩, ⟨[], allD 51, true⟩, ⟨[], allD 51, true⟩, ⟨[], allD 51, true⟩, ⟨[], allD 51, true⟩, ⟨[], allD 51, true⟩, ⟨[], allD 51, true⟩, ⟨[.op 3 3 0], allD 51, true⟩, ⟨[.op 3 3 0], allD 51, true⟩, ⟨[], allD 51, false⟩, ⟨[], allD 51, true⟩, ⟨[], allD 51, true⟩, ⟨[], allD 51, true⟩, ⟨[], allD 51, true⟩, ⟨[], allD 51, true⟩, ⟨[], allD 51, true⟩, ⟨[], allD 51, true⟩, ⟨[], allD 51, true⟩, ⟨[.op 3 3 0], allD 51, true⟩, ⟨[.op 3 3 0], allD 51, true⟩, ⟨[], allD 51, false⟩, ⟨[], allD 51, true⟩, ⟨[], allD 51, true⟩] h0 hm (tabEnv_ok (tab_cons (ok_l15Less k k l[j].Path l[i].Path hy1 hx1) (tab_cons (ok_l15Begins k k l[j].Path l[i].Path hy1 hx1) tab_nil))) (by kernel_rfl) (by kernel_rfl) ?_
            cases c3 : lessP l[j].Path l[i].Path with
            | false =>
              rw [c3, Bool.false_and, Bool.false_and] at hg
              simp [c3, e0, hw, aj, hdj, hlen, hltj, goodC, ← hg]
            | true =>
              cases c4 : begP l[j].Path l[i].Path with
              | true =>
                rw [c3, c4] at hg
                have hg' : false = goodG none l := hg
                simp [c3, c4, e0, hw, aj, hdj, hlen, hltj, goodC, ← hg']
              | false =>
                rw [c3, c4] at hg
                have hg' : goodG (some l[i]) (l.drop (i + 1)) = goodG none l := hg
                simp [c3, c4, e0, hw, aj, hdj, hlen, hltj]
                subst hI
                exact Less_mk (n - 1) (by omega) ⟨i + 1, by omega, by rw [en]; exact hg', by rw [wrNext i (by omega)]⟩
    · simp at a
      rw [List.drop_of_length_le (by omega)] at hg
      have hg' : true = goodG none l := by rw [← hg]; cases prevC l i <;> rfl
      simp [goodC, ← hg']
      omega
theorem strs_ok {p : List ByteArray} (h : wt_StringS p ≤ 1048576) : strsOK p := by
  have := len_wt_StringS p
  refine ⟨by omega, fun s hs => ?_⟩
  have := mem_wt_StringS hs
  omega
theorem leaf_ok {x : GLeaf} (h : GLeaf.wt x ≤ 1048576) : leafOK x := by
  unfold GLeaf.wt at h
  exact ⟨strs_ok (by omega), by omega⟩
theorem conf_ok {l : List GLeaf} (h : wt_LeafS l ≤ 1048576) : confOK l := by
  have := len_wt_LeafS l
  refine ⟨by omega, fun x hx => leaf_ok ?_⟩
  have := mem_wt_LeafS hx
  omega
theorem conf_len {l : List GLeaf} (h : wt_LeafS l ≤ 1048576) : l.length ≤ 1048576 ∧ ∀ x ∈ l, x.Path.length ≤ 1048576 := by
  have := len_wt_LeafS l
  refine ⟨by omega, fun x hx => ?_⟩
  have := mem_wt_LeafS hx
  have := len_wt_StringS x.Path
  unfold GLeaf.wt at *
  omega
def rGoodConfig (v0 : List GLeaf) : Bool := goodC v0
theorem law_iGoodConfig (v0 : List GLeaf) (h0 : wt_LeafS v0 ≤ 1048576) : CallOK Tryz.prog 26 [.c (rd 0 v0.length (v0.flatMap (GLeaf.ci 0)))] (.c (pb (rGoodConfig v0))) [.c (rd 0 v0.length (v0.flatMap (GLeaf.ci 0)))] := ok_iGoodConfig 0 v0 (conf_ok h0)
theorem law_sGoodConfig (v0 : List GLeaf) (h0 : wt_LeafS v0 ≤ 1048576) : CallOK Tryz.prog 31 [.c (rd 0 v0.length (v0.flatMap (GLeaf.ci 0)))] (.c (pb (rGoodConfig v0))) [.c (rd 0 v0.length (v0.flatMap (GLeaf.ci 0)))] := ok_sGoodConfig 0 v0 (conf_ok h0)
theorem wt_filter {l : List GLeaf} (f : GLeaf → Bool) (g : GLeaf → GLeaf) (hg : ∀ x, GLeaf.wt (g x) ≤ GLeaf.wt x) : wt_LeafS ((l.filter f).map g) ≤ wt_LeafS l := by
  induction l with
  | nil => simp
  | cons x l ih =>
    have := hg x
    rw [List.filter_cons]
    split
    · simp only [List.map_cons, wt_LeafS, wtR, List.length_cons, List.sum_cons] at ih ⊢
      omega
    · simp only [wt_LeafS, wtR, List.map_cons, List.length_cons, List.sum_cons] at ih ⊢
      omega
theorem wt_drop (p : List ByteArray) : ∀ n : Nat, wt_StringS (p.drop n) ≤ wt_StringS p := by
  induction p with
  | nil => simp
  | cons s p ih =>
    intro n
    cases n with
    | zero => simp
    | succ n =>
      have := ih n
      simp only [List.drop_succ_cons, wt_StringS, wtR, List.map_cons, List.length_cons, List.sum_cons] at this ⊢
      omega
theorem leafs_ok {l : List GLeaf} (h : wt_LeafS l ≤ 1048576) : lens_LeafS l ∧ cn_LeafS l ≤ 1152921504606846976 := by
  have := cn_le_LeafS l
  exact ⟨lens_of_LeafS h, by omega⟩
theorem ofL_mv (n : Nat) (l : List (Id × PT)) (i : Id) (t : PT) (h : ((l.take n).all fun p => !decide (p.1 = i)) = true) : ofL ((i, t) :: l) = ofL (l.take n ++ (i, t) :: l.drop n) := by
  induction n generalizing l with
  | zero => rfl
  | succ n ih => cases l with
    | nil => rfl
    | cons p l =>
      obtain ⟨j, y⟩ := p
      simp at h
      have ih := ih l (by simpa using h.2)
      show ofL ((i, t) :: (j, y) :: l) = ofL ((j, y) :: (l.take n ++ (i, t) :: l.drop n))
      have e : ofL ((j, y) :: (l.take n ++ (i, t) :: l.drop n)) = ofL ((j, y) :: (i, t) :: l) := by
        funext q
        simp only [ofL]
        rw [← ih]
        rfl
      rw [e]
      funext q
      by_cases c : q = i
      · subst c
        have h1 := h.1
        simp [ofL, Ne.symm h1]
      · simp [ofL, c]
theorem ofL_sw2 {a b c : Id} {x y z : PT} (h : b ≠ c) : ofL [(a, x), (c, z), (b, y)] = ofL [(a, x), (b, y), (c, z)] := by
  funext q
  by_cases e : q = c
  · subst e
    simp [ofL, h.symm]
  · simp [ofL, e]
theorem ok_l15Put (m : List GLeaf) (x : GLeaf) (hm' : confOK m) (hl : m.length ≤ 1048576) (hx : x.Path.length ≤ 140737488351232) : CallOK Tryz.prog 81 [.c (.sl 0 58 m.length (m.flatMap GLeaf.co)), .agg x.co] (.c (.sl 0 58 (putL x.Path x.Value m).length ((putL x.Path x.Value m).flatMap GLeaf.co))) [.c (.sl 0 58 m.length ((m.flatMap GLeaf.co).map PT.hollow)), .agg [.hole, ps x.Value]] := by
  refine okS (fn := Tryz.f81) [] h0 Tryz.func81 (by kernel_rfl) rfl Tryz.ntmps81 Tryz.results81 (by simp) ?_
  simp
  refine loopS [0, 3, 5] [.arg 0 0, .op 0 0 0] (fun n st => ∃ (k : Nat), k + n = m.length ∧ (∀ (j : Nat) (hj : j < k) (hj' : j < m.length), cmpP m[j].Path x.Path < 0) ∧ st = ⟨slOf 37 [(0, .ref ⟨.arg 0 0, []⟩ 0 m.length), (3, .ptr ⟨.op 0 0 0, []⟩ 0), (5, .t (pi k))], ofL [(.arg 0 0, .sl 0 58 m.length (m.flatMap GLeaf.co)), (.arg 1 0, .hole), (.op 0 0 0, .sl 0 58 1 x.co)]⟩) m.length ?_ ?_
  · rintro Inv hI
    simp
    subst hI
    exact ⟨0, by omega, by intro j hj; omega, rfl⟩
  · rintro Inv hI n st ⟨k, hk, hall, rfl⟩
    have hml := hm'.1
    have hat : ∀ (h : k < m.length), 0 ≤ cmpP m[k].Path x.Path → atI x.Path m = k := fun h h2 => bsI_eq _ m k (by omega) hall fun _ => h2
    have hat2 : k = m.length → atI x.Path m = k := fun h => bsI_eq _ m k (by omega) hall fun h2 => by omega
    have hcm := fm_len GLeaf.co 2 (fun _ => rfl) m
    refine ewr_sound (M := []) h0 ?_
    simp
    by_cases c1 : k < m.length
    · have c1' : (k : Int) < m.length := by omega
      have hd := fm_drop GLeaf.co 2 (fun _ => rfl) m k c1
      have hlt : k * 2 < m.length * 2 := by omega
      have hCg : ∀ h : k * 2 < (m.flatMap GLeaf.co).length, (m.flatMap GLeaf.co)[k * 2] = .sl 0 9 m[k].Path.length (m[k].Path.map ps) := by
        intro h
        have hd2 := hd
        rw [List.drop_eq_getElem_cons h] at hd2
        exact (List.cons.inj hd2).1
      refine drawP (tabEnv [] _) [⟨[], allD 37, true⟩, ⟨[.arg 0 0], allD 37, true⟩, ⟨[.arg 0 0], allD 37, true⟩, ⟨[], allD 37, true⟩, ⟨[], allD 37, true⟩, ⟨[.arg 0 0], allD 37, true⟩, ⟨[], allD 37, true⟩, ⟨[.arg 0 0], allD 37, true⟩, ⟨[.arg 0 0], allD 37, true⟩, ⟨[.arg 0 0], allD 37, true⟩, ⟨[.op 0 0 0], allD 37, true⟩, ⟨[.op 0 0 0], allD 37, true⟩, ⟨[.arg 0 0, .op 0 0 0], [7, 8, 9, 10, 11, 12, 13, 14, 15, 16, 17, 18, 19, 20], false⟩, ⟨[], allD 37, true⟩] h0 hm (tabEnv_ok (tab_cons (ok_l15Less 0 0 m[k].Path x.Path (hm'.2 _ (List.getElem_mem c1)).1.1 hx) tab_nil)) (by kernel_rfl) (by kernel_rfl) ?_
      simp [c1, c1', hd, hcm, hlt, hCg]
      cases c2 : lessP m[k].Path x.Path with
      | true =>
        have h2 := (cmpP_neg _ _).2 c2
        simp
        subst hI
        refine Less_mk (n - 1) (by omega) ⟨k + 1, by omega, ?_, ?_⟩
        · intro j hj hj'
          rcases Nat.lt_or_ge j k with h' | h'
          · exact hall j h' hj'
          · have : j = k := by omega
            subst this
            exact h2
        · rw [wrNext k (by omega), ofL_sw2 (by decide)]
          rfl
      | false =>
        have h2 : 0 ≤ cmpP m[k].Path x.Path := Int.not_lt.1 fun hc => by rw [(cmpP_neg _ _).1 hc] at c2; cases c2
        have hat := hat c1 h2
        have hkl : k ≤ m.length := by omega
        have hpc := putL_co x.Path x.Value m
        have hpl := putL_len x.Path x.Value m
        rw [hat] at hpc
        rw [hpc, hpl]
        generalize m.flatMap GLeaf.co = F at *
        have hb1 : k * 2 ≤ m.length * 2 := by omega
        have hb2 : k * 40 ≤ 140737488355328 := by omega
        have hb3 : k ≤ 9223372036854775807 := by omega
        have hb4 : (k + 1) * 40 ≤ 140737488355328 := by omega
        have hb5 : k + 1 ≤ 9223372036854775807 := by omega
        have hb6 : (m.length + 1) * 40 ≤ 140737488355328 := by omega
        have hb7 : m.length ≤ 9223372036854775806 := by omega
        have hTl : (F.take (k * 2)).length = k * 2 := by rw [List.length_take]; omega
        have hmk : ¬ m.length - k = 0 := by omega
        by_cases hk0 : k = 0
        · subst hk0
          have hmn : ¬ m = [] := by rintro rfl; simp at c1
          have hd1 : m.length * 2 ≤ F.length := by omega
          have hd2 : (1 + m.length) * 40 ≤ 140737488355328 := by omega
          have hd3 : 1 + m.length ≤ 9223372036854775807 := by omega
          have hTF : F.take (m.length * 2) = F := List.take_of_length_le (by omega)
          have hHF : (F.map PT.hollow).take (m.length * 2) ++ F.drop (m.length * 2) = F.map PT.hollow := by rw [List.take_of_length_le (by rw [List.length_map]; omega), List.drop_of_length_le (by omega), List.append_nil]
          have hnn : 1 + m.length = m.length + 1 := by omega
          have hD0 : F.drop (m.length * 2) = [] := List.drop_of_length_le (by omega)
          have hr1 : (m.length + 1) * 2 ≤ m.length * 2 + 1 + 1 := by omega
          have hr2 : ∀ a b : PT, List.take ((m.length + 1) * 2) (a :: b :: F) = a :: b :: F := fun a b => List.take_of_length_le (by simp only [List.length_cons]; omega)
          simp [hkl, hmn, hd1, hd2, hd3, hTF, hHF, hnn, hb6, hb7, hD0, hcm, hr1, hr2]
        · have he1 : k * 2 + (m.length - k) * 2 ≤ m.length * 2 := by omega
          have he2 : (k + 1 + (m.length - k)) * 40 ≤ 140737488355328 := by omega
          have he3 : k + 1 + (m.length - k) ≤ 9223372036854775807 := by omega
          have hTT : (F.take (k * 2)).take (k * 2) = F.take (k * 2) := List.take_of_length_le (by omega)
          have hDD : (F.drop (k * 2)).take ((m.length - k) * 2) = F.drop (k * 2) := List.take_of_length_le (by rw [List.length_drop]; omega)
          have hHF : (F.map PT.hollow).take (k * 2) ++ (((F.map PT.hollow).drop (k * 2)).take ((m.length - k) * 2) ++ F.drop (k * 2 + (m.length - k) * 2)) = F.map PT.hollow := by rw [List.drop_of_length_le (l := F) (by omega), List.append_nil, List.take_of_length_le (l := (F.map PT.hollow).drop (k * 2)) (by rw [List.length_drop, List.length_map]; omega), List.take_append_drop]
          have hnn : k + 1 + (m.length - k) = m.length + 1 := by omega
          have hD0 : F.drop (k * 2 + (m.length - k) * 2) = [] := List.drop_of_length_le (by omega)
          have hr1 : (m.length + 1) * 2 ≤ k * 2 + (m.length * 2 - k * 2 + 1 + 1) := by omega
          have hr2 : ∀ a b : PT, List.take ((m.length + 1) * 2) (F.take (k * 2) ++ a :: b :: F.drop (k * 2)) = F.take (k * 2) ++ a :: b :: F.drop (k * 2) := fun a b => List.take_of_length_le (by simp only [List.length_append, List.length_cons, List.length_drop, hTl]; omega)
          simp [hkl, hk0, hb1, hb2, hb3, hb4, hb5, hb6, hb7, hcm, hTl, hmk, he1, he2, he3, hTT, hDD, hHF, hnn, hD0, hr1, hr2]
    · have c1' : ¬ (k : Int) < m.length := by omega
      refine drawP (tabEnv [] _) [⟨[], allD 37, true⟩, ⟨[.arg 0 0], allD 37, true⟩, ⟨[.arg 0 0], allD 37, true⟩, ⟨[], allD 37, true⟩, ⟨[], allD 37, true⟩, ⟨[.arg 0 0], allD 37, true⟩, ⟨[], allD 37, true⟩, ⟨[.arg 0 0], allD 37, true⟩, ⟨[.arg 0 0], allD 37, true⟩, ⟨[.arg 0 0], allD 37, true⟩, ⟨[.op 0 0 0], allD 37, true⟩, ⟨[.op 0 0 0], allD 37, true⟩, ⟨[.arg 0 0, .op 0 0 0], [7, 8, 9, 10, 11, 12, 13, 14, 15, 16, 17, 18, 19, 20], false⟩, ⟨[], allD 37, true⟩] h0 hm (tabEnv_ok tab_nil) (by kernel_rfl) (by kernel_rfl) ?_
      simp [c1, c1']
      have hkn : k = m.length := by omega
      have hat := hat2 hkn
      have hpc := putL_co x.Path x.Value m
      have hpl := putL_len x.Path x.Value m
      rw [hat] at hpc
      rw [hpc, hpl]
      subst hkn
      generalize m.flatMap GLeaf.co = F at *
      have hb2 : m.length * 40 ≤ 140737488355328 := by omega
      have hb3 : m.length ≤ 9223372036854775807 := by omega
      have hb6 : (m.length + 1) * 40 ≤ 140737488355328 := by omega
      have hb7 : m.length ≤ 9223372036854775806 := by omega
      have hTF : F.take (m.length * 2) = F := List.take_of_length_le (by omega)
      have hD0 : F.drop (m.length * 2) = [] := List.drop_of_length_le (by omega)
      have hHT : (F.map PT.hollow).take (m.length * 2) = F.map PT.hollow := List.take_of_length_le (by rw [List.length_map]; omega)
      by_cases hk0 : m = []
      · subst hk0
        have hF0 : F = [] := List.length_eq_zero_iff.1 (by simpa using hcm)
        subst hF0
        simp
      · have hk1 : ¬ m.length = 0 := fun e => hk0 (List.length_eq_zero_iff.1 e)
        simp [hk0, hk1, hb2, hb3, hb6, hb7, hcm, hTF, hD0, hHT]
theorem ok_l15Own (k : Nat) (l : List GLeaf) (hl : l.length ≤ 1048576) (hx : ∀ x ∈ l, x.Path.length ≤ 1048576) : CallOK Tryz.prog 41 [.c (rd k l.length (l.flatMap (GLeaf.ci k)))] (.c (.sl 0 58 l.length (l.flatMap GLeaf.co))) [.c (rd k l.length (l.flatMap (GLeaf.ci k)))] := by
  refine okS (fn := Tryz.f41) [] h0 Tryz.func41 (by kernel_rfl) rfl Tryz.ntmps41 Tryz.results41 (by simp) ?_
  simp
  refine ewp_nil 3 (.op 5 9 0) 58 (by decide) rfl rfl rfl ?_
  refine loopS [3, 6, 7, 8] [.op 5 9 0] (fun n st => ∃ (i : Nat), i + n = l.length ∧ st = ⟨slOf 24 [(3, .ref ⟨.op 5 9 0, []⟩ 0 i), (6, .t (rd k l.length (l.flatMap (GLeaf.ci k)))), (7, .t (pi l.length)), (8, .t (pi i))], ofL [(.op 5 9 0, .sl 0 58 i ((l.take i).flatMap GLeaf.co))]⟩) l.length ?_ ?_
  · rintro Inv hI
    simp
    subst hI
    exact ⟨0, by omega, by simp⟩
  · rintro Inv hI n st ⟨i, hi, rfl⟩
    have hA := fm_take_len GLeaf.co 2 (fun _ => rfl) l i (by omega)
    generalize hAe : ((l.take i).flatMap GLeaf.co) = A at hA ⊢
    refine ewr_sound (M := []) h0 ?_
    simp
    refine brn_app (fun a => ?_) (fun a => ?_)
    · simp at a
      have hd := fm_drop (GLeaf.ci k) 2 (fun _ => rfl) l i a
      have hlen := fm_len (GLeaf.ci k) 2 (fun _ => rfl) l
      have hlt : i * 2 < l.length * 2 := by omega
      have hb1 : (i + 1) * 40 ≤ 140737488355328 := by omega
      have hb2 : i ≤ 9223372036854775806 := by omega
      have hp := hx _ (List.getElem_mem a)
      have hp1 : l[i].Path.length * 16 ≤ 140737488355328 := by omega
      have hp2 : l[i].Path.length ≤ 9223372036854775807 := by omega
      have ht : A.take (i * 2) = A := List.take_of_length_le (by omega)
      have e3 : ((l.take (i + 1)).flatMap GLeaf.co) = A ++ GLeaf.co l[i] := by rw [take_step l i a, List.flatMap_append, hAe, List.flatMap_cons, List.flatMap_nil, List.append_nil]
      simp [a, hd, hlen, hlt]
      by_cases hpe : l[i].Path = []
      · refine drawP (tabEnv [] _) [⟨[.op 5 9 0], allD 24, true⟩, ⟨[], allD 24, false⟩, ⟨[.op 4 2 0], allD 24, true⟩, ⟨[.op 4 2 0], allD 24, true⟩, ⟨[.op 5 1 0], [12, 13, 14, 15, 16, 17, 18, 19, 20, 21, 3], false⟩, ⟨[.op 4 2 0], allD 24, true⟩, ⟨[.op 4 2 0], allD 24, true⟩, ⟨[.op 5 1 0], allD 24, true⟩, ⟨[.op 5 1 0, .op 5 7 0], [12, 13, 14, 15, 16, 17, 18, 19, 20, 21, 3], false⟩, ⟨[.op 5 9 0, .op 5 8 0], [12, 13, 14, 15, 16, 17, 18, 19, 20, 21, 3], false⟩, ⟨[.op 5 9 0], allD 24, true⟩] h0 hm (tabEnv_ok tab_nil) (by kernel_rfl) (by kernel_rfl) ?_
        simp [hA, hb1, hb2, ht, hpe]
        subst hI
        refine Less_mk (n - 1) (by omega) ⟨i + 1, by omega, ?_⟩
        rw [wrNext i (by omega), e3]
        all_goals simp [hpe]
      · refine drawP (tabEnv [] _) [⟨[.op 5 9 0], allD 24, true⟩, ⟨[], allD 24, false⟩, ⟨[.op 4 2 0], allD 24, true⟩, ⟨[.op 4 2 0], allD 24, true⟩, ⟨[.op 5 1 0], [12, 13, 14, 15, 16, 17, 18, 19, 20, 21, 3], false⟩, ⟨[.op 4 2 0], allD 24, true⟩, ⟨[.op 4 2 0], allD 24, true⟩, ⟨[.op 5 4 0], allD 24, true⟩, ⟨[.op 5 4 0, .op 5 7 0], [12, 13, 14, 15, 16, 17, 18, 19, 20, 21, 3], false⟩, ⟨[.op 5 9 0, .op 5 8 0], [12, 13, 14, 15, 16, 17, 18, 19, 20, 21, 3], false⟩, ⟨[.op 5 9 0], allD 24, true⟩] h0 hm (tabEnv_ok tab_nil) (by kernel_rfl) (by kernel_rfl) ?_
        simp [hA, hb1, hb2, ht, hpe, hp1, hp2]
        subst hI
        refine Less_mk (n - 1) (by omega) ⟨i + 1, by omega, ?_⟩
        rw [wrNext i (by omega), e3]
        all_goals simp
    · simp at a
      have hn : n = 0 := by omega
      subst hn
      have ht : List.take i l = l := List.take_of_length_le (by omega)
      have hil : i = l.length := by omega
      rw [← hAe, ht, hil]
      simp
theorem keptL_len (p : List ByteArray) (l : List GLeaf) : (keptL p l).length ≤ l.length := List.length_filter_le _ _
theorem keptL_snoc (p : List ByteArray) (l : List GLeaf) (i : Nat) (h : i < l.length) : keptL p (l.take (i + 1)) = keptL p (l.take i) ++ (if clashB p l[i] = true then [] else [l[i]]) := by
  unfold keptL
  rw [take_step l i h, List.filter_append]
  by_cases hb : clashB p l[i] = true <;> simp [hb]
theorem ok_sSetAt (k k' : Nat) (l : List GLeaf) (p : List ByteArray) (v : ByteArray) (hl : l.length ≤ 1048576) (hx : ∀ x ∈ l, x.Path.length ≤ 1048576) (hlo : confOK l) (hp : strsOK p) (hp1 : p.length ≤ 1048576) (hv : v.size ≤ 140737488355328) : CallOK Tryz.prog 57 [.c (rd k l.length (l.flatMap (GLeaf.ci k))), .c (rd k' p.length (p.map ps)), .c (ps v)] (.tup [.c (.sl 0 58 (rSetAt l p v).1.length ((rSetAt l p v).1.flatMap GLeaf.co)), .c (pb (rSetAt l p v).2)]) [.c (rd k l.length (l.flatMap (GLeaf.ci k))), .c (rd k' p.length (p.map ps)), .c (ps v)] := by
  refine okS (fn := Tryz.f57) [(81, [2,2])] h0 Tryz.func57 (by kernel_rfl) rfl Tryz.ntmps57 Tryz.results57 (by simp) ?_
  simp
  refine Inv_intro (ok_sGoodConfig k l hlo) ?_
  simp
  cases c1 : goodC l with
  | false => simp [rSetAt, c1]
  | true =>
    simp
    refine Inv_intro (ok_l15Path k' p hp.1 hp.2) ?_
    simp
    cases c2 : isP p with
    | false => simp [rSetAt, c2]
    | true =>
      simp
      refine Inv_intro (ok_l15Word v hv) ?_
      simp
      cases c3 : isW v with
      | false => simp [rSetAt, c3]
      | true =>
        simp
        refine Inv_intro (ok_l15Own k l hl hx) ?_
        simp
        refine ewp_nil 8 (.op 8 3 0) 58 (by decide) rfl rfl rfl ?_
        refine loopS [1, 2, 8, 25, 26, 27] [.op 8 3 0, .op 4 1 0] (fun n st => ∃ (i : Nat) (C : List PT), i + n = l.length ∧ C.length = l.length * 2 ∧ C.drop (i * 2) = (l.drop i).flatMap GLeaf.co ∧ st = ⟨slOf 59 [(1, .t (rd k' p.length (p.map ps))), (2, .t (ps v)), (8, .ref ⟨.op 8 3 0, []⟩ 0 (keptL p (l.take i)).length), (25, .ref ⟨.op 4 1 0, []⟩ 0 l.length), (26, .t (pi l.length)), (27, .t (pi i))], ofL [(.op 8 3 0, .sl 0 58 (keptL p (l.take i)).length ((keptL p (l.take i)).flatMap GLeaf.co)), (.op 4 1 0, .sl 0 58 l.length C)]⟩) l.length ?_ ?_
        · rintro Inv hI
          simp
          subst hI
          exact ⟨0, l.flatMap GLeaf.co, by omega, fm_len GLeaf.co 2 (fun _ => rfl) l, rfl, rfl⟩
        · rintro Inv hI n st ⟨i, C, hi, hCl, hCd0, rfl⟩
          have hO : (keptL p (l.take i)).length ≤ i := Nat.le_trans (keptL_len _ _) (by simp; omega)
          have hS := keptL_snoc p l i
          have hfin : i = l.length → keptL p (l.take i) = keptL p l := by rintro rfl; rw [List.take_length]
          generalize hOe : keptL p (l.take i) = O at hO hS hfin ⊢
          have hA := fm_len GLeaf.co 2 (fun _ => rfl) O
          have hAm : ∀ y, (O ++ [y]).flatMap GLeaf.co = O.flatMap GLeaf.co ++ GLeaf.co y := fun y => by simp
          refine ewr_sound (M := [(81, [2, 2])]) h0 ?_
          simp
          refine brn_app (fun a => ?_) (fun a => ?_)
          · simp at a
            have hS' := hS a
            have hCd : C.drop (i * 2) = .sl 0 9 l[i].Path.length (l[i].Path.map ps) :: ps l[i].Value :: (l.drop (i + 1)).flatMap GLeaf.co := by
              rw [hCd0, drop_step _ i a, List.flatMap_cons]
              rfl
            have hCg : ∀ h : i * 2 < C.length, C[i * 2] = .sl 0 9 l[i].Path.length (l[i].Path.map ps) := by
              intro h
              rw [List.drop_eq_getElem_cons h] at hCd
              exact (List.cons.inj hCd).1
            have hCn : C.drop ((i + 1) * 2) = (l.drop (i + 1)).flatMap GLeaf.co := by
              have : (i + 1) * 2 = i * 2 + 2 := by omega
              rw [this, ← List.drop_drop, hCd]
              rfl
            have hb : i * 2 + 2 ≤ l.length * 2 := by omega
            have hp1 := hx _ (List.getElem_mem a)
            simp [a, hCl, hCd, hCg, hb]
            refine Inv_intro (ok_l15Begins 0 k' l[i].Path p (by omega) hp.1) ?_
            cases b1 : begP l[i].Path p with
            | true =>
              have hb : clashB p l[i] = true := by simp [clashB, b1]
              rw [if_pos hb, List.append_nil] at hS'
              simp
              subst hI
              refine Less_mk (n - 1) (by omega) ⟨i + 1, C.set (i * 2) .hole, by omega, by rw [List.length_set]; exact hCl, by rw [set_drop C _ _ _ (by omega), hCn], ?_⟩
              rw [hS', wrNext i (by omega)]
            | false =>
              simp
              refine Inv_intro (ok_l15Begins k' 0 p l[i].Path hp.1 (by omega)) ?_
              cases b2 : begP p l[i].Path with
              | true =>
                have hb : clashB p l[i] = true := by simp [clashB, b2]
                rw [if_pos hb, List.append_nil] at hS'
                simp
                subst hI
                refine Less_mk (n - 1) (by omega) ⟨i + 1, C.set (i * 2) .hole, by omega, by rw [List.length_set]; exact hCl, by rw [set_drop C _ _ _ (by omega), hCn], ?_⟩
                rw [hS', wrNext i (by omega)]
              | false =>
                have hb : ¬ clashB p l[i] = true := by simp [clashB, b1, b2]
                rw [if_neg hb] at hS'
                generalize hAe : O.flatMap GLeaf.co = A at hA hAm ⊢
                have ht : A.take (O.length * 2) = A := List.take_of_length_le (by omega)
                have hb1 : (O.length + 1) * 40 ≤ 140737488355328 := by omega
                have hb2 : O.length + 1 ≤ 9223372036854775807 := by omega
                simp [hA, ht, hb1, hb2]
                subst hI
                refine Less_mk (n - 1) (by omega) ⟨i + 1, C.set (i * 2) .hole, by omega, by rw [List.length_set]; exact hCl, by rw [set_drop C _ _ _ (by omega), hCn], ?_⟩
                rw [hS', wrNext i (by omega), hAm, List.length_append]
                rfl
          · simp at a
            have hin : i = l.length := by omega
            have hfin := hfin hin
            have hOl : O.length ≤ l.length := by omega
            subst hfin
            have ht : ((keptL p l).flatMap GLeaf.co).take ((keptL p l).length * 2) = (keptL p l).flatMap GLeaf.co := List.take_of_length_le (by omega)
            have hpe : ¬ p = [] := by
              rintro rfl
              simp [isP] at c2
            have hq1 : p.length * 16 ≤ 140737488355328 := by omega
            have hq2 : p.length ≤ 9223372036854775807 := by omega
            have hput := ok_l15Put (keptL p l) ⟨p, v⟩ (kept_conf hlo) (by omega) hp.1
            have hsl : putL p v (keptL p l) = setC p v l := rfl
            rw [hsl] at hput
            have hso := set_conf (p := p) (v := v) hlo hl hp hv
            simp [hpe, hq1, hq2, hA, ht]
            refine Inv_intro hput ?_
            simp
            refine Inv_intro (ok_sGoodConfig 0 (setC p v l) hso) ?_
            simp
            cases c4 : goodC (setC p v l) with
            | false => simp [rSetAt, c4]
            | true =>
              have er : rSetAt l p v = (setC p v l, true) := by simp [rSetAt, c1, c2, c3, c4]
              rw [er]
              simp
theorem leafs_big {l : List GLeaf} (h : wt_LeafS l ≤ 1000000000000) : lens_LeafS l ∧ cn_LeafS l ≤ 1152921504606846976 := by
  have hc := cn_le_LeafS l
  have hl : l.length ≤ wt_LeafS l := Nat.le_add_right _ _
  refine ⟨⟨by omega, fun x hx => ⟨?_, fun _ _ => trivial⟩⟩, by omega⟩
  have h1 := mem_wt_LeafS hx
  have h2 := len_wt_StringS x.Path
  unfold GLeaf.wt at h1
  omega
theorem wt_app (a b : List GLeaf) : wt_LeafS (a ++ b) = wt_LeafS a + wt_LeafS b := by
  simp only [wt_LeafS, wtR, List.length_append, List.map_append, List.sum_append]
  omega
theorem wt_putL (p : List ByteArray) (v : ByteArray) (m : List GLeaf) : wt_LeafS (putL p v m) = wt_LeafS m + (1 + (wt_StringS p + v.size)) := by
  unfold putL
  have h := wt_app (m.take (atI p m)) (m.drop (atI p m))
  rw [List.take_append_drop] at h
  rw [wt_app, wt_app, h]
  have h1 : wt_LeafS [⟨p, v⟩] = 1 + (wt_StringS p + v.size) := by simp [wt_LeafS, wtR, GLeaf.wt]
  omega
theorem law_iSetAt (v0 : List GLeaf) (v1 : List ByteArray) (v2 : ByteArray) (h0 : wt_LeafS v0 ≤ 1048576) (h1 : wt_StringS v1 ≤ 1048576) (h2 : v2.size ≤ 1048576) : CallOK Tryz.prog 39 [.c (rd 0 v0.length (v0.flatMap (GLeaf.ci 0))), .c (rd 0 v1.length (v1.map ps)), .c (ps v2)] (.tup [.c (.sl 0 58 (rSetAt v0 v1 v2).1.length ((rSetAt v0 v1 v2).1.flatMap GLeaf.co)), .c (pb (rSetAt v0 v1 v2).2)]) [.c (rd 0 v0.length (v0.flatMap (GLeaf.ci 0))), .c (rd 0 v1.length (v1.map ps)), .c (ps v2)] := ok_iSetAt 0 0 v0 v1 v2 (conf_len h0).1 (conf_len h0).2 (conf_ok h0) (strs_ok h1) (by have := len_wt_StringS v1; omega) (by omega)
theorem law_sSetAt (v0 : List GLeaf) (v1 : List ByteArray) (v2 : ByteArray) (h0 : wt_LeafS v0 ≤ 1048576) (h1 : wt_StringS v1 ≤ 1048576) (h2 : v2.size ≤ 1048576) : CallOK Tryz.prog 57 [.c (rd 0 v0.length (v0.flatMap (GLeaf.ci 0))), .c (rd 0 v1.length (v1.map ps)), .c (ps v2)] (.tup [.c (.sl 0 58 (rSetAt v0 v1 v2).1.length ((rSetAt v0 v1 v2).1.flatMap GLeaf.co)), .c (pb (rSetAt v0 v1 v2).2)]) [.c (rd 0 v0.length (v0.flatMap (GLeaf.ci 0))), .c (rd 0 v1.length (v1.map ps)), .c (ps v2)] := ok_sSetAt 0 0 v0 v1 v2 (conf_len h0).1 (conf_len h0).2 (conf_ok h0) (strs_ok h1) (by have := len_wt_StringS v1; omega) (by omega)
theorem rSetAt_ok (v0 : List GLeaf) (v1 : List ByteArray) (v2 : ByteArray) (h0 : wt_LeafS v0 ≤ 1048576) (h1 : wt_StringS v1 ≤ 1048576) (h2 : v2.size ≤ 1048576) : lens_LeafS (rSetAt v0 v1 v2).1 ∧ cn_LeafS (rSetAt v0 v1 v2).1 ≤ 1152921504606846976 := by
  refine leafs_big ?_
  unfold rSetAt
  split
  · have e := wt_filter (fun x => !clashB v1 x) id (fun x => Nat.le_refl _) (l := v0)
    rw [List.map_id] at e
    have h3 : wt_LeafS (keptL v1 v0) ≤ wt_LeafS v0 := e
    show wt_LeafS (putL v1 v2 (keptL v1 v0)) ≤ _
    rw [wt_putL]
    omega
  · exact Nat.zero_le _
end Go.V
