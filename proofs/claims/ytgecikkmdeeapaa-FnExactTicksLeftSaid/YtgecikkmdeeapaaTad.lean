/- What functions of the seat's program do, each proved of its code, under the bounds that its theorem names. -/
import Derived.Test.YtgecikkmdeeapaaTac
set_option linter.all false
namespace Go.V
open Go.Proofs
set_option maxHeartbeats 1000000
set_option maxRecDepth 10000
set_option linter.unusedSimpArgs false
set_option linter.unusedVariables false
theorem strs_ok {p : List ByteArray} (h : wt_StringS p ≤ 1048576) : strsOK p := by
  have := len_wt_StringS p
  refine ⟨by omega, fun s hs => ?_⟩
  have := mem_wt_StringS hs
  omega
theorem leaf_ok {x : GLeaf} (h : GLeaf.wt x ≤ 1048576) : leafOK x := by
  unfold GLeaf.wt at h
  exact ⟨strs_ok (by omega), by omega⟩
theorem conf_ok {l : List GLeaf} (h : wt_LeafS l ≤ 1048576) : confOK l := by
  have := len_wt_LeafS l
  refine ⟨by omega, fun x hx => leaf_ok ?_⟩
  have := mem_wt_LeafS hx
  omega
def rGoodConfig (v0 : List GLeaf) : Bool := goodC v0
theorem law_iGoodConfig (v0 : List GLeaf) (h0 : wt_LeafS v0 ≤ 1048576) : CallOK Try.prog 63 [.c (rd 0 v0.length (v0.flatMap (GLeaf.ci 0)))] (.c (pb (rGoodConfig v0))) [.c (rd 0 v0.length (v0.flatMap (GLeaf.ci 0)))] := ok_iGoodConfig 0 v0 (conf_ok h0)
theorem law_sGoodConfig (v0 : List GLeaf) (h0 : wt_LeafS v0 ≤ 1048576) : CallOK Try.prog 58 [.c (rd 0 v0.length (v0.flatMap (GLeaf.ci 0)))] (.c (pb (rGoodConfig v0))) [.c (rd 0 v0.length (v0.flatMap (GLeaf.ci 0)))] := ok_sGoodConfig 0 v0 (conf_ok h0)
theorem begP_len : ∀ a b : List ByteArray, (begP a b && decide (a.length = b.length)) = decide (a = b)
  | [], [] => rfl
  | [], _ :: _ => rfl
  | _ :: _, [] => rfl
  | a :: us, b :: vs => by
    have := begP_len us vs
    simp only [begP, List.length_cons, Nat.add_right_cancel_iff, List.cons.injEq, Bool.and_assoc, this]
    simp
theorem ok_l15SamePath (k k' : Nat) (xs ys : List ByteArray) (ha : xs.length ≤ 140737488351232) (hb : ys.length ≤ 140737488351232) : CallOK Try.prog 90 [.c (rd k xs.length (xs.map ps)), .c (rd k' ys.length (ys.map ps))] (.c (pb (decide (xs = ys)))) [.c (rd k xs.length (xs.map ps)), .c (rd k' ys.length (ys.map ps))] := by
  refine okS (fn := Try.f90) [] h0 Try.func90 (by kernel_rfl) rfl Try.ntmps90 Try.results90 (by simp) ?_
  simp
  refine Inv_intro (ok_l15Begins k k' xs ys ha hb) ?_
  simp
  rw [← begP_len]
  cases begP xs ys with
  | false => simp
  | true =>
    simp
    omega
theorem ok_l16Same (k k' : Nat) (xs ys : List GLeaf) (hx : confOK xs) (hy : confOK ys) : CallOK Try.prog 60 [.c (rd k xs.length (xs.flatMap (GLeaf.ci k))), .c (rd k' ys.length (ys.flatMap (GLeaf.ci k')))] (.c (pb (decide (xs = ys)))) [.c (rd k xs.length (xs.flatMap (GLeaf.ci k))), .c (rd k' ys.length (ys.flatMap (GLeaf.ci k')))] := by
  obtain ⟨hxl, hxx⟩ := hx
  obtain ⟨hyl, hyy⟩ := hy
  refine okS (fn := Try.f60) [] h0 Try.func60 (by kernel_rfl) rfl Try.ntmps60 Try.results60 (by simp) ?_
  simp
  refine brn_app (fun h => ?_) (fun h => ?_)
  · simp at h
    simp
    rintro rfl
    exact h rfl
  · simp at h
    have hl : ys.length = xs.length := by omega
    simp
    refine loopS [0, 1, 12, 13] [] (fun n st => ∃ (i : Nat), i + n = xs.length ∧ (xs.drop i = ys.drop i ↔ xs = ys) ∧ st = ⟨slOf 42 [(0, .t (rd k xs.length (xs.flatMap (GLeaf.ci k)))), (1, .t (rd k' ys.length (ys.flatMap (GLeaf.ci k')))), (12, .t (pi xs.length)), (13, .t (pi i))], ofL []⟩) xs.length ?_ ?_
    · rintro Inv hI
      simp
      subst hI
      exact ⟨0, by omega, by simp, rfl⟩
    · rintro Inv hI n st ⟨i, hi, htk, rfl⟩
      refine ewr_sound (M := []) h0 ?_
      simp
      refine brn_app (fun h => ?_) (fun h => ?_)
      · simp at h
        have hib : i < ys.length := by omega
        rw [drop_step xs i h, drop_step ys i hib, List.cons.injEq] at htk
        have hd := fm_drop (GLeaf.ci k) 2 (fun _ => rfl) xs i h
        have hlen := fm_len (GLeaf.ci k) 2 (fun _ => rfl) xs
        have hlt : i * 2 < xs.length * 2 := by omega
        have hd' := fm_drop (GLeaf.ci k') 2 (fun _ => rfl) ys i hib
        have hlen' := fm_len (GLeaf.ci k') 2 (fun _ => rfl) ys
        have hlt' : i * 2 < ys.length * 2 := by omega
        have e : (xs[i] = ys[i]) = (xs[i].Value = ys[i].Value ∧ xs[i].Path = ys[i].Path) := by
          cases xs[i]
          cases ys[i]
          simp [And.comm]
        simp
        refine drawP (tabEnv [] _) [⟨[], allD 42, true⟩, ⟨[], allD 42, true⟩, ⟨[], allD 42, true⟩, ⟨[], allD 42, true⟩, ⟨[], allD 42, true⟩, ⟨[], allD 42, true⟩, ⟨[], allD 42, true⟩, ⟨[], allD 42, true⟩, ⟨[], allD 42, true⟩, ⟨[], allD 42, true⟩, ⟨[], allD 42, true⟩, ⟨[], allD 42, true⟩, ⟨[], allD 42, true⟩, ⟨[], allD 42, true⟩, ⟨[], allD 42, true⟩, ⟨[], allD 42, true⟩, ⟨[], allD 42, true⟩, ⟨[], allD 42, true⟩, ⟨[], allD 42, true⟩, ⟨[], allD 42, true⟩, ⟨[], allD 42, true⟩, ⟨[], allD 42, true⟩, ⟨[], allD 42, false⟩, ⟨[], allD 42, true⟩, ⟨[], allD 42, true⟩] h0 hm (tabEnv_ok (tab_cons (ok_l15SamePath k k' xs[i].Path ys[i].Path (hxx _ (List.getElem_mem h)).1.1 (hyy _ (List.getElem_mem hib)).1.1) tab_nil)) (by kernel_rfl) (by kernel_rfl) ?_
        by_cases c1 : xs[i].Value = ys[i].Value
        · by_cases c2 : xs[i].Path = ys[i].Path
          · have c3 : xs[i] = ys[i] := e ▸ ⟨c1, c2⟩
            simp [h, hd, hlen, hlt, hib, hd', hlen', hlt', c1, c2]
            subst hI
            exact Less_mk (n - 1) (by omega) ⟨i + 1, by omega, ⟨fun h4 => htk.1 ⟨c3, h4⟩, fun h4 => (htk.2 h4).2⟩, by rw [wrNext i (by omega)]⟩
          · have c3 : ¬ xs = ys := fun he => c2 (by rw [(htk.2 he).1])
            simp [h, hd, hlen, hlt, hib, hd', hlen', hlt', c1, c2, c3]
        · have c3 : ¬ xs = ys := fun he => c1 (by rw [(htk.2 he).1])
          simp [h, hd, hlen, hlt, hib, hd', hlen', hlt', c1, c3]
      · simp at h
        rw [List.drop_of_length_le (by omega), List.drop_of_length_le (by omega)] at htk
        simp
        exact htk.1 rfl
theorem ok_sGoodStore (k : Nat) (s : GStore) (hs : storeOK s) : CallOK Try.prog 17 [.agg (GStore.ci k s)] (.c (pb (goodS s))) [.agg (GStore.ci k s)] := by
  obtain ⟨h1, h2, h3, h4⟩ := hs
  refine okS (fn := Try.f17) [] h0 Try.func17 (by kernel_rfl) rfl Try.ntmps17 Try.results17 (by simp) ?_
  simp
  refine loopS [1, 6, 7, 8] [.op 0 0 0] (fun n st => ∃ (i : Nat), i + n = s.History.length ∧ (s.History.drop i).all goodC = s.History.all goodC ∧ st = ⟨slOf 50 [(1, .ptr ⟨.op 0 0 0, []⟩ 0), (6, .t (rd k s.History.length (s.History.map (cLeafSi k)))), (7, .t (pi s.History.length)), (8, .t (pi i))], ofL [(.op 0 0 0, .sl 0 25 1 (GStore.ci k s))]⟩) s.History.length ?_ ?_
  · rintro Inv hI
    simp
    subst hI
    exact ⟨0, by omega, rfl, rfl⟩
  · rintro Inv hI n st ⟨i, hi, hall, rfl⟩
    refine ewr_sound (M := []) h0 ?_
    simp
    refine brn_app (fun a => ?_) (fun a => ?_)
    · simp at a
      rw [drop_step _ i a, List.all_cons] at hall
      simp [a]
      refine Inv_intro (ok_sGoodConfig k s.History[i] (h4 _ (List.getElem_mem a))) ?_
      simp
      refine brn_app (fun b => ?_) (fun b => ?_)
      · simp at b
        rw [b, Bool.false_and] at hall
        have eg : goodS s = false := by
          unfold goodS
          rw [← hall]
          simp
        simp [eg]
      · simp at b
        rw [b, Bool.true_and] at hall
        simp
        subst hI
        exact Less_mk (n - 1) (by omega) ⟨i + 1, by omega, hall, by rw [wrNext i (by omega)]; rfl⟩
    · simp at a
      rw [List.drop_of_length_le (by omega), List.all_nil] at hall
      simp
      refine Inv_intro (ok_sGoodConfig k s.Candidate h1) ?_
      simp
      cases c1 : goodC s.Candidate with
      | false => simp [goodS, c1]
      | true =>
        simp
        refine Inv_intro (ok_sGoodConfig k s.Running h2) ?_
        simp
        cases c2 : goodC s.Running with
        | false => simp [goodS, c2]
        | true =>
          simp
          refine Inv_intro (ok_l1In _ _ _) ?_
          simp
          by_cases c3 : (1 : Int) ≤ s.History.length ∧ (s.History.length : Int) ≤ 10
          · simp [c3.1, c3.2]
            refine Inv_intro (ok_l1In _ _ _) ?_
            simp
            by_cases c5 : 0 ≤ s.Left ∧ s.Left ≤ 100
            · obtain ⟨l, t, e⟩ : ∃ l t, s.History = l :: t := by
                cases hh : s.History with
                | nil => rw [hh] at c3; simp at c3
                | cons l t => exact ⟨l, t, rfl⟩
              have hl : confOK l := h4 l (by rw [e]; simp)
              have hc := head_cells k s.History l t e
              have hlen : 0 < s.History.length := by rw [e]; simp
              have eg : goodS s = (decide (s.Left = 0) == decide (s.Running = l)) := by
                unfold goodS
                rw [c1, c2, ← hall, decide_eq_true c3, decide_eq_true c5, e]
                simp
              simp [c5.1, c5.2]
              refine drawP (tabEnv [] _) [⟨[.op 0 0 0], allD 50, true⟩, ⟨[.op 0 0 0], allD 50, true⟩, ⟨[], allD 50, true⟩, ⟨[.op 0 0 0], allD 50, true⟩, ⟨[.op 0 0 0], allD 50, true⟩, ⟨[.op 0 0 0], allD 50, true⟩, ⟨[.op 0 0 0], allD 50, true⟩, ⟨[], allD 50, true⟩, ⟨[], allD 50, true⟩, ⟨[], allD 50, false⟩, ⟨[], allD 50, true⟩, ⟨[], allD 50, true⟩] h0 hm (tabEnv_ok (tab_cons (ok_l16Same k k s.Running l h2 hl) tab_nil)) (by kernel_rfl) (by kernel_rfl) ?_
              simp [hc, hlen, eg]
            · have eg : goodS s = false := by
                unfold goodS
                rw [decide_eq_false c5]
                simp
              have c5' : (decide (0 ≤ s.Left) && decide (s.Left ≤ 100)) = false := by simpa using c5
              have c5b : (!decide (0 ≤ s.Left) || !decide (s.Left ≤ 100)) = true := by rw [← Bool.not_and, c5']; rfl
              simp [c5', c5b, eg]
          · have eg : goodS s = false := by
              unfold goodS
              rw [decide_eq_false c3]
              simp
            have c3' : (decide ((1 : Int) ≤ s.History.length) && decide ((s.History.length : Int) ≤ 10)) = false := by simpa using c3
            have c3b : (!decide ((1 : Int) ≤ s.History.length) || !decide ((s.History.length : Int) ≤ 10)) = true := by rw [← Bool.not_and, c3']; rfl
            simp [c3', c3b, eg]
theorem store_ok {s : GStore} (h : GStore.wt s ≤ 1048576) : storeOK s := by
  unfold GStore.wt at h
  exact ⟨conf_ok (by omega), conf_ok (by omega), by have := len_wt_LeafSS s.History; omega, fun l hl => conf_ok (by have := mem_wt_LeafSS hl; omega)⟩
def rGoodStore (v0 : GStore) : Bool := goodS v0
theorem law_iGoodStore (v0 : GStore) (h0 : GStore.wt v0 ≤ 1048576) : CallOK Try.prog 19 [.agg (GStore.ci 0 v0)] (.c (pb (rGoodStore v0))) [.agg (GStore.ci 0 v0)] := ok_iGoodStore 0 v0 (store_ok h0)
theorem law_sGoodStore (v0 : GStore) (h0 : GStore.wt v0 ≤ 1048576) : CallOK Try.prog 17 [.agg (GStore.ci 0 v0)] (.c (pb (rGoodStore v0))) [.agg (GStore.ci 0 v0)] := ok_sGoodStore 0 v0 (store_ok h0)
def rTicksLeft (v0 : GStore) : Int × Bool := if goodS v0 = true then (v0.Left, true) else (0, false)
theorem law_iTicksLeft (v0 : GStore) (hw0 : GStore.wt v0 ≤ 1048576) : CallOK Try.prog 21 [.agg (GStore.ci 0 v0)] (.tup [.c (pi (rTicksLeft v0).1), .c (pb (rTicksLeft v0).2)]) [.agg (GStore.ci 0 v0)] := by
  refine okS (fn := Try.f21) [] h0 Try.func21 (by kernel_rfl) rfl Try.ntmps21 Try.results21 (by simp) ?_
  simp
  refine Inv_intro (ok_iGoodStore 0 v0 (store_ok hw0)) ?_
  simp
  cases c1 : goodS v0 <;> simp [rTicksLeft, c1]
theorem law_sTicksLeft (v0 : GStore) (hw0 : GStore.wt v0 ≤ 1048576) : CallOK Try.prog 20 [.agg (GStore.ci 0 v0)] (.tup [.c (pi (rTicksLeft v0).1), .c (pb (rTicksLeft v0).2)]) [.agg (GStore.ci 0 v0)] := by
  refine okS (fn := Try.f20) [] h0 Try.func20 (by kernel_rfl) rfl Try.ntmps20 Try.results20 (by simp) ?_
  simp
  refine Inv_intro (ok_sGoodStore 0 v0 (store_ok hw0)) ?_
  simp
  cases c1 : goodS v0 <;> simp [rTicksLeft, c1]
theorem ok_FnExactTicksLeft (v0 : GStore) (f0 : GStore.fits v0) : CallOK Try.prog 5 [.agg (GStore.ci 1 v0)] (.c (pb true)) [.agg (GStore.ci 1 v0)] := by
  refine okS (fn := Try.f5) [] h0 Try.func5 (by kernel_rfl) rfl Try.ntmps5 Try.results5 (by simp) ?_
  simp
  refine Inv_intro (ok_szStore 1 v0 _ (by omega) (by omega) f0) ?_
  simp
  refine brn_app (fun b0 => ?_) (fun b0 => ?_)
  · simp
  · simp at b0
    have e0 := szr_ge (szr_ge0 b0)
    have d0 := szr_ge0 b0
    simp
    have hv0 : GStore.wt v0 ≤ 1048576 := by omega
    have hlp0 : GStore.lens v0 := lens_of_Store hv0
    have hcp0 := cn_le_Store v0
    refine Inv_intro (ok_toStore 1 v0 hv0) ?_
    simp
    refine Inv_intro (law_sTicksLeft v0 hv0) ?_
    simp
    refine Inv_intro (ok_toStore 1 v0 hv0) ?_
    simp
    refine Inv_intro (law_iTicksLeft v0 hv0) ?_
    simp
    refine drawP (tabEnv [] _) [⟨[.op 6 2 0], allD 40, true⟩, ⟨[.op 0 0 0], allD 40, true⟩, ⟨[], allD 40, false⟩, ⟨[.op 6 2 0, .op 10 2 0, .op 10 2 1, .op 10 2 2], [35, 36, 37, 38, 39], false⟩, ⟨[], allD 40, true⟩] h0 hm (tabEnv_ok (tab_cons (ok_toStore 1 v0 hv0) (tab_cons (ok_eqStore 0 0 (v0) (v0) hlp0 hlp0) tab_nil))) (by kernel_rfl) (by kernel_rfl) ?_
    simp
end Go.V
