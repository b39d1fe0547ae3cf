/- What functions of the seat's program do, each proved of its code, under the bounds that its theorem names. -/
import Derived.Test.YtmodclnblmoeoaaTae
set_option linter.all false
namespace Go.V
open Go.Proofs
set_option maxHeartbeats 1000000
set_option maxRecDepth 10000
set_option linter.unusedSimpArgs false
set_option linter.unusedVariables false
def storeOK (s : GStore) : Prop := confOK s.Candidate ∧ confOK s.Running ∧ s.History.length ≤ 140737488351232 ∧ ∀ l ∈ s.History, confOK l
def goodS (s : GStore) : Bool := goodC s.Candidate && goodC s.Running && decide ((1 : Int) ≤ s.History.length ∧ (s.History.length : Int) ≤ 10) && s.History.all goodC && decide (0 ≤ s.Left ∧ s.Left ≤ 100) && (decide (s.Left = 0) == decide (s.Running = s.History.headD []))
theorem ok_GoodStore1 (k : Nat) (l : List GLeaf) (hl : confOK l) : CallOK Try.prog 131 [.c (rd k l.length (l.flatMap (GLeaf.ci k)))] (.c (pb (!goodC l))) [.c (rd k l.length (l.flatMap (GLeaf.ci k)))] := by
  refine okS (fn := Try.f131) [] h0 Try.func131 (by kernel_rfl) rfl Try.ntmps131 Try.results131 (by simp) ?_
  simp
  refine Inv_intro (ok_iGoodConfig k l hl) ?_
  simp
theorem head_cells (k : Nat) (h : List (List GLeaf)) (l : List GLeaf) (t : List (List GLeaf)) (e : h = l :: t) : h.map (cLeafSi k) = cLeafSi k l :: t.map (cLeafSi k) := by rw [e]; rfl
theorem ok_iGoodStore (k : Nat) (s : GStore) (hs : storeOK s) : CallOK Try.prog 96 [.agg (GStore.ci k s)] (.c (pb (goodS s))) [.agg (GStore.ci k s)] := by
  obtain ⟨h1, h2, h3, h4⟩ := hs
  refine okS (fn := Try.f96) [] h0 Try.func96 (by kernel_rfl) rfl Try.ntmps96 Try.results96 (by simp) ?_
  simp
  refine Inv_intro (ok_iGoodConfig k s.Candidate h1) ?_
  simp
  cases c1 : goodC s.Candidate with
  | false => simp [goodS, c1]
  | true =>
    simp
    refine Inv_intro (ok_iGoodConfig k s.Running h2) ?_
    simp
    cases c2 : goodC s.Running with
    | false => simp [goodS, c2]
    | true =>
      simp
      refine Inv_intro (ok_within _ _ _) ?_
      simp
      by_cases c3 : (1 : Int) ≤ s.History.length ∧ (s.History.length : Int) ≤ 10
      · simp [c3.1, c3.2]
        refine Inv_intro (ok_ContainsFunc_LeafS k 0 131 [] (fun l => !goodC l) s.History h3 fun l hl => ok_GoodStore1 k l (h4 l hl)) ?_
        rw [any_not]
        simp
        cases c4 : s.History.all goodC with
        | false => simp [goodS, c4]
        | true =>
          obtain ⟨l, t, e⟩ : ∃ l t, s.History = l :: t := by
            cases hh : s.History with
            | nil => rw [hh] at c3; simp at c3
            | cons l t => exact ⟨l, t, rfl⟩
          have hl : confOK l := h4 l (by rw [e]; simp)
          have hc := head_cells k s.History l t e
          have hlen : 0 < s.History.length := by rw [e]; simp
          simp
          refine drawP (tabEnv [] _) [⟨[.op 0 0 0], allD 41, true⟩, ⟨[.op 0 0 0], allD 41, true⟩, ⟨[], allD 41, false⟩, ⟨[], allD 41, true⟩, ⟨[.op 0 0 0], allD 41, true⟩, ⟨[.op 0 0 0], allD 41, true⟩, ⟨[], allD 41, true⟩, ⟨[.op 0 0 0], allD 41, true⟩, ⟨[.op 0 0 0], allD 41, true⟩, ⟨[.op 0 0 0], allD 41, true⟩, ⟨[.op 0 0 0], allD 41, true⟩, ⟨[], allD 41, true⟩, ⟨[], allD 41, true⟩, ⟨[], allD 41, false⟩, ⟨[], allD 41, true⟩, ⟨[], allD 41, true⟩, ⟨[], allD 41, true⟩] h0 hm (tabEnv_ok (tab_cons (ok_within s.Left 0 100) (tab_cons (ok_sameConfig k k s.Running l h2 hl) tab_nil))) (by kernel_rfl) (by kernel_rfl) ?_
          by_cases c5 : 0 ≤ s.Left ∧ s.Left ≤ 100
          · have eg : goodS s = (decide (s.Left = 0) == decide (s.Running = l)) := by
              unfold goodS
              rw [c1, c2, c4, decide_eq_true c3, decide_eq_true c5, e]
              simp
            simp [c5.1, c5.2, hc, hlen, eg]
          · have eg : goodS s = false := by
              unfold goodS
              rw [decide_eq_false c5]
              simp
            have c5' : (decide (0 ≤ s.Left) && decide (s.Left ≤ 100)) = false := by simpa using c5
            simp [c5', eg]
      · have eg : goodS s = false := by
          unfold goodS
          rw [decide_eq_false c3]
          simp
        have c3' : (decide ((1 : Int) ≤ s.History.length) && decide ((s.History.length : Int) ≤ 10)) = false := by simpa using c3
        have c3b : (!decide ((1 : Int) ≤ s.History.length) || !decide ((s.History.length : Int) ≤ 10)) = true := by rw [← Bool.not_and, c3']; rfl
        simp [c3', c3b, eg]
theorem ok_l16Same (k k' : Nat) (xs ys : List GLeaf) (hx : confOK xs) (hy : confOK ys) : CallOK Try.prog 129 [.c (rd k xs.length (xs.flatMap (GLeaf.ci k))), .c (rd k' ys.length (ys.flatMap (GLeaf.ci k')))] (.c (pb (decide (xs = ys)))) [.c (rd k xs.length (xs.flatMap (GLeaf.ci k))), .c (rd k' ys.length (ys.flatMap (GLeaf.ci k')))] := by
  obtain ⟨hxl, hxx⟩ := hx
  obtain ⟨hyl, hyy⟩ := hy
  refine okS (fn := Try.f129) [] h0 Try.func129 (by kernel_rfl) rfl Try.ntmps129 Try.results129 (by simp) ?_
  simp
  refine brn_app (fun h => ?_) (fun h => ?_)
  · simp at h
    simp
    rintro rfl
    exact h rfl
  · simp at h
    have hl : ys.length = xs.length := by omega
    simp
    refine loopS [0, 1, 12, 13] [] (fun n st => ∃ (i : Nat), i + n = xs.length ∧ (xs.drop i = ys.drop i ↔ xs = ys) ∧ st = ⟨slOf 42 [(0, .t (rd k xs.length (xs.flatMap (GLeaf.ci k)))), (1, .t (rd k' ys.length (ys.flatMap (GLeaf.ci k')))), (12, .t (pi xs.length)), (13, .t (pi i))], ofL []⟩) xs.length ?_ ?_
    · rintro Inv hI
      simp
      subst hI
      exact ⟨0, by omega, by simp, rfl⟩
    · rintro Inv hI n st ⟨i, hi, htk, rfl⟩
      refine ewr_sound (M := []) h0 ?_
      simp
      refine brn_app (fun h => ?_) (fun h => ?_)
      · simp at h
        have hib : i < ys.length := by omega
        rw [drop_step xs i h, drop_step ys i hib, List.cons.injEq] at htk
        have hd := fm_drop (GLeaf.ci k) 2 (fun _ => rfl) xs i h
        have hlen := fm_len (GLeaf.ci k) 2 (fun _ => rfl) xs
        have hlt : i * 2 < xs.length * 2 := by omega
        have hd' := fm_drop (GLeaf.ci k') 2 (fun _ => rfl) ys i hib
        have hlen' := fm_len (GLeaf.ci k') 2 (fun _ => rfl) ys
        have hlt' : i * 2 < ys.length * 2 := by omega
        have e : (xs[i] = ys[i]) = (xs[i].Value = ys[i].Value ∧ xs[i].Path = ys[i].Path) := by
          cases xs[i]
          cases ys[i]
          simp [And.comm]
        simp
        refine drawP (tabEnv [] _) [⟨[], allD 42, true⟩, ⟨[], allD 42, true⟩, ⟨[], allD 42, true⟩, ⟨[], allD 42, true⟩, ⟨[], allD 42, true⟩, ⟨[], allD 42, true⟩, ⟨[], allD 42, true⟩, ⟨[], allD 42, true⟩, ⟨[], allD 42, true⟩, ⟨[], allD 42, true⟩, ⟨[], allD 42, true⟩, ⟨[], allD 42, true⟩, ⟨[], allD 42, true⟩, ⟨[], allD 42, true⟩, ⟨[], allD 42, true⟩, ⟨[], allD 42, true⟩, ⟨[], allD 42, true⟩, ⟨[], allD 42, true⟩, ⟨[], allD 42, true⟩, ⟨[], allD 42, true⟩, ⟨[], allD 42, true⟩, ⟨[], allD 42, true⟩, ⟨[], allD 42, false⟩, ⟨[], allD 42, true⟩, ⟨[], allD 42, true⟩] h0 hm (tabEnv_ok (tab_cons (ok_l15SamePath k k' xs[i].Path ys[i].Path (hxx _ (List.getElem_mem h)).1.1 (hyy _ (List.getElem_mem hib)).1.1) tab_nil)) (by kernel_rfl) (by kernel_rfl) ?_
        by_cases c1 : xs[i].Value = ys[i].Value
        · by_cases c2 : xs[i].Path = ys[i].Path
          · have c3 : xs[i] = ys[i] := e ▸ ⟨c1, c2⟩
            simp [h, hd, hlen, hlt, hib, hd', hlen', hlt', c1, c2]
            subst hI
            exact Less_mk (n - 1) (by omega) ⟨i + 1, by omega, ⟨fun h4 => htk.1 ⟨c3, h4⟩, fun h4 => (htk.2 h4).2⟩, by rw [wrNext i (by omega)]⟩
          · have c3 : ¬ xs = ys := fun he => c2 (by rw [(htk.2 he).1])
            simp [h, hd, hlen, hlt, hib, hd', hlen', hlt', c1, c2, c3]
        · have c3 : ¬ xs = ys := fun he => c1 (by rw [(htk.2 he).1])
          simp [h, hd, hlen, hlt, hib, hd', hlen', hlt', c1, c3]
      · simp at h
        rw [List.drop_of_length_le (by omega), List.drop_of_length_le (by omega)] at htk
        simp
        exact htk.1 rfl
theorem ok_sGoodStore (k : Nat) (s : GStore) (hs : storeOK s) : CallOK Try.prog 94 [.agg (GStore.ci k s)] (.c (pb (goodS s))) [.agg (GStore.ci k s)] := by
  obtain ⟨h1, h2, h3, h4⟩ := hs
  refine okS (fn := Try.f94) [] h0 Try.func94 (by kernel_rfl) rfl Try.ntmps94 Try.results94 (by simp) ?_
  simp
  refine loopS [1, 6, 7, 8] [.op 0 0 0] (fun n st => ∃ (i : Nat), i + n = s.History.length ∧ (s.History.drop i).all goodC = s.History.all goodC ∧ st = ⟨slOf 50 [(1, .ptr ⟨.op 0 0 0, []⟩ 0), (6, .t (rd k s.History.length (s.History.map (cLeafSi k)))), (7, .t (pi s.History.length)), (8, .t (pi i))], ofL [(.op 0 0 0, .sl 0 57 1 (GStore.ci k s))]⟩) s.History.length ?_ ?_
  · rintro Inv hI
    simp
    subst hI
    exact ⟨0, by omega, rfl, rfl⟩
  · rintro Inv hI n st ⟨i, hi, hall, rfl⟩
    refine ewr_sound (M := []) h0 ?_
    simp
    refine brn_app (fun a => ?_) (fun a => ?_)
    · simp at a
      rw [drop_step _ i a, List.all_cons] at hall
      simp [a]
      refine Inv_intro (ok_sGoodConfig k s.History[i] (h4 _ (List.getElem_mem a))) ?_
      simp
      refine brn_app (fun b => ?_) (fun b => ?_)
      · simp at b
        rw [b, Bool.false_and] at hall
        have eg : goodS s = false := by
          unfold goodS
          rw [← hall]
          simp
        simp [eg]
      · simp at b
        rw [b, Bool.true_and] at hall
        simp
        subst hI
        exact Less_mk (n - 1) (by omega) ⟨i + 1, by omega, hall, by rw [wrNext i (by omega)]; rfl⟩
    · simp at a
      rw [List.drop_of_length_le (by omega), List.all_nil] at hall
      simp
      refine Inv_intro (ok_sGoodConfig k s.Candidate h1) ?_
      simp
      cases c1 : goodC s.Candidate with
      | false => simp [goodS, c1]
      | true =>
        simp
        refine Inv_intro (ok_sGoodConfig k s.Running h2) ?_
        simp
        cases c2 : goodC s.Running with
        | false => simp [goodS, c2]
        | true =>
          simp
          refine Inv_intro (ok_l1In _ _ _) ?_
          simp
          by_cases c3 : (1 : Int) ≤ s.History.length ∧ (s.History.length : Int) ≤ 10
          · simp [c3.1, c3.2]
            refine Inv_intro (ok_l1In _ _ _) ?_
            simp
            by_cases c5 : 0 ≤ s.Left ∧ s.Left ≤ 100
            · obtain ⟨l, t, e⟩ : ∃ l t, s.History = l :: t := by
                cases hh : s.History with
                | nil => rw [hh] at c3; simp at c3
                | cons l t => exact ⟨l, t, rfl⟩
              have hl : confOK l := h4 l (by rw [e]; simp)
              have hc := head_cells k s.History l t e
              have hlen : 0 < s.History.length := by rw [e]; simp
              have eg : goodS s = (decide (s.Left = 0) == decide (s.Running = l)) := by
                unfold goodS
                rw [c1, c2, ← hall, decide_eq_true c3, decide_eq_true c5, e]
                simp
              simp [c5.1, c5.2]
              refine drawP (tabEnv [] _) [⟨[.op 0 0 0], allD 50, true⟩, ⟨[.op 0 0 0], allD 50, true⟩, ⟨[], allD 50, true⟩, ⟨[.op 0 0 0], allD 50, true⟩, ⟨[.op 0 0 0], allD 50, true⟩, ⟨[.op 0 0 0], allD 50, true⟩, ⟨[.op 0 0 0], allD 50, true⟩, ⟨[], allD 50, true⟩, ⟨[], allD 50, true⟩, ⟨[], allD 50, false⟩, ⟨[], allD 50, true⟩, ⟨[], allD 50, true⟩] h0 hm (tabEnv_ok (tab_cons (ok_l16Same k k s.Running l h2 hl) tab_nil)) (by kernel_rfl) (by kernel_rfl) ?_
              simp [hc, hlen, eg]
            · have eg : goodS s = false := by
                unfold goodS
                rw [decide_eq_false c5]
                simp
              have c5' : (decide (0 ≤ s.Left) && decide (s.Left ≤ 100)) = false := by simpa using c5
              have c5b : (!decide (0 ≤ s.Left) || !decide (s.Left ≤ 100)) = true := by rw [← Bool.not_and, c5']; rfl
              simp [c5', c5b, eg]
          · have eg : goodS s = false := by
              unfold goodS
              rw [decide_eq_false c3]
              simp
            have c3' : (decide ((1 : Int) ≤ s.History.length) && decide ((s.History.length : Int) ≤ 10)) = false := by simpa using c3
            have c3b : (!decide ((1 : Int) ≤ s.History.length) || !decide ((s.History.length : Int) ≤ 10)) = true := by rw [← Bool.not_and, c3']; rfl
            simp [c3', c3b, eg]
theorem store_ok {s : GStore} (h : GStore.wt s ≤ 1048576) : storeOK s := by
  unfold GStore.wt at h
  exact ⟨conf_ok (by omega), conf_ok (by omega), by have := len_wt_LeafSS s.History; omega, fun l hl => conf_ok (by have := mem_wt_LeafSS hl; omega)⟩
def rGoodStore (v0 : GStore) : Bool := goodS v0
theorem law_iGoodStore (v0 : GStore) (h0 : GStore.wt v0 ≤ 1048576) : CallOK Try.prog 96 [.agg (GStore.ci 0 v0)] (.c (pb (rGoodStore v0))) [.agg (GStore.ci 0 v0)] := ok_iGoodStore 0 v0 (store_ok h0)
theorem law_sGoodStore (v0 : GStore) (h0 : GStore.wt v0 ≤ 1048576) : CallOK Try.prog 94 [.agg (GStore.ci 0 v0)] (.c (pb (rGoodStore v0))) [.agg (GStore.ci 0 v0)] := ok_sGoodStore 0 v0 (store_ok h0)
def rPendingOf (v0 : GStore) : List GCommand × Bool := if goodS v0 = true then (diffL v0.Running v0.Candidate, true) else ([], false)
theorem goodS_both {s : GStore} (h : goodS s = true) : goodC s.Candidate = true ∧ goodC s.Running = true := by
  simp only [goodS, Bool.and_eq_true] at h
  simp [h]
theorem law_iPendingOf (v0 : GStore) (hw0 : GStore.wt v0 ≤ 1048576) : CallOK Try.prog 49 [.agg (GStore.ci 0 v0)] (.tup [.c (.sl 0 28 (rPendingOf v0).1.length ((rPendingOf v0).1.flatMap GCommand.co)), .c (pb (rPendingOf v0).2)]) [.agg (GStore.ci 0 v0)] := by
  have hr : wt_LeafS v0.Running ≤ 1048576 := by unfold GStore.wt at hw0; omega
  have hc : wt_LeafS v0.Candidate ≤ 1048576 := by unfold GStore.wt at hw0; omega
  refine okS (fn := Try.f49) [] h0 Try.func49 (by kernel_rfl) rfl Try.ntmps49 Try.results49 (by simp) ?_
  simp
  refine Inv_intro (ok_iGoodStore 0 v0 (store_ok hw0)) ?_
  simp
  cases c1 : goodS v0 with
  | false => simp [rPendingOf, c1]
  | true =>
    have er : rPendingOf v0 = (diffL v0.Running v0.Candidate, true) := by simp [rPendingOf, c1]
    simp
    refine Inv_intro (ok_diffOf 0 0 v0.Running v0.Candidate (conf_len hr).1 (conf_len hr).2 (conf_len hc).1 (conf_len hc).2 (conf_ok hr) (conf_ok hc)) ?_
    simp [er]
theorem law_sPendingOf (v0 : GStore) (hw0 : GStore.wt v0 ≤ 1048576) : CallOK Try.prog 48 [.agg (GStore.ci 0 v0)] (.tup [.c (.sl 0 28 (rPendingOf v0).1.length ((rPendingOf v0).1.flatMap GCommand.co)), .c (pb (rPendingOf v0).2)]) [.agg (GStore.ci 0 v0)] := by
  have hr : wt_LeafS v0.Running ≤ 1048576 := by unfold GStore.wt at hw0; omega
  have hc : wt_LeafS v0.Candidate ≤ 1048576 := by unfold GStore.wt at hw0; omega
  refine okS (fn := Try.f48) [] h0 Try.func48 (by kernel_rfl) rfl Try.ntmps48 Try.results48 (by simp) ?_
  simp
  refine Inv_intro (ok_sGoodStore 0 v0 (store_ok hw0)) ?_
  simp
  cases c1 : goodS v0 with
  | false => simp [rPendingOf, c1]
  | true =>
    have er : rPendingOf v0 = (diffL v0.Running v0.Candidate, true) := by simp [rPendingOf, c1]
    simp
    refine Inv_intro (ok_l15Diff 0 0 v0.Running v0.Candidate (conf_len hr).1 (conf_len hr).2 (conf_len hc).1 (conf_len hc).2 (conf_ok hr) (conf_ok hc) (goodS_both c1).2 (goodS_both c1).1) ?_
    simp [er]
theorem rPendingOf_ok (v0 : GStore) (hw0 : GStore.wt v0 ≤ 1048576) : lens_CommandS (rPendingOf v0).1 ∧ cn_CommandS (rPendingOf v0).1 ≤ 1152921504606846976 := by
  refine cmds_ok ?_
  unfold rPendingOf
  split
  · refine Nat.le_trans (diffL_wt _ _) ?_
    unfold GStore.wt at hw0
    omega
  · exact Nat.zero_le _
theorem ok_FnExactPendingOf (v0 : GStore) (f0 : GStore.fits v0) : CallOK Try.prog 10 [.agg (GStore.ci 1 v0)] (.c (pb true)) [.agg (GStore.ci 1 v0)] := by
  refine okS (fn := Try.f10) [(36, [1,0]), (43, [1,0])] h0 Try.func10 (by kernel_rfl) rfl Try.ntmps10 Try.results10 (by simp) ?_
  simp
  refine Inv_intro (ok_szStore 1 v0 _ (by omega) (by omega) f0) ?_
  simp
  refine brn_app (fun b0 => ?_) (fun b0 => ?_)
  · simp
  · simp at b0
    have e0 := szr_ge (szr_ge0 b0)
    have d0 := szr_ge0 b0
    simp
    have hv0 : GStore.wt v0 ≤ 1048576 := by omega
    have hlp0 : GStore.lens v0 := lens_of_Store hv0
    have hcp0 := cn_le_Store v0
    have hrr := rPendingOf_ok v0 hv0
    obtain ⟨hlr0, hcr0⟩ := hrr
    refine Inv_intro (ok_toStore 1 v0 hv0) ?_
    simp
    refine Inv_intro (law_sPendingOf v0 hv0) ?_
    simp
    refine Inv_intro (ok_toStore 1 v0 hv0) ?_
    simp
    refine Inv_intro (law_iPendingOf v0 hv0) ?_
    simp
    refine Inv_intro (ok_eqCommandS 0 0 ((rPendingOf v0).1) ((rPendingOf v0).1) hlr0 hlr0) ?_
    simp
    refine drawP (tabEnv [] _) [⟨[.op 6 2 0], allD 96, true⟩, ⟨[.op 0 0 0], allD 96, true⟩, ⟨[], allD 96, false⟩, ⟨[.op 6 2 0, .op 10 2 0, .op 10 2 1, .op 10 2 2], [41, 42, 43, 44, 45], false⟩, ⟨[], allD 96, true⟩] h0 hm (tabEnv_ok (tab_cons (ok_toStore 1 v0 hv0) (tab_cons (ok_eqStore 0 0 (v0) (v0) hlp0 hlp0) tab_nil))) (by kernel_rfl) (by kernel_rfl) ?_
    simp
    have hm0 := GStore.markT_snd (v0) (1)
    have hn0 : ¬ (GStore.markT (v0) (1)).2 < 0 := by omega
    refine Inv_intro (ok_markStore (v0) (1) hlp0 (by omega) (by omega)) ?_
    simp [hn0]
    refine Inv_intro (ok_eqCommandS 0 0 ((rPendingOf v0).1) ((rPendingOf v0).1) hlr0 hlr0) ?_
    simp [hn0]
    have hm1 := mk_CommandS_snd ((rPendingOf v0).1) (1)
    have hn1 : ¬ (mk_CommandS ((rPendingOf v0).1) (1)).2 < 0 := by omega
    have ht1 : List.take (((rPendingOf v0).1).length * 3) (((mk_CommandS ((rPendingOf v0).1) (1))).1.flatMap GCommand.co) = (((mk_CommandS ((rPendingOf v0).1) (1))).1.flatMap GCommand.co) := List.take_of_length_le (by rw [fm_len GCommand.co 3 (fun _ => rfl), mk_CommandS_len]; exact Nat.le_refl _)
    refine Inv_intro (ok_markCommandS ((rPendingOf v0).1) (1) hlr0 (by omega) (by omega)) ?_
    simp [hn0, hn1, ht1]
    refine Inv_intro (ok_heldCommandS 0 ((rPendingOf v0).1) (1) hlr0 (by omega) (by omega)) ?_
    simp [hn0, hn1, ht1]
    refine Inv_intro (ok_toStore 1 v0 hv0) ?_
    simp [hn0, hn1, ht1]
    refine Inv_intro (law_iPendingOf v0 hv0) ?_
    simp [hn0, hn1, ht1]
    refine Inv_intro (ok_eqCommandS 0 0 ((rPendingOf v0).1) ((rPendingOf v0).1) hlr0 hlr0) ?_
    simp [hn0, hn1, ht1]
    refine Inv_intro (ok_heldCommandS 0 ((rPendingOf v0).1) (1) hlr0 (by omega) (by omega)) ?_
    simp [hn0, hn1, ht1]
end Go.V
