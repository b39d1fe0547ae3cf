/- What functions of the seat's program do, each proved of its code, under the bounds that its theorem names. -/
import Derived.Test.YtmodclnblmoeoaaTad
set_option linter.all false
namespace Go.V
open Go.Proofs
set_option maxHeartbeats 1000000
set_option maxRecDepth 10000
set_option linter.unusedSimpArgs false
set_option linter.unusedVariables false
theorem begP_len : ∀ a b : List ByteArray, (begP a b && decide (a.length = b.length)) = decide (a = b)
  | [], [] => rfl
  | [], _ :: _ => rfl
  | _ :: _, [] => rfl
  | a :: us, b :: vs => by
    have := begP_len us vs
    simp only [begP, List.length_cons, Nat.add_right_cancel_iff, List.cons.injEq, Bool.and_assoc, this]
    simp
theorem ok_l15SamePath (k k' : Nat) (xs ys : List ByteArray) (ha : xs.length ≤ 140737488351232) (hb : ys.length ≤ 140737488351232) : CallOK Try.prog 158 [.c (rd k xs.length (xs.map ps)), .c (rd k' ys.length (ys.map ps))] (.c (pb (decide (xs = ys)))) [.c (rd k xs.length (xs.map ps)), .c (rd k' ys.length (ys.map ps))] := by
  refine okS (fn := Try.f158) [] h0 Try.func158 (by kernel_rfl) rfl Try.ntmps158 Try.results158 (by simp) ?_
  simp
  refine Inv_intro (ok_l15Begins k k' xs ys ha hb) ?_
  simp
  rw [← begP_len]
  cases begP xs ys with
  | false => simp
  | true =>
    simp
    omega
theorem ok_l16Same (k k' : Nat) (xs ys : List GLeaf) (hx : confOK xs) (hy : confOK ys) : CallOK Try.prog 129 [.c (rd k xs.length (xs.flatMap (GLeaf.ci k))), .c (rd k' ys.length (ys.flatMap (GLeaf.ci k')))] (.c (pb (decide (xs = ys)))) [.c (rd k xs.length (xs.flatMap (GLeaf.ci k))), .c (rd k' ys.length (ys.flatMap (GLeaf.ci k')))] := by
  obtain ⟨hxl, hxx⟩ := hx
  obtain ⟨hyl, hyy⟩ := hy
  refine okS (fn := Try.f129) [] h0 Try.func129 (by kernel_rfl) rfl Try.ntmps129 Try.results129 (by simp) ?_
  simp
  refine brn_app (fun h => ?_) (fun h => ?_)
  · simp at h
    simp
    rintro rfl
    exact h rfl
  · simp at h
    have hl : ys.length = xs.length := by omega
    simp
    refine loopS [0, 1, 12, 13] [] (fun n st => ∃ (i : Nat), i + n = xs.length ∧ (xs.drop i = ys.drop i ↔ xs = ys) ∧ st = ⟨slOf 42 [(0, .t (rd k xs.length (xs.flatMap (GLeaf.ci k)))), (1, .t (rd k' ys.length (ys.flatMap (GLeaf.ci k')))), (12, .t (pi xs.length)), (13, .t (pi i))], ofL []⟩) xs.length ?_ ?_
    · rintro Inv hI
      simp
      subst hI
      exact ⟨0, by omega, by simp, rfl⟩
    · rintro Inv hI n st ⟨i, hi, htk, rfl⟩
      refine ewr_sound (M := []) h0 ?_
      simp
      refine brn_app (fun h => ?_) (fun h => ?_)
      · simp at h
        have hib : i < ys.length := by omega
        rw [drop_step xs i h, drop_step ys i hib, List.cons.injEq] at htk
        have hd := fm_drop (GLeaf.ci k) 2 (fun _ => rfl) xs i h
        have hlen := fm_len (GLeaf.ci k) 2 (fun _ => rfl) xs
        have hlt : i * 2 < xs.length * 2 := by omega
        have hd' := fm_drop (GLeaf.ci k') 2 (fun _ => rfl) ys i hib
        have hlen' := fm_len (GLeaf.ci k') 2 (fun _ => rfl) ys
        have hlt' : i * 2 < ys.length * 2 := by omega
        have e : (xs[i] = ys[i]) = (xs[i].Value = ys[i].Value ∧ xs[i].Path = ys[i].Path) := by
          cases xs[i]
          cases ys[i]
          simp [And.comm]
        simp
        refine drawP (tabEnv [] _) [⟨[], allD 42, true⟩, ⟨[], allD 42, true⟩, ⟨[], allD 42, true⟩, ⟨[], allD 42, true⟩, ⟨[], allD 42, true⟩, ⟨[], allD 42, true⟩, ⟨[], allD 42, true⟩, ⟨[], allD 42, true⟩, ⟨[], allD 42, true⟩, ⟨[], allD 42, true⟩, ⟨[], allD 42, true⟩, ⟨[], allD 42, true⟩, ⟨[], allD 42, true⟩, ⟨[], allD 42, true⟩, ⟨[], allD 42, true⟩, ⟨[], allD 42, true⟩, ⟨[], allD 42, true⟩, ⟨[], allD 42, true⟩, ⟨[], allD 42, true⟩, ⟨[], allD 42, true⟩, ⟨[], allD 42, true⟩, ⟨[], allD 42, true⟩, ⟨[], allD 42, false⟩, ⟨[], allD 42, true⟩, ⟨[], allD 42, true⟩] h0 hm (tabEnv_ok (tab_cons (ok_l15SamePath k k' xs[i].Path ys[i].Path (hxx _ (List.getElem_mem h)).1.1 (hyy _ (List.getElem_mem hib)).1.1) tab_nil)) (by kernel_rfl) (by kernel_rfl) ?_
        by_cases c1 : xs[i].Value = ys[i].Value
        · by_cases c2 : xs[i].Path = ys[i].Path
          · have c3 : xs[i] = ys[i] := e ▸ ⟨c1, c2⟩
            simp [h, hd, hlen, hlt, hib, hd', hlen', hlt', c1, c2]
            subst hI
            exact Less_mk (n - 1) (by omega) ⟨i + 1, by omega, ⟨fun h4 => htk.1 ⟨c3, h4⟩, fun h4 => (htk.2 h4).2⟩, by rw [wrNext i (by omega)]⟩
          · have c3 : ¬ xs = ys := fun he => c2 (by rw [(htk.2 he).1])
            simp [h, hd, hlen, hlt, hib, hd', hlen', hlt', c1, c2, c3]
        · have c3 : ¬ xs = ys := fun he => c1 (by rw [(htk.2 he).1])
          simp [h, hd, hlen, hlt, hib, hd', hlen', hlt', c1, c3]
      · simp at h
        rw [List.drop_of_length_le (by omega), List.drop_of_length_le (by omega)] at htk
        simp
        exact htk.1 rfl
theorem ok_sGoodStore (k : Nat) (s : GStore) (hs : storeOK s) : CallOK Try.prog 94 [.agg (GStore.ci k s)] (.c (pb (goodS s))) [.agg (GStore.ci k s)] := by
  obtain ⟨h1, h2, h3, h4⟩ := hs
  refine okS (fn := Try.f94) [] h0 Try.func94 (by kernel_rfl) rfl Try.ntmps94 Try.results94 (by simp) ?_
  simp
  refine loopS [1, 6, 7, 8] [.op 0 0 0] (fun n st => ∃ (i : Nat), i + n = s.History.length ∧ (s.History.drop i).all goodC = s.History.all goodC ∧ st = ⟨slOf 50 [(1, .ptr ⟨.op 0 0 0, []⟩ 0), (6, .t (rd k s.History.length (s.History.map (cLeafSi k)))), (7, .t (pi s.History.length)), (8, .t (pi i))], ofL [(.op 0 0 0, .sl 0 57 1 (GStore.ci k s))]⟩) s.History.length ?_ ?_
  · rintro Inv hI
    simp
    subst hI
    exact ⟨0, by omega, rfl, rfl⟩
  · rintro Inv hI n st ⟨i, hi, hall, rfl⟩
    refine ewr_sound (M := []) h0 ?_
    simp
    refine brn_app (fun a => ?_) (fun a => ?_)
    · simp at a
      rw [drop_step _ i a, List.all_cons] at hall
      simp [a]
      refine Inv_intro (ok_sGoodConfig k s.History[i] (h4 _ (List.getElem_mem a))) ?_
      simp
      refine brn_app (fun b => ?_) (fun b => ?_)
      · simp at b
        rw [b, Bool.false_and] at hall
        have eg : goodS s = false := by
          unfold goodS
          rw [← hall]
          simp
        simp [eg]
      · simp at b
        rw [b, Bool.true_and] at hall
        simp
        subst hI
        exact Less_mk (n - 1) (by omega) ⟨i + 1, by omega, hall, by rw [wrNext i (by omega)]; rfl⟩
    · simp at a
      rw [List.drop_of_length_le (by omega), List.all_nil] at hall
      simp
      refine Inv_intro (ok_sGoodConfig k s.Candidate h1) ?_
      simp
      cases c1 : goodC s.Candidate with
      | false => simp [goodS, c1]
      | true =>
        simp
        refine Inv_intro (ok_sGoodConfig k s.Running h2) ?_
        simp
        cases c2 : goodC s.Running with
        | false => simp [goodS, c2]
        | true =>
          simp
          refine Inv_intro (ok_l1In _ _ _) ?_
          simp
          by_cases c3 : (1 : Int) ≤ s.History.length ∧ (s.History.length : Int) ≤ 10
          · simp [c3.1, c3.2]
            refine Inv_intro (ok_l1In _ _ _) ?_
            simp
            by_cases c5 : 0 ≤ s.Left ∧ s.Left ≤ 100
            · obtain ⟨l, t, e⟩ : ∃ l t, s.History = l :: t := by
                cases hh : s.History with
                | nil => rw [hh] at c3; simp at c3
                | cons l t => exact ⟨l, t, rfl⟩
              have hl : confOK l := h4 l (by rw [e]; simp)
              have hc := head_cells k s.History l t e
              have hlen : 0 < s.History.length := by rw [e]; simp
              have eg : goodS s = (decide (s.Left = 0) == decide (s.Running = l)) := by
                unfold goodS
                rw [c1, c2, ← hall, decide_eq_true c3, decide_eq_true c5, e]
                simp
              simp [c5.1, c5.2]
              refine drawP (tabEnv [] _) [⟨[.op 0 0 0], allD 50, true⟩, ⟨[.op 0 0 0], allD 50, true⟩, ⟨[], allD 50, true⟩, ⟨[.op 0 0 0], allD 50, true⟩, ⟨[.op 0 0 0], allD 50, true⟩, ⟨[.op 0 0 0], allD 50, true⟩, ⟨[.op 0 0 0], allD 50, true⟩, ⟨[], allD 50, true⟩, ⟨[], allD 50, true⟩, ⟨[], allD 50, false⟩, ⟨[], allD 50, true⟩, ⟨[], allD 50, true⟩] h0 hm (tabEnv_ok (tab_cons (ok_l16Same k k s.Running l h2 hl) tab_nil)) (by kernel_rfl) (by kernel_rfl) ?_
              simp [hc, hlen, eg]
            · have eg : goodS s = false := by
                unfold goodS
                rw [decide_eq_false c5]
                simp
              have c5' : (decide (0 ≤ s.Left) && decide (s.Left ≤ 100)) = false := by simpa using c5
              have c5b : (!decide (0 ≤ s.Left) || !decide (s.Left ≤ 100)) = true := by rw [← Bool.not_and, c5']; rfl
              simp [c5', c5b, eg]
          · have eg : goodS s = false := by
              unfold goodS
              rw [decide_eq_false c3]
              simp
            have c3' : (decide ((1 : Int) ≤ s.History.length) && decide ((s.History.length : Int) ≤ 10)) = false := by simpa using c3
            have c3b : (!decide ((1 : Int) ≤ s.History.length) || !decide ((s.History.length : Int) ≤ 10)) = true := by rw [← Bool.not_and, c3']; rfl
            simp [c3', c3b, eg]
theorem store_ok {s : GStore} (h : GStore.wt s ≤ 1048576) : storeOK s := by
  unfold GStore.wt at h
  exact ⟨conf_ok (by omega), conf_ok (by omega), by have := len_wt_LeafSS s.History; omega, fun l hl => conf_ok (by have := mem_wt_LeafSS hl; omega)⟩
def rGoodStore (v0 : GStore) : Bool := goodS v0
theorem law_iGoodStore (v0 : GStore) (h0 : GStore.wt v0 ≤ 1048576) : CallOK Try.prog 96 [.agg (GStore.ci 0 v0)] (.c (pb (rGoodStore v0))) [.agg (GStore.ci 0 v0)] := ok_iGoodStore 0 v0 (store_ok h0)
theorem law_sGoodStore (v0 : GStore) (h0 : GStore.wt v0 ≤ 1048576) : CallOK Try.prog 94 [.agg (GStore.ci 0 v0)] (.c (pb (rGoodStore v0))) [.agg (GStore.ci 0 v0)] := ok_sGoodStore 0 v0 (store_ok h0)
def rConfirmedOf (v0 : GStore) : List GLeaf × Bool := if goodS v0 = true then (v0.History.headD [], true) else ([], false)
theorem goodS_head {s : GStore} (h : goodS s = true) : ∃ l t, s.History = l :: t := by
  cases hh : s.History with
  | nil => simp [goodS, hh] at h
  | cons l t => exact ⟨l, t, rfl⟩
theorem head_wt {s : GStore} {l : List GLeaf} {t : List (List GLeaf)} (e : s.History = l :: t) : wt_LeafS l ≤ GStore.wt s := by
  have hm : l ∈ s.History := by rw [e]; simp
  have := mem_wt_LeafSS hm
  unfold GStore.wt
  omega
theorem law_iConfirmedOf (v0 : GStore) (hw0 : GStore.wt v0 ≤ 1048576) : CallOK Try.prog 41 [.agg (GStore.ci 0 v0)] (.tup [.c (.sl 0 103 (rConfirmedOf v0).1.length ((rConfirmedOf v0).1.flatMap GLeaf.co)), .c (pb (rConfirmedOf v0).2)]) [.agg (GStore.ci 0 v0)] := by
  refine okS (fn := Try.f41) [] h0 Try.func41 (by kernel_rfl) rfl Try.ntmps41 Try.results41 (by simp) ?_
  simp
  refine Inv_intro (ok_iGoodStore 0 v0 (store_ok hw0)) ?_
  simp
  cases c1 : goodS v0 with
  | false => simp [rConfirmedOf, c1]
  | true =>
    obtain ⟨l, t, e⟩ := goodS_head c1
    have hc := head_cells 0 v0.History l t e
    have hlen : 0 < v0.History.length := by rw [e]; simp
    have hl := conf_len (Nat.le_trans (head_wt e) hw0)
    have er : rConfirmedOf v0 = (l, true) := by simp [rConfirmedOf, c1, e]
    simp [hc, hlen]
    refine Inv_intro (ok_ownConfig 0 l hl.1 hl.2) ?_
    simp [er]
theorem law_sConfirmedOf (v0 : GStore) (hw0 : GStore.wt v0 ≤ 1048576) : CallOK Try.prog 39 [.agg (GStore.ci 0 v0)] (.tup [.c (.sl 0 103 (rConfirmedOf v0).1.length ((rConfirmedOf v0).1.flatMap GLeaf.co)), .c (pb (rConfirmedOf v0).2)]) [.agg (GStore.ci 0 v0)] := by
  refine okS (fn := Try.f39) [] h0 Try.func39 (by kernel_rfl) rfl Try.ntmps39 Try.results39 (by simp) ?_
  simp
  refine Inv_intro (ok_sGoodStore 0 v0 (store_ok hw0)) ?_
  simp
  cases c1 : goodS v0 with
  | false => simp [rConfirmedOf, c1]
  | true =>
    obtain ⟨l, t, e⟩ := goodS_head c1
    have hc := head_cells 0 v0.History l t e
    have hlen : 0 < v0.History.length := by rw [e]; simp
    have hl := conf_len (Nat.le_trans (head_wt e) hw0)
    have er : rConfirmedOf v0 = (l, true) := by simp [rConfirmedOf, c1, e]
    simp [hc, hlen]
    refine Inv_intro (ok_l15Own 0 l hl.1 hl.2) ?_
    simp [er]
theorem rConfirmedOf_ok (v0 : GStore) (hw0 : GStore.wt v0 ≤ 1048576) : lens_LeafS (rConfirmedOf v0).1 ∧ cn_LeafS (rConfirmedOf v0).1 ≤ 1152921504606846976 := by
  have key : wt_LeafS (rConfirmedOf v0).1 ≤ 1048576 := by
    unfold rConfirmedOf
    split
    · rename_i h
      obtain ⟨l, t, e⟩ := goodS_head h
      rw [e]
      exact Nat.le_trans (head_wt e) hw0
    · exact Nat.zero_le _
  have := cn_le_LeafS (rConfirmedOf v0).1
  exact ⟨lens_of_LeafS key, by omega⟩
theorem ok_FnExactConfirmedOf (v0 : GStore) (f0 : GStore.fits v0) : CallOK Try.prog 7 [.agg (GStore.ci 1 v0)] (.c (pb true)) [.agg (GStore.ci 1 v0)] := by
  refine okS (fn := Try.f7) [(28, [1,0]), (43, [1,0])] h0 Try.func7 (by kernel_rfl) rfl Try.ntmps7 Try.results7 (by simp) ?_
  simp
  refine Inv_intro (ok_szStore 1 v0 _ (by omega) (by omega) f0) ?_
  simp
  refine brn_app (fun b0 => ?_) (fun b0 => ?_)
  · simp
  · simp at b0
    have e0 := szr_ge (szr_ge0 b0)
    have d0 := szr_ge0 b0
    simp
    have hv0 : GStore.wt v0 ≤ 1048576 := by omega
    have hlp0 : GStore.lens v0 := lens_of_Store hv0
    have hcp0 := cn_le_Store v0
    have hrr := rConfirmedOf_ok v0 hv0
    obtain ⟨hlr0, hcr0⟩ := hrr
    refine Inv_intro (ok_toStore 1 v0 hv0) ?_
    simp
    refine Inv_intro (law_sConfirmedOf v0 hv0) ?_
    simp
    refine Inv_intro (ok_toStore 1 v0 hv0) ?_
    simp
    refine Inv_intro (law_iConfirmedOf v0 hv0) ?_
    simp
    refine Inv_intro (ok_eqLeafS 0 0 ((rConfirmedOf v0).1) ((rConfirmedOf v0).1) hlr0 hlr0) ?_
    simp
    refine drawP (tabEnv [] _) [⟨[.op 6 2 0], allD 96, true⟩, ⟨[.op 0 0 0], allD 96, true⟩, ⟨[], allD 96, false⟩, ⟨[.op 6 2 0, .op 10 2 0, .op 10 2 1, .op 10 2 2], [41, 42, 43, 44, 45], false⟩, ⟨[], allD 96, true⟩] h0 hm (tabEnv_ok (tab_cons (ok_toStore 1 v0 hv0) (tab_cons (ok_eqStore 0 0 (v0) (v0) hlp0 hlp0) tab_nil))) (by kernel_rfl) (by kernel_rfl) ?_
    simp
    have hm0 := GStore.markT_snd (v0) (1)
    have hn0 : ¬ (GStore.markT (v0) (1)).2 < 0 := by omega
    refine Inv_intro (ok_markStore (v0) (1) hlp0 (by omega) (by omega)) ?_
    simp [hn0]
    refine Inv_intro (ok_eqLeafS 0 0 ((rConfirmedOf v0).1) ((rConfirmedOf v0).1) hlr0 hlr0) ?_
    simp [hn0]
    have hm1 := mk_LeafS_snd ((rConfirmedOf v0).1) (1)
    have hn1 : ¬ (mk_LeafS ((rConfirmedOf v0).1) (1)).2 < 0 := by omega
    have ht1 : List.take (((rConfirmedOf v0).1).length * 2) (((mk_LeafS ((rConfirmedOf v0).1) (1))).1.flatMap GLeaf.co) = (((mk_LeafS ((rConfirmedOf v0).1) (1))).1.flatMap GLeaf.co) := List.take_of_length_le (by rw [fm_len GLeaf.co 2 (fun _ => rfl), mk_LeafS_len]; exact Nat.le_refl _)
    refine Inv_intro (ok_markLeafS ((rConfirmedOf v0).1) (1) hlr0 (by omega) (by omega)) ?_
    simp [hn0, hn1, ht1]
    refine Inv_intro (ok_heldLeafS 0 ((rConfirmedOf v0).1) (1) hlr0 (by omega) (by omega)) ?_
    simp [hn0, hn1, ht1]
    refine Inv_intro (ok_toStore 1 v0 hv0) ?_
    simp [hn0, hn1, ht1]
    refine Inv_intro (law_iConfirmedOf v0 hv0) ?_
    simp [hn0, hn1, ht1]
    refine Inv_intro (ok_eqLeafS 0 0 ((rConfirmedOf v0).1) ((rConfirmedOf v0).1) hlr0 hlr0) ?_
    simp [hn0, hn1, ht1]
    refine Inv_intro (ok_heldLeafS 0 ((rConfirmedOf v0).1) (1) hlr0 (by omega) (by omega)) ?_
    simp [hn0, hn1, ht1]
end Go.V
