/- What functions of the seat's program do, each proved of its code, under the bounds that its theorem names. -/
import Derived.Test.YtildjkidohpmbaaGreatTam
set_option linter.all false
namespace Go.V
open Go.Proofs
set_option maxHeartbeats 1000000
set_option maxRecDepth 10000
set_option linter.unusedSimpArgs false
set_option linter.unusedVariables false
theorem ok_sameTexts (k k' : Nat) (p : List ByteArray) (hp : p.length ≤ 140737488351232) : CallOK Tryz.prog 34 [.c (rd k p.length (p.map ps)), .c (rd k' p.length (p.map ps))] (.c (pb true)) [.c (rd k p.length (p.map ps)), .c (rd k' p.length (p.map ps))] := by
  refine okS (fn := Tryz.f34) [] h0 Tryz.func34 (by kernel_rfl) rfl Tryz.ntmps34 Tryz.results34 (by simp) ?_
  simp
  refine loopS [0, 1, 11, 12, 13] [] (fun m st => ∃ (i : Nat), i + m = p.length ∧ st = ⟨slOf 26 [(0, .t (rd k p.length (p.map ps))), (1, .t (rd k' p.length (p.map ps))), (11, .t (rd k p.length (p.map ps))), (12, .t (pi p.length)), (13, .t (pi i))], ofL []⟩) p.length ?_ ?_
  · rintro Inv hI
    simp
    subst hI
    exact ⟨0, by omega, rfl⟩
  · rintro Inv hI m st ⟨i, hi, rfl⟩
    refine ewr_sound (M := []) h0 ?_
    simp
    refine brn_app (fun a => ?_) (fun a => ?_)
    · simp at a
      simp
      refine drawP (tabEnv [] []) [⟨[], allD 26, true⟩, ⟨[], allD 26, true⟩, ⟨[], allD 26, true⟩, ⟨[], allD 26, true⟩, ⟨[], allD 26, true⟩, ⟨[], allD 26, true⟩, ⟨[], allD 26, true⟩, ⟨[], allD 26, true⟩, ⟨[], allD 26, true⟩] h0 hm (tabEnv_ok tab_nil) (by kernel_rfl) (by kernel_rfl) ?_
      simp [a]
      subst hI
      exact Less_mk (m - 1) (by omega) ⟨i + 1, by omega, by rw [wrNext i (by omega)]⟩
    · simp
theorem ok_sameLeaves (k k' : Nat) (l : List GLeaf) (hl : confOK l) : CallOK Tryz.prog 10 [.c (rd k l.length (l.flatMap (GLeaf.ci k))), .c (rd k' l.length (l.flatMap (GLeaf.ci k')))] (.c (pb true)) [.c (rd k l.length (l.flatMap (GLeaf.ci k))), .c (rd k' l.length (l.flatMap (GLeaf.ci k')))] := by
  obtain ⟨hl1, hl2⟩ := hl
  refine okS (fn := Tryz.f10) [] h0 Tryz.func10 (by kernel_rfl) rfl Tryz.ntmps10 Tryz.results10 (by simp) ?_
  simp
  refine loopS [0, 1, 11, 12, 13] [] (fun m st => ∃ (i : Nat), i + m = l.length ∧ st = ⟨slOf 42 [(0, .t (rd k l.length (l.flatMap (GLeaf.ci k)))), (1, .t (rd k' l.length (l.flatMap (GLeaf.ci k')))), (11, .t (rd k l.length (l.flatMap (GLeaf.ci k)))), (12, .t (pi l.length)), (13, .t (pi i))], ofL []⟩) l.length ?_ ?_
  · rintro Inv hI
    simp
    subst hI
    exact ⟨0, by omega, rfl⟩
  · rintro Inv hI m st ⟨i, hi, rfl⟩
    refine ewr_sound (M := []) h0 ?_
    simp
    refine brn_app (fun a => ?_) (fun a => ?_)
    · simp at a
      have hd := fm_drop (GLeaf.ci k) 2 (fun _ => rfl) l i a
      have hlen := fm_len (GLeaf.ci k) 2 (fun _ => rfl) l
      have hd' := fm_drop (GLeaf.ci k') 2 (fun _ => rfl) l i a
      have hlen' := fm_len (GLeaf.ci k') 2 (fun _ => rfl) l
      have hlt : i * 2 < l.length * 2 := by omega
      have hx := (hl2 _ (List.getElem_mem a)).1.1
      simp
      refine drawP (tabEnv [] _) [⟨[], allD 42, true⟩, ⟨[], allD 42, true⟩, ⟨[], allD 42, true⟩, ⟨[], allD 42, true⟩, ⟨[], allD 42, true⟩, ⟨[], allD 42, true⟩, ⟨[], allD 42, true⟩, ⟨[], allD 42, true⟩, ⟨[], allD 42, true⟩, ⟨[], allD 42, true⟩, ⟨[], allD 42, true⟩, ⟨[], allD 42, true⟩, ⟨[], allD 42, true⟩, ⟨[], allD 42, true⟩, ⟨[], allD 42, true⟩, ⟨[], allD 42, true⟩, ⟨[], allD 42, true⟩, ⟨[], allD 42, true⟩, ⟨[], allD 42, true⟩, ⟨[], allD 42, true⟩, ⟨[], allD 42, true⟩, ⟨[], allD 42, true⟩, ⟨[], allD 42, false⟩, ⟨[], allD 42, true⟩, ⟨[], allD 42, true⟩] h0 hm (tabEnv_ok (tab_cons (ok_sameTexts k k' l[i].Path hx) tab_nil)) (by kernel_rfl) (by kernel_rfl) ?_
      simp [a, hd, hlen, hd', hlen', hlt]
      subst hI
      exact Less_mk (m - 1) (by omega) ⟨i + 1, by omega, by rw [wrNext i (by omega)]⟩
    · simp
theorem ok_sameStores (k k' : Nat) (s : GStore) (hs : storeOK s) : CallOK Tryz.prog 7 [.agg (GStore.ci k s), .agg (GStore.ci k' s)] (.c (pb true)) [.agg (GStore.ci k s), .agg (GStore.ci k' s)] := by
  obtain ⟨h1, h2, h3, h4⟩ := hs
  refine okS (fn := Tryz.f7) [] h0 Tryz.func7 (by kernel_rfl) rfl Tryz.ntmps7 Tryz.results7 (by simp) ?_
  simp
  refine Inv_intro (ok_sameLeaves k k' s.Candidate h1) ?_
  simp
  refine Inv_intro (ok_sameLeaves k k' s.Running h2) ?_
  simp
  refine loopS [2, 3, 37, 38, 39] [.op 0 0 0, .op 0 1 0] (fun m st => ∃ (i : Nat), i + m = s.History.length ∧ st = ⟨slOf 55 [(2, .ptr ⟨.op 0 0 0, []⟩ 0), (3, .ptr ⟨.op 0 1 0, []⟩ 0), (37, .t (rd k s.History.length (s.History.map (cLeafSi k)))), (38, .t (pi s.History.length)), (39, .t (pi i))], ofL [(.op 0 0 0, .sl 0 26 1 (GStore.ci k s)), (.op 0 1 0, .sl 0 26 1 (GStore.ci k' s))]⟩) s.History.length ?_ ?_
  · rintro Inv hI
    simp
    subst hI
    exact ⟨0, by omega, rfl⟩
  · rintro Inv hI m st ⟨i, hi, rfl⟩
    refine ewr_sound (M := []) h0 ?_
    simp
    refine brn_app (fun a => ?_) (fun a => ?_)
    · simp at a
      have hx := h4 _ (List.getElem_mem a)
      simp
      refine drawP (tabEnv [] _) [⟨[.op 0 0 0], allD 55, true⟩, ⟨[.op 0 0 0], allD 55, true⟩, ⟨[], allD 55, true⟩, ⟨[], allD 55, true⟩, ⟨[], allD 55, true⟩, ⟨[.op 0 1 0], allD 55, true⟩, ⟨[.op 0 1 0], allD 55, true⟩, ⟨[], allD 55, true⟩, ⟨[], allD 55, true⟩, ⟨[], allD 55, true⟩, ⟨[], allD 55, false⟩, ⟨[], allD 55, true⟩] h0 hm (tabEnv_ok (tab_cons (ok_sameLeaves k k' s.History[i] hx) tab_nil)) (by kernel_rfl) (by kernel_rfl) ?_
      simp [a]
      subst hI
      exact Less_mk (m - 1) (by omega) ⟨i + 1, by omega, by rw [wrNext i (by omega)]; rfl⟩
    · simp
def rConfirmedOf (v0 : GStore) : List GLeaf × Bool := if goodS v0 = true then (v0.History.headD [], true) else ([], false)
theorem goodS_head {s : GStore} (h : goodS s = true) : ∃ l t, s.History = l :: t := by
  cases hh : s.History with
  | nil => simp [goodS, hh] at h
  | cons l t => exact ⟨l, t, rfl⟩
theorem head_wt {s : GStore} {l : List GLeaf} {t : List (List GLeaf)} (e : s.History = l :: t) : wt_LeafS l ≤ GStore.wt s := by
  have hm : l ∈ s.History := by rw [e]; simp
  have := mem_wt_LeafSS hm
  unfold GStore.wt
  omega
theorem law_iConfirmedOf (v0 : GStore) (hw0 : GStore.wt v0 ≤ 1048576) : CallOK Tryz.prog 15 [.agg (GStore.ci 0 v0)] (.tup [.c (.sl 0 58 (rConfirmedOf v0).1.length ((rConfirmedOf v0).1.flatMap GLeaf.co)), .c (pb (rConfirmedOf v0).2)]) [.agg (GStore.ci 0 v0)] := by
  refine okS (fn := Tryz.f15) [] h0 Tryz.func15 (by kernel_rfl) rfl Tryz.ntmps15 Tryz.results15 (by simp) ?_
  simp
  refine Inv_intro (ok_iGoodStore 0 v0 (store_ok hw0)) ?_
  simp
  cases c1 : goodS v0 with
  | false => simp [rConfirmedOf, c1]
  | true =>
    obtain ⟨l, t, e⟩ := goodS_head c1
    have hc := head_cells 0 v0.History l t e
    have hlen : 0 < v0.History.length := by rw [e]; simp
    have hl := conf_len (Nat.le_trans (head_wt e) hw0)
    have er : rConfirmedOf v0 = (l, true) := by simp [rConfirmedOf, c1, e]
    simp [hc, hlen]
    refine Inv_intro (ok_ownConfig 0 l hl.1 hl.2) ?_
    simp [er]
theorem law_sConfirmedOf (v0 : GStore) (hw0 : GStore.wt v0 ≤ 1048576) : CallOK Tryz.prog 16 [.agg (GStore.ci 0 v0)] (.tup [.c (.sl 0 58 (rConfirmedOf v0).1.length ((rConfirmedOf v0).1.flatMap GLeaf.co)), .c (pb (rConfirmedOf v0).2)]) [.agg (GStore.ci 0 v0)] := by
  refine okS (fn := Tryz.f16) [] h0 Tryz.func16 (by kernel_rfl) rfl Tryz.ntmps16 Tryz.results16 (by simp) ?_
  simp
  refine Inv_intro (ok_sGoodStore 0 v0 (store_ok hw0)) ?_
  simp
  cases c1 : goodS v0 with
  | false => simp [rConfirmedOf, c1]
  | true =>
    obtain ⟨l, t, e⟩ := goodS_head c1
    have hc := head_cells 0 v0.History l t e
    have hlen : 0 < v0.History.length := by rw [e]; simp
    have hl := conf_len (Nat.le_trans (head_wt e) hw0)
    have er : rConfirmedOf v0 = (l, true) := by simp [rConfirmedOf, c1, e]
    simp [hc, hlen]
    refine Inv_intro (ok_l15Own 0 l hl.1 hl.2) ?_
    simp [er]
theorem rConfirmedOf_ok (v0 : GStore) (hw0 : GStore.wt v0 ≤ 1048576) : lens_LeafS (rConfirmedOf v0).1 ∧ cn_LeafS (rConfirmedOf v0).1 ≤ 1152921504606846976 := by
  have key : wt_LeafS (rConfirmedOf v0).1 ≤ 1048576 := by
    unfold rConfirmedOf
    split
    · rename_i h
      obtain ⟨l, t, e⟩ := goodS_head h
      rw [e]
      exact Nat.le_trans (head_wt e) hw0
    · exact Nat.zero_le _
  have := cn_le_LeafS (rConfirmedOf v0).1
  exact ⟨lens_of_LeafS key, by omega⟩
theorem cmds_ok {l : List GCommand} (h : wt_CommandS l ≤ 2097152) : lens_CommandS l ∧ cn_CommandS l ≤ 1152921504606846976 := by
  have hc := cn_le_CommandS l
  refine ⟨?_, by omega⟩
  have hl := len_wt_CommandS l
  refine ⟨by omega, fun x hx => ?_⟩
  have h1 := mem_wt_CommandS hx
  have h2 := len_wt_StringS x.Path
  refine ⟨?_, fun _ _ => trivial⟩
  unfold GCommand.wt at h1
  omega
theorem rDiffOf_ok (v0 v1 : List GLeaf) (h0 : wt_LeafS v0 ≤ 1048576) (h1 : wt_LeafS v1 ≤ 1048576) : lens_CommandS (rDiffOf v0 v1).1 ∧ cn_CommandS (rDiffOf v0 v1).1 ≤ 1152921504606846976 := by
  refine cmds_ok ?_
  unfold rDiffOf
  split
  · exact Nat.le_trans (diffL_wt v0 v1) (by omega)
  · exact Nat.zero_le _
def rPendingOf (v0 : GStore) : List GCommand × Bool := if goodS v0 = true then (diffL v0.Running v0.Candidate, true) else ([], false)
theorem goodS_both {s : GStore} (h : goodS s = true) : goodC s.Candidate = true ∧ goodC s.Running = true := by
  simp only [goodS, Bool.and_eq_true] at h
  simp [h]
theorem law_iPendingOf (v0 : GStore) (hw0 : GStore.wt v0 ≤ 1048576) : CallOK Tryz.prog 12 [.agg (GStore.ci 0 v0)] (.tup [.c (.sl 0 63 (rPendingOf v0).1.length ((rPendingOf v0).1.flatMap GCommand.co)), .c (pb (rPendingOf v0).2)]) [.agg (GStore.ci 0 v0)] := by
  have hr : wt_LeafS v0.Running ≤ 1048576 := by unfold GStore.wt at hw0; omega
  have hc : wt_LeafS v0.Candidate ≤ 1048576 := by unfold GStore.wt at hw0; omega
  refine okS (fn := Tryz.f12) [] h0 Tryz.func12 (by kernel_rfl) rfl Tryz.ntmps12 Tryz.results12 (by simp) ?_
  simp
  refine Inv_intro (ok_iGoodStore 0 v0 (store_ok hw0)) ?_
  simp
  cases c1 : goodS v0 with
  | false => simp [rPendingOf, c1]
  | true =>
    have er : rPendingOf v0 = (diffL v0.Running v0.Candidate, true) := by simp [rPendingOf, c1]
    simp
    refine Inv_intro (ok_diffOf 0 0 v0.Running v0.Candidate (conf_len hr).1 (conf_len hr).2 (conf_len hc).1 (conf_len hc).2 (conf_ok hr) (conf_ok hc)) ?_
    simp [er]
theorem law_sPendingOf (v0 : GStore) (hw0 : GStore.wt v0 ≤ 1048576) : CallOK Tryz.prog 13 [.agg (GStore.ci 0 v0)] (.tup [.c (.sl 0 63 (rPendingOf v0).1.length ((rPendingOf v0).1.flatMap GCommand.co)), .c (pb (rPendingOf v0).2)]) [.agg (GStore.ci 0 v0)] := by
  have hr : wt_LeafS v0.Running ≤ 1048576 := by unfold GStore.wt at hw0; omega
  have hc : wt_LeafS v0.Candidate ≤ 1048576 := by unfold GStore.wt at hw0; omega
  refine okS (fn := Tryz.f13) [] h0 Tryz.func13 (by kernel_rfl) rfl Tryz.ntmps13 Tryz.results13 (by simp) ?_
  simp
  refine Inv_intro (ok_sGoodStore 0 v0 (store_ok hw0)) ?_
  simp
  cases c1 : goodS v0 with
  | false => simp [rPendingOf, c1]
  | true =>
    have er : rPendingOf v0 = (diffL v0.Running v0.Candidate, true) := by simp [rPendingOf, c1]
    simp
    refine Inv_intro (ok_l15Diff 0 0 v0.Running v0.Candidate (conf_len hr).1 (conf_len hr).2 (conf_len hc).1 (conf_len hc).2 (conf_ok hr) (conf_ok hc) (goodS_both c1).2 (goodS_both c1).1) ?_
    simp [er]
theorem rPendingOf_ok (v0 : GStore) (hw0 : GStore.wt v0 ≤ 1048576) : lens_CommandS (rPendingOf v0).1 ∧ cn_CommandS (rPendingOf v0).1 ≤ 1152921504606846976 := by
  refine cmds_ok ?_
  unfold rPendingOf
  split
  · refine Nat.le_trans (diffL_wt _ _) ?_
    unfold GStore.wt at hw0
    omega
  · exact Nat.zero_le _
def rTicksLeft (v0 : GStore) : Int × Bool := if goodS v0 = true then (v0.Left, true) else (0, false)
theorem law_iTicksLeft (v0 : GStore) (hw0 : GStore.wt v0 ≤ 1048576) : CallOK Tryz.prog 17 [.agg (GStore.ci 0 v0)] (.tup [.c (pi (rTicksLeft v0).1), .c (pb (rTicksLeft v0).2)]) [.agg (GStore.ci 0 v0)] := by
  refine okS (fn := Tryz.f17) [] h0 Tryz.func17 (by kernel_rfl) rfl Tryz.ntmps17 Tryz.results17 (by simp) ?_
  simp
  refine Inv_intro (ok_iGoodStore 0 v0 (store_ok hw0)) ?_
  simp
  cases c1 : goodS v0 <;> simp [rTicksLeft, c1]
theorem law_sTicksLeft (v0 : GStore) (hw0 : GStore.wt v0 ≤ 1048576) : CallOK Tryz.prog 18 [.agg (GStore.ci 0 v0)] (.tup [.c (pi (rTicksLeft v0).1), .c (pb (rTicksLeft v0).2)]) [.agg (GStore.ci 0 v0)] := by
  refine okS (fn := Tryz.f18) [] h0 Tryz.func18 (by kernel_rfl) rfl Tryz.ntmps18 Tryz.results18 (by simp) ?_
  simp
  refine Inv_intro (ok_sGoodStore 0 v0 (store_ok hw0)) ?_
  simp
  cases c1 : goodS v0 <;> simp [rTicksLeft, c1]
theorem ok_FnConfirm (code more : List Int) (hc : codeOK code) (hc2 : codeOK more) : CallOK Tryz.prog 3 [.c (rd 1 code.length (code.map pu)), .c (rd 1 more.length (more.map pu))] (.c (pb true)) [.c (rd 1 code.length (code.map pu)), .c (rd 1 more.length (more.map pu))] := by
  obtain ⟨s, o, hsw, hod, hd1⟩ := ok_DrawStepStore code hc
  obtain ⟨p, hpw, hd2⟩ := ok_DrawPendingOf more hc2
  have how : GOp.wt o ≤ 1048576 := by have := opD_wt hod; omega
  have hi := ok_iStepStore 0 0 s o hsw how
  have hs := law_sStepStore s o hsw how
  have hX : GStore.wt (rStepStore s o).1 ≤ 1048576 := by
    unfold rStepStore
    split
    · rename_i h
      exact invS_wt (goodS_inv (step_good h.1 h.2))
    · decide
  have hsok := store_ok hsw
  have hXok := store_ok hX
  refine okE (fn := Tryz.f3) h0 Tryz.func3 (by kernel_rfl) rfl Tryz.ntmps3 Tryz.results3 (by simp) ?_
  have hw : IntKind.i64.wrap ((code.length : Int) + more.length) = (code.length : Int) + more.length := by
    have h1 := hc.1
    have h2 := hc2.1
    exact wrap64 (by omega) (by omega)
  refine ewrN_K (M := []) h0 5 ?_
  intro K hK
  simp [hw]
  by_cases hbig : code.length + more.length ≤ 1048576
  · have d1 : ¬ (1048576 : Int) < (code.length : Int) + more.length := by omega
    simp [d1]
    refine Inv_intro hd1 ?_
    simp
    refine Inv_intro hi ?_
    simp
    refine Inv_intro hs ?_
    simp
    refine hK _ ?_
    clear hK K hi hs hd1
    refine ewp_drop [1, 5, 6, 7, 8, 9, 10] [.op 3 5 0, .op 3 6 0, .op 4 6 0, .op 5 6 0] ?_
    simp
    refine ewp_freezeD (.op 3 5 0) [4] [] rfl (e := 26) (n := 1) (cs := s.co) (by simp) (by decide) ?_
    simp
    refine ewp_freezeD (.op 4 6 0) [4] [] rfl (e := 26) (n := 1) (cs := (rStepStore s o).1.co) (by simp) (by decide) ?_
    simp
    refine ewp_freezeD (.op 5 6 0) [4] [] rfl (e := 26) (n := 1) (cs := (rStepStore s o).1.co) (by simp) (by decide) ?_
    simp
    refine ewrN_cut (M := []) h0 2 [1] [] ⟨slOf 245 [(1, .t (rd 1 more.length (more.map pu)))], ofL []⟩ ?_ ?_
    · clear hX hsok hXok how hsw hod
      have i1 := law_iPendingOf p hpw
      have i2 := law_sPendingOf p hpw
      have i3 := law_iConfirmedOf p hpw
      have i4 := law_sConfirmedOf p hpw
      have i5 := law_iTicksLeft p hpw
      have i6 := law_sTicksLeft p hpw
      have hcf : confOK (rConfirmedOf p).1 := by
        unfold rConfirmedOf
        split
        · rename_i h
          exact conf_ok (Nat.le_trans (smC_wt (goodC_sm ((goodS_spec h).2.2.2.2.1 _ (headD_mem (goodS_spec h).2.2.1)))) (by decide))
        · exact ⟨Nat.zero_le _, by simp⟩
      refine ewrN_cut (M := []) h0 5 [11] [.op 24 2 0] ⟨slOf 245 [(11, .ptr ⟨.op 24 2 0, []⟩ 0)], ofL [(.op 24 2 0, .sl 0 26 1 p.co)]⟩ ?_ ?_
      · refine ewr_sound (M := []) h0 ?_
        simp [Code.rest]
        refine Inv_intro i3 ?_
        simp
        refine Inv_intro i4 ?_
        simp
        refine Inv_intro i5 ?_
        simp
        refine Inv_intro i6 ?_
        simp
        refine Inv_intro ok_iNewStore ?_
        have hnok := store_ok (invS_wt invS_new)
        have hng := ok_iGoodStore 0 rNewStore hnok
        have eg : goodS rNewStore = true := by kernel_rfl
        rw [eg] at hng
        generalize rConfirmedOf p = CB at hcf ⊢
        generalize rTicksLeft p = TB
        obtain ⟨C, cb⟩ := CB
        obtain ⟨T, tb'⟩ := TB
        simp only at hcf
        simp
        refine drawP (tabEnv [] _) [⟨[], allD 245, true⟩, ⟨[], allD 245, true⟩, ⟨[], allD 245, true⟩, ⟨[], allD 245, true⟩, ⟨[.op 33 1 0], allD 245, true⟩, ⟨[.op 34 1 0], allD 245, true⟩, ⟨[.op 33 1 0, .op 34 1 0], allD 245, true⟩, ⟨[], allD 245, true⟩, ⟨[], allD 245, true⟩, ⟨[], allD 245, true⟩, ⟨[], allD 245, true⟩, ⟨[], allD 245, true⟩, ⟨[], allD 245, true⟩, ⟨[], allD 245, true⟩, ⟨[], allD 245, true⟩, ⟨[], allD 245, true⟩, ⟨[], allD 245, true⟩, ⟨[], allD 245, true⟩, ⟨[], allD 245, true⟩, ⟨[.op 37 1 0], allD 245, true⟩, ⟨[.op 37 1 0], allD 245, true⟩, ⟨[], allD 245, true⟩, ⟨[], allD 245, true⟩, ⟨[.op 37 1 0], allD 245, true⟩, ⟨[], allD 245, false⟩, ⟨[.op 37 1 0, .op 38 24 0, .op 38 24 1, .op 38 24 2], allD 245, true⟩, ⟨[], allD 245, true⟩, ⟨[], allD 245, true⟩] h0 hm (tabEnv_ok (tab_cons (ok_sameLeaves 0 0 C hcf) (tab_cons hng (tab_cons ok_sNewStore (tab_cons (ok_sameStores 0 0 rNewStore hnok) tab_nil))))) (by kernel_rfl) (by kernel_rfl) ?_
        cases cb <;> cases tb'
        all_goals simp
        all_goals
          refine ThawedX_mk ?_
          simp
          refine ThawedX_mk ?_
          simp
          refine ThawedX_mk ?_
          simp
      · intro K hK
        simp [Code.rest]
        refine Inv_intro hd2 ?_
        simp
        refine Inv_intro i1 ?_
        simp
        refine Inv_intro i2 ?_
        simp
        cases hg : goodS p with
        | false =>
          have e : rPendingOf p = ([], false) := by simp [rPendingOf, hg]
          rw [e]
          simp
          refine hK _ ?_
          simp
        | true =>
          have e : rPendingOf p = (diffL p.Running p.Candidate, true) := by simp [rPendingOf, hg]
          have hb := goodS_both hg
          have hwr : wt_LeafS p.Running + wt_LeafS p.Candidate ≤ 1048576 := by rw [store_wt3] at hpw; omega
          have hdo := law_iDoCommands p.Running (diffL p.Running p.Candidate) (by omega) (Nat.le_trans (diffL_wt _ _) hwr)
          rw [do_diff hb.2 hb.1] at hdo
          rw [e]
          simp
          refine Inv_intro hdo ?_
          simp
          refine Inv_intro (ok_sameLeaves 0 0 p.Candidate (conf_ok (by omega))) ?_
          simp
          refine hK _ ?_
          simp
    · intro K hK
      simp [Code.rest]
      refine drawP (tabEnv [] _) [⟨[], allD 245, true⟩, ⟨[], allD 245, true⟩, ⟨[], allD 245, true⟩, ⟨[], allD 245, true⟩, ⟨[.op 4 6 0], allD 245, true⟩, ⟨[.op 5 6 0], allD 245, true⟩, ⟨[], allD 245, false⟩, ⟨[], allD 245, true⟩, ⟨[], allD 245, true⟩, ⟨[], allD 245, true⟩, ⟨[.op 3 5 0], allD 245, true⟩, ⟨[], allD 245, false⟩, ⟨[.op 3 5 0], allD 245, true⟩, ⟨[], allD 245, false⟩, ⟨[], allD 245, true⟩, ⟨[], allD 245, true⟩] h0 hm (tabEnv_ok (tab_cons (ok_sameStores 0 0 (rStepStore s o).1 hXok) (tab_cons (ok_iGoodStore 0 s hsok) (tab_cons (ok_sGoodStore 0 s hsok) tab_nil)))) (by kernel_rfl) (by kernel_rfl) ?_
      simp
      cases hb : (rStepStore s o).2 with
      | false =>
        simp
        refine hK _ ?_
        simp
      | true =>
        obtain ⟨hgs, hok, hXe⟩ : goodS s = true ∧ (stepI s o).2 = true ∧ (rStepStore s o).1 = (stepI s o).1 := by
          unfold rStepStore at hb ⊢
          split at hb
          · rename_i h
            rw [if_pos h]
            exact ⟨h.1, h.2, rfl⟩
          · cases hb
        have hgX := step_good hgs hok
        rw [hXe] at hXok ⊢
        have p3 := step_commit hgs hok
        have p5 := step_confirm hgs hok
        have p4 := step_for hok
        have p6 := step_back hok
        have hGX := ok_iGoodStore 0 _ hXok
        rw [hgX] at hGX
        obtain ⟨_, _, x3, _⟩ := goodS_spec hgX
        obtain ⟨_, _, s3, _⟩ := goodS_spec hgs
        clear hX hXe hb how hsw hod hgX hgs hok
        generalize (stepI s o).1 = X at hGX hXok p3 p4 p5 p6 x3 ⊢
        obtain ⟨C1, R1, H1, F1⟩ := X
        obtain ⟨C, R, H, F⟩ := s
        obtain ⟨Ko, Po, Vo, No⟩ := o
        simp only at p3 p4 p5 p6 x3 s3
        obtain ⟨k1, H1', rfl⟩ : ∃ x H', H1 = x :: H' := by
          cases H1 with
          | nil => simp at x3
          | cons x H' => exact ⟨x, H', rfl⟩
        obtain ⟨g1, H2', rfl⟩ : ∃ x H', H = x :: H' := by
          cases H with
          | nil => simp at s3
          | cons x H' => exact ⟨x, H', rfl⟩
        simp only [List.headD_cons] at p3 p5
        simp
        refine Inv_intro hGX ?_
        obtain ⟨c1, c2, c3, c4⟩ := hsok
        obtain ⟨y1, y2, y3, y4⟩ := hXok
        simp only at c1 c2 c3 c4 y1 y2 y3 y4
        clear hGX
        by_cases k3 : Ko = 3
        · obtain ⟨e1, e2, e3⟩ := p3 k3
          subst e1 e2 e3
          clear p3 p4 p5 p6
          simp [k3]
          refine drawP (tabEnv [] _) [⟨[.op 4 6 0], allD 245, true⟩, ⟨[.op 4 6 0], allD 245, true⟩, ⟨[.op 3 5 0], allD 245, true⟩, ⟨[.op 3 5 0], allD 245, true⟩, ⟨[], allD 245, false⟩, ⟨[], allD 245, true⟩, ⟨[], allD 245, true⟩, ⟨[.op 4 6 0], allD 245, true⟩, ⟨[.op 4 6 0], allD 245, true⟩, ⟨[], allD 245, true⟩, ⟨[], allD 245, true⟩, ⟨[.op 3 5 0], allD 245, true⟩, ⟨[.op 3 5 0], allD 245, true⟩, ⟨[], allD 245, false⟩, ⟨[], allD 245, true⟩, ⟨[], allD 245, true⟩, ⟨[], allD 245, true⟩, ⟨[.op 4 6 0], allD 245, true⟩, ⟨[.op 4 6 0], allD 245, true⟩, ⟨[], allD 245, true⟩, ⟨[], allD 245, true⟩] h0 hm (tabEnv_ok (tab_cons (ok_sameLeaves 0 0 _ c1) tab_nil)) (by kernel_rfl) (by kernel_rfl) ?_
          simp
          refine hK _ ?_
          simp
        · by_cases k5 : Ko = 5
          · obtain ⟨e1, e2, e3⟩ := p5 k5
            subst e1 e2 e3
            clear p3 p4 p5 p6
            simp [k3, k5]
            refine drawP (tabEnv [] _) [⟨[.op 4 6 0], allD 245, true⟩, ⟨[.op 4 6 0], allD 245, true⟩, ⟨[.op 3 5 0], allD 245, true⟩, ⟨[.op 3 5 0], allD 245, true⟩, ⟨[], allD 245, false⟩, ⟨[], allD 245, true⟩, ⟨[], allD 245, true⟩, ⟨[.op 4 6 0], allD 245, true⟩, ⟨[.op 4 6 0], allD 245, true⟩, ⟨[], allD 245, true⟩, ⟨[], allD 245, true⟩, ⟨[.op 3 5 0], allD 245, true⟩, ⟨[.op 3 5 0], allD 245, true⟩, ⟨[], allD 245, false⟩, ⟨[], allD 245, true⟩, ⟨[], allD 245, true⟩, ⟨[], allD 245, true⟩, ⟨[.op 4 6 0], allD 245, true⟩, ⟨[.op 4 6 0], allD 245, true⟩, ⟨[], allD 245, true⟩, ⟨[], allD 245, true⟩] h0 hm (tabEnv_ok (tab_cons (ok_sameLeaves 0 0 _ c2) tab_nil)) (by kernel_rfl) (by kernel_rfl) ?_
            simp
            refine hK _ ?_
            simp
          · by_cases k4 : Ko = 4
            · obtain ⟨e1, e2⟩ := p4 k4
              cases e2
              subst e1
              clear p3 p4 p5 p6
              have hE := f2_at2 (a1 := [PV.c (rd 0 R1.length (R1.flatMap (GLeaf.ci 0))), PV.c (rd 0 R1.length (R1.flatMap (GLeaf.ci 0)))]) (a2 := [PV.c (rd 0 k1.length (k1.flatMap (GLeaf.ci 0))), PV.c (rd 0 k1.length (k1.flatMap (GLeaf.ci 0)))]) (r1 := .c (pb true)) (r2 := .c (pb true)) (fun _ => rfl)
              simp [k3, k4, k5]
              refine drawP (fnEnv 10 (f2 [PV.c (rd 0 R1.length (R1.flatMap (GLeaf.ci 0))), PV.c (rd 0 R1.length (R1.flatMap (GLeaf.ci 0)))] [PV.c (rd 0 k1.length (k1.flatMap (GLeaf.ci 0))), PV.c (rd 0 k1.length (k1.flatMap (GLeaf.ci 0)))] (.c (pb true)) (.c (pb true))) (tabEnv [] [])) [⟨[.op 4 6 0], allD 245, true⟩, ⟨[.op 4 6 0], allD 245, true⟩, ⟨[.op 3 5 0], allD 245, true⟩, ⟨[.op 3 5 0], allD 245, true⟩, ⟨[], allD 245, false⟩, ⟨[], allD 245, true⟩, ⟨[], allD 245, true⟩, ⟨[.op 4 6 0], allD 245, true⟩, ⟨[.op 4 6 0], allD 245, true⟩, ⟨[], allD 245, true⟩, ⟨[], allD 245, true⟩, ⟨[.op 3 5 0], allD 245, true⟩, ⟨[.op 3 5 0], allD 245, true⟩, ⟨[], allD 245, true⟩, ⟨[], allD 245, true⟩, ⟨[], allD 245, false⟩, ⟨[], allD 245, true⟩, ⟨[], allD 245, true⟩] h0 hm (fnEnv_ok (tabEnv_ok tab_nil) (f2_ok (ok_sameLeaves 0 0 R1 y2) (ok_sameLeaves 0 0 k1 (c4 k1 (List.mem_cons_self ..))))) (by kernel_rfl) (by kernel_rfl) ?_
              simp [f2_at1, hE]
              refine hK _ ?_
              simp
            · by_cases k6 : Ko = 6
              · obtain ⟨hlt, e0, e1, e2⟩ := p6 k6
                obtain ⟨N, rfl⟩ : ∃ N : Nat, No = (N : Int) := ⟨No.toNat, by omega⟩
                have eN : ((N : Int)).toNat = N := by omega
                simp only [eN] at hlt e1
                obtain ⟨A, hA⟩ : ∃ A, A = (g1 :: H2')[N] := ⟨_, rfl⟩
                rw [← hA] at e1
                subst e1 e2
                clear p3 p4 p5 p6
                have hE := f2_at2 (a1 := [PV.c (rd 0 C1.length (C1.flatMap (GLeaf.ci 0))), PV.c (rd 0 C1.length (C1.flatMap (GLeaf.ci 0)))]) (a2 := [PV.c (rd 0 R1.length (R1.flatMap (GLeaf.ci 0))), PV.c (rd 0 R1.length (R1.flatMap (GLeaf.ci 0)))]) (r1 := .c (pb true)) (r2 := .c (pb true)) (fun _ => rfl)
                simp [k3, k4, k5, k6]
                refine drawP (fnEnv 10 (f2 [PV.c (rd 0 C1.length (C1.flatMap (GLeaf.ci 0))), PV.c (rd 0 C1.length (C1.flatMap (GLeaf.ci 0)))] [PV.c (rd 0 R1.length (R1.flatMap (GLeaf.ci 0))), PV.c (rd 0 R1.length (R1.flatMap (GLeaf.ci 0)))] (.c (pb true)) (.c (pb true))) (tabEnv [] [])) [⟨[.op 4 6 0], allD 245, true⟩, ⟨[.op 4 6 0], allD 245, true⟩, ⟨[.op 3 5 0], allD 245, true⟩, ⟨[.op 3 5 0], allD 245, true⟩, ⟨[.op 3 6 0], allD 245, true⟩, ⟨[.op 3 6 0], allD 245, true⟩, ⟨[], allD 245, true⟩, ⟨[], allD 245, true⟩, ⟨[], allD 245, false⟩, ⟨[], allD 245, true⟩, ⟨[], allD 245, true⟩, ⟨[.op 4 6 0], allD 245, true⟩, ⟨[.op 4 6 0], allD 245, true⟩, ⟨[.op 3 5 0], allD 245, true⟩, ⟨[.op 3 5 0], allD 245, true⟩, ⟨[], allD 245, false⟩, ⟨[], allD 245, true⟩, ⟨[], allD 245, true⟩] h0 hm (fnEnv_ok (tabEnv_ok tab_nil) (f2_ok (ok_sameLeaves 0 0 C1 y1) (ok_sameLeaves 0 0 R1 y2))) (by kernel_rfl) (by kernel_rfl) ?_
                have hN2 : N < H2'.length + 1 := by simpa using hlt
                have hN1 : (N : Int) < (H2'.length : Int) + 1 := by omega
                have hdrop : List.drop N (cLeafSi 0 g1 :: List.map (cLeafSi 0) H2') = cLeafSi 0 C1 :: List.drop (N + 1) (cLeafSi 0 g1 :: List.map (cLeafSi 0) H2') := by
                  show List.drop N (List.map (cLeafSi 0) (g1 :: H2')) = _ :: List.drop (N + 1) (List.map (cLeafSi 0) (g1 :: H2'))
                  rw [List.drop_eq_getElem_cons (by rw [List.length_map]; exact hlt), List.getElem_map, ← hA]
                simp [f2_at1, hE, hN1, hN2, hdrop]
                refine hK _ ?_
                simp
              · simp [k3, k4, k5, k6]
                refine hK _ ?_
                simp
  · have d1 : (1048576 : Int) < (code.length : Int) + more.length := by omega
    simp [d1]
end Go.V
