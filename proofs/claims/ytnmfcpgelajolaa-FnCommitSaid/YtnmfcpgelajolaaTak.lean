/- What functions of the seat's program do, each proved of its code, under the bounds that its theorem names. -/
import Derived.Test.YtnmfcpgelajolaaTaj
set_option linter.all false
namespace Go.V
open Go.Proofs
set_option maxHeartbeats 1000000
set_option maxRecDepth 10000
set_option linter.unusedSimpArgs false
set_option linter.unusedVariables false
theorem ewrN_K {P : Program} {M : List (FuncId × List Nat)} (h0 : tsz P nilE = 0) (n : Nat) {c : Code} {Q : Exit → St → Prop} {st : St} (h : ∀ K : St → Prop, (∀ st, ewp P (Code.rest n c) Q st → K st) → ewrN P M n c K Q st) : ewp P c Q st :=
  ewrN_sound h0 n (K := fun st => ewp P (Code.rest n c) Q st) (fun _ hk => hk) (h _ fun _ hk => hk)
theorem opD_wt {o : GOp} (h : opD o) : GOp.wt o ≤ 100 := by
  obtain ⟨⟨h1, h2⟩, h3⟩ := h
  have h4 : wtR ByteArray.size o.Path ≤ o.Path.length * (9 + 1) := wtR_leC ByteArray.size 9 o.Path h2
  unfold GOp.wt
  show wtR ByteArray.size o.Path + o.Value.size ≤ 100
  omega
theorem opsD_wt {l : List GOp} (h : l.length ≤ 61) (ho : ∀ o ∈ l, opD o) : wt_OpS l ≤ 1048576 := by
  have := wtR_leC GOp.wt 100 l fun o hx => opD_wt (ho o hx)
  show wtR GOp.wt l ≤ 1048576
  omega
def tickA (C R H0 : List GLeaf) (H' : List (List GLeaf)) (J j : Nat) : GStore := ⟨C, if j = J then H0 else R, H0 :: H', (J : Int) - j⟩
theorem tickA_step (C R H0 : List GLeaf) (H' : List (List GLeaf)) (J j : Nat) (h : j < J) : stepI (tickA C R H0 H' J j) tickO = (tickA C R H0 H' J (j + 1), true) := by
  rw [step_tick]
  unfold tickA
  simp only [List.headD_cons]
  have h1 : (0 : Int) < (J : Int) - j := by omega
  have h2 : ¬ j = J := by omega
  by_cases h3 : j + 1 = J
  · have h4 : (J : Int) - j - 1 = 0 := by omega
    have h5 : (J : Int) - ((j + 1 : Nat) : Int) = 0 := by omega
    simp only [h1, h2, h3, h4, if_true, decide_true, Nat.add_eq, if_pos rfl]
    congr 2
    omega
  · have h4 : ¬ (J : Int) - j - 1 = 0 := by omega
    simp only [h1, h2, h3, h4, if_false, decide_true]
    congr 2
    omega
theorem tickA_good {C R H0 : List GLeaf} {H' : List (List GLeaf)} {J : Nat} (h : goodS (tickA C R H0 H' J 0) = true) : ∀ j, j ≤ J → goodS (tickA C R H0 H' J j) = true
  | 0, _ => h
  | j + 1, hj => by
    have h1 := tickA_good h j (by omega)
    have h2 := tickA_step C R H0 H' J j (by omega)
    have h3 := step_good h1 (o := tickO) (by rw [h2])
    rw [h2] at h3
    exact h3
theorem tickA_last (C R H0 : List GLeaf) (H' : List (List GLeaf)) (J : Nat) : (stepI (tickA C R H0 H' J J) tickO).2 = false := by
  rw [step_tick]
  unfold tickA
  simp
theorem tickA_zero {C R H0 : List GLeaf} {H' : List (List GLeaf)} {F : Int} (h : goodS ⟨C, R, H0 :: H', F⟩ = true) : ∃ J : Nat, F = J ∧ tickA C R H0 H' J 0 = ⟨C, R, H0 :: H', F⟩ := by
  obtain ⟨_, _, _, _, _, h6, h7⟩ := goodS_spec h
  simp only [List.headD_cons] at h6 h7
  refine ⟨F.toNat, by omega, ?_⟩
  unfold tickA
  by_cases hz : F = 0
  · have := h7.1 hz
    subst hz
    simp [this]
  · have : ¬ 0 = F.toNat := by omega
    rw [if_neg this]
    congr 1
    omega
theorem law_tick {C R H0 : List GLeaf} {H' : List (List GLeaf)} {J : Nat} (h : goodS (tickA C R H0 H' J 0) = true) (j : Nat) (hj : j < J) : CallOK Try.prog 13 [.agg (GStore.ci 0 (tickA C R H0 H' J j)), .agg (GOp.ci 1 tickO)] (.tup [.agg (tickA C R H0 H' J (j + 1)).co, .c (pb true)]) [.agg (GStore.ci 0 (tickA C R H0 H' J j)), .agg (GOp.ci 1 tickO)] := by
  have hg := tickA_good h j (by omega)
  have h1 := ok_iStepStore 0 1 (tickA C R H0 H' J j) tickO (invS_wt (goodS_inv hg)) (by decide)
  have hs := tickA_step C R H0 H' J j hj
  have e : rStepStore (tickA C R H0 H' J j) tickO = (tickA C R H0 H' J (j + 1), true) := by
    unfold rStepStore
    rw [if_pos ⟨hg, by rw [hs]⟩, hs]
  rw [e] at h1
  exact h1
theorem law_ticked {C R H0 : List GLeaf} {H' : List (List GLeaf)} {J : Nat} (h : goodS (tickA C R H0 H' J 0) = true) : CallOK Try.prog 13 [.agg (GStore.ci 0 (tickA C R H0 H' J J)), .agg (GOp.ci 1 tickO)] (.tup [.agg zeroS.co, .c (pb false)]) [.agg (GStore.ci 0 (tickA C R H0 H' J J)), .agg (GOp.ci 1 tickO)] := by
  have hg := tickA_good h J (Nat.le_refl _)
  have h1 := ok_iStepStore 0 1 (tickA C R H0 H' J J) tickO (invS_wt (goodS_inv hg)) (by decide)
  have e : rStepStore (tickA C R H0 H' J J) tickO = (zeroS, false) := by
    unfold rStepStore
    rw [if_neg]
    rintro ⟨_, h2⟩
    rw [tickA_last] at h2
    cases h2
  rw [e] at h1
  exact h1
theorem ok_sameTexts (k k' : Nat) (p : List ByteArray) (hp : p.length ≤ 140737488351232) : CallOK Try.prog 26 [.c (rd k p.length (p.map ps)), .c (rd k' p.length (p.map ps))] (.c (pb true)) [.c (rd k p.length (p.map ps)), .c (rd k' p.length (p.map ps))] := by
  refine okS (fn := Try.f26) [] h0 Try.func26 (by kernel_rfl) rfl Try.ntmps26 Try.results26 (by simp) ?_
  simp
  refine loopS [0, 1, 11, 12, 13] [] (fun m st => ∃ (i : Nat), i + m = p.length ∧ st = ⟨slOf 26 [(0, .t (rd k p.length (p.map ps))), (1, .t (rd k' p.length (p.map ps))), (11, .t (rd k p.length (p.map ps))), (12, .t (pi p.length)), (13, .t (pi i))], ofL []⟩) p.length ?_ ?_
  · rintro Inv hI
    simp
    subst hI
    exact ⟨0, by omega, rfl⟩
  · rintro Inv hI m st ⟨i, hi, rfl⟩
    refine ewr_sound (M := []) h0 ?_
    simp
    refine brn_app (fun a => ?_) (fun a => ?_)
    · simp at a
      simp
      refine drawP (tabEnv [] []) [⟨[], allD 26, true⟩, ⟨[], allD 26, true⟩, ⟨[], allD 26, true⟩, ⟨[], allD 26, true⟩, ⟨[], allD 26, true⟩, ⟨[], allD 26, true⟩, ⟨[], allD 26, true⟩, ⟨[], allD 26, true⟩, ⟨[], allD 26, true⟩] h0 hm (tabEnv_ok tab_nil) (by kernel_rfl) (by kernel_rfl) ?_
      simp [a]
      subst hI
      exact Less_mk (m - 1) (by omega) ⟨i + 1, by omega, by rw [wrNext i (by omega)]⟩
    · simp
theorem ok_sameBools (k k' : Nat) (p : List Bool) (hp : p.length ≤ 140737488351232) : CallOK Try.prog 7 [.c (rd k p.length (p.map pb)), .c (rd k' p.length (p.map pb))] (.c (pb true)) [.c (rd k p.length (p.map pb)), .c (rd k' p.length (p.map pb))] := by
  refine okS (fn := Try.f7) [] h0 Try.func7 (by kernel_rfl) rfl Try.ntmps7 Try.results7 (by simp) ?_
  simp
  refine loopS [0, 1, 11, 12, 13] [] (fun m st => ∃ (i : Nat), i + m = p.length ∧ st = ⟨slOf 26 [(0, .t (rd k p.length (p.map pb))), (1, .t (rd k' p.length (p.map pb))), (11, .t (rd k p.length (p.map pb))), (12, .t (pi p.length)), (13, .t (pi i))], ofL []⟩) p.length ?_ ?_
  · rintro Inv hI
    simp
    subst hI
    exact ⟨0, by omega, rfl⟩
  · rintro Inv hI m st ⟨i, hi, rfl⟩
    refine ewr_sound (M := []) h0 ?_
    simp
    refine brn_app (fun a => ?_) (fun a => ?_)
    · simp at a
      simp
      refine drawP (tabEnv [] []) [⟨[], allD 26, true⟩, ⟨[], allD 26, true⟩, ⟨[], allD 26, true⟩, ⟨[], allD 26, true⟩, ⟨[], allD 26, true⟩, ⟨[], allD 26, true⟩, ⟨[], allD 26, true⟩, ⟨[], allD 26, true⟩, ⟨[], allD 26, true⟩] h0 hm (tabEnv_ok tab_nil) (by kernel_rfl) (by kernel_rfl) ?_
      simp [a]
      subst hI
      exact Less_mk (m - 1) (by omega) ⟨i + 1, by omega, by rw [wrNext i (by omega)]⟩
    · simp
theorem ok_sameLeaves (k k' : Nat) (l : List GLeaf) (hl : confOK l) : CallOK Try.prog 12 [.c (rd k l.length (l.flatMap (GLeaf.ci k))), .c (rd k' l.length (l.flatMap (GLeaf.ci k')))] (.c (pb true)) [.c (rd k l.length (l.flatMap (GLeaf.ci k))), .c (rd k' l.length (l.flatMap (GLeaf.ci k')))] := by
  obtain ⟨hl1, hl2⟩ := hl
  refine okS (fn := Try.f12) [] h0 Try.func12 (by kernel_rfl) rfl Try.ntmps12 Try.results12 (by simp) ?_
  simp
  refine loopS [0, 1, 11, 12, 13] [] (fun m st => ∃ (i : Nat), i + m = l.length ∧ st = ⟨slOf 42 [(0, .t (rd k l.length (l.flatMap (GLeaf.ci k)))), (1, .t (rd k' l.length (l.flatMap (GLeaf.ci k')))), (11, .t (rd k l.length (l.flatMap (GLeaf.ci k)))), (12, .t (pi l.length)), (13, .t (pi i))], ofL []⟩) l.length ?_ ?_
  · rintro Inv hI
    simp
    subst hI
    exact ⟨0, by omega, rfl⟩
  · rintro Inv hI m st ⟨i, hi, rfl⟩
    refine ewr_sound (M := []) h0 ?_
    simp
    refine brn_app (fun a => ?_) (fun a => ?_)
    · simp at a
      have hd := fm_drop (GLeaf.ci k) 2 (fun _ => rfl) l i a
      have hlen := fm_len (GLeaf.ci k) 2 (fun _ => rfl) l
      have hd' := fm_drop (GLeaf.ci k') 2 (fun _ => rfl) l i a
      have hlen' := fm_len (GLeaf.ci k') 2 (fun _ => rfl) l
      have hlt : i * 2 < l.length * 2 := by omega
      have hx := (hl2 _ (List.getElem_mem a)).1.1
      simp
      refine drawP (tabEnv [] _) [⟨[], allD 42, true⟩, ⟨[], allD 42, true⟩, ⟨[], allD 42, true⟩, ⟨[], allD 42, true⟩, ⟨[], allD 42, true⟩, ⟨[], allD 42, true⟩, ⟨[], allD 42, true⟩, ⟨[], allD 42, true⟩, ⟨[], allD 42, true⟩, ⟨[], allD 42, true⟩, ⟨[], allD 42, true⟩, ⟨[], allD 42, true⟩, ⟨[], allD 42, true⟩, ⟨[], allD 42, true⟩, ⟨[], allD 42, true⟩, ⟨[], allD 42, true⟩, ⟨[], allD 42, true⟩, ⟨[], allD 42, true⟩, ⟨[], allD 42, true⟩, ⟨[], allD 42, true⟩, ⟨[], allD 42, true⟩, ⟨[], allD 42, true⟩, ⟨[], allD 42, false⟩, ⟨[], allD 42, true⟩, ⟨[], allD 42, true⟩] h0 hm (tabEnv_ok (tab_cons (ok_sameTexts k k' l[i].Path hx) tab_nil)) (by kernel_rfl) (by kernel_rfl) ?_
      simp [a, hd, hlen, hd', hlen', hlt]
      subst hI
      exact Less_mk (m - 1) (by omega) ⟨i + 1, by omega, by rw [wrNext i (by omega)]⟩
    · simp
theorem ok_sameStores (k k' : Nat) (s : GStore) (hs : storeOK s) : CallOK Try.prog 8 [.agg (GStore.ci k s), .agg (GStore.ci k' s)] (.c (pb true)) [.agg (GStore.ci k s), .agg (GStore.ci k' s)] := by
  obtain ⟨h1, h2, h3, h4⟩ := hs
  refine okS (fn := Try.f8) [] h0 Try.func8 (by kernel_rfl) rfl Try.ntmps8 Try.results8 (by simp) ?_
  simp
  refine Inv_intro (ok_sameLeaves k k' s.Candidate h1) ?_
  simp
  refine Inv_intro (ok_sameLeaves k k' s.Running h2) ?_
  simp
  refine loopS [2, 3, 37, 38, 39] [.op 0 0 0, .op 0 1 0] (fun m st => ∃ (i : Nat), i + m = s.History.length ∧ st = ⟨slOf 55 [(2, .ptr ⟨.op 0 0 0, []⟩ 0), (3, .ptr ⟨.op 0 1 0, []⟩ 0), (37, .t (rd k s.History.length (s.History.map (cLeafSi k)))), (38, .t (pi s.History.length)), (39, .t (pi i))], ofL [(.op 0 0 0, .sl 0 28 1 (GStore.ci k s)), (.op 0 1 0, .sl 0 28 1 (GStore.ci k' s))]⟩) s.History.length ?_ ?_
  · rintro Inv hI
    simp
    subst hI
    exact ⟨0, by omega, rfl⟩
  · rintro Inv hI m st ⟨i, hi, rfl⟩
    refine ewr_sound (M := []) h0 ?_
    simp
    refine brn_app (fun a => ?_) (fun a => ?_)
    · simp at a
      have hx := h4 _ (List.getElem_mem a)
      simp
      refine drawP (tabEnv [] _) [⟨[.op 0 0 0], allD 55, true⟩, ⟨[.op 0 0 0], allD 55, true⟩, ⟨[], allD 55, true⟩, ⟨[], allD 55, true⟩, ⟨[], allD 55, true⟩, ⟨[.op 0 1 0], allD 55, true⟩, ⟨[.op 0 1 0], allD 55, true⟩, ⟨[], allD 55, true⟩, ⟨[], allD 55, true⟩, ⟨[], allD 55, true⟩, ⟨[], allD 55, false⟩, ⟨[], allD 55, true⟩] h0 hm (tabEnv_ok (tab_cons (ok_sameLeaves k k' s.History[i] hx) tab_nil)) (by kernel_rfl) (by kernel_rfl) ?_
      simp [a]
      subst hI
      exact Less_mk (m - 1) (by omega) ⟨i + 1, by omega, by rw [wrNext i (by omega)]; rfl⟩
    · simp
def rConfirmedOf (v0 : GStore) : List GLeaf × Bool := if goodS v0 = true then (v0.History.headD [], true) else ([], false)
theorem goodS_head {s : GStore} (h : goodS s = true) : ∃ l t, s.History = l :: t := by
  cases hh : s.History with
  | nil => simp [goodS, hh] at h
  | cons l t => exact ⟨l, t, rfl⟩
theorem head_wt {s : GStore} {l : List GLeaf} {t : List (List GLeaf)} (e : s.History = l :: t) : wt_LeafS l ≤ GStore.wt s := by
  have hm : l ∈ s.History := by rw [e]; simp
  have := mem_wt_LeafSS hm
  unfold GStore.wt
  omega
theorem law_iConfirmedOf (v0 : GStore) (hw0 : GStore.wt v0 ≤ 1048576) : CallOK Try.prog 9 [.agg (GStore.ci 0 v0)] (.tup [.c (.sl 0 58 (rConfirmedOf v0).1.length ((rConfirmedOf v0).1.flatMap GLeaf.co)), .c (pb (rConfirmedOf v0).2)]) [.agg (GStore.ci 0 v0)] := by
  refine okS (fn := Try.f9) [] h0 Try.func9 (by kernel_rfl) rfl Try.ntmps9 Try.results9 (by simp) ?_
  simp
  refine Inv_intro (ok_iGoodStore 0 v0 (store_ok hw0)) ?_
  simp
  cases c1 : goodS v0 with
  | false => simp [rConfirmedOf, c1]
  | true =>
    obtain ⟨l, t, e⟩ := goodS_head c1
    have hc := head_cells 0 v0.History l t e
    have hlen : 0 < v0.History.length := by rw [e]; simp
    have hl := conf_len (Nat.le_trans (head_wt e) hw0)
    have er : rConfirmedOf v0 = (l, true) := by simp [rConfirmedOf, c1, e]
    simp [hc, hlen]
    refine Inv_intro (ok_ownConfig 0 l hl.1 hl.2) ?_
    simp [er]
theorem rConfirmedOf_ok (v0 : GStore) (hw0 : GStore.wt v0 ≤ 1048576) : lens_LeafS (rConfirmedOf v0).1 ∧ cn_LeafS (rConfirmedOf v0).1 ≤ 1152921504606846976 := by
  have key : wt_LeafS (rConfirmedOf v0).1 ≤ 1048576 := by
    unfold rConfirmedOf
    split
    · rename_i h
      obtain ⟨l, t, e⟩ := goodS_head h
      rw [e]
      exact Nat.le_trans (head_wt e) hw0
    · exact Nat.zero_le _
  have := cn_le_LeafS (rConfirmedOf v0).1
  exact ⟨lens_of_LeafS key, by omega⟩
theorem law_iPlayOps (v0 : List GOp) (hw0 : wt_OpS v0 ≤ 1048576) : CallOK Try.prog 5 [.c (rd 0 v0.length (v0.flatMap (GOp.ci 0)))] (.tup [.agg (rPlayOps v0).1.co, .c (.sl 0 4 (rPlayOps v0).2.1.length ((rPlayOps v0).2.1.map pb)), .c (pb (rPlayOps v0).2.2)]) [.c (rd 0 v0.length (v0.flatMap (GOp.ci 0)))] := by
  have hl0 := len_wt_OpS v0
  refine okS (fn := Try.f5) [] h0 Try.func5 (by kernel_rfl) rfl Try.ntmps5 Try.results5 (by simp) ?_
  simp
  refine brn_app (fun a => ?_) (fun a => ?_)
  · simp at a
    have e : rPlayOps v0 = (zeroS, [], false) := by unfold rPlayOps; rw [if_neg (by omega)]
    rw [e]
    simp [zeroS]
  · simp at a
    have e : rPlayOps v0 = ((plS v0 v0.length).1, (plS v0 v0.length).2, true) := by unfold rPlayOps; rw [if_pos (by omega)]
    rw [e]
    simp
    refine Inv_intro ok_iNewStore ?_
    simp
    refine ewp_sw (.op 4 0 0) (.op 11 3 0) rfl rfl ?_
    simp
    refine loopS [2, 5, 6, 17, 18, 19] [.op 0 0 0, .op 3 1 0, .op 11 3 0] (fun n st => ∃ (i : Nat), i + n = v0.length ∧ st = ⟨slOf 38 [(2, .ptr ⟨.op 0 0 0, []⟩ 0), (5, .ptr ⟨.op 3 1 0, []⟩ 0), (6, .ref ⟨.op 11 3 0, []⟩ 0 i), (17, .t (rd 0 v0.length (v0.flatMap (GOp.ci 0)))), (18, .t (pi v0.length)), (19, .t (pi i))], ofL [(.op 0 0 0, .sl 0 28 1 [.sl 0 nilE 0 [], .sl 0 nilE 0 [], .sl 0 nilE 0 [], pi 0]), (.op 3 1 0, .sl 0 28 1 (plS v0 i).1.co), (.op 11 3 0, .sl 0 4 i ((plS v0 i).2.map pb))]⟩) v0.length ?_ ?_
    · rintro Inv hI
      simp
      subst hI
      exact ⟨0, by omega, rfl⟩
    · rintro Inv hI n st ⟨i, hi, rfl⟩
      have hinv := plS_inv v0 i
      have hlen := plS_len v0 i (by omega)
      refine ewr_sound (M := []) h0 ?_
      by_cases c : i < v0.length
      · have hs := plS_succ v0 i c
        have hd := fm_drop (GOp.ci 0) 4 (fun _ => rfl) v0 i c
        have hfl := fm_len (GOp.ci 0) 4 (fun _ => rfl) v0
        have hlt : i * 4 < v0.length * 4 := by omega
        have ho := op_ok_mem hw0 (List.getElem_mem c)
        generalize plS v0 i = SD at hinv hlen hs ⊢
        obtain ⟨S, D⟩ := SD
        simp only at hinv hlen hs
        have hwt := invS_wt hinv
        obtain ⟨i1, i2, i3, i4, i5, i6⟩ := hinv
        simp [c, hd, hfl, hlt]
        refine Inv_intro (ok_stepStore 0 0 S v0[i] (wt_storeB hwt) (fun e => by rw [e] at i3; simp at i3) i6 i4 ho) ?_
        generalize stepI S v0[i] = X at hs ⊢
        obtain ⟨X1, X2⟩ := X
        have hb1 : (i + 1) * 1 ≤ 140737488355328 := by omega
        have hb2 : i ≤ 9223372036854775806 := by omega
        have hb3 : i ≤ 140737488355327 := by omega
        have hml : (D.map pb).length = i := by rw [List.length_map, hlen]
        have hmt : List.take i (D.map pb) = D.map pb := List.take_of_length_le (by omega)
        cases X2 with
        | false =>
          simp [hlen, hb1, hb2, hb3, hml, hmt]
          subst hI
          refine Less_mk (n - 1) (by omega) ⟨i + 1, by omega, ?_⟩
          rw [wrNext i (by omega), hs]
          simp
        | true =>
          simp [hlen, hb1, hb2, hb3, hml, hmt]
          subst hI
          refine Less_mk (n - 1) (by omega) ⟨i + 1, by omega, ?_⟩
          rw [wrNext i (by omega), hs]
          simp
      · have hil : i = v0.length := by omega
        have hmt : List.take i ((plS v0 i).2.map pb) = (plS v0 i).2.map pb := List.take_of_length_le (by rw [List.length_map]; omega)
        subst hil
        simp [hlen, hmt]
theorem ok_l16Own (k : Nat) (s : GStore) (hs : storeB s) : CallOK Try.prog 19 [.agg (GStore.ci k s)] (.agg s.co) [.agg (GStore.ci k s)] := by
  obtain ⟨b1, b2, b3, b4⟩ := hs
  refine okS (fn := Try.f19) [] h0 Try.func19 (by kernel_rfl) rfl Try.ntmps19 Try.results19 (by simp) ?_
  simp
  have hE := f2_at2 (a1 := [PV.c (rd k s.Candidate.length (s.Candidate.flatMap (GLeaf.ci k)))]) (a2 := [PV.c (rd k s.Running.length (s.Running.flatMap (GLeaf.ci k)))]) (r1 := .c (.sl 0 58 s.Candidate.length (s.Candidate.flatMap GLeaf.co))) (r2 := .c (.sl 0 58 s.Running.length (s.Running.flatMap GLeaf.co))) (fun e => by
    simp only [List.cons.injEq, PV.c.injEq, rd, PT.sl.injEq, and_true, true_and] at e
    rw [ci_inj e.2])
  refine drawP (fnEnv 40 (f2 [PV.c (rd k s.Candidate.length (s.Candidate.flatMap (GLeaf.ci k)))] [PV.c (rd k s.Running.length (s.Running.flatMap (GLeaf.ci k)))] (.c (.sl 0 58 s.Candidate.length (s.Candidate.flatMap GLeaf.co))) (.c (.sl 0 58 s.Running.length (s.Running.flatMap GLeaf.co)))) (tabEnv [] [])) [⟨[.op 0 0 0], allD 31, true⟩, ⟨[.op 0 0 0], allD 31, true⟩, ⟨[], allD 31, false⟩, ⟨[.op 0 0 0], allD 31, true⟩, ⟨[.op 0 0 0], allD 31, true⟩, ⟨[], allD 31, false⟩, ⟨[.op 0 0 0], allD 31, true⟩, ⟨[.op 0 0 0], allD 31, true⟩, ⟨[.op 1 2 0, .op 1 5 0], allD 31, true⟩, ⟨[], allD 31, false⟩, ⟨[.op 1 9 0, .op 1 2 0, .op 1 5 0], [6, 7, 8, 9, 10, 11, 12, 13, 14, 3], false⟩] h0 hm (fnEnv_ok (tabEnv_ok tab_nil) (f2_ok (ok_l15Own k s.Candidate b1.1 (fun x hx => (b1.2 x hx).1)) (ok_l15Own k s.Running b2.1 (fun x hx => (b2.2 x hx).1)))) (by kernel_rfl) (by kernel_rfl) ?_
  simp [f2_at1, hE]
  refine loopS [2, 3, 16, 17, 18] [.op 1 9 0, .op 0 1 0] (fun m st => ∃ (i : Nat), i + m = s.History.length ∧ st = ⟨slOf 31 [(2, .ptr ⟨.op 0 1 0, []⟩ 0), (3, .ptr ⟨.op 1 9 0, []⟩ 0), (16, .t (rd k s.History.length (s.History.map (cLeafSi k)))), (17, .t (pi s.History.length)), (18, .t (pi i))], ofL [(.op 1 9 0, .sl 0 28 1 [.sl 0 58 s.Candidate.length (s.Candidate.flatMap GLeaf.co), .sl 0 58 s.Running.length (s.Running.flatMap GLeaf.co), (if i = 0 then .sl 0 nilE 0 [] else .sl 0 25 i ((s.History.take i).map cLeafSo)), pi s.Left]), (.op 0 1 0, .sl 0 28 1 [.sl 0 nilE 0 [], .sl 0 nilE 0 [], .sl 0 nilE 0 [], pi 0])]⟩) s.History.length ?_ ?_
  · rintro Inv hI
    simp
    subst hI
    exact ⟨0, by omega, rfl⟩
  · rintro Inv hI m st ⟨i, hi, rfl⟩
    have hts0 : ∀ a : i < s.History.length, (s.History.take (i + 1)).map cLeafSo = (s.History.take i).map cLeafSo ++ [cLeafSo s.History[i]] := fun a => by rw [take_step _ i a, List.map_append]; rfl
    have hln0 : i ≤ s.History.length → ((s.History.take i).map cLeafSo).length = i := fun h => by simp; omega
    have hfin : i = s.History.length → (s.History.take i).map cLeafSo = s.History.map cLeafSo := by rintro rfl; rw [List.take_length]
    have hA0 : i = 0 → (s.History.take i).map cLeafSo = [] := by rintro rfl; rfl
    generalize (s.History.take i).map cLeafSo = A at hts0 hln0 hfin hA0 ⊢
    refine ewr_sound (M := []) h0 ?_
    simp
    refine brn_app (fun a => ?_) (fun a => ?_)
    · simp at a
      have hts := hts0 a
      have hln := hln0 (by omega)
      have hb := b4 _ (List.getElem_mem a)
      have hb1 : (i + 1) * 24 ≤ 140737488355328 := by omega
      have hb2 : i + 1 ≤ 9223372036854775807 := by omega
      simp [a]
      by_cases hi0 : i = 0
      · subst hi0
        simp
        refine drawP (tabEnv [] _) [⟨[.op 1 9 0], allD 31, true⟩, ⟨[.op 1 9 0], allD 31, true⟩, ⟨[], allD 31, true⟩, ⟨[], allD 31, false⟩, ⟨[.op 5 3 0], [22, 23, 24, 25, 26, 27, 28], false⟩, ⟨[.op 1 9 0, .op 5 3 0, .op 5 4 0], [22, 23, 24, 25, 26, 27, 28], false⟩, ⟨[.op 1 9 0], allD 31, true⟩, ⟨[.op 1 9 0, .op 5 4 0, .op 5 5 0], [22, 23, 24, 25, 26, 27, 28], false⟩] h0 hm (tabEnv_ok (tab_cons (ok_l15Own k s.History[0] hb.1 (fun x hx => (hb.2 x hx).1)) tab_nil)) (by kernel_rfl) (by kernel_rfl) ?_
        simp
        subst hI
        refine Less_mk (m - 1) (by omega) ⟨0 + 1, by omega, ?_⟩
        rw [if_neg (by omega), hts, hA0 rfl]
        rfl
      · simp [hi0]
        refine drawP (tabEnv [] _) [⟨[.op 1 9 0], allD 31, true⟩, ⟨[.op 1 9 0], allD 31, true⟩, ⟨[], allD 31, true⟩, ⟨[], allD 31, false⟩, ⟨[.op 5 3 0], [22, 23, 24, 25, 26, 27, 28], false⟩, ⟨[.op 1 9 0, .op 5 3 0, .op 5 4 0, .op 5 5 0], [22, 23, 24, 25, 26, 27, 28], false⟩, ⟨[.op 1 9 0], allD 31, true⟩, ⟨[.op 1 9 0, .op 5 4 0, .op 5 5 0], [22, 23, 24, 25, 26, 27, 28], false⟩] h0 hm (tabEnv_ok (tab_cons (ok_l15Own k s.History[i] hb.1 (fun x hx => (hb.2 x hx).1)) tab_nil)) (by kernel_rfl) (by kernel_rfl) ?_
        have ht : A.take i = A := List.take_of_length_le (by omega)
        simp [hln, hb1, hb2, ht]
        subst hI
        refine Less_mk (m - 1) (by omega) ⟨i + 1, by omega, ?_⟩
        rw [if_neg (by omega), hts, wrNext i (by omega)]
    · simp at a
      have hin : i = s.History.length := by omega
      by_cases hi0 : i = 0
      · subst hi0
        have : s.History = [] := List.length_eq_zero_iff.1 hin.symm
        simp [this]
      · have hfin := hfin hin
        subst hin
        simp [hi0, hfin]
theorem law_sPlayOps (v0 : List GOp) (hw0 : wt_OpS v0 ≤ 1048576) : CallOK Try.prog 6 [.c (rd 0 v0.length (v0.flatMap (GOp.ci 0)))] (.tup [.agg (rPlayOps v0).1.co, .c (.sl 0 4 (rPlayOps v0).2.1.length ((rPlayOps v0).2.1.map pb)), .c (pb (rPlayOps v0).2.2)]) [.c (rd 0 v0.length (v0.flatMap (GOp.ci 0)))] := by
  have hl0 := len_wt_OpS v0
  refine okS (fn := Try.f6) [(18, [2,0])] h0 Try.func6 (by kernel_rfl) rfl Try.ntmps6 Try.results6 (by simp) ?_
  simp
  refine brn_app (fun a => ?_) (fun a => ?_)
  · simp at a
    have e : rPlayOps v0 = (zeroS, [], false) := by unfold rPlayOps; rw [if_neg (by omega)]
    rw [e]
    simp [zeroS]
  · simp at a
    have e : rPlayOps v0 = ((plS v0 v0.length).1, (plS v0 v0.length).2, true) := by unfold rPlayOps; rw [if_pos (by omega)]
    rw [e]
    simp
    refine Inv_intro ok_sNewStore ?_
    simp
    refine ewp_nil 6 (.op 11 3 0) 4 (by decide) rfl rfl rfl ?_
    refine loopS [2, 5, 6, 16, 17, 18] [.op 11 3 0, .op 0 0 0, .op 3 1 0] (fun n st => ∃ (i : Nat), i + n = v0.length ∧ st = ⟨slOf 39 [(2, .ptr ⟨.op 0 0 0, []⟩ 0), (5, .ptr ⟨.op 3 1 0, []⟩ 0), (6, .ref ⟨.op 11 3 0, []⟩ 0 i), (16, .t (rd 0 v0.length (v0.flatMap (GOp.ci 0)))), (17, .t (pi v0.length)), (18, .t (pi i))], ofL [(.op 11 3 0, .sl 0 4 i ((plS v0 i).2.map pb)), (.op 0 0 0, .sl 0 28 1 [.sl 0 nilE 0 [], .sl 0 nilE 0 [], .sl 0 nilE 0 [], pi 0]), (.op 3 1 0, .sl 0 28 1 (plS v0 i).1.co)]⟩) v0.length ?_ ?_
    · rintro Inv hI
      simp
      subst hI
      exact ⟨0, by omega, rfl⟩
    · rintro Inv hI n st ⟨i, hi, rfl⟩
      have hinv := plS_inv v0 i
      have hlen := plS_len v0 i (by omega)
      refine ewr_sound (M := [(18, [2, 0])]) h0 ?_
      by_cases c : i < v0.length
      · have hs := plS_succ v0 i c
        have hd := fm_drop (GOp.ci 0) 4 (fun _ => rfl) v0 i c
        have hfl := fm_len (GOp.ci 0) 4 (fun _ => rfl) v0
        have hlt : i * 4 < v0.length * 4 := by omega
        have ho := op_ok_mem hw0 (List.getElem_mem c)
        generalize plS v0 i = SD at hinv hlen hs ⊢
        obtain ⟨S, D⟩ := SD
        simp only at hinv hlen hs
        have hwt := invS_wt hinv
        have hag := step_agree v0[i] hinv
        obtain ⟨i1, i2, i3, i4, i5, i6⟩ := hinv
        simp [c, hd, hfl, hlt]
        refine drawP (tabEnv [(18, [2, 0])] _) [⟨[.op 3 1 0], allD 39, true⟩, ⟨[.op 3 1 0], allD 39, true⟩, ⟨[.op 7 2 0], allD 39, true⟩, ⟨[.op 8 1 0, .op 8 1 1, .op 8 1 2], [23, 24, 25, 26, 22, 27, 28, 9, 10], false⟩, ⟨[.op 8 3 0, .op 8 3 1, .op 8 3 2], allD 39, true⟩, ⟨[.op 8 3 0, .op 8 3 1, .op 8 3 2], allD 39, true⟩, ⟨[], allD 39, true⟩, ⟨[], allD 39, false⟩, ⟨[.op 8 7 0, .op 8 3 0, .op 8 3 1, .op 8 3 2], [23, 24, 25, 26, 22, 27, 28, 9, 10], false⟩, ⟨[], allD 39, true⟩] h0 hm (tabEnv_ok (tab_cons (ok_l16Own 0 S (wt_storeB hwt)) (tab_cons (ok_l16Step 0 S v0[i] (wt_storeB hwt) (fun e => by rw [e] at i3; simp at i3) i6 i4 ho) tab_nil))) (by kernel_rfl) (by kernel_rfl) ?_
        generalize stepSp S v0[i] = Y at hag ⊢
        obtain ⟨Y1, Y2⟩ := Y
        generalize stepI S v0[i] = X at hs hag
        obtain ⟨X1, X2⟩ := X
        simp only at hag hs
        obtain ⟨rfl, hag⟩ := hag
        simp
        have hb1 : (i + 1) * 1 ≤ 140737488355328 := by omega
        have hb2 : i ≤ 9223372036854775806 := by omega
        have hb3 : i ≤ 140737488355327 := by omega
        have hml : (D.map pb).length = i := by rw [List.length_map, hlen]
        have hmt : List.take i (D.map pb) = D.map pb := List.take_of_length_le (by omega)
        cases Y2 with
        | false =>
          simp [hlen, hb1, hb2, hb3, hml, hmt]
          subst hI
          refine Less_mk (n - 1) (by omega) ⟨i + 1, by omega, ?_⟩
          rw [wrNext i (by omega), hs]
          simp
        | true =>
          have hag := hag rfl
          subst hag
          simp [hlen, hb1, hb2, hb3, hml, hmt]
          subst hI
          refine Less_mk (n - 1) (by omega) ⟨i + 1, by omega, ?_⟩
          rw [wrNext i (by omega), hs]
          simp
      · have hil : i = v0.length := by omega
        have hmt : List.take i ((plS v0 i).2.map pb) = (plS v0 i).2.map pb := List.take_of_length_le (by rw [List.length_map]; omega)
        subst hil
        have hinv' := invS_wt hinv
        simp [hlen, hmt]
        refine Inv_intro (ok_l16Own 0 _ (wt_storeB hinv')) ?_
        simp [hlen, hmt]
def rTicksLeft (v0 : GStore) : Int × Bool := if goodS v0 = true then (v0.Left, true) else (0, false)
theorem law_iTicksLeft (v0 : GStore) (hw0 : GStore.wt v0 ≤ 1048576) : CallOK Try.prog 10 [.agg (GStore.ci 0 v0)] (.tup [.c (pi (rTicksLeft v0).1), .c (pb (rTicksLeft v0).2)]) [.agg (GStore.ci 0 v0)] := by
  refine okS (fn := Try.f10) [] h0 Try.func10 (by kernel_rfl) rfl Try.ntmps10 Try.results10 (by simp) ?_
  simp
  refine Inv_intro (ok_iGoodStore 0 v0 (store_ok hw0)) ?_
  simp
  cases c1 : goodS v0 <;> simp [rTicksLeft, c1]
theorem ok_FnCommit (code : List Int) (hc : codeOK code) : CallOK Try.prog 3 [.c (rd 1 code.length (code.map pu))] (.c (pb true)) [.c (rd 1 code.length (code.map pu))] := by
  obtain ⟨l, ⟨hl61, hlo⟩, hdraw⟩ := ok_DrawPlayOps code hc
  have hwt := opsD_wt hl61 hlo
  have hi := law_iPlayOps l hwt
  have hs := law_sPlayOps l hwt
  have hml : (l.flatMap GOp.co).length = l.length * 4 := fm_len GOp.co 4 (fun _ => rfl) l
  have hmt : List.take (l.length * 4) (l.flatMap GOp.co) = l.flatMap GOp.co := List.take_of_length_le (by omega)
  refine okE (fn := Try.f3) h0 Try.func3 (by kernel_rfl) rfl Try.ntmps3 Try.results3 (by simp) ?_
  refine ewrN_K (M := []) h0 10 ?_
  intro K hK
  simp
  by_cases hbig : code.length ≤ 1048576
  · have d1 : ¬ (1048576 : Int) < (code.length : Int) := by omega
    simp [d1]
    refine Inv_intro hdraw ?_
    simp [hml, hmt]
    refine Inv_intro hi ?_
    simp [hml, hmt]
    refine Inv_intro hs ?_
    by_cases h60 : l.length ≤ 60
    · have e : rPlayOps l = ((plS l l.length).1, (plS l l.length).2, true) := by unfold rPlayOps; rw [if_pos (by omega)]
      have hgood := plS_good l l.length
      have hblen := plS_len l l.length (Nat.le_refl _)
      rw [e]
      generalize plS l l.length = SD at hgood hblen ⊢
      obtain ⟨S, D⟩ := SD
      simp only at hgood hblen
      have hwS := invS_wt (goodS_inv hgood)
      have hsok := store_ok hwS
      have hmtD : List.take D.length (D.map pb) = D.map pb := List.take_of_length_le (by rw [List.length_map]; exact Nat.le_refl _)
      simp [hmtD]
      refine Inv_intro (ok_sameBools 0 0 D (by omega)) ?_
      simp
      refine Inv_intro (ok_sameStores 0 0 S hsok) ?_
      simp
      have hc1 := law_iConfirmedOf S hwS
      have hc2 := law_iTicksLeft S hwS
      have hc3 := ok_iGoodStore 0 S hsok
      rw [hgood] at hc3
      have e1 : rConfirmedOf S = (S.History.headD [], true) := by simp [rConfirmedOf, hgood]
      have e2 : rTicksLeft S = (S.Left, true) := by simp [rTicksLeft, hgood]
      rw [e1] at hc1
      rw [e2] at hc2
      obtain ⟨C, R, H, F⟩ := S
      obtain ⟨_, _, i3, _, _, i6⟩ := goodS_inv hgood
      obtain ⟨H0, H', rfl⟩ : ∃ x H', H = x :: H' := by
        cases H with
        | nil => simp at i3
        | cons x H' => exact ⟨x, H', rfl⟩
      simp only [List.headD_cons] at hc1 hc2
      refine Inv_intro hc1 ?_
      simp
      refine Inv_intro hc2 ?_
      simp
      refine Inv_intro hc3 ?_
      simp
      refine Inv_intro (ok_sameLeaves 0 0 H0 (hsok.2.2.2 H0 (List.mem_cons_self ..))) ?_
      simp
      refine hK _ ?_
      clear hK K hi hs hc1 hc2 hc3 e1 e2 e hdraw
      obtain ⟨J, rfl, hJ0⟩ := tickA_zero hgood
      rw [← hJ0] at hgood
      refine ewp_drop [4, 10] [.op 4 6 0, .op 10 1 0] ?_
      simp
      refine ewp_freezeD (.op 4 6 0) [2] [] rfl (e := 28) (n := 1) (cs := GStore.co ⟨C, R, H0 :: H', J⟩) (by simp) (by decide) ?_
      simp
      refine ewr_sound (M := []) h0 ?_
      simp [Code.rest]
      refine loopS [4, 10, 14, 15] [.op 4 6 0, .op 10 1 0, .op 14 1 0] (fun m st => ∃ (j : Nat) (cells : List PT), j + m = J ∧ (cells = GStore.ci 0 (tickA C R H0 H' J j) ∨ cells = (tickA C R H0 H' J j).co) ∧ st = ⟨slOf 160 [(4, .ptr ⟨.op 4 6 0, []⟩ 0), (10, .ref ⟨.op 10 1 0, []⟩ 0 H0.length), (14, .ptr ⟨.op 14 1 0, []⟩ 0), (15, .t (pi ((j : Int) + 1)))], ofL [(.op 4 6 0, .sl 0 28 1 (GStore.ci 0 ⟨C, R, H0 :: H', J⟩)), (.op 10 1 0, .sl 0 58 H0.length (H0.flatMap GLeaf.co)), (.op 14 1 0, .sl 0 28 1 cells)]⟩) J ?_ ?_
      · rintro Inv hI
        simp
        subst hI
        refine ⟨0, _, by omega, .inl ?_, rfl⟩
        rw [hJ0]
        rfl
      · rintro Inv hI m st ⟨j, cells, hj, hcells, rfl⟩
        refine ewr_sound (M := []) h0 ?_
        by_cases c : j < J
        · have c' : ((j : Int) + 1 ≤ (J : Int)) := by omega
          have hw2 : IntKind.wrap .i64 ((j : Int) + 1 + 1) = ((j + 1 : Nat) : Int) + 1 := by
            have := i6.2
            simp only at this
            rw [wrap64 (by omega) (by omega)]
            omega
          have tC : (tickA C R H0 H' J (j + 1)).Candidate = C := rfl
          by_cases cc : j + 1 < J
          · have tR : (tickA C R H0 H' J (j + 1)).Running = R := by unfold tickA; rw [if_neg (by omega)]
            have c2 : ((j : Int) + 1 < (J : Int)) := by omega
            have c3 : ¬ ((j : Int) + 1 = (J : Int)) := by omega
            rcases hcells with rfl | rfl
            · simp [c']
              refine Inv_intro (law_tick hgood j c) ?_
              simp [tC]
              refine Inv_intro (ok_sameLeaves 0 0 C hsok.1) ?_
              simp [tR, c2, c3]
              refine Inv_intro (ok_sameLeaves 0 0 R hsok.2.1) ?_
              simp [c2, c3]
              subst hI
              refine Less_mk (m - 1) (by omega) ⟨j + 1, _, by omega, .inr rfl, ?_⟩
              rw [hw2]
              simp [GStore.co, tR, tC]
            · simp [c']
              refine Inv_intro (law_tick hgood j c) ?_
              simp [tC]
              refine Inv_intro (ok_sameLeaves 0 0 C hsok.1) ?_
              simp [tR, c2, c3]
              refine Inv_intro (ok_sameLeaves 0 0 R hsok.2.1) ?_
              simp [c2, c3]
              subst hI
              refine Less_mk (m - 1) (by omega) ⟨j + 1, _, by omega, .inr rfl, ?_⟩
              rw [hw2]
              simp [GStore.co, tR, tC]
          · have tR : (tickA C R H0 H' J (j + 1)).Running = H0 := by unfold tickA; rw [if_pos (by omega)]
            have c2 : ¬ ((j : Int) + 1 < (J : Int)) := by omega
            have c3 : ((j : Int) + 1 = (J : Int)) := by omega
            rw [c3] at hw2
            rcases hcells with rfl | rfl
            · simp [c']
              refine Inv_intro (law_tick hgood j c) ?_
              simp [tC]
              refine Inv_intro (ok_sameLeaves 0 0 C hsok.1) ?_
              simp [tR, c2, c3]
              refine Inv_intro (ok_sameLeaves 0 0 H0 (hsok.2.2.2 H0 (List.mem_cons_self ..))) ?_
              simp [c2, c3]
              subst hI
              refine Less_mk (m - 1) (by omega) ⟨j + 1, _, by omega, .inr rfl, ?_⟩
              rw [hw2]
              simp [GStore.co, tR, tC]
            · simp [c']
              refine Inv_intro (law_tick hgood j c) ?_
              simp [tC]
              refine Inv_intro (ok_sameLeaves 0 0 C hsok.1) ?_
              simp [tR, c2, c3]
              refine Inv_intro (ok_sameLeaves 0 0 H0 (hsok.2.2.2 H0 (List.mem_cons_self ..))) ?_
              simp [c2, c3]
              subst hI
              refine Less_mk (m - 1) (by omega) ⟨j + 1, _, by omega, .inr rfl, ?_⟩
              rw [hw2]
              simp [GStore.co, tR, tC]
        · have c' : ¬ ((j : Int) + 1 ≤ (J : Int)) := by omega
          obtain rfl : j = J := by omega
          have tE : tickA C R H0 H' j j = ⟨C, H0, H0 :: H', 0⟩ := by unfold tickA; rw [if_pos rfl]; congr 1; omega
          have hlt := law_ticked hgood
          rw [tE] at hlt hcells
          have hsok2 : storeOK ⟨C, H0, H0 :: H', 0⟩ := ⟨hsok.1, hsok.2.2.2 H0 (List.mem_cons_self ..), hsok.2.2⟩
          have hss := ok_sameStores 0 0 ⟨C, H0, H0 :: H', 0⟩ hsok2
          rcases hcells with rfl | rfl
          · simp [c']
            refine Inv_intro hlt ?_
            simp
            refine Inv_intro hss ?_
            simp
            refine ThawedX_mk ?_
            simp
          · simp [c']
            refine Inv_intro hlt ?_
            simp
            refine Inv_intro hss ?_
            simp
            refine ThawedX_mk ?_
            simp
    · have e : rPlayOps l = (zeroS, [], false) := by unfold rPlayOps; rw [if_neg (by omega)]
      rw [e]
      simp
      refine Inv_intro (ok_sameBools 0 0 [] (by simp)) ?_
      simp
      refine Inv_intro (ok_sameStores 0 0 zeroS (by simp [storeOK, zeroS, confOK])) ?_
      simp
  · have d1 : (1048576 : Int) < (code.length : Int) := by omega
    simp [d1]
end Go.V
