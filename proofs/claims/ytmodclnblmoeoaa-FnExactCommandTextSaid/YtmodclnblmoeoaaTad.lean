/- What functions of the seat's program do, each proved of its code, under the bounds that its theorem names. -/
import Derived.Test.YtmodclnblmoeoaaTac
set_option linter.all false
namespace Go.V
open Go.Proofs
set_option maxHeartbeats 1000000
set_option maxRecDepth 10000
set_option linter.unusedSimpArgs false
set_option linter.unusedVariables false
theorem spAll_big (s : ByteArray) (hs : s.size ≤ 6) (l : List ByteArray) (hl : wt_StringS l ≤ 1048576) (i : Nat) : (spAll s (l.take i)).size ≤ 1048582 := by
  have h1 := spAll_size s (l.take i)
  have h2 : wt_StringS (l.take i) ≤ wt_StringS l := by
    have := List.take_append_drop i l
    conv => rhs; rw [← this]
    simp only [wt_StringS, wtR, List.map_append, List.length_append, List.sum_append]
    omega
  omega
theorem law_sCommandText (v0 : GCommand) (hw0 : GCommand.wt v0 ≤ 1048576) : CallOK Try.prog 16 [.agg (GCommand.ci 0 v0)] (.tup [.c (ps (rCommandText v0).1), .c (pb (rCommandText v0).2)]) [.agg (GCommand.ci 0 v0)] := by
  have hp : strsOK v0.Path := strs_ok (by unfold GCommand.wt at hw0; omega)
  have hv : v0.Value.size ≤ 140737488355328 := by unfold GCommand.wt at hw0; omega
  have hwp : wt_StringS v0.Path ≤ 1048576 := by unfold GCommand.wt at hw0; omega
  have hlen := len_wt_StringS v0.Path
  have hvs : v0.Value.size ≤ 1048576 := by unfold GCommand.wt at hw0; omega
  have q1 : (⟨#[32]⟩ : ByteArray).size = 1 := rfl
  refine okS (fn := Try.f16) [] h0 Try.func16 (by kernel_rfl) rfl Try.ntmps16 Try.results16 (by simp) ?_
  simp
  cases c1 : isP v0.Path with
  | false =>
    refine drawP (tabEnv [] _) [⟨[.op 0 0 0], allD 51, true⟩, ⟨[.op 0 0 0], allD 51, true⟩, ⟨[], allD 51, false⟩, ⟨[], allD 51, true⟩, ⟨[], allD 51, true⟩, ⟨[.op 0 0 0], allD 51, true⟩, ⟨[.op 0 0 0], allD 51, true⟩, ⟨[.op 0 0 0], allD 51, true⟩, ⟨[.op 0 0 0], allD 51, true⟩, ⟨[], allD 51, false⟩, ⟨[], allD 51, true⟩, ⟨[], allD 51, true⟩, ⟨[], allD 51, true⟩, ⟨[.op 0 0 0], allD 51, true⟩, ⟨[.op 0 0 0], allD 51, true⟩, ⟨[], allD 51, true⟩, ⟨[], allD 51, true⟩, ⟨[.op 0 0 0], allD 51, true⟩, ⟨[.op 0 0 0], allD 51, true⟩, ⟨[], allD 51, true⟩, ⟨[], allD 51, true⟩, ⟨[], allD 51, true⟩] h0 hm (tabEnv_ok (tab_cons (ok_l15Path 0 v0.Path hp.1 hp.2) tab_nil)) (by kernel_rfl) (by kernel_rfl) ?_
    simp [c1, rCommandText, goodCmd]
  | true =>
    have hpn : v0.Path ≠ [] := by
      intro e
      rw [e] at c1
      cases c1
    cases hs : v0.Set with
    | true =>
      cases c2 : isW v0.Value with
      | false =>
        refine drawP (tabEnv [] _) [⟨[.op 0 0 0], allD 51, true⟩, ⟨[.op 0 0 0], allD 51, true⟩, ⟨[], allD 51, false⟩, ⟨[], allD 51, true⟩, ⟨[], allD 51, true⟩, ⟨[.op 0 0 0], allD 51, true⟩, ⟨[.op 0 0 0], allD 51, true⟩, ⟨[.op 0 0 0], allD 51, true⟩, ⟨[.op 0 0 0], allD 51, true⟩, ⟨[], allD 51, false⟩, ⟨[], allD 51, true⟩, ⟨[], allD 51, true⟩, ⟨[], allD 51, true⟩, ⟨[.op 0 0 0], allD 51, true⟩, ⟨[.op 0 0 0], allD 51, true⟩, ⟨[], allD 51, true⟩, ⟨[], allD 51, true⟩, ⟨[.op 0 0 0], allD 51, true⟩, ⟨[.op 0 0 0], allD 51, true⟩, ⟨[], allD 51, true⟩, ⟨[], allD 51, true⟩, ⟨[], allD 51, true⟩] h0 hm (tabEnv_ok (tab_cons (ok_l15Path 0 v0.Path hp.1 hp.2) (tab_cons (ok_l15Word v0.Value hv) tab_nil))) (by kernel_rfl) (by kernel_rfl) ?_
        simp [c1, c2, hs, rCommandText, goodCmd]
      | true =>
        refine drawP (tabEnv [] _) [⟨[.op 0 0 0], allD 51, true⟩, ⟨[.op 0 0 0], allD 51, true⟩, ⟨[], allD 51, false⟩, ⟨[], allD 51, true⟩, ⟨[], allD 51, true⟩, ⟨[.op 0 0 0], allD 51, true⟩, ⟨[.op 0 0 0], allD 51, true⟩, ⟨[.op 0 0 0], allD 51, true⟩, ⟨[.op 0 0 0], allD 51, true⟩, ⟨[], allD 51, false⟩, ⟨[], allD 51, true⟩, ⟨[], allD 51, true⟩, ⟨[], allD 51, true⟩, ⟨[.op 0 0 0], allD 51, true⟩, ⟨[.op 0 0 0], allD 51, true⟩, ⟨[], allD 51, true⟩, ⟨[], allD 51, true⟩, ⟨[.op 0 0 0], allD 51, true⟩, ⟨[.op 0 0 0], allD 51, true⟩, ⟨[], allD 51, true⟩, ⟨[], allD 51, true⟩, ⟨[], allD 51, true⟩] h0 hm (tabEnv_ok (tab_cons (ok_l15Path 0 v0.Path hp.1 hp.2) (tab_cons (ok_l15Word v0.Value hv) tab_nil))) (by kernel_rfl) (by kernel_rfl) ?_
        simp [c1, c2, hs]
        refine loopS [1, 4, 32, 33, 34] [.op 0 0 0] (fun n st => ∃ (i : Nat), i + n = v0.Path.length ∧ st = ⟨slOf 51 [(1, .ptr ⟨.op 0 0 0, []⟩ 0), (4, .t (ps (spAll ⟨#[115, 101, 116]⟩ (v0.Path.take i)))), (32, .t (rd 0 v0.Path.length (v0.Path.map ps))), (33, .t (pi v0.Path.length)), (34, .t (pi i))], ofL [(.op 0 0 0, .sl 0 28 1 [pb true, rd 0 v0.Path.length (v0.Path.map ps), ps v0.Value])]⟩) v0.Path.length ?_ ?_
        · rintro Inv hI
          simp
          subst hI
          exact ⟨0, by omega, rfl⟩
        · rintro Inv hI n st ⟨i, hi, rfl⟩
          have hb := spAll_big ⟨#[115, 101, 116]⟩ (by decide) v0.Path hwp i
          have hS := spAll_snoc ⟨#[115, 101, 116]⟩ v0.Path i
          generalize hZ : spAll ⟨#[115, 101, 116]⟩ (v0.Path.take i) = Z at hb hS ⊢
          refine ewr_sound (M := []) h0 ?_
          simp
          refine brn_app (fun a => ?_) (fun a => ?_)
          · simp at a
            have hw := mem_wt_StringS (List.getElem_mem a)
            have z1 : (⟨#[32]⟩ : ByteArray).size + v0.Path[i].size ≤ 9223372036854775807 := by omega
            have z2 : Z.size + ((⟨#[32]⟩ : ByteArray).size + v0.Path[i].size) ≤ 9223372036854775807 := by omega
            have hS' := hS a
            simp [a, z1, z2]
            subst hI
            refine Less_mk (n - 1) (by omega) ⟨i + 1, by omega, ?_⟩
            rw [wrNext i (by omega), hS']
            rfl
          · simp at a
            have ht : List.take i v0.Path = v0.Path := List.take_of_length_le (by omega)
            rw [ht, spAll_join _ hpn] at hZ
            have z1 : (⟨#[32]⟩ : ByteArray).size + v0.Value.size ≤ 9223372036854775807 := by omega
            have z2 : Z.size + ((⟨#[32]⟩ : ByteArray).size + v0.Value.size) ≤ 9223372036854775807 := by omega
            have er : rCommandText v0 = (Z ++ (⟨#[32]⟩ ++ v0.Value), true) := by
              have : textC v0 = Z ++ (⟨#[32]⟩ ++ v0.Value) := by
                rw [← hZ]
                apply ba_ext
                simp [textC, hs, tSet]
              simp [rCommandText, goodCmd, c1, hs, c2, this]
            simp [z1, z2, er]
    | false =>
      have hwv : isW v0.Value = true → v0.Value ≠ ⟨#[]⟩ := isW_ne
      cases c2 : decide (v0.Value = ⟨#[]⟩) with
      | false =>
        simp at c2
        cases c3 : isW v0.Value with
        | false =>
          refine drawP (tabEnv [] _) [⟨[.op 0 0 0], allD 51, true⟩, ⟨[.op 0 0 0], allD 51, true⟩, ⟨[], allD 51, false⟩, ⟨[], allD 51, true⟩, ⟨[], allD 51, true⟩, ⟨[.op 0 0 0], allD 51, true⟩, ⟨[.op 0 0 0], allD 51, true⟩, ⟨[.op 0 0 0], allD 51, true⟩, ⟨[.op 0 0 0], allD 51, true⟩, ⟨[], allD 51, false⟩, ⟨[], allD 51, true⟩, ⟨[], allD 51, true⟩, ⟨[], allD 51, true⟩, ⟨[.op 0 0 0], allD 51, true⟩, ⟨[.op 0 0 0], allD 51, true⟩, ⟨[], allD 51, true⟩, ⟨[], allD 51, true⟩, ⟨[.op 0 0 0], allD 51, true⟩, ⟨[.op 0 0 0], allD 51, true⟩, ⟨[], allD 51, true⟩, ⟨[], allD 51, true⟩, ⟨[], allD 51, true⟩] h0 hm (tabEnv_ok (tab_cons (ok_l15Path 0 v0.Path hp.1 hp.2) (tab_cons (ok_l15Word v0.Value hv) tab_nil))) (by kernel_rfl) (by kernel_rfl) ?_
          simp [c1, c2, c3, hs, rCommandText, goodCmd]
        | true =>
          refine drawP (tabEnv [] _) [⟨[.op 0 0 0], allD 51, true⟩, ⟨[.op 0 0 0], allD 51, true⟩, ⟨[], allD 51, false⟩, ⟨[], allD 51, true⟩, ⟨[], allD 51, true⟩, ⟨[.op 0 0 0], allD 51, true⟩, ⟨[.op 0 0 0], allD 51, true⟩, ⟨[.op 0 0 0], allD 51, true⟩, ⟨[.op 0 0 0], allD 51, true⟩, ⟨[], allD 51, false⟩, ⟨[], allD 51, true⟩, ⟨[], allD 51, true⟩, ⟨[], allD 51, true⟩, ⟨[.op 0 0 0], allD 51, true⟩, ⟨[.op 0 0 0], allD 51, true⟩, ⟨[], allD 51, true⟩, ⟨[], allD 51, true⟩, ⟨[.op 0 0 0], allD 51, true⟩, ⟨[.op 0 0 0], allD 51, true⟩, ⟨[], allD 51, true⟩, ⟨[], allD 51, true⟩, ⟨[], allD 51, true⟩] h0 hm (tabEnv_ok (tab_cons (ok_l15Path 0 v0.Path hp.1 hp.2) (tab_cons (ok_l15Word v0.Value hv) tab_nil))) (by kernel_rfl) (by kernel_rfl) ?_
          simp [c1, c2, c3, hs, rCommandText, goodCmd]
      | true =>
        simp at c2
        have c3 : isW v0.Value = false := by rw [c2]; rfl
        refine drawP (tabEnv [] _) [⟨[.op 0 0 0], allD 51, true⟩, ⟨[.op 0 0 0], allD 51, true⟩, ⟨[], allD 51, false⟩, ⟨[], allD 51, true⟩, ⟨[], allD 51, true⟩, ⟨[.op 0 0 0], allD 51, true⟩, ⟨[.op 0 0 0], allD 51, true⟩, ⟨[.op 0 0 0], allD 51, true⟩, ⟨[.op 0 0 0], allD 51, true⟩, ⟨[], allD 51, false⟩, ⟨[], allD 51, true⟩, ⟨[], allD 51, true⟩, ⟨[], allD 51, true⟩, ⟨[.op 0 0 0], allD 51, true⟩, ⟨[.op 0 0 0], allD 51, true⟩, ⟨[], allD 51, true⟩, ⟨[], allD 51, true⟩, ⟨[.op 0 0 0], allD 51, true⟩, ⟨[.op 0 0 0], allD 51, true⟩, ⟨[], allD 51, true⟩, ⟨[], allD 51, true⟩, ⟨[], allD 51, true⟩] h0 hm (tabEnv_ok (tab_cons (ok_l15Path 0 v0.Path hp.1 hp.2) (tab_cons (ok_l15Word v0.Value hv) tab_nil))) (by kernel_rfl) (by kernel_rfl) ?_
        simp [c1, c2, isW_nil, hs]
        refine loopS [1, 4, 32, 33, 34] [.op 0 0 0] (fun n st => ∃ (i : Nat), i + n = v0.Path.length ∧ st = ⟨slOf 51 [(1, .ptr ⟨.op 0 0 0, []⟩ 0), (4, .t (ps (spAll ⟨#[100, 101, 108, 101, 116, 101]⟩ (v0.Path.take i)))), (32, .t (rd 0 v0.Path.length (v0.Path.map ps))), (33, .t (pi v0.Path.length)), (34, .t (pi i))], ofL [(.op 0 0 0, .sl 0 28 1 [pb false, rd 0 v0.Path.length (v0.Path.map ps), ps ⟨#[]⟩])]⟩) v0.Path.length ?_ ?_
        · rintro Inv hI
          simp
          subst hI
          exact ⟨0, by omega, rfl⟩
        · rintro Inv hI n st ⟨i, hi, rfl⟩
          have hb := spAll_big ⟨#[100, 101, 108, 101, 116, 101]⟩ (by decide) v0.Path hwp i
          have hS := spAll_snoc ⟨#[100, 101, 108, 101, 116, 101]⟩ v0.Path i
          generalize hZ : spAll ⟨#[100, 101, 108, 101, 116, 101]⟩ (v0.Path.take i) = Z at hb hS ⊢
          refine ewr_sound (M := []) h0 ?_
          simp
          refine brn_app (fun a => ?_) (fun a => ?_)
          · simp at a
            have hw := mem_wt_StringS (List.getElem_mem a)
            have z1 : (⟨#[32]⟩ : ByteArray).size + v0.Path[i].size ≤ 9223372036854775807 := by omega
            have z2 : Z.size + ((⟨#[32]⟩ : ByteArray).size + v0.Path[i].size) ≤ 9223372036854775807 := by omega
            have hS' := hS a
            simp [a, z1, z2]
            subst hI
            refine Less_mk (n - 1) (by omega) ⟨i + 1, by omega, ?_⟩
            rw [wrNext i (by omega), hS']
            rfl
          · simp at a
            have ht : List.take i v0.Path = v0.Path := List.take_of_length_le (by omega)
            rw [ht, spAll_join _ hpn] at hZ
            have er : rCommandText v0 = (Z, true) := by
              have : textC v0 = Z := by
                rw [← hZ]
                apply ba_ext
                simp [textC, hs, tDel]
              simp [rCommandText, goodCmd, c1, hs, c2, this]
            simp [er]
theorem ok_eqStringS (k k' : Nat) (xs ys : List ByteArray) (ha : lens_StringS xs) (hb : lens_StringS ys) : CallOK Try.prog 27 [.c (rd k xs.length (xs.map ps)), .c (rd k' ys.length (ys.map ps))] (.c (pb (decide (xs = ys)))) [.c (rd k xs.length (xs.map ps)), .c (rd k' ys.length (ys.map ps))] := by
  obtain ⟨ha, hax⟩ := ha
  obtain ⟨hb, hbx⟩ := hb
  refine okS (fn := Try.f27) [] h0 Try.func27 (by kernel_rfl) rfl Try.ntmps27 Try.results27 (by simp) ?_
  simp
  refine brn_app (fun h => ?_) (fun h => ?_)
  · simp at h
    simp
    rintro rfl
    exact h rfl
  · simp at h
    have hl : ys.length = xs.length := by omega
    simp
    refine loopS [0, 1, 5] [] (fun n st => ∃ (i : Nat), i + n = xs.length ∧ (xs.drop i = ys.drop i ↔ xs = ys) ∧ st = ⟨slOf 26 [(0, .t (rd k xs.length (xs.map ps))), (1, .t (rd k' ys.length (ys.map ps))), (5, .t (pi i))], ofL []⟩) xs.length ?_ ?_
    · rintro Inv hI
      simp
      subst hI
      exact ⟨0, by omega, by simp, rfl⟩
    · rintro Inv hI n st ⟨i, hi, htk, rfl⟩
      refine ewr_sound (M := []) h0 ?_
      simp
      refine brn_app (fun h => ?_) (fun h => ?_)
      · simp at h
        have hib : i < ys.length := by omega
        rw [drop_step xs i h, drop_step ys i hib, List.cons.injEq] at htk
        simp
        refine drawP E0 [⟨[], allD 26, true⟩, ⟨[], allD 26, true⟩, ⟨[], allD 26, true⟩, ⟨[], allD 26, true⟩, ⟨[], allD 26, true⟩, ⟨[], allD 26, true⟩, ⟨[], allD 26, true⟩, ⟨[], allD 26, true⟩, ⟨[], allD 26, true⟩] h0 hm (E0_ok _) (by kernel_rfl) (by kernel_rfl) ?_
        simp [h, hib]
        refine brn_app (fun h2 => ?_) (fun h2 => ?_)
        · simp at h2
          simp
          intro he
          exact h2 (htk.2 he).1
        · simp at h2
          simp
          subst hI
          exact Less_mk (n - 1) (by omega) ⟨i + 1, by omega, ⟨fun h4 => htk.1 ⟨h2, h4⟩, fun h4 => (htk.2 h4).2⟩, by rw [wrNext i (by omega)]⟩
      · simp at h
        rw [List.drop_of_length_le (by omega), List.drop_of_length_le (by omega)] at htk
        simp
        exact htk.1 rfl
theorem ok_eqCommand (k k' : Nat) (x y : GCommand) (ha : GCommand.lens x) (hb : GCommand.lens y) : CallOK Try.prog 19 [.agg (GCommand.ci k x), .agg (GCommand.ci k' y)] (.c (pb (decide (x = y)))) [.agg (GCommand.ci k x), .agg (GCommand.ci k' y)] := by
  simp only [GCommand.lens] at ha hb
  refine okS (fn := Try.f19) [] h0 Try.func19 (by kernel_rfl) rfl Try.ntmps19 Try.results19 (by simp) ?_
  simp
  refine brn_app (fun a0 => ?_) (fun a0 => ?_)
  · simp at a0
    simp
    rintro rfl
    exact a0 rfl
  · simp at a0
    simp
    refine Inv_intro (ok_eqStringS k k' x.Path y.Path (ha) (hb)) ?_
    simp
    refine brn_app (fun a1 => ?_) (fun a1 => ?_)
    · simp at a1
      simp
      rintro rfl
      exact a1 rfl
    · simp at a1
      simp
      refine brn_app (fun a2 => ?_) (fun a2 => ?_)
      · simp at a2
        simp
        rintro rfl
        exact a2 rfl
      · simp at a2
        simp
        cases x
        cases y
        simp_all
theorem ok_szStringS (k : Nat) (xs : List ByteArray) (left : Int) (h1 : 0 ≤ left) (h2 : left ≤ 1048576) (hf : fits_StringS xs) : CallOK Try.prog 21 [.c (rd k xs.length (xs.map ps)), .c (pi left)] (.c (pi (szr left (wt_StringS xs)))) [.c (rd k xs.length (xs.map ps)), .c (pi left)] := by
  obtain ⟨hl, hx⟩ := hf
  refine okS (fn := Try.f21) [] h0 Try.func21 (by kernel_rfl) rfl Try.ntmps21 Try.results21 (by simp) ?_
  have hw : IntKind.wrap .i64 (left - xs.length) = left - xs.length := wrap64 (by omega) (by omega)
  have hwl := len_wt_StringS xs
  simp [hw]
  refine brn_app (fun h => ?_) (fun h => ?_)
  · simp at h
    have e1 : szr left (wt_StringS xs) = -1 := szr_neg (by omega)
    simp [e1]
  · simp at h
    simp
    refine loopS [0, 1, 5] [] (fun n st => ∃ (i : Nat) (m : Int), i + n = xs.length ∧ 0 ≤ m ∧ m ≤ 1048576 ∧ szr m (((xs.drop i).map ByteArray.size).sum) = szr left (wt_StringS xs) ∧ st = ⟨slOf 28 [(0, .t (rd k xs.length (xs.map ps))), (1, .t (pi m)), (5, .t (pi i))], ofL []⟩) xs.length ?_ ?_
    · rintro Inv hI
      simp
      subst hI
      exact ⟨0, left - xs.length, by omega, by omega, by omega, by rw [List.drop_zero, wt_StringS, wtR, szr_add (by omega)], rfl⟩
    · rintro Inv hI n st ⟨i, m, hi, hm1, hm2, hg, rfl⟩
      refine ewr_sound (M := []) h0 ?_
      simp
      refine brn_app (fun h3 => ?_) (fun h3 => ?_)
      · simp at h3
        have hxi := hx xs[i] (List.getElem_mem h3)
        rw [drop_step xs i h3, List.map_cons, List.sum_cons] at hg
        have hw2 : IntKind.wrap .i64 (m - xs[i].size) = m - xs[i].size := wrap64 (by omega) (by omega)
        simp [h3, hw2]
        refine brn_app (fun h4 => ?_) (fun h4 => ?_)
        · simp at h4
          rw [szr_add_neg (by omega)] at hg
          simp [← hg]
        · simp at h4
          rw [szr_add (by omega)] at hg
          simp
          subst hI
          exact Less_mk (n - 1) (by omega) ⟨i + 1, m - xs[i].size, by omega, by omega, by omega, hg, by rw [wrNext i (by omega)]⟩
      · simp at h3
        rw [List.drop_of_length_le (by omega), List.map_nil, List.sum_nil, szr_zero hm1] at hg
        simp [hg]
theorem ok_szCommand (k : Nat) (x : GCommand) (left : Int) (h1 : 0 ≤ left) (h2 : left ≤ 1048576) (hf : GCommand.fits x) : CallOK Try.prog 15 [.agg (GCommand.ci k x), .c (pi left)] (.c (pi (szr left (GCommand.wt x)))) [.agg (GCommand.ci k x), .c (pi left)] := by
  simp only [GCommand.fits] at hf
  obtain ⟨hf0, hf1⟩ := hf
  refine okS (fn := Try.f15) [] h0 Try.func15 (by kernel_rfl) rfl Try.ntmps15 Try.results15 (by simp) ?_
  simp
  refine Inv_intro (ok_szStringS k x.Path (left) (by omega) (by omega) hf0) ?_
  simp
  refine brn_app (fun a0 => ?_) (fun a0 => ?_)
  · simp at a0
    have b0 := szr_lt0 a0 (by omega)
    have e : szr left (GCommand.wt x) = -1 := szr_neg (by unfold GCommand.wt; omega)
    simp [e]
  · simp at a0
    have b0 := szr_ge0 a0
    have e0 := szr_ge b0
    simp only [e0]
    have hw1 : IntKind.wrap .i64 (left - (wt_StringS x.Path : Nat) - x.Value.size) = left - (wt_StringS x.Path : Nat) - x.Value.size := wrap64 (by omega) (by omega)
    simp [hw1]
    refine brn_app (fun a1 => ?_) (fun a1 => ?_)
    · simp at a1
      have e : szr left (GCommand.wt x) = -1 := szr_neg (by unfold GCommand.wt; omega)
      simp [e]
    · simp at a1
      have e : szr left (GCommand.wt x) = left - (wt_StringS x.Path : Nat) - x.Value.size := by
        rw [szr_ge (by unfold GCommand.wt; omega)]
        unfold GCommand.wt
        omega
      simp [e]
theorem ok_toStringS (k : Nat) (xs : List ByteArray) (hwt : wt_StringS xs ≤ 1048576) : CallOK Try.prog 24 [.c (rd k xs.length (xs.map ps))] (.c (.sl 0 9 xs.length (xs.map ps))) [.c (rd k xs.length (xs.map ps))] := by
  have hl := len_wt_StringS xs
  refine okS (fn := Try.f24) [] h0 Try.func24 (by kernel_rfl) rfl Try.ntmps24 Try.results24 (by simp) ?_
  have hb1 : (xs.length : Int) ≤ 281474976710656 := by omega
  have hb2 : 16 * (xs.length : Int) ≤ 281474976710656 := by omega
  simp [hb1, hb2]
  refine loopS [0, 3, 4] [.op 1 2 0] (fun n st => ∃ (i : Nat), i + n = xs.length ∧ st = ⟨slOf 22 [(0, .t (rd k xs.length (xs.map ps))), (3, .ref ⟨.op 1 2 0, []⟩ 0 xs.length), (4, .t (pi i))], ofL [(.op 1 2 0, .sl 0 9 xs.length (((xs.take i).map ps) ++ List.replicate n (.raw (.string ByteArray.empty))))]⟩) xs.length ?_ ?_
  · rintro Inv hI
    simp
    subst hI
    exact ⟨0, by omega, by simp⟩
  · rintro Inv hI n st ⟨i, hi, rfl⟩
    have hA := map_take_len ps xs i (by omega)
    generalize hAe : ((xs.take i).map ps) = A at hA ⊢
    refine ewr_sound (M := []) h0 ?_
    simp
    refine brn_app (fun h => ?_) (fun h => ?_)
    · simp at h
      obtain ⟨m, rfl⟩ : ∃ m, n = m + 1 := ⟨n - 1, by omega⟩
      simp [h, hA, List.replicate_succ]
      have e3 : ((xs.take (i + 1)).map ps) = A ++ [ps xs[i]] := by rw [take_step xs i h, List.map_append, hAe]; rfl
      subst hI
      refine Less_mk m (by omega) ⟨i + 1, by omega, ?_⟩
      rw [wrNext i (by omega), e3, List.append_assoc]
      all_goals rfl
    · simp at h
      have hn : n = 0 := by omega
      subst hn
      have ht : List.take i xs = xs := List.take_of_length_le (by omega)
      have ht2 : List.take (xs.length) (xs.map ps) = (xs.map ps) := List.take_of_length_le (by simp)
      rw [← hAe, ht]
      simp [ht2]
theorem ok_toCommand (k : Nat) (x : GCommand) (hwt : GCommand.wt x ≤ 1048576) : CallOK Try.prog 17 [.agg (GCommand.ci k x)] (.agg (GCommand.co x)) [.agg (GCommand.ci k x)] := by
  unfold GCommand.wt at hwt
  refine okS (fn := Try.f17) [] h0 Try.func17 (by kernel_rfl) rfl Try.ntmps17 Try.results17 (by simp) ?_
  simp
  refine Inv_intro (ok_toStringS k x.Path (by omega)) ?_
  simp
theorem ok_FnExactCommandText (v0 : GCommand) (f0 : GCommand.fits v0) : CallOK Try.prog 3 [.agg (GCommand.ci 1 v0)] (.c (pb true)) [.agg (GCommand.ci 1 v0)] := by
  refine okS (fn := Try.f3) [] h0 Try.func3 (by kernel_rfl) rfl Try.ntmps3 Try.results3 (by simp) ?_
  simp
  refine Inv_intro (ok_szCommand 1 v0 _ (by omega) (by omega) f0) ?_
  simp
  refine brn_app (fun b0 => ?_) (fun b0 => ?_)
  · simp
  · simp at b0
    have e0 := szr_ge (szr_ge0 b0)
    have d0 := szr_ge0 b0
    simp
    have hv0 : GCommand.wt v0 ≤ 1048576 := by omega
    have hlp0 : GCommand.lens v0 := lens_of_Command hv0
    have hcp0 := cn_le_Command v0
    refine Inv_intro (ok_toCommand 1 v0 hv0) ?_
    simp
    refine Inv_intro (law_sCommandText v0 hv0) ?_
    simp
    refine Inv_intro (ok_toCommand 1 v0 hv0) ?_
    simp
    refine Inv_intro (law_iCommandText v0 hv0) ?_
    simp
    refine drawP (tabEnv [] _) [⟨[.op 6 2 0], allD 40, true⟩, ⟨[.op 0 0 0], allD 40, true⟩, ⟨[], allD 40, false⟩, ⟨[.op 6 2 0, .op 10 2 1], [35, 36, 37, 38, 39], false⟩, ⟨[], allD 40, true⟩] h0 hm (tabEnv_ok (tab_cons (ok_toCommand 1 v0 hv0) (tab_cons (ok_eqCommand 0 0 (v0) (v0) hlp0 hlp0) tab_nil))) (by kernel_rfl) (by kernel_rfl) ?_
    simp
end Go.V
