/- What functions of the seat's program do, each proved of its code, under the bounds that its theorem names. -/
import Derived.Test.YtildjkidohpmbaaTad
set_option linter.all false
namespace Go.V
open Go.Proofs
set_option maxHeartbeats 1000000
set_option maxRecDepth 10000
set_option linter.unusedSimpArgs false
set_option linter.unusedVariables false
theorem ok_l17Save (d : GDisk) (text : ByteArray) (n m : Nat) (hd : okD d m) (hm' : m ≤ 1000000) (hn : n ≤ 7) (ht : text.size ≤ 140737488351232) : CallOK Try.prog 51 [.agg d.co, .c (ps text), .c (pi n)] (.tup [.agg (if (saveL d text n).2 = true then (saveL d text n).1.co else d.co), .c (pb (saveL d text n).2)]) [.agg [.hole, .hole], .c (ps text), .c (pi n)] := by
  refine okS (fn := Try.f51) [(97, [2])] h0 Try.func51 (by kernel_rfl) rfl Try.ntmps51 Try.results51 (by simp) ?_
  simp
  refine Inv_intro (ok_l17Plan 0 d text hd.1 (fun s hs => by have := hd.2.1 s hs; omega) ht) ?_
  have hpl := @okPl_plan d.Sectors text
  have hsl : saveL d text n = if (planL d.Sectors text).2 = true then (saveN (planL d.Sectors text).1 d n, true) else (⟨[], []⟩, false) := rfl
  generalize hP : planL d.Sectors text = P at *
  obtain ⟨pl, okp⟩ := P
  simp
  cases okp with
  | false =>
    have hsl : saveL d text n = (⟨[], []⟩, false) := by rw [hsl]; rfl
    simp [hsl]
  | true =>
    have hpl : okPl pl := hpl rfl
    have hsl : saveL d text n = (saveN pl d n, true) := by rw [hsl]; rfl
    rw [hsl]
    simp
    refine loopS [2, 3, 6, 8, 10] [.op 0 0 0, .op 0 1 0, .op 1 2 0] (fun q st => ∃ (i : Nat), i + q = n ∧ st = ⟨slOf 51 [(2, .t (pi n)), (3, .ptr ⟨.op 0 0 0, []⟩ 0), (6, .ptr ⟨.op 0 1 0, []⟩ 0), (8, .ref ⟨.op 1 2 0, []⟩ 0 pl.length), (10, .t (pi i))], ofL [(.arg 0 0, .hole), (.arg 0 1, .hole), (.op 0 0 0, .sl 0 29 1 (saveN pl d i).co), (.op 0 1 0, .sl 0 29 1 [.sl 0 nilE 0 [], .sl 0 nilE 0 []]), (.op 1 2 0, .sl 0 43 pl.length (pl.flatMap GWrite.c))]⟩) n ?_ ?_
    · rintro Inv hI
      simp
      subst hI
      exact ⟨0, by omega, rfl⟩
    · rintro Inv hI q st ⟨i, hi, rfl⟩
      have hpl5 := hpl.1
      refine ewr_sound (M := [(97, [2])]) h0 ?_
      simp
      refine brn_app (fun a => ?_) (fun a => ?_)
      · simp at a
        have hok := okD_save hpl hd i
        have hs : saveN pl d (i + 1) = stepS pl (saveN pl d i) i := rfl
        simp
        generalize hD : saveN pl d i = D at *
        obtain ⟨o1, o2, o3, o4⟩ := hok
        have hWl := fm_len GWrite.c 2 (fun _ => rfl) D.Waiting
        have hWt : List.take (D.Waiting.length * 2) (D.Waiting.flatMap GWrite.c) = D.Waiting.flatMap GWrite.c := List.take_of_length_le (by omega)
        have b1 : (D.Waiting.length + 1) * 24 ≤ 140737488355328 := by omega
        have b2 : D.Waiting.length + 1 ≤ 9223372036854775807 := by omega
        by_cases c1 : i < 4
        · have c1' : (i : Int) < 4 := by omega
          have hat := plAt_get pl i (by omega)
          have e : saveN pl d (i + 1) = addW D (plAt pl i) := by rw [hs, stepS, if_pos c1]
          have hdr := fm_drop GWrite.c 2 (fun _ => rfl) pl i (by omega)
          have hlen := fm_len GWrite.c 2 (fun _ => rfl) pl
          have hlt : i * 2 < pl.length * 2 := by omega
          have hil : i < pl.length := by omega
          have hlt2 : i * 2 + 2 ≤ pl.length * 2 := by omega
          simp [c1, c1']
          refine drawP (tabEnv [] _) [⟨[.op 0 0 0], allD 51, true⟩, ⟨[.op 0 0 0], allD 51, true⟩, ⟨[.op 1 2 0], allD 51, true⟩, ⟨[], allD 51, true⟩, ⟨[.op 1 2 0], allD 51, true⟩, ⟨[.op 1 2 0], allD 51, true⟩, ⟨[.op 9 6 0], [30, 31, 32, 33, 34, 35, 36, 37, 38], false⟩, ⟨[.op 0 0 0, .op 9 6 0, .op 9 7 0], [30, 31, 32, 33, 34, 35, 36, 37, 38], false⟩, ⟨[.op 0 0 0], allD 51, true⟩, ⟨[.op 0 0 0, .op 9 7 0], [30, 31, 32, 33, 34, 35, 36, 37, 38], false⟩] h0 hm (tabEnv_ok tab_nil) (by kernel_rfl) (by kernel_rfl) ?_
          simp [hil, hdr, hlen, hlt, hlt2, hWl, hWt, b1, b2]
          subst hI
          refine Less_mk (q - 1) (by omega) ⟨i + 1, by omega, ?_⟩
          rw [e, hat, ofL_mv 2 _ _ _ rfl, wrNext i (by omega), addW_co]
          rfl
        · by_cases c2 : i = 5
          · subst c2
            have hat := plAt_get pl 4 (by omega)
            have e : saveN pl d (5 + 1) = addW D (plAt pl 4) := by rw [hs, stepS, if_neg c1, if_pos rfl]
            have hdr := fm_drop GWrite.c 2 (fun _ => rfl) pl 4 (by omega)
            have hlen := fm_len GWrite.c 2 (fun _ => rfl) pl
            have h4 : 4 < pl.length := by omega
            have h4' : 10 ≤ pl.length * 2 := by omega
            have h4'' : 8 < pl.length * 2 := by omega
            have h4i : (4 : Int) < pl.length := by omega
            simp at hdr
            simp
            refine drawP (tabEnv [] _) [⟨[.op 0 0 0], allD 51, true⟩, ⟨[.op 0 0 0], allD 51, true⟩, ⟨[.op 1 2 0], allD 51, true⟩, ⟨[.op 1 2 0], allD 51, true⟩, ⟨[.op 1 2 0], allD 51, true⟩, ⟨[.op 11 5 0], [42, 43, 44, 45, 46, 47, 48, 49], false⟩, ⟨[.op 0 0 0, .op 11 5 0, .op 11 6 0], [42, 43, 44, 45, 46, 47, 48, 49], false⟩, ⟨[.op 0 0 0], allD 51, true⟩, ⟨[.op 0 0 0, .op 11 6 0], [42, 43, 44, 45, 46, 47, 48, 49], false⟩] h0 hm (tabEnv_ok tab_nil) (by kernel_rfl) (by kernel_rfl) ?_
            simp [h4, h4', h4'', h4i, hdr, hlen, hWl, hWt, b1, b2]
            subst hI
            refine Less_mk (q - 1) (by omega) ⟨5 + 1, by omega, ?_⟩
            rw [e, hat, ofL_mv 2 _ _ _ rfl, addW_co]
            rfl
          · have c1' : ¬ (i : Int) < 4 := by omega
            have c2' : ¬ (i : Int) = 5 := by omega
            have e : saveN pl d (i + 1) = synced D := by rw [hs, stepS, if_neg c1, if_neg c2]
            simp [c1, c1', c2, c2']
            refine Inv_intro (ok_l17Sync D (by omega) (by omega) (fun w hw => by rw [o1]; exact (o4 w hw).1)) ?_
            simp
            subst hI
            refine Less_mk (q - 1) (by omega) ⟨i + 1, by omega, ?_⟩
            rw [e, wrNext i (by omega)]
            rfl
      · simp at a
        have : i = n := by omega
        subst this
        simp
theorem ok_l1In (n lo hi : Int) : CallOK Try.prog 50 [.c (pi n), .c (pi lo), .c (pi hi)] (.c (pb (decide (lo ≤ n ∧ n ≤ hi)))) [.c (pi n), .c (pi lo), .c (pi hi)] := by
  refine okS (fn := Try.f50) [] h0 Try.func50 (by kernel_rfl) rfl Try.ntmps50 Try.results50 (by simp) ?_
  simp
  refine gT (fun h => ?_) (fun h => ?_) <;> simp [h]
theorem ok_sGoodDisk (k : Nat) (d : GDisk) (h1 : d.Sectors.length ≤ 140737488351232) (h2 : d.Waiting.length ≤ 140737488351232) : CallOK Try.prog 23 [.agg (d.ci k)] (.c (pb (goodDisk d))) [.agg (d.ci k)] := by
  refine okS (fn := Try.f23) [] h0 Try.func23 (by kernel_rfl) rfl Try.ntmps23 Try.results23 (by simp) ?_
  simp
  refine loopS [1, 8, 9, 10] [.op 0 0 0] (fun n st => ∃ (i : Nat), i + n = d.Sectors.length ∧ (d.Sectors.drop i).all (fun s => decide (s.size ≤ 20)) = d.Sectors.all (fun s => decide (s.size ≤ 20)) ∧ st = ⟨slOf 46 [(1, .ptr ⟨.op 0 0 0, []⟩ 0), (8, .t (rd k d.Sectors.length (d.Sectors.map ps))), (9, .t (pi d.Sectors.length)), (10, .t (pi i))], ofL [(.op 0 0 0, .sl 0 29 1 (d.ci k))]⟩) d.Sectors.length ?_ ?_
  · rintro Inv hI
    simp
    subst hI
    exact ⟨0, by omega, rfl, rfl⟩
  · rintro Inv hI n st ⟨i, hi, hall, rfl⟩
    refine ewr_sound (M := []) h0 ?_
    simp
    refine brn_app (fun h => ?_) (fun h => ?_)
    · simp at h
      rw [drop_step _ i h, List.all_cons] at hall
      simp [h]
      refine brn_app (fun a => ?_) (fun a => ?_)
      · simp
        simp at a
        have a' : ¬ (d.Sectors[i].size ≤ 20) := by omega
        rw [decide_eq_false a', Bool.false_and] at hall
        simp [goodDisk, ← hall]
      · simp
        simp at a
        have a' : d.Sectors[i].size ≤ 20 := by omega
        rw [decide_eq_true a', Bool.true_and] at hall
        subst hI
        exact Less_mk (n - 1) (by omega) ⟨i + 1, by omega, hall, by rw [wrNext i (by omega)]; rfl⟩
    · simp at h
      rw [List.drop_of_length_le (by omega), List.all_nil] at hall
      simp
      refine loopS [1, 19, 20, 21] [.op 0 0 0] (fun n st => ∃ (i : Nat), i + n = d.Waiting.length ∧ (d.Waiting.drop i).all okWrite = d.Waiting.all okWrite ∧ st = ⟨slOf 46 [(1, .ptr ⟨.op 0 0 0, []⟩ 0), (19, .t (rd k d.Waiting.length (d.Waiting.flatMap GWrite.c))), (20, .t (pi d.Waiting.length)), (21, .t (pi i))], ofL [(.op 0 0 0, .sl 0 29 1 (d.ci k))]⟩) d.Waiting.length ?_ ?_
      · rintro Inv hI
        simp
        subst hI
        exact ⟨0, by omega, rfl, rfl⟩
      · rintro Inv hI n st ⟨i, hi, hall2, rfl⟩
        refine ewr_sound (M := []) h0 ?_
        simp
        refine brn_app (fun h => ?_) (fun h => ?_)
        · simp at h
          rw [drop_step _ i h, List.all_cons] at hall2
          have hd := fm_drop GWrite.c 2 (fun _ => rfl) d.Waiting i h
          have hlt : i * 2 < d.Waiting.length * 2 := by omega
          simp [h, hd, hlt]
          refine Inv_intro (ok_l1In _ _ _) ?_
          simp
          refine gF (fun a => ?_) (fun a => ?_)
          · simp [a]
            refine brn_app (fun b => ?_) (fun b => ?_)
            · simp
              simp at a b
              have hw : okWrite d.Waiting[i] = false := by simp [okWrite]; omega
              rw [hw, Bool.false_and] at hall2
              simp [goodDisk, ← hall2]
            · simp
              simp at a b
              have hw : okWrite d.Waiting[i] = true := by simp [okWrite]; omega
              rw [hw, Bool.true_and] at hall2
              subst hI
              exact Less_mk (n - 1) (by omega) ⟨i + 1, by omega, hall2, by rw [wrNext i (by omega)]; rfl⟩
          · simp [a]
            simp at a
            have hw : okWrite d.Waiting[i] = false := by simp [okWrite]; omega
            rw [hw, Bool.false_and] at hall2
            simp [goodDisk, ← hall2]
        · simp at h
          rw [List.drop_of_length_le (by omega), List.all_nil] at hall2
          simp
          refine gT (fun a => ?_) (fun a => ?_)
          · simp [a]
            simp at a
            have c1 : d.Sectors.length = 10 := by omega
            rw [goodDisk, ← hall, ← hall2]
            simp [c1]
            omega
          · simp [a]
            simp at a
            have c1 : ¬ d.Sectors.length = 10 := by omega
            simp [goodDisk, c1]
def rSaveTo (d : GDisk) (text : ByteArray) (n : Int) : GDisk × Bool := if goodDisk d = true ∧ d.Waiting.length = 0 ∧ 0 ≤ n ∧ n ≤ 7 then saveL d text n.toNat else (⟨[], []⟩, false)
theorem good_okD {d : GDisk} (h : goodDisk d = true) : okD d 40 := by
  obtain ⟨h1, h2, h3⟩ := good_at h
  refine ⟨h1, (goodDisk_secs h).2, h2, fun w hw => ?_⟩
  have h4 := h3 w hw
  rw [h1] at h4
  refine ⟨h4, ?_⟩
  simp only [goodDisk, Bool.and_eq_true, decide_eq_true_eq, List.all_eq_true, okWrite] at h
  exact (h.2 w hw).2
theorem okD_wt {d : GDisk} {m : Nat} (h : okD d m) (hm : m ≤ 1000) : GDisk.lens d ∧ GDisk.cnT d ≤ 1152921504606846976 := by
  obtain ⟨a, b, c, e⟩ := h
  have h1 := cn_len_StringS d.Sectors
  have h2 := cn_len_WriteS d.Waiting
  refine ⟨⟨⟨by omega, fun _ _ => trivial⟩, ⟨by omega, fun _ _ => trivial⟩⟩, ?_⟩
  unfold GDisk.cnT
  omega
theorem nil_wt : GDisk.lens ⟨[], []⟩ ∧ GDisk.cnT ⟨[], []⟩ ≤ 1152921504606846976 := by
  have h1 := cn_len_StringS []
  have h2 := cn_len_WriteS []
  refine ⟨⟨⟨Nat.zero_le _, fun _ _ => trivial⟩, ⟨Nat.zero_le _, fun _ _ => trivial⟩⟩, ?_⟩
  unfold GDisk.cnT
  simp only [List.length_nil] at h1 h2
  simp only
  omega
theorem rSaveTo_ok (v0 : GDisk) (v1 : ByteArray) (v2 : Int) (hw0 : v0.wt ≤ 1048576) (hw1 : v1.size ≤ 1048576) : GDisk.lens (rSaveTo v0 v1 v2).1 ∧ GDisk.cnT (rSaveTo v0 v1 v2).1 ≤ 1152921504606846976 := by
  unfold rSaveTo
  split
  · rename_i h
    unfold saveL
    split
    · rename_i hp
      exact okD_wt (okD_save (okPl_plan hp) (good_okD h.1) v2.toNat) (by omega)
    · exact nil_wt
  · exact nil_wt
theorem law_iSaveTo (v0 : GDisk) (v1 : ByteArray) (v2 : Int) (hw0 : v0.wt ≤ 1048576) (hw1 : v1.size ≤ 1048576) : CallOK Try.prog 13 [.agg (GDisk.ci 0 v0), .c (ps v1), .c (pi v2)] (pvDB (rSaveTo v0 v1 v2)) [.agg (GDisk.ci 0 v0), .c (ps v1), .c (pi v2)] := by
  have hl := disk_len hw0
  refine okS (fn := Try.f13) [] h0 Try.func13 (by kernel_rfl) rfl Try.ntmps13 Try.results13 (by simp) ?_
  simp
  refine Inv_intro (ok_iGoodDisk 0 v0 (by omega) (by omega)) ?_
  simp
  refine gF (fun a => ?_) (fun a => ?_)
  · simp at a
    simp [a]
    have h0' := good_okD a
    refine gF (fun b => ?_) (fun b => ?_)
    · simp [b]
      simp at b
      refine Inv_intro (ok_within v2 0 7) ?_
      simp
      refine brn_app (fun c => ?_) (fun c => ?_)
      · simp at c
        have hc : ¬ (0 ≤ v2 ∧ v2 ≤ 7) := by omega
        have er : rSaveTo v0 v1 v2 = (⟨[], []⟩, false) := by
          unfold rSaveTo
          rw [if_neg]
          rintro ⟨_, _, h⟩
          exact hc h
        simp [er]
      · simp at c
        obtain ⟨n, rfl⟩ : ∃ n : Nat, v2 = n := ⟨v2.toNat, by omega⟩
        have hn : n ≤ 7 := by omega
        have er : rSaveTo v0 v1 n = saveL v0 v1 n := by
          unfold rSaveTo
          rw [if_pos ⟨a, by simp [b], by omega, by omega⟩]
          rfl
        rw [er]
        simp
        refine Inv_intro (ok_isave 0 v0 v1 n 40 h0' (by omega) hn (by omega)) ?_
        have hk := okD_saveL h0' v1 n
        have hz : n = 0 → (saveL v0 v1 n).2 = true → (saveL v0 v1 n).1 = v0 := by
          rintro rfl h
          unfold saveL at h ⊢
          split
          · rfl
          · rename_i hq
            rw [if_neg hq] at h
            cases h
        generalize hS : saveL v0 v1 n = S at *
        obtain ⟨S1, S2⟩ := S
        have hz1 : ¬ (S1, S2).2 = true → (S1, S2).1 = ⟨[], []⟩ := by
          intro h
          rw [← hS] at h ⊢
          unfold saveL at h ⊢
          split
          · rename_i hq
            rw [if_pos hq] at h
            exact absurd rfl h
          · rfl
        cases S2 with
        | false =>
          have hz1 : S1 = ⟨[], []⟩ := hz1 (by simp)
          subst hz1
          simp
        | true =>
          have hk : okD S1 (40 + n) := by
            rcases hk with h | h
            · exact h
            · cases h
          obtain ⟨k1, k2, k3, k4⟩ := hk
          by_cases hn0 : n = 0
          · have hz : S1 = v0 := hz hn0 rfl
            subst hz
            simp [hn0]
            refine drawP (tabEnv [] _) [⟨[.op 3 7 0], allD 42, true⟩, ⟨[.op 3 7 0], allD 42, true⟩, ⟨[], allD 42, false⟩, ⟨[.op 3 7 0], allD 42, true⟩, ⟨[.op 3 7 0], allD 42, true⟩, ⟨[], allD 42, false⟩, ⟨[.op 6 2 0, .op 6 5 0], allD 42, true⟩, ⟨[.op 0 1 0, .op 6 2 0, .op 6 5 0], [35, 36, 37, 38, 39, 40, 41, 7], false⟩, ⟨[], allD 42, true⟩] h0 hm (tabEnv_ok (tab_cons (ok_Clone_String 0 S1.Sectors (by omega)) (tab_cons (ok_Clone_Write 0 S1.Waiting (by omega)) tab_nil))) (by kernel_rfl) (by kernel_rfl) ?_
            simp
          · simp [hn0]
            refine ewp_freeze (.op 3 7 0) [6, 7] [.op 0 1 0] rfl (n := 1) (e := 29) (cs := S1.co) rfl (by decide) ?_
            simp
            refine drawP (tabEnv [] _) [⟨[.op 3 7 0], allD 42, true⟩, ⟨[.op 3 7 0], allD 42, true⟩, ⟨[], allD 42, false⟩, ⟨[.op 3 7 0], allD 42, true⟩, ⟨[.op 3 7 0], allD 42, true⟩, ⟨[], allD 42, false⟩, ⟨[.op 6 2 0, .op 6 5 0], allD 42, true⟩, ⟨[.op 0 1 0, .op 6 2 0, .op 6 5 0], [35, 36, 37, 38, 39, 40, 41, 7], false⟩, ⟨[], allD 42, true⟩] h0 hm (tabEnv_ok (tab_cons (ok_Clone_String 0 S1.Sectors (by omega)) (tab_cons (ok_Clone_Write 0 S1.Waiting (by omega)) tab_nil))) (by kernel_rfl) (by kernel_rfl) ?_
            simp
            refine Thawed_mk ?_
            simp
    · simp [b]
      simp at b
      have hb : ¬ v0.Waiting.length = 0 := by omega
      simp [rSaveTo, hb]
  · simp at a
    simp [a, rSaveTo]
theorem law_sSaveTo (v0 : GDisk) (v1 : ByteArray) (v2 : Int) (hw0 : v0.wt ≤ 1048576) (hw1 : v1.size ≤ 1048576) : CallOK Try.prog 14 [.agg (GDisk.ci 0 v0), .c (ps v1), .c (pi v2)] (pvDB (rSaveTo v0 v1 v2)) [.agg (GDisk.ci 0 v0), .c (ps v1), .c (pi v2)] := by
  have hl := disk_len hw0
  refine okS (fn := Try.f14) [(51, [2])] h0 Try.func14 (by kernel_rfl) rfl Try.ntmps14 Try.results14 (by simp) ?_
  simp
  refine Inv_intro (ok_sGoodDisk 0 v0 (by omega) (by omega)) ?_
  simp
  refine gF (fun a => ?_) (fun a => ?_)
  · simp at a
    simp [a]
    have h0' := good_okD a
    refine gF (fun b => ?_) (fun b => ?_)
    · simp [b]
      simp at b
      refine Inv_intro (ok_l1In v2 0 7) ?_
      simp
      refine brn_app (fun c => ?_) (fun c => ?_)
      · simp at c
        have hc : ¬ (0 ≤ v2 ∧ v2 ≤ 7) := by omega
        have er : rSaveTo v0 v1 v2 = (⟨[], []⟩, false) := by
          unfold rSaveTo
          rw [if_neg]
          rintro ⟨_, _, h⟩
          exact hc h
        simp [er]
      · simp at c
        obtain ⟨n, rfl⟩ : ∃ n : Nat, v2 = n := ⟨v2.toNat, by omega⟩
        have hn : n ≤ 7 := by omega
        have er : rSaveTo v0 v1 n = saveL v0 v1 n := by
          unfold rSaveTo
          rw [if_pos ⟨a, by simp [b], by omega, by omega⟩]
          rfl
        rw [er]
        simp
        refine Inv_intro (ok_l17Own 0 v0 (by omega) (by omega)) ?_
        simp
        refine Inv_intro (ok_l17Save v0 v1 n 40 h0' (by omega) hn (by omega)) ?_
        have hk := okD_saveL h0' v1 n
        have hz : n = 0 → (saveL v0 v1 n).2 = true → (saveL v0 v1 n).1 = v0 := by
          rintro rfl h
          unfold saveL at h ⊢
          split
          · rfl
          · rename_i hq
            rw [if_neg hq] at h
            cases h
        generalize hS : saveL v0 v1 n = S at *
        obtain ⟨S1, S2⟩ := S
        have hz1 : ¬ (S1, S2).2 = true → (S1, S2).1 = ⟨[], []⟩ := by
          intro h
          rw [← hS] at h ⊢
          unfold saveL at h ⊢
          split
          · rename_i hq
            rw [if_pos hq] at h
            exact absurd rfl h
          · rfl
        cases S2 with
        | false =>
          have hz1 : S1 = ⟨[], []⟩ := hz1 (by simp)
          subst hz1
          simp
        | true =>
          have hk : okD S1 (40 + n) := by
            rcases hk with h | h
            · exact h
            · cases h
          obtain ⟨k1, k2, k3, k4⟩ := hk
          simp
          refine Inv_intro (ok_l17Own 0 S1 (by omega) (by omega)) ?_
          simp
    · simp [b]
      simp at b
      have hb : ¬ v0.Waiting.length = 0 := by omega
      simp [rSaveTo, hb]
  · simp at a
    simp [a, rSaveTo]
theorem law_sPlaySaves (v0 : List ByteArray) (v1 : Int) (v2 : List Bool) (hw0 : wt_StringS v0 ≤ 1048576) (hw2 : wt_BoolS v2 ≤ 1048576) : CallOK Try.prog 8 [.c (rd 0 v0.length (v0.map ps)), .c (pi v1), .c (rd 0 v2.length (v2.map pb))] (pvDB (rPlaySaves v0 v1 v2)) [.c (rd 0 v0.length (v0.map ps)), .c (pi v1), .c (rd 0 v2.length (v2.map pb))] := by
  have hl := len_wt_StringS v0
  have hl2 := len_wt_BoolS v2
  refine okS (fn := Try.f8) [(51, [2]), (52, [2])] h0 Try.func8 (by kernel_rfl) rfl Try.ntmps8 Try.results8 (by simp) ?_
  simp
  refine Inv_intro (ok_l1In v0.length 1 40) ?_
  simp
  refine gF (fun a => ?_) (fun a => ?_)
  · simp [a]
    simp at a
    refine Inv_intro (ok_l1In v1 0 7) ?_
    simp
    refine brn_app (fun b => ?_) (fun b => ?_)
    · simp at b
      have hp : ¬ playOK v0 v1 := by
        rintro ⟨_, h⟩
        omega
      simp [rPlaySaves, hp]
    · simp at b
      have hp : playOK v0 v1 := ⟨by omega, b.1, b.2⟩
      obtain ⟨done, rfl⟩ : ∃ n : Nat, v1 = n := ⟨v1.toNat, by omega⟩
      have er : rPlaySaves v0 done v2 = match playI v0 done v0.length with
          | some d => (crashed d v2, true)
          | none => (⟨[], []⟩, false) := by
        unfold rPlaySaves
        rw [if_pos hp]
        rfl
      simp
      refine Inv_intro ok_sNewDisk ?_
      simp
      refine loopS [0, 1, 2, 6, 8, 25, 26, 27] [.op 0 0 0, .op 3 1 0] (fun q st => ∃ (i : Nat) (d : GDisk), i + q = v0.length ∧ playI v0 done i = some d ∧ st = ⟨slOf 54 [(0, .t (rd 0 v0.length (v0.map ps))), (1, .t (pi done)), (2, .t (rd 0 v2.length (v2.map pb))), (6, .ptr ⟨.op 0 0 0, []⟩ 0), (8, .ptr ⟨.op 3 1 0, []⟩ 0), (25, .t (rd 0 v0.length (v0.map ps))), (26, .t (pi v0.length)), (27, .t (pi i))], ofL [(.op 0 0 0, .sl 0 29 1 [.sl 0 nilE 0 [], .sl 0 nilE 0 []]), (.op 3 1 0, .sl 0 29 1 d.co)]⟩) v0.length ?_ ?_
      · rintro Inv hI
        simp
        subst hI
        exact ⟨0, disk0, by omega, rfl, rfl⟩
      · rintro Inv hI q st ⟨i, d, hi, hpl, rfl⟩
        refine ewr_sound (M := [(51, [2]), (52, [2])]) h0 ?_
        simp
        refine brn_app (fun c => ?_) (fun c => ?_)
        · simp at c
          have hok := playI_ok v0 done (by omega) i d hpl
          have w1 : IntKind.wrap .i64 ((v0.length : Int) - 1) = (v0.length : Int) - 1 := wrap64 (by omega) (by omega)
          have hnext : playI v0 done (i + 1) = if (saveL d v0[i] (stepsOf v0.length done i)).2 = true then some (saveL d v0[i] (stepsOf v0.length done i)).1 else none := by
            simp only [playI, hpl]
            rw [secAt_get v0 i c]
          simp [c, w1]
          refine brn_app (fun e => ?_) (fun e => ?_)
          · simp at e
            have hzz : done = stepsOf v0.length done i := by
              unfold stepsOf
              rw [if_pos (by omega)]
            simp
            refine Inv_intro (ok_l17Save d v0[i] done (7 * i) hok (by omega) (by omega) (by have := mem_wt_StringS (List.getElem_mem c); omega)) ?_
            rw [← hzz] at hnext
            generalize hS : saveL d v0[i] done = S at *
            obtain ⟨S1, S2⟩ := S
            cases S2 with
            | false =>
              have hf : rPlaySaves v0 done v2 = (⟨[], []⟩, false) := by
                rw [er, playI_none v0 done (i := i + 1) hnext v0.length (by omega)]
              simp [hf]
            | true =>
              simp
              subst hI
              refine Less_mk (q - 1) (by omega) ⟨i + 1, S1, by omega, hnext, ?_⟩
              rw [wrNext i (by omega)]
              rfl
          · simp at e
            have hzz : 7 = stepsOf v0.length done i := by
              unfold stepsOf
              rw [if_neg (by omega)]
            simp
            refine Inv_intro (ok_l17Save d v0[i] 7 (7 * i) hok (by omega) (by omega) (by have := mem_wt_StringS (List.getElem_mem c); omega)) ?_
            rw [← hzz] at hnext
            generalize hS : saveL d v0[i] 7 = S at *
            obtain ⟨S1, S2⟩ := S
            cases S2 with
            | false =>
              have hf : rPlaySaves v0 done v2 = (⟨[], []⟩, false) := by
                rw [er, playI_none v0 done (i := i + 1) hnext v0.length (by omega)]
              simp [hf]
            | true =>
              simp
              subst hI
              refine Less_mk (q - 1) (by omega) ⟨i + 1, S1, by omega, hnext, ?_⟩
              rw [wrNext i (by omega)]
              rfl
        · simp at c
          have hil : i = v0.length := by omega
          subst hil
          have er : rPlaySaves v0 done v2 = (crashed d v2, true) := by rw [er, hpl]
          rw [er]
          simp
          have hok := playI_ok v0 done (by omega) v0.length d hpl
          have hln : v0.length ≤ 40 := by omega
          obtain ⟨k1, k2, k3, k4⟩ := hok
          refine Inv_intro (ok_l17Own 0 d (by omega) (by omega)) ?_
          simp
          refine Inv_intro (ok_l17Crash 0 d v2 (by omega) (by omega) (fun w hw => by rw [k1]; exact (k4 w hw).1)) ?_
          simp
  · simp [a]
    simp at a
    have hp : ¬ playOK v0 v1 := by
      rintro ⟨h, _⟩
      omega
    simp [rPlaySaves, hp]
theorem exists_run {α : Type} (N : Nat) (x0 : α) (I : Nat → α → Prop) (R : α → α → Prop) (h0 : I 0 x0) (hs : ∀ i x, i < N → I i x → ∃ y, R x y ∧ I (i + 1) y) : ∃ run : Nat → α, run 0 = x0 ∧ (∀ i, i ≤ N → I i (run i)) ∧ ∀ i, i < N → R (run i) (run (i + 1)) := by
  classical
  obtain ⟨run, hr⟩ : ∃ run : Nat → α, run = fun n => Nat.rec x0 (fun i x => if h : ∃ y, R x y ∧ I (i + 1) y then Classical.choose h else x) n := ⟨_, rfl⟩
  have hz : run 0 = x0 := by subst hr; rfl
  have hst : ∀ i, run (i + 1) = if h : ∃ y, R (run i) y ∧ I (i + 1) y then Classical.choose h else run i := fun i => by subst hr; rfl
  have hI : ∀ i, i ≤ N → I i (run i) := by
    intro i
    induction i with
    | zero => intro _; rw [hz]; exact h0
    | succ i ih =>
      intro hi
      have h1 := hs i (run i) (by omega) (ih (by omega))
      rw [hst, dif_pos h1]
      exact (Classical.choose_spec h1).2
  refine ⟨run, hz, hI, fun i hi => ?_⟩
  have h1 := hs i (run i) hi (hI i (by omega))
  rw [hst, dif_pos h1]
  exact (Classical.choose_spec h1).1
theorem ok_configValue (code : List Int) (hc : codeOK code) (a s : Int) (ha : 0 ≤ a) (ha2 : a ≤ 3999990) : ∃ v a' s', v.size ≤ 9 ∧ (a ≤ a' ∧ a' ≤ a + 2) ∧ CallOK Try.prog 79 [.bp (curP code a s)] (.c (ps v)) [.bp (curP code a' s')] := by
  obtain ⟨b, a1, s1, ha1, h1⟩ := ok_one code hc 30 (by decide) (by decide) a s ha (by omega)
  obtain ⟨v2, a2, s2, hv2, ha2', h2⟩ := ok_of 0 code hc [⟨#[]⟩, ⟨#[66]⟩, ⟨#[110, 105, 110, 101, 98, 121, 116, 101, 115]⟩] (by decide) (by decide) a1 s1 (by omega) (by omega)
  obtain ⟨v3, a3, s3, hv3, ha3, h3⟩ := ok_of 0 code hc [⟨#[49]⟩, ⟨#[50]⟩, ⟨#[111, 110]⟩, ⟨#[111, 102, 102]⟩] (by decide) (by decide) a1 s1 (by omega) (by omega)
  have hz2 : v2.size ≤ 9 := by
    simp only [List.mem_cons, List.not_mem_nil, or_false] at hv2
    rcases hv2 with rfl | rfl | rfl <;> decide
  have hz3 : v3.size ≤ 9 := by
    simp only [List.mem_cons, List.not_mem_nil, or_false] at hv3
    rcases hv3 with rfl | rfl | rfl | rfl <;> decide
  cases b with
  | true =>
    refine ⟨v2, a2, s2, hz2, by omega, ?_⟩
    refine okS (fn := Try.f79) [(60, [1]), (69, [1])] h0 Try.func79 (by kernel_rfl) rfl Try.ntmps79 Try.results79 (by simp) ?_
    unfold curP at h1 h2 ⊢
    simp
    refine Inv_intro h1 ?_
    simp
    refine Inv_intro h2 ?_
    simp
  | false =>
    refine ⟨v3, a3, s3, hz3, by omega, ?_⟩
    refine okS (fn := Try.f79) [(60, [1]), (69, [1])] h0 Try.func79 (by kernel_rfl) rfl Try.ntmps79 Try.results79 (by simp) ?_
    unfold curP at h1 h3 ⊢
    simp
    refine Inv_intro h1 ?_
    simp
    refine Inv_intro h3 ?_
    simp
def pathOK (p : List ByteArray) : Prop := p.length ≤ 8 ∧ ∀ w ∈ p, w.size ≤ 9
def wordsD : List ByteArray := [⟨#[97]⟩, ⟨#[98]⟩, ⟨#[112, 101, 101, 114]⟩, ⟨#[120, 45, 49]⟩]
theorem ok_configPath (code : List Int) (hc : codeOK code) (a s : Int) (ha : 0 ≤ a) (ha2 : a ≤ 3999980) : ∃ p a' s', pathOK p ∧ (a ≤ a' ∧ a' ≤ a + 6) ∧ CallOK Try.prog 78 [.bp (curP code a s)] (.c (.sl 0 9 p.length (p.map ps))) [.bp (curP code a' s')] := by
  obtain ⟨n, a1, s1, hn, ha1, h1⟩ := ok_pick code hc 3 (by decide) (by decide) a s ha (by omega)
  obtain ⟨N, hN⟩ : ∃ N : Nat, (N : Int) = 1 + n := ⟨(1 + n).toNat, by omega⟩
  obtain ⟨run, run0, runI, runR⟩ := exists_run (α := List ByteArray × Int × Int) N ([], a1, s1) (fun i x => x.1.length = i ∧ (∀ w ∈ x.1, w.size ≤ 9) ∧ a1 ≤ x.2.1 ∧ x.2.1 ≤ a1 + i)
    (fun x y => ∃ w, y.1 = x.1 ++ [w] ∧ CallOK Try.prog 69 [.bp (curP code x.2.1 x.2.2), .c (rd 0 4 (wordsD.map ps))] (.c (ps w)) [.bp (curP code y.2.1 y.2.2), .c (rd 0 4 (wordsD.map ps))])
    ⟨rfl, by simp, by simp, by simp⟩ (by
      rintro i ⟨p, b, t⟩ hi ⟨g1, g2, g3, g4⟩
      simp only at g1 g2 g3 g4
      obtain ⟨w, b', t', hw, hb', hcall⟩ := ok_of 0 code hc wordsD (by decide) (by decide) b t (by omega) (by omega)
      refine ⟨(p ++ [w], b', t'), ⟨w, rfl, hcall⟩, by simp [g1], fun v hv => ?_, by simp only; omega, by simp only; omega⟩
      rcases List.mem_append.1 hv with hv | hv
      · exact g2 v hv
      · rw [List.mem_singleton.1 hv]
        simp only [wordsD, List.mem_cons, List.not_mem_nil, or_false] at hw
        rcases hw with rfl | rfl | rfl | rfl <;> decide)
  obtain ⟨e1, e2, e3, e4⟩ := runI N (Nat.le_refl _)
  obtain ⟨x, a2, s2, hx, ha2', h2⟩ := ok_pick code hc 60 (by decide) (by decide) (run N).2.1 (run N).2.2 (by omega) (by omega)
  have hlen : (run N).1.length ≤ 8 := by omega
  have hN3 : 1 ≤ N ∧ N ≤ 3 := by omega
  obtain ⟨p, a3, s3, hp, ha3, hfin⟩ : ∃ (p : List ByteArray) (a3 s3 : Int), pathOK p ∧ (a2 ≤ a3 ∧ a3 ≤ a2 + 1) ∧ ((x = 0 ∧ ∃ w, p = (run N).1.set 0 w ∧ CallOK Try.prog 69 [.bp (curP code a2 s2), .c (rd 0 3 ([⟨#[]⟩, ⟨#[65]⟩, ⟨#[110, 105, 110, 101, 98, 121, 116, 101, 115]⟩].map ps))] (.c (ps w)) [.bp (curP code a3 s3), .c (rd 0 3 ([⟨#[]⟩, ⟨#[65]⟩, ⟨#[110, 105, 110, 101, 98, 121, 116, 101, 115]⟩].map ps))]) ∨ (x = 1 ∧ p = (run N).1 ++ [⟨#[97]⟩, ⟨#[98]⟩, ⟨#[99]⟩, ⟨#[100]⟩, ⟨#[101]⟩] ∧ a3 = a2 ∧ s3 = s2) ∨ (¬ x = 0 ∧ ¬ x = 1 ∧ p = (run N).1 ∧ a3 = a2 ∧ s3 = s2)) := by
    by_cases x0 : x = 0
    · obtain ⟨w, a3, s3, hw, ha3, h3⟩ := ok_of 0 code hc [⟨#[]⟩, ⟨#[65]⟩, ⟨#[110, 105, 110, 101, 98, 121, 116, 101, 115]⟩] (by decide) (by decide) a2 s2 (by omega) (by omega)
      refine ⟨(run N).1.set 0 w, a3, s3, ⟨by rw [List.length_set]; omega, fun v hv => ?_⟩, ha3, .inl ⟨x0, w, rfl, h3⟩⟩
      rcases List.mem_or_eq_of_mem_set hv with hv | rfl
      · exact e2 v hv
      · simp only [List.mem_cons, List.not_mem_nil, or_false] at hw
        rcases hw with rfl | rfl | rfl <;> decide
    · by_cases x1 : x = 1
      · refine ⟨_, a2, s2, ⟨by rw [List.length_append]; simp only [List.length_cons, List.length_nil]; omega, fun v hv => ?_⟩, by omega, .inr (.inl ⟨x1, rfl, rfl, rfl⟩)⟩
        rcases List.mem_append.1 hv with hv | hv
        · exact e2 v hv
        · simp only [List.mem_cons, List.not_mem_nil, or_false] at hv
          rcases hv with rfl | rfl | rfl | rfl | rfl <;> decide
      · exact ⟨_, a2, s2, ⟨by omega, e2⟩, by omega, .inr (.inr ⟨x0, x1, rfl, rfl, rfl⟩)⟩
  refine ⟨p, a3, s3, hp, by omega, ?_⟩
  refine okS (fn := Try.f78) [(63, [1]), (69, [1])] h0 Try.func78 (by kernel_rfl) rfl Try.ntmps78 Try.results78 (by simp) ?_
  unfold curP at h1 h2 hfin runR ⊢
  have w1 : IntKind.i64.wrap (1 + n) = 1 + n := wrap64 (by omega) (by omega)
  simp
  refine Inv_intro h1 ?_
  have wN : IntKind.i64.wrap (N : Int) = (N : Int) := wrap64 (by omega) (by omega)
  simp [w1, ← hN, wN]
  refine ewp_nil 3 (.op 5 5 0) 9 (by decide) rfl rfl rfl ?_
  refine loopS [0, 3, 4] [.op 5 5 0, .arg 0 0] (fun m st => ∃ (i : Nat), i + m = N ∧ st = ⟨slOf 33 [(0, .ptr ⟨.arg 0 0, []⟩ 0), (3, .ref ⟨.op 5 5 0, []⟩ 0 i), (4, .t (pi m))], ofL [(.op 5 5 0, .sl 0 9 i ((run i).1.map ps)), (.arg 0 0, .sl 0 77 1 [rd 1 code.length (code.map pu), pi (run i).2.1, .raw (.int .u64 (run i).2.2)])]⟩) N ?_ ?_
  · rintro Inv hI
    simp
    subst hI
    exact ⟨0, by omega, by rw [run0]; rfl⟩
  · rintro Inv hI m st ⟨i, hi, rfl⟩
    refine ewr_sound (M := [(63, [1]), (69, [1])]) h0 ?_
    by_cases c : 0 < m
    · obtain ⟨f1, _⟩ := runI i (by omega)
      obtain ⟨w, g1, hcall⟩ := runR i (by omega)
      have c' : (0 : Int) < (m : Int) := by omega
      have w2 : IntKind.i64.wrap ((m : Int) - 1) = ((m - 1 : Nat) : Int) := by rw [wrap64 (by omega) (by omega)]; omega
      have hb1 : (i + 1) * 16 ≤ 140737488355328 := by omega
      have hb2 : i ≤ 9223372036854775806 := by omega
      have hml : ((run i).1.map ps).length = i := by rw [List.length_map, f1]
      have hmt : List.take i ((run i).1.map ps) = (run i).1.map ps := List.take_of_length_le (by omega)
      simp [c, c']
      refine Inv_intro hcall ?_
      simp [f1, hb1, hb2, hml, hmt, w2]
      subst hI
      refine Less_mk (m - 1) (by omega) ⟨i + 1, by omega, ?_⟩
      rw [g1]
      simp
    · have hm0 : m = 0 := by omega
      have hiN : i = N := by omega
      subst hm0
      subst hiN
      simp
      refine Inv_intro h2 ?_
      have hi0 : 0 < i := by omega
      have hi1 : 1 ≤ i := by omega
      obtain ⟨p0, pr, hpr⟩ : ∃ p0 pr, (run i).1 = p0 :: pr := by
        cases hP : (run i).1 with
        | nil => rw [hP] at e1; simp at e1; omega
        | cons p0 pr => exact ⟨p0, pr, rfl⟩
      have hsz : pr.length + 1 = i := by rw [hpr] at e1; simpa using e1
      have ht1 : ∀ x : PT, List.take i (x :: pr.map ps) = x :: pr.map ps := fun x => List.take_of_length_le (by rw [List.length_cons, List.length_map]; omega)
      have hl1 : i ≤ pr.length + 1 := by omega
      have hb1 : (i + 5) * 16 ≤ 140737488355328 := by omega
      have hb2 : i + 5 ≤ 9223372036854775807 := by omega
      have hsz5 : pr.length + 5 + 1 = i + 5 := by omega
      have ht5 : ∀ a b c d e f : PT, List.take (i + 5) (a :: (pr.map ps ++ [b, c, d, e, f])) = a :: (pr.map ps ++ [b, c, d, e, f]) := fun a b c d e f => List.take_of_length_le (by simp only [List.length_cons, List.length_append, List.length_map, List.length_nil]; omega)
      rcases hfin with ⟨rfl, w, rfl, hcall⟩ | ⟨rfl, rfl, rfl, rfl⟩ | ⟨x0, x1, rfl, rfl, rfl⟩
      · simp
        refine Inv_intro hcall ?_
        simp [hi0, hi1, hpr, hsz, ht1, hl1]
      · simp [hi0, hpr, hsz, ht1, hl1, hb1, hb2, hsz5, ht5]
      · simp [x0, x1, hpr, hsz, ht1, hl1]
end Go.V
