/- What functions of the seat's program do, each proved of its code, under the bounds that its theorem names. -/
import Derived.Test.YtfooiclnbkchmaaTac
set_option linter.all false
namespace Go.V
open Go.Proofs
set_option maxHeartbeats 1000000
set_option maxRecDepth 10000
set_option linter.unusedSimpArgs false
set_option linter.unusedVariables false
theorem ok_l1In (n lo hi : Int) : CallOK Try.prog 61 [.c (pi n), .c (pi lo), .c (pi hi)] (.c (pb (decide (lo ≤ n ∧ n ≤ hi)))) [.c (pi n), .c (pi lo), .c (pi hi)] := by
  refine okS (fn := Try.f61) [] h0 Try.func61 (by kernel_rfl) rfl Try.ntmps61 Try.results61 (by simp) ?_
  simp
  refine gT (fun h => ?_) (fun h => ?_) <;> simp [h]
theorem ok_sGoodDisk (k : Nat) (d : GDisk) (h1 : d.Sectors.length ≤ 140737488351232) (h2 : d.Waiting.length ≤ 140737488351232) : CallOK Try.prog 42 [.agg (d.ci k)] (.c (pb (goodDisk d))) [.agg (d.ci k)] := by
  refine okS (fn := Try.f42) [] h0 Try.func42 (by kernel_rfl) rfl Try.ntmps42 Try.results42 (by simp) ?_
  simp
  refine loopS [1, 8, 9, 10] [.op 0 0 0] (fun n st => ∃ (i : Nat), i + n = d.Sectors.length ∧ (d.Sectors.drop i).all (fun s => decide (s.size ≤ 20)) = d.Sectors.all (fun s => decide (s.size ≤ 20)) ∧ st = ⟨slOf 46 [(1, .ptr ⟨.op 0 0 0, []⟩ 0), (8, .t (rd k d.Sectors.length (d.Sectors.map ps))), (9, .t (pi d.Sectors.length)), (10, .t (pi i))], ofL [(.op 0 0 0, .sl 0 31 1 (d.ci k))]⟩) d.Sectors.length ?_ ?_
  · rintro Inv hI
    simp
    subst hI
    exact ⟨0, by omega, rfl, rfl⟩
  · rintro Inv hI n st ⟨i, hi, hall, rfl⟩
    refine ewr_sound (M := []) h0 ?_
    simp
    refine brn_app (fun h => ?_) (fun h => ?_)
    · simp at h
      rw [drop_step _ i h, List.all_cons] at hall
      simp [h]
      refine brn_app (fun a => ?_) (fun a => ?_)
      · simp
        simp at a
        have a' : ¬ (d.Sectors[i].size ≤ 20) := by omega
        rw [decide_eq_false a', Bool.false_and] at hall
        simp [goodDisk, ← hall]
      · simp
        simp at a
        have a' : d.Sectors[i].size ≤ 20 := by omega
        rw [decide_eq_true a', Bool.true_and] at hall
        subst hI
        exact Less_mk (n - 1) (by omega) ⟨i + 1, by omega, hall, by rw [wrNext i (by omega)]; rfl⟩
    · simp at h
      rw [List.drop_of_length_le (by omega), List.all_nil] at hall
      simp
      refine loopS [1, 19, 20, 21] [.op 0 0 0] (fun n st => ∃ (i : Nat), i + n = d.Waiting.length ∧ (d.Waiting.drop i).all okWrite = d.Waiting.all okWrite ∧ st = ⟨slOf 46 [(1, .ptr ⟨.op 0 0 0, []⟩ 0), (19, .t (rd k d.Waiting.length (d.Waiting.flatMap GWrite.c))), (20, .t (pi d.Waiting.length)), (21, .t (pi i))], ofL [(.op 0 0 0, .sl 0 31 1 (d.ci k))]⟩) d.Waiting.length ?_ ?_
      · rintro Inv hI
        simp
        subst hI
        exact ⟨0, by omega, rfl, rfl⟩
      · rintro Inv hI n st ⟨i, hi, hall2, rfl⟩
        refine ewr_sound (M := []) h0 ?_
        simp
        refine brn_app (fun h => ?_) (fun h => ?_)
        · simp at h
          rw [drop_step _ i h, List.all_cons] at hall2
          have hd := fm_drop GWrite.c 2 (fun _ => rfl) d.Waiting i h
          have hlt : i * 2 < d.Waiting.length * 2 := by omega
          simp [h, hd, hlt]
          refine Inv_intro (ok_l1In _ _ _) ?_
          simp
          refine gF (fun a => ?_) (fun a => ?_)
          · simp [a]
            refine brn_app (fun b => ?_) (fun b => ?_)
            · simp
              simp at a b
              have hw : okWrite d.Waiting[i] = false := by simp [okWrite]; omega
              rw [hw, Bool.false_and] at hall2
              simp [goodDisk, ← hall2]
            · simp
              simp at a b
              have hw : okWrite d.Waiting[i] = true := by simp [okWrite]; omega
              rw [hw, Bool.true_and] at hall2
              subst hI
              exact Less_mk (n - 1) (by omega) ⟨i + 1, by omega, hall2, by rw [wrNext i (by omega)]; rfl⟩
          · simp [a]
            simp at a
            have hw : okWrite d.Waiting[i] = false := by simp [okWrite]; omega
            rw [hw, Bool.false_and] at hall2
            simp [goodDisk, ← hall2]
        · simp at h
          rw [List.drop_of_length_le (by omega), List.all_nil] at hall2
          simp
          refine gT (fun a => ?_) (fun a => ?_)
          · simp [a]
            simp at a
            have c1 : d.Sectors.length = 10 := by omega
            rw [goodDisk, ← hall, ← hall2]
            simp [c1]
            omega
          · simp [a]
            simp at a
            have c1 : ¬ d.Sectors.length = 10 := by omega
            simp [goodDisk, c1]
def rLoadFrom (d : GDisk) : ByteArray × Int × Bool := if goodDisk d = true then loadR d.Sectors else (⟨#[]⟩, 0, false)
theorem goodDisk_secs {d : GDisk} (h : goodDisk d = true) : d.Sectors.length = 10 ∧ ∀ s ∈ d.Sectors, s.size ≤ 20 := by
  simp only [goodDisk, Bool.and_eq_true, decide_eq_true_eq, List.all_eq_true] at h
  exact ⟨h.1.1.1, h.1.2⟩
theorem law_iLoadFrom (v0 : GDisk) (hw0 : v0.wt ≤ 1048576) : CallOK Try.prog 12 [.agg (GDisk.ci 0 v0)] (.tup [.c (ps (rLoadFrom v0).1), .c (pi (rLoadFrom v0).2.1), .c (pb (rLoadFrom v0).2.2)]) [.agg (GDisk.ci 0 v0)] := by
  have hl := disk_len hw0
  refine okS (fn := Try.f12) [] h0 Try.func12 (by kernel_rfl) rfl Try.ntmps12 Try.results12 (by simp) ?_
  simp
  refine Inv_intro (ok_iGoodDisk 0 v0 (by omega) (by omega)) ?_
  cases c1 : goodDisk v0 with
  | false => simp [rLoadFrom, c1]
  | true =>
    obtain ⟨h10, hs⟩ := goodDisk_secs c1
    have er : rLoadFrom v0 = loadR v0.Sectors := by simp [rLoadFrom, c1]
    simp
    refine Inv_intro (ok_load 0 v0 h10 fun s hx => by have := hs s hx; omega) ?_
    simp [er]
theorem law_sLoadFrom (v0 : GDisk) (hw0 : v0.wt ≤ 1048576) : CallOK Try.prog 10 [.agg (GDisk.ci 0 v0)] (.tup [.c (ps (rLoadFrom v0).1), .c (pi (rLoadFrom v0).2.1), .c (pb (rLoadFrom v0).2.2)]) [.agg (GDisk.ci 0 v0)] := by
  have hl := disk_len hw0
  refine okS (fn := Try.f10) [] h0 Try.func10 (by kernel_rfl) rfl Try.ntmps10 Try.results10 (by simp) ?_
  simp
  refine Inv_intro (ok_sGoodDisk 0 v0 (by omega) (by omega)) ?_
  cases c1 : goodDisk v0 with
  | false => simp [rLoadFrom, c1]
  | true =>
    obtain ⟨h10, hs⟩ := goodDisk_secs c1
    have er : rLoadFrom v0 = loadR v0.Sectors := by simp [rLoadFrom, c1]
    simp
    refine Inv_intro (ok_l17Load 0 v0 h10 fun s hx => by have := hs s hx; omega) ?_
    simp [er]
theorem ok_l17Crash (k : Nat) (d : GDisk) (kept : List Bool) (h1 : d.Sectors.length ≤ 1048576) (h2 : d.Waiting.length ≤ 1048576) (hat : ∀ w ∈ d.Waiting, atOK d.Sectors.length w) : CallOK Try.prog 63 [.agg d.co, .c (rd k kept.length (kept.map pb))] (.agg (crashed d kept).co) [.agg [.hole, .hole], .c (rd k kept.length (kept.map pb))] := by
  refine okS (fn := Try.f63) [] h0 Try.func63 (by kernel_rfl) rfl Try.ntmps63 Try.results63 (by simp) ?_
  simp
  refine loopS [1, 2, 4, 8, 9, 10] [.op 0 0 0, .op 0 1 0] (fun n st => ∃ (i : Nat) (ss : List ByteArray), i + n = d.Waiting.length ∧ ss.length = d.Sectors.length ∧ applyW (kp kept) i (d.Waiting.drop i) ss = applyW (kp kept) 0 d.Waiting d.Sectors ∧ st = ⟨slOf 35 [(1, .t (rd k kept.length (kept.map pb))), (2, .ptr ⟨.op 0 0 0, []⟩ 0), (4, .ptr ⟨.op 0 1 0, []⟩ 0), (8, .ref ⟨.op 0 0 0, [1]⟩ 0 d.Waiting.length), (9, .t (pi d.Waiting.length)), (10, .t (pi i))], ofL [(.arg 0 0, .hole), (.arg 0 1, .hole), (.op 0 0 0, .sl 0 31 1 [.sl 0 9 ss.length (ss.map ps), .sl 0 61 d.Waiting.length (d.Waiting.flatMap GWrite.c)]), (.op 0 1 0, .sl 0 31 1 [.sl 0 nilE 0 [], .sl 0 nilE 0 []])]⟩) d.Waiting.length ?_ ?_
  · rintro Inv hI
    simp
    subst hI
    exact ⟨0, d.Sectors, by omega, rfl, rfl, rfl⟩
  · rintro Inv hI n st ⟨i, ss, hi, hss, hap, rfl⟩
    refine ewr_sound (M := []) h0 ?_
    simp
    refine brn_app (fun h => ?_) (fun h => ?_)
    · simp at h
      have hd := fm_drop GWrite.c 2 (fun _ => rfl) d.Waiting i h
      have hlt : i * 2 < d.Waiting.length * 2 := by omega
      have hlt2 : i * 2 + 2 ≤ d.Waiting.length * 2 := by omega
      have hw := hat _ (List.getElem_mem h)
      unfold atOK at hw
      rw [drop_step _ i h, applyW] at hap
      simp [h, hd, hlt, hlt2]
      refine gT (fun a => ?_) (fun a => ?_)
      · simp [a]
        simp at a
        have hk := kp_lt a
        simp [a]
        refine brn_app (fun b => ?_) (fun b => ?_)
        · rw [hk, if_pos b] at hap
          have hn : d.Waiting[i].At.toNat < ss.length := by omega
          have hn2 : d.Waiting[i].At < ss.length := by omega
          have hn1 : d.Waiting[i].At.toNat + 1 ≤ ss.length := by omega
          have hs := map_set ps ss d.Waiting[i].At.toNat d.Waiting[i].Data hn
          simp at hs
          simp [hw.1, hn2, hn1, hs]
          subst hI
          refine Less_mk (n - 1) (by omega) ⟨i + 1, ss.set d.Waiting[i].At.toNat d.Waiting[i].Data, by omega, by simp [hss], hap, ?_⟩
          rw [wrNext i (by omega)]
          simp
        · rw [hk, if_neg (by simp [b])] at hap
          simp
          subst hI
          exact Less_mk (n - 1) (by omega) ⟨i + 1, ss, by omega, hss, hap, by rw [wrNext i (by omega)]⟩
      · simp [a]
        simp at a
        rw [kp_ge (by omega), if_neg (by simp)] at hap
        subst hI
        exact Less_mk (n - 1) (by omega) ⟨i + 1, ss, by omega, hss, hap, by rw [wrNext i (by omega)]⟩
    · simp at h
      rw [List.drop_of_length_le (by omega), applyW] at hap
      subst hap
      simp [crashed]
theorem ok_l17Sync (d : GDisk) (h1 : d.Sectors.length ≤ 1048576) (h2 : d.Waiting.length ≤ 1048576) (hat : ∀ w ∈ d.Waiting, atOK d.Sectors.length w) : CallOK Try.prog 96 [.agg d.co] (.agg (synced d).co) [.agg [.hole, .hole]] := by
  refine okS (fn := Try.f96) [(63, [2])] h0 Try.func96 (by kernel_rfl) rfl Try.ntmps96 Try.results96 (by simp) ?_
  simp
  refine ewp_nil 3 (.op 4 2 0) 4 (by decide) rfl rfl rfl ?_
  refine loopS [1, 2, 3, 6, 7] [.op 4 2 0, .op 0 0 0, .op 0 1 0] (fun n st => ∃ (i : Nat), i + n = d.Waiting.length ∧ st = ⟨slOf 16 [(1, .ptr ⟨.op 0 0 0, []⟩ 0), (2, .ptr ⟨.op 0 1 0, []⟩ 0), (3, .ref ⟨.op 4 2 0, []⟩ 0 i), (6, .t (pi d.Waiting.length)), (7, .t (pi i))], ofL [(.op 4 2 0, .sl 0 4 i ((List.replicate i true).map pb)), (.arg 0 0, .hole), (.arg 0 1, .hole), (.op 0 0 0, .sl 0 31 1 d.co), (.op 0 1 0, .sl 0 31 1 [.sl 0 nilE 0 [], .sl 0 nilE 0 []])]⟩) d.Waiting.length ?_ ?_
  · rintro Inv hI
    simp
    subst hI
    exact ⟨0, by omega, rfl⟩
  · rintro Inv hI n st ⟨i, hi, rfl⟩
    have hCl : ((List.replicate i true).map pb).length = i := by simp
    have hun : PT.unownL ((List.replicate i true).map pb) = (List.replicate i true).map pb := unown_pb _
    have hcs : (List.replicate i true).map pb ++ [pb true] = (List.replicate (i + 1) true).map pb := by rw [List.replicate_succ', List.map_append]; rfl
    have hc := ok_l17Crash 0 d (List.replicate i true) h1 h2 hat
    rw [List.length_replicate] at hc
    generalize (List.replicate i true).map pb = C at hCl hun hcs hc ⊢
    have ht : C.take i = C := List.take_of_length_le (by omega)
    refine ewr_sound (M := [(63, [2])]) h0 ?_
    simp
    refine brn_app (fun h => ?_) (fun h => ?_)
    · simp at h
      have b1 : i + 1 ≤ 140737488355328 := by omega
      have b2 : i + 1 ≤ 9223372036854775807 := by omega
      simp [hCl, ht, b1, b2]
      subst hI
      refine Less_mk (n - 1) (by omega) ⟨i + 1, by omega, ?_⟩
      rw [wrNext i (by omega), ← hcs]
      rfl
    · simp at h
      have e : i = d.Waiting.length := by omega
      subst e
      rw [crashed_all] at hc
      simp at hc
      simp [hCl, ht, hun]
      refine Inv_intro hc ?_
      simp
theorem ok_l17Plan (k : Nat) (d : GDisk) (text : ByteArray) (h10 : d.Sectors.length = 10) (hs : ∀ s ∈ d.Sectors, s.size ≤ 140737488355328) (ht : text.size ≤ 140737488351232) : CallOK Try.prog 57 [.agg (GDisk.ci k d), .c (ps text)] (.tup [.c (.sl 0 61 (planL d.Sectors text).1.length ((planL d.Sectors text).1.flatMap GWrite.c)), .c (pb (planL d.Sectors text).2)]) [.agg (GDisk.ci k d), .c (ps text)] := by
  refine okS (fn := Try.f57) [] h0 Try.func57 (by kernel_rfl) rfl Try.ntmps57 Try.results57 (by simp) ?_
  simp
  refine Inv_intro (ok_l17Load k d h10 hs) ?_
  simp
  have hnew := @loadR_new d.Sectors
  have hpl : ∀ a b c, loadR d.Sectors = (a, b, c) → planL d.Sectors text = if (!c || decide (999 ≤ b) || decide (72 < text.size)) = true then ([], false) else (planN text (1 - (newR d.Sectors).1.toNat) 4 ++ [⟨(8 + (1 - (newR d.Sectors).1.toNat) : Nat), sealS (strOf [tb (IntKind.wrap .i64 (b + 1)) 1, tb (IntKind.wrap .i64 (b + 1)) 0, tb text.size 0])⟩], true) := by
    intro a b c e
    simp [planL, e]
  generalize hL : loadR d.Sectors = L at *
  obtain ⟨L1, L2, L3⟩ := L
  have hpl := hpl L1 L2 L3 rfl
  cases L3 with
  | false => simp [hpl]
  | true =>
    by_cases c1 : 999 ≤ L2
    · simp [hpl, c1]
    · by_cases c2 : 72 < text.size
      · have c2' : 72 < (text.size : Int) := by omega
        simp [hpl, c1, c2, c2']
      · have c2' : ¬ 72 < (text.size : Int) := by omega
        obtain ⟨o, ho, hn1, hn2⟩ := hnew rfl
        have hpl : planL d.Sectors text = (planN text o 4 ++ [⟨(8 + o : Nat), sealS (strOf [tb (IntKind.wrap .i64 (L2 + 1)) 1, tb (IntKind.wrap .i64 (L2 + 1)) 0, tb text.size 0])⟩], true) := by
          rw [hpl, hn2]
          simp [c1, c2]
        rw [hpl]
        simp [c1, c2']
        refine Inv_intro (ok_l17Newest k d h10 hs) ?_
        rw [swNew_eq, hn1]
        have w0 : IntKind.wrap .i64 (1 - ((1 - o : Nat) : Int)) = (o : Int) := (wrap64 (by omega) (by omega)).trans (by omega)
        simp [w0]
        refine ewp_nil 10 (.op 13 10 0) 61 (by decide) rfl rfl rfl ?_
        refine loopS [1, 7, 9, 10, 11, 12] [.op 13 10 0] (fun m st => ∃ (i : Nat), i + m = 4 ∧ st = ⟨slOf 68 [(1, .t (ps text)), (7, .t (pi L2)), (9, .t (pi o)), (10, .ref ⟨.op 13 10 0, []⟩ 0 i), (11, .t (ps (text.extract (min (18 * i) text.size) text.size))), (12, .t (pi i))], ofL [(.op 13 10 0, .sl 0 61 i ((planN text o i).flatMap GWrite.c))]⟩) 4 ?_ ?_
        · rintro Inv hI
          simp
          subst hI
          refine ⟨0, by omega, ?_⟩
          simp [planN]
        · rintro Inv hI m st ⟨i, hi, rfl⟩
          have hA : ((planN text o i).flatMap GWrite.c).length = i * 2 := by rw [fm_len GWrite.c 2 (fun _ => rfl), planN_len]
          have hAm : (planN text o (i + 1)).flatMap GWrite.c = (planN text o i).flatMap GWrite.c ++ GWrite.c ⟨(4 * o + i : Nat), partK text i⟩ := by rw [planN_succ, List.flatMap_append, List.flatMap_cons, List.flatMap_nil, List.append_nil]
          have hAf : i = 4 → (planN text o 4).flatMap GWrite.c = (planN text o i).flatMap GWrite.c := by rintro rfl; rfl
          generalize hAe : ((planN text o i).flatMap GWrite.c) = A at hA hAm hAf ⊢
          refine ewr_sound (M := []) h0 ?_
          simp
          refine brn_app (fun a => ?_) (fun a => ?_)
          · simp at a
            have hi4 : i < 4 := by omega
            obtain ⟨R, hR⟩ : ∃ R, R = text.extract (min (18 * i) text.size) text.size := ⟨_, rfl⟩
            obtain ⟨q, hq⟩ : ∃ q, q = min 18 (text.size - 18 * i) := ⟨_, rfl⟩
            have hRz : R.size = text.size - min (18 * i) text.size := by rw [hR, ByteArray.size_extract]; omega
            have hRp : R.extract 0 q = partK text i := by
              apply ByteArray.ext_getElem
              · simp only [ByteArray.size_extract, partK, hRz]
                omega
              · intro j h1 h2
                simp only [ByteArray.size_extract, partK, hRz] at h1 h2
                subst hR
                simp only [partK, ByteArray.getElem_extract]
                congr 1
                omega
            have hRn : R.extract q R.size = text.extract (min (18 * (i + 1)) text.size) text.size := by
              apply ByteArray.ext_getElem
              · simp only [ByteArray.size_extract, hRz]
                omega
              · intro j h1 h2
                simp only [ByteArray.size_extract, hRz] at h1 h2
                subst hR
                simp only [ByteArray.getElem_extract]
                congr 1
                omega
            have hqR : q ≤ R.size := by omega
            have w4 : IntKind.wrap .i64 (4 * (o : Int)) = ((4 * o : Nat) : Int) := (wrap64 (by omega) (by omega)).trans (by omega)
            have w5 : IntKind.wrap .i64 (((4 * o : Nat) : Int) + (i : Int)) = ((4 * o + i : Nat) : Int) := (wrap64 (by omega) (by omega)).trans (by omega)
            have b1 : (i + 1) * 24 ≤ 140737488355328 := by omega
            have b2 : i ≤ 9223372036854775806 := by omega
            have hAt : A.take (i * 2) = A := List.take_of_length_le (by omega)
            rw [← hR]
            have hcond : ∀ q0 : Nat, q0 = q → IntKind.wrap .i64 (q0 : Int) = (q : Int) := by
              rintro _ rfl
              exact wrap64 (by omega) (by omega)
            generalize (4 * o + i : Nat) = z at *
            generalize (4 * o : Nat) = z0 at *
            simp
            refine brn_app (fun b => ?_) (fun b => ?_)
            · simp at b
              have hq18 : q = 18 := by omega
              subst hq18
              have b3 : 18 ≤ R.size := hqR
              have b4 : (18 : Int) ≤ R.size := by omega
              have s1 := pr_sliceH (P := Try.prog) (t := 9) (s := R) (k := .i64) (b := 18) (by kernel_rfl) (by decide) b4
              have s2 := pr_sliceL (P := Try.prog) (t := 9) (s := R) (k := .i64) (a := 18) (by kernel_rfl) (by decide) b4
              have s3 : (18 : Int).toNat = 18 := rfl
              rw [s3] at s1 s2
              simp [w4, w5, hA, b1, b2, b3, s1, s2, hRp, hRn, hAt]
              subst hI
              refine Less_mk (m - 1) (by omega) ⟨i + 1, by omega, ?_⟩
              rw [wrNext i (by omega), hAm]
              rfl
            · simp at b
              have hqR2 : q = R.size := by omega
              subst hqR2
              have hE : text.extract (min (18 * (i + 1)) text.size) text.size = ByteArray.empty := by
                rw [← hRn]
                simp
              simp [w4, w5, hA, b1, b2, hRp, hRn, hAt]
              subst hI
              refine Less_mk (m - 1) (by omega) ⟨i + 1, by omega, ?_⟩
              rw [wrNext i (by omega), hAm, hE]
              rfl
          · simp at a
            have : i = 4 := by omega
            subst this
            have hAf := hAf rfl
            have w6 : IntKind.wrap .i64 (8 + (o : Int)) = ((8 + o : Nat) : Int) := (wrap64 (by omega) (by omega)).trans (by omega)
            have hAt : A.take (4 * 2) = A := List.take_of_length_le (by omega)
            have b1 : (4 + 1) * 24 ≤ 140737488355328 := by omega
            rw [hAf]
            simp [w6]
            refine Inv_intro (ok_steller _ text.size) ?_
            have ht2 : ∀ x y : PT, List.take 10 (A ++ [x, y]) = A ++ [x, y] := fun x y => List.take_of_length_le (by simp [hA])
            simp [hA, b1, hAt, planN_len, ht2]
theorem ok_l17Save (d : GDisk) (text : ByteArray) (n m : Nat) (hd : okD d m) (hm' : m ≤ 1000000) (hn : n ≤ 7) (ht : text.size ≤ 140737488351232) : CallOK Try.prog 62 [.agg d.co, .c (ps text), .c (pi n)] (.tup [.agg (if (saveL d text n).2 = true then (saveL d text n).1.co else d.co), .c (pb (saveL d text n).2)]) [.agg [.hole, .hole], .c (ps text), .c (pi n)] := by
  refine okS (fn := Try.f62) [(96, [2])] h0 Try.func62 (by kernel_rfl) rfl Try.ntmps62 Try.results62 (by simp) ?_
  simp
  refine Inv_intro (ok_l17Plan 0 d text hd.1 (fun s hs => by have := hd.2.1 s hs; omega) ht) ?_
  have hpl := @okPl_plan d.Sectors text
  have hsl : saveL d text n = if (planL d.Sectors text).2 = true then (saveN (planL d.Sectors text).1 d n, true) else (⟨[], []⟩, false) := rfl
  generalize hP : planL d.Sectors text = P at *
  obtain ⟨pl, okp⟩ := P
  simp
  cases okp with
  | false =>
    have hsl : saveL d text n = (⟨[], []⟩, false) := by rw [hsl]; rfl
    simp [hsl]
  | true =>
    have hpl : okPl pl := hpl rfl
    have hsl : saveL d text n = (saveN pl d n, true) := by rw [hsl]; rfl
    rw [hsl]
    simp
    refine loopS [2, 3, 6, 8, 10] [.op 0 0 0, .op 0 1 0, .op 1 2 0] (fun q st => ∃ (i : Nat), i + q = n ∧ st = ⟨slOf 51 [(2, .t (pi n)), (3, .ptr ⟨.op 0 0 0, []⟩ 0), (6, .ptr ⟨.op 0 1 0, []⟩ 0), (8, .ref ⟨.op 1 2 0, []⟩ 0 pl.length), (10, .t (pi i))], ofL [(.arg 0 0, .hole), (.arg 0 1, .hole), (.op 0 0 0, .sl 0 31 1 (saveN pl d i).co), (.op 0 1 0, .sl 0 31 1 [.sl 0 nilE 0 [], .sl 0 nilE 0 []]), (.op 1 2 0, .sl 0 61 pl.length (pl.flatMap GWrite.c))]⟩) n ?_ ?_
    · rintro Inv hI
      simp
      subst hI
      exact ⟨0, by omega, rfl⟩
    · rintro Inv hI q st ⟨i, hi, rfl⟩
      have hpl5 := hpl.1
      refine ewr_sound (M := [(96, [2])]) h0 ?_
      simp
      refine brn_app (fun a => ?_) (fun a => ?_)
      · simp at a
        have hok := okD_save hpl hd i
        have hs : saveN pl d (i + 1) = stepS pl (saveN pl d i) i := rfl
        simp
        generalize hD : saveN pl d i = D at *
        obtain ⟨o1, o2, o3, o4⟩ := hok
        have hWl := fm_len GWrite.c 2 (fun _ => rfl) D.Waiting
        have hWt : List.take (D.Waiting.length * 2) (D.Waiting.flatMap GWrite.c) = D.Waiting.flatMap GWrite.c := List.take_of_length_le (by omega)
        have b1 : (D.Waiting.length + 1) * 24 ≤ 140737488355328 := by omega
        have b2 : D.Waiting.length + 1 ≤ 9223372036854775807 := by omega
        by_cases c1 : i < 4
        · have c1' : (i : Int) < 4 := by omega
          have hat := plAt_get pl i (by omega)
          have e : saveN pl d (i + 1) = addW D (plAt pl i) := by rw [hs, stepS, if_pos c1]
          have hdr := fm_drop GWrite.c 2 (fun _ => rfl) pl i (by omega)
          have hlen := fm_len GWrite.c 2 (fun _ => rfl) pl
          have hlt : i * 2 < pl.length * 2 := by omega
          have hil : i < pl.length := by omega
          have hlt2 : i * 2 + 2 ≤ pl.length * 2 := by omega
          simp [c1, c1']
          refine drawP (tabEnv [] _) [⟨[.op 0 0 0], allD 51, true⟩, ⟨[.op 0 0 0], allD 51, true⟩, ⟨[.op 1 2 0], allD 51, true⟩, ⟨[], allD 51, true⟩, ⟨[.op 1 2 0], allD 51, true⟩, ⟨[.op 1 2 0], allD 51, true⟩, ⟨[.op 9 6 0], [30, 31, 32, 33, 34, 35, 36, 37, 38], false⟩, ⟨[.op 0 0 0, .op 9 6 0, .op 9 7 0], [30, 31, 32, 33, 34, 35, 36, 37, 38], false⟩, ⟨[.op 0 0 0], allD 51, true⟩, ⟨[.op 0 0 0, .op 9 7 0], [30, 31, 32, 33, 34, 35, 36, 37, 38], false⟩] h0 hm (tabEnv_ok tab_nil) (by kernel_rfl) (by kernel_rfl) ?_
          simp [hil, hdr, hlen, hlt, hlt2, hWl, hWt, b1, b2]
          subst hI
          refine Less_mk (q - 1) (by omega) ⟨i + 1, by omega, ?_⟩
          rw [e, hat, ofL_mv 2 _ _ _ rfl, wrNext i (by omega), addW_co]
          rfl
        · by_cases c2 : i = 5
          · subst c2
            have hat := plAt_get pl 4 (by omega)
            have e : saveN pl d (5 + 1) = addW D (plAt pl 4) := by rw [hs, stepS, if_neg c1, if_pos rfl]
            have hdr := fm_drop GWrite.c 2 (fun _ => rfl) pl 4 (by omega)
            have hlen := fm_len GWrite.c 2 (fun _ => rfl) pl
            have h4 : 4 < pl.length := by omega
            have h4' : 10 ≤ pl.length * 2 := by omega
            have h4'' : 8 < pl.length * 2 := by omega
            have h4i : (4 : Int) < pl.length := by omega
            simp at hdr
            simp
            refine drawP (tabEnv [] _) [⟨[.op 0 0 0], allD 51, true⟩, ⟨[.op 0 0 0], allD 51, true⟩, ⟨[.op 1 2 0], allD 51, true⟩, ⟨[.op 1 2 0], allD 51, true⟩, ⟨[.op 1 2 0], allD 51, true⟩, ⟨[.op 11 5 0], [42, 43, 44, 45, 46, 47, 48, 49], false⟩, ⟨[.op 0 0 0, .op 11 5 0, .op 11 6 0], [42, 43, 44, 45, 46, 47, 48, 49], false⟩, ⟨[.op 0 0 0], allD 51, true⟩, ⟨[.op 0 0 0, .op 11 6 0], [42, 43, 44, 45, 46, 47, 48, 49], false⟩] h0 hm (tabEnv_ok tab_nil) (by kernel_rfl) (by kernel_rfl) ?_
            simp [h4, h4', h4'', h4i, hdr, hlen, hWl, hWt, b1, b2]
            subst hI
            refine Less_mk (q - 1) (by omega) ⟨5 + 1, by omega, ?_⟩
            rw [e, hat, ofL_mv 2 _ _ _ rfl, addW_co]
            rfl
          · have c1' : ¬ (i : Int) < 4 := by omega
            have c2' : ¬ (i : Int) = 5 := by omega
            have e : saveN pl d (i + 1) = synced D := by rw [hs, stepS, if_neg c1, if_neg c2]
            simp [c1, c1', c2, c2']
            refine Inv_intro (ok_l17Sync D (by omega) (by omega) (fun w hw => by rw [o1]; exact (o4 w hw).1)) ?_
            simp
            subst hI
            refine Less_mk (q - 1) (by omega) ⟨i + 1, by omega, ?_⟩
            rw [e, wrNext i (by omega)]
            rfl
      · simp at a
        have : i = n := by omega
        subst this
        simp
def rSaveTo (d : GDisk) (text : ByteArray) (n : Int) : GDisk × Bool := if goodDisk d = true ∧ d.Waiting.length = 0 ∧ 0 ≤ n ∧ n ≤ 7 then saveL d text n.toNat else (⟨[], []⟩, false)
theorem good_okD {d : GDisk} (h : goodDisk d = true) : okD d 40 := by
  obtain ⟨h1, h2, h3⟩ := good_at h
  refine ⟨h1, (goodDisk_secs h).2, h2, fun w hw => ?_⟩
  have h4 := h3 w hw
  rw [h1] at h4
  refine ⟨h4, ?_⟩
  simp only [goodDisk, Bool.and_eq_true, decide_eq_true_eq, List.all_eq_true, okWrite] at h
  exact (h.2 w hw).2
theorem okD_wt {d : GDisk} {m : Nat} (h : okD d m) (hm : m ≤ 1000) : GDisk.lens d ∧ GDisk.cnT d ≤ 1152921504606846976 := by
  obtain ⟨a, b, c, e⟩ := h
  have h1 := cn_len_StringS d.Sectors
  have h2 := cn_len_WriteS d.Waiting
  refine ⟨⟨⟨by omega, fun _ _ => trivial⟩, ⟨by omega, fun _ _ => trivial⟩⟩, ?_⟩
  unfold GDisk.cnT
  omega
theorem nil_wt : GDisk.lens ⟨[], []⟩ ∧ GDisk.cnT ⟨[], []⟩ ≤ 1152921504606846976 := by
  have h1 := cn_len_StringS []
  have h2 := cn_len_WriteS []
  refine ⟨⟨⟨Nat.zero_le _, fun _ _ => trivial⟩, ⟨Nat.zero_le _, fun _ _ => trivial⟩⟩, ?_⟩
  unfold GDisk.cnT
  simp only [List.length_nil] at h1 h2
  simp only
  omega
theorem rSaveTo_ok (v0 : GDisk) (v1 : ByteArray) (v2 : Int) (hw0 : v0.wt ≤ 1048576) (hw1 : v1.size ≤ 1048576) : GDisk.lens (rSaveTo v0 v1 v2).1 ∧ GDisk.cnT (rSaveTo v0 v1 v2).1 ≤ 1152921504606846976 := by
  unfold rSaveTo
  split
  · rename_i h
    unfold saveL
    split
    · rename_i hp
      exact okD_wt (okD_save (okPl_plan hp) (good_okD h.1) v2.toNat) (by omega)
    · exact nil_wt
  · exact nil_wt
theorem law_iSaveTo (v0 : GDisk) (v1 : ByteArray) (v2 : Int) (hw0 : v0.wt ≤ 1048576) (hw1 : v1.size ≤ 1048576) : CallOK Try.prog 31 [.agg (GDisk.ci 0 v0), .c (ps v1), .c (pi v2)] (pvDB (rSaveTo v0 v1 v2)) [.agg (GDisk.ci 0 v0), .c (ps v1), .c (pi v2)] := by
  have hl := disk_len hw0
  refine okS (fn := Try.f31) [] h0 Try.func31 (by kernel_rfl) rfl Try.ntmps31 Try.results31 (by simp) ?_
  simp
  refine Inv_intro (ok_iGoodDisk 0 v0 (by omega) (by omega)) ?_
  simp
  refine gF (fun a => ?_) (fun a => ?_)
  · simp at a
    simp [a]
    have h0' := good_okD a
    refine gF (fun b => ?_) (fun b => ?_)
    · simp [b]
      simp at b
      refine Inv_intro (ok_within v2 0 7) ?_
      simp
      refine brn_app (fun c => ?_) (fun c => ?_)
      · simp at c
        have hc : ¬ (0 ≤ v2 ∧ v2 ≤ 7) := by omega
        have er : rSaveTo v0 v1 v2 = (⟨[], []⟩, false) := by
          unfold rSaveTo
          rw [if_neg]
          rintro ⟨_, _, h⟩
          exact hc h
        simp [er]
      · simp at c
        obtain ⟨n, rfl⟩ : ∃ n : Nat, v2 = n := ⟨v2.toNat, by omega⟩
        have hn : n ≤ 7 := by omega
        have er : rSaveTo v0 v1 n = saveL v0 v1 n := by
          unfold rSaveTo
          rw [if_pos ⟨a, by simp [b], by omega, by omega⟩]
          rfl
        rw [er]
        simp
        refine Inv_intro (ok_isave 0 v0 v1 n 40 h0' (by omega) hn (by omega)) ?_
        have hk := okD_saveL h0' v1 n
        have hz : n = 0 → (saveL v0 v1 n).2 = true → (saveL v0 v1 n).1 = v0 := by
          rintro rfl h
          unfold saveL at h ⊢
          split
          · rfl
          · rename_i hq
            rw [if_neg hq] at h
            cases h
        generalize hS : saveL v0 v1 n = S at *
        obtain ⟨S1, S2⟩ := S
        have hz1 : ¬ (S1, S2).2 = true → (S1, S2).1 = ⟨[], []⟩ := by
          intro h
          rw [← hS] at h ⊢
          unfold saveL at h ⊢
          split
          · rename_i hq
            rw [if_pos hq] at h
            exact absurd rfl h
          · rfl
        cases S2 with
        | false =>
          have hz1 : S1 = ⟨[], []⟩ := hz1 (by simp)
          subst hz1
          simp
        | true =>
          have hk : okD S1 (40 + n) := by
            rcases hk with h | h
            · exact h
            · cases h
          obtain ⟨k1, k2, k3, k4⟩ := hk
          by_cases hn0 : n = 0
          · have hz : S1 = v0 := hz hn0 rfl
            subst hz
            simp [hn0]
            refine drawP (tabEnv [] _) [⟨[.op 3 7 0], allD 42, true⟩, ⟨[.op 3 7 0], allD 42, true⟩, ⟨[], allD 42, false⟩, ⟨[.op 3 7 0], allD 42, true⟩, ⟨[.op 3 7 0], allD 42, true⟩, ⟨[], allD 42, false⟩, ⟨[.op 6 2 0, .op 6 5 0], allD 42, true⟩, ⟨[.op 0 1 0, .op 6 2 0, .op 6 5 0], [35, 36, 37, 38, 39, 40, 41, 7], false⟩, ⟨[], allD 42, true⟩] h0 hm (tabEnv_ok (tab_cons (ok_Clone_String 0 S1.Sectors (by omega)) (tab_cons (ok_Clone_Write 0 S1.Waiting (by omega)) tab_nil))) (by kernel_rfl) (by kernel_rfl) ?_
            simp
          · simp [hn0]
            refine ewp_freeze (.op 3 7 0) [6, 7] [.op 0 1 0] rfl (n := 1) (e := 31) (cs := S1.co) rfl (by decide) ?_
            simp
            refine drawP (tabEnv [] _) [⟨[.op 3 7 0], allD 42, true⟩, ⟨[.op 3 7 0], allD 42, true⟩, ⟨[], allD 42, false⟩, ⟨[.op 3 7 0], allD 42, true⟩, ⟨[.op 3 7 0], allD 42, true⟩, ⟨[], allD 42, false⟩, ⟨[.op 6 2 0, .op 6 5 0], allD 42, true⟩, ⟨[.op 0 1 0, .op 6 2 0, .op 6 5 0], [35, 36, 37, 38, 39, 40, 41, 7], false⟩, ⟨[], allD 42, true⟩] h0 hm (tabEnv_ok (tab_cons (ok_Clone_String 0 S1.Sectors (by omega)) (tab_cons (ok_Clone_Write 0 S1.Waiting (by omega)) tab_nil))) (by kernel_rfl) (by kernel_rfl) ?_
            simp
            refine Thawed_mk ?_
            simp
    · simp [b]
      simp at b
      have hb : ¬ v0.Waiting.length = 0 := by omega
      simp [rSaveTo, hb]
  · simp at a
    simp [a, rSaveTo]
theorem law_sSaveTo (v0 : GDisk) (v1 : ByteArray) (v2 : Int) (hw0 : v0.wt ≤ 1048576) (hw1 : v1.size ≤ 1048576) : CallOK Try.prog 30 [.agg (GDisk.ci 0 v0), .c (ps v1), .c (pi v2)] (pvDB (rSaveTo v0 v1 v2)) [.agg (GDisk.ci 0 v0), .c (ps v1), .c (pi v2)] := by
  have hl := disk_len hw0
  refine okS (fn := Try.f30) [(62, [2])] h0 Try.func30 (by kernel_rfl) rfl Try.ntmps30 Try.results30 (by simp) ?_
  simp
  refine Inv_intro (ok_sGoodDisk 0 v0 (by omega) (by omega)) ?_
  simp
  refine gF (fun a => ?_) (fun a => ?_)
  · simp at a
    simp [a]
    have h0' := good_okD a
    refine gF (fun b => ?_) (fun b => ?_)
    · simp [b]
      simp at b
      refine Inv_intro (ok_l1In v2 0 7) ?_
      simp
      refine brn_app (fun c => ?_) (fun c => ?_)
      · simp at c
        have hc : ¬ (0 ≤ v2 ∧ v2 ≤ 7) := by omega
        have er : rSaveTo v0 v1 v2 = (⟨[], []⟩, false) := by
          unfold rSaveTo
          rw [if_neg]
          rintro ⟨_, _, h⟩
          exact hc h
        simp [er]
      · simp at c
        obtain ⟨n, rfl⟩ : ∃ n : Nat, v2 = n := ⟨v2.toNat, by omega⟩
        have hn : n ≤ 7 := by omega
        have er : rSaveTo v0 v1 n = saveL v0 v1 n := by
          unfold rSaveTo
          rw [if_pos ⟨a, by simp [b], by omega, by omega⟩]
          rfl
        rw [er]
        simp
        refine Inv_intro (ok_l17Own 0 v0 (by omega) (by omega)) ?_
        simp
        refine Inv_intro (ok_l17Save v0 v1 n 40 h0' (by omega) hn (by omega)) ?_
        have hk := okD_saveL h0' v1 n
        have hz : n = 0 → (saveL v0 v1 n).2 = true → (saveL v0 v1 n).1 = v0 := by
          rintro rfl h
          unfold saveL at h ⊢
          split
          · rfl
          · rename_i hq
            rw [if_neg hq] at h
            cases h
        generalize hS : saveL v0 v1 n = S at *
        obtain ⟨S1, S2⟩ := S
        have hz1 : ¬ (S1, S2).2 = true → (S1, S2).1 = ⟨[], []⟩ := by
          intro h
          rw [← hS] at h ⊢
          unfold saveL at h ⊢
          split
          · rename_i hq
            rw [if_pos hq] at h
            exact absurd rfl h
          · rfl
        cases S2 with
        | false =>
          have hz1 : S1 = ⟨[], []⟩ := hz1 (by simp)
          subst hz1
          simp
        | true =>
          have hk : okD S1 (40 + n) := by
            rcases hk with h | h
            · exact h
            · cases h
          obtain ⟨k1, k2, k3, k4⟩ := hk
          simp
          refine Inv_intro (ok_l17Own 0 S1 (by omega) (by omega)) ?_
          simp
    · simp [b]
      simp at b
      have hb : ¬ v0.Waiting.length = 0 := by omega
      simp [rSaveTo, hb]
  · simp at a
    simp [a, rSaveTo]
end Go.V
