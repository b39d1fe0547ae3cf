/- What functions of the seat's program do, each proved of its code, under the bounds that its theorem names. -/
import Derived.Test.YtildjkidohpmbaaTad
set_option linter.all false
namespace Go.V
open Go.Proofs
set_option maxHeartbeats 1000000
set_option maxRecDepth 10000
set_option linter.unusedSimpArgs false
set_option linter.unusedVariables false
def rPlanOf (d : GDisk) (text : ByteArray) : List GWrite × Bool := if goodDisk d = true then planL d.Sectors text else ([], false)
theorem rPlanOf_ok (v0 : GDisk) (v1 : ByteArray) (hw0 : v0.wt ≤ 1048576) (hw1 : v1.size ≤ 1048576) : lens_WriteS (rPlanOf v0 v1).1 ∧ cn_WriteS (rPlanOf v0 v1).1 ≤ 1152921504606846976 := by
  have hl : (rPlanOf v0 v1).1.length ≤ 5 := by
    unfold rPlanOf planL
    split
    · split
      · simp
      · simp [planN_len]
    · simp
  have hc := cn_len_WriteS (rPlanOf v0 v1).1
  exact ⟨⟨by omega, fun _ _ => trivial⟩, by omega⟩
theorem law_iPlanOf (v0 : GDisk) (v1 : ByteArray) (hw0 : v0.wt ≤ 1048576) (hw1 : v1.size ≤ 1048576) : CallOK Try.prog 15 [.agg (GDisk.ci 0 v0), .c (ps v1)] (.tup [.c (.sl 0 43 (rPlanOf v0 v1).1.length ((rPlanOf v0 v1).1.flatMap GWrite.c)), .c (pb (rPlanOf v0 v1).2)]) [.agg (GDisk.ci 0 v0), .c (ps v1)] := by
  have hl := disk_len hw0
  refine okS (fn := Try.f15) [] h0 Try.func15 (by kernel_rfl) rfl Try.ntmps15 Try.results15 (by simp) ?_
  simp
  refine Inv_intro (ok_iGoodDisk 0 v0 (by omega) (by omega)) ?_
  cases c1 : goodDisk v0 with
  | false => simp [rPlanOf, c1]
  | true =>
    obtain ⟨h10, hs⟩ := goodDisk_secs c1
    have er : rPlanOf v0 v1 = planL v0.Sectors v1 := by simp [rPlanOf, c1]
    simp
    refine Inv_intro (ok_planOf 0 v0 v1 h10 (fun s hx => by have := hs s hx; omega) (by omega)) ?_
    simp [er]
theorem law_sPlanOf (v0 : GDisk) (v1 : ByteArray) (hw0 : v0.wt ≤ 1048576) (hw1 : v1.size ≤ 1048576) : CallOK Try.prog 16 [.agg (GDisk.ci 0 v0), .c (ps v1)] (.tup [.c (.sl 0 43 (rPlanOf v0 v1).1.length ((rPlanOf v0 v1).1.flatMap GWrite.c)), .c (pb (rPlanOf v0 v1).2)]) [.agg (GDisk.ci 0 v0), .c (ps v1)] := by
  have hl := disk_len hw0
  refine okS (fn := Try.f16) [] h0 Try.func16 (by kernel_rfl) rfl Try.ntmps16 Try.results16 (by simp) ?_
  simp
  refine Inv_intro (ok_sGoodDisk 0 v0 (by omega) (by omega)) ?_
  cases c1 : goodDisk v0 with
  | false => simp [rPlanOf, c1]
  | true =>
    obtain ⟨h10, hs⟩ := goodDisk_secs c1
    have er : rPlanOf v0 v1 = planL v0.Sectors v1 := by simp [rPlanOf, c1]
    simp
    refine Inv_intro (ok_l17Plan 0 v0 v1 h10 (fun s hx => by have := hs s hx; omega) (by omega)) ?_
    simp [er]
theorem ofL_mv (n : Nat) (l : List (Id × PT)) (i : Id) (t : PT) (h : ((l.take n).all fun p => !decide (p.1 = i)) = true) : ofL ((i, t) :: l) = ofL (l.take n ++ (i, t) :: l.drop n) := by
  induction n generalizing l with
  | zero => rfl
  | succ n ih => cases l with
    | nil => rfl
    | cons p l =>
      obtain ⟨j, y⟩ := p
      simp at h
      have ih := ih l (by simpa using h.2)
      show ofL ((i, t) :: (j, y) :: l) = ofL ((j, y) :: (l.take n ++ (i, t) :: l.drop n))
      have e : ofL ((j, y) :: (l.take n ++ (i, t) :: l.drop n)) = ofL ((j, y) :: (i, t) :: l) := by
        funext q
        simp only [ofL]
        rw [← ih]
        rfl
      rw [e]
      funext q
      by_cases c : q = i
      · subst c
        have h1 := h.1
        simp [ofL, Ne.symm h1]
      · simp [ofL, c]
theorem ofL_sw2 {a b c : Id} {x y z : PT} (h : b ≠ c) : ofL [(a, x), (c, z), (b, y)] = ofL [(a, x), (b, y), (c, z)] := by
  funext q
  by_cases e : q = c
  · subst e
    simp [ofL, h.symm]
  · simp [ofL, e]
theorem addW_co (D : GDisk) (w : GWrite) : (addW D w).co = [.sl 0 9 D.Sectors.length (D.Sectors.map ps), .sl 0 43 (D.Waiting.length + 1) (D.Waiting.flatMap GWrite.c ++ [pi w.At, ps w.Data])] := by
  show [PT.sl 0 _ D.Sectors.length (D.Sectors.map ps), PT.sl 0 _ (D.Waiting ++ [w]).length ((D.Waiting ++ [w]).flatMap GWrite.c)] = _
  rw [List.length_append, List.flatMap_append, List.flatMap_cons, List.flatMap_nil, List.append_nil]
  rfl
theorem ok_isave (k : Nat) (d : GDisk) (text : ByteArray) (n m : Nat) (hd : okD d m) (hm' : m ≤ 1000000) (hn : n ≤ 7) (ht : text.size ≤ 140737488351232) : CallOK Try.prog 47 [.agg (GDisk.ci k d), .c (ps text), .c (pi n)] (.tup [.agg (if n = 0 ∧ (saveL d text n).2 = true then GDisk.ci k d else (saveL d text n).1.co), .c (pb (saveL d text n).2)]) [.agg (GDisk.ci k d), .c (ps text), .c (pi n)] := by
  refine okS (fn := Try.f47) [] h0 Try.func47 (by kernel_rfl) rfl Try.ntmps47 Try.results47 (by simp) ?_
  simp
  refine Inv_intro (ok_planOf k d text hd.1 (fun s hs => by have := hd.2.1 s hs; omega) ht) ?_
  have hpl := @okPl_plan d.Sectors text
  have hsl : saveL d text n = if (planL d.Sectors text).2 = true then (saveN (planL d.Sectors text).1 d n, true) else (⟨[], []⟩, false) := rfl
  generalize hP : planL d.Sectors text = P at *
  obtain ⟨pl, okp⟩ := P
  simp
  cases okp with
  | false => simp [hsl]
  | true =>
    have hpl : okPl pl := hpl rfl
    have hsl : saveL d text n = (saveN pl d n, true) := by rw [hsl]; rfl
    rw [hsl]
    simp
    refine loopS [2, 6, 8, 10, 22, 23] [.op 0 1 0, .op 1 2 0, .op 4 1 0] (fun q st => ∃ (i : Nat), i + q = n ∧ st = ⟨slOf 47 [(2, .t (pi n)), (6, .ptr ⟨.op 0 1 0, []⟩ 0), (8, .ref ⟨.op 1 2 0, []⟩ 0 pl.length), (10, .ptr ⟨.op 4 1 0, []⟩ 0), (22, .t (pi n)), (23, .t (pi i))], ofL [(.op 0 1 0, .sl 0 29 1 [.sl 0 nilE 0 [], .sl 0 nilE 0 []]), (.op 1 2 0, .sl 0 43 pl.length (pl.flatMap GWrite.c)), (.op 4 1 0, .sl 0 29 1 (if i = 0 then GDisk.ci k d else (saveN pl d i).co))]⟩) n ?_ ?_
    · rintro Inv hI
      simp
      subst hI
      exact ⟨0, by omega, rfl⟩
    · rintro Inv hI q st ⟨i, hi, rfl⟩
      have hpl5 := hpl.1
      refine ewr_sound (M := []) h0 ?_
      simp
      refine brn_app (fun a => ?_) (fun a => ?_)
      · simp at a
        have hok := okD_save hpl hd i
        have hs : saveN pl d (i + 1) = stepS pl (saveN pl d i) i := rfl
        by_cases hi0 : i = 0
        · subst hi0
          have h0lt : 0 < pl.length := by omega
          have h0lt2 : 2 ≤ pl.length * 2 := by omega
          have hat := plAt_get pl 0 (by omega)
          have hdr := fm_drop GWrite.c 2 (fun _ => rfl) pl 0 (by omega)
          have hF2 : (pl.flatMap GWrite.c).take 2 = [pi pl[0].At, ps pl[0].Data] := by
            simp at hdr
            rw [hdr]
            rfl
          have hlen := fm_len GWrite.c 2 (fun _ => rfl) pl
          have e : saveN pl d (0 + 1) = addW d (plAt pl 0) := rfl
          have hd1 := hd.1
          have hd3 := hd.2.2.1
          simp
          refine drawP (tabEnv [] _) [⟨[.op 4 1 0], allD 47, true⟩, ⟨[.op 1 2 0], allD 47, true⟩, ⟨[], allD 47, true⟩, ⟨[.op 1 2 0], allD 47, true⟩, ⟨[.op 1 2 0], allD 47, true⟩, ⟨[.op 4 1 0], [31, 32, 33, 34, 35, 36], false⟩, ⟨[.op 4 1 0, .op 10 5 0, .op 10 5 1], [31, 32, 33, 34, 35, 36], false⟩] h0 hm (tabEnv_ok (tab_cons (ok_waiting k d pl[0] (by omega) (by omega)) tab_nil)) (by kernel_rfl) (by kernel_rfl) ?_
          simp [h0lt, h0lt2, hF2, hlen]
          subst hI
          refine Less_mk (q - 1) (by omega) ⟨0 + 1, by omega, ?_⟩
          rw [if_neg (by omega), e, hat, ofL_mv 2 _ _ _ rfl, addW_co]
          rfl
        · simp [hi0]
          generalize hD : saveN pl d i = D at *
          obtain ⟨o1, o2, o3, o4⟩ := hok
          by_cases c1 : i < 4
          · have c1' : (i : Int) < 4 := by omega
            have hat := plAt_get pl i (by omega)
            have e : saveN pl d (i + 1) = addW D (plAt pl i) := by rw [hs, stepS, if_pos c1]
            have hdr := fm_drop GWrite.c 2 (fun _ => rfl) pl i (by omega)
            have hlen := fm_len GWrite.c 2 (fun _ => rfl) pl
            have hlt : i * 2 < pl.length * 2 := by omega
            have hil : i < pl.length := by omega
            have hlt2 : i * 2 + 2 ≤ pl.length * 2 := by omega
            simp [c1, c1']
            refine drawP (tabEnv [] _) [⟨[.op 4 1 0], allD 47, true⟩, ⟨[.op 1 2 0], allD 47, true⟩, ⟨[], allD 47, true⟩, ⟨[.op 1 2 0], allD 47, true⟩, ⟨[.op 1 2 0], allD 47, true⟩, ⟨[.op 4 1 0], [31, 32, 33, 34, 35, 36], false⟩, ⟨[.op 4 1 0, .op 10 5 0, .op 10 5 1], [31, 32, 33, 34, 35, 36], false⟩] h0 hm (tabEnv_ok (tab_cons (ok_waiting 0 D pl[i] (by omega) (by omega)) tab_nil)) (by kernel_rfl) (by kernel_rfl) ?_
            simp [hil, hdr, hlen, hlt, hlt2]
            subst hI
            refine Less_mk (q - 1) (by omega) ⟨i + 1, by omega, ?_⟩
            rw [if_neg (by omega), e, hat, ofL_mv 2 _ _ _ rfl, wrNext i (by omega), addW_co]
            rfl
          · by_cases c2 : i = 5
            · subst c2
              have hat := plAt_get pl 4 (by omega)
              have e : saveN pl d (5 + 1) = addW D (plAt pl 4) := by rw [hs, stepS, if_neg c1, if_pos rfl]
              have hdr := fm_drop GWrite.c 2 (fun _ => rfl) pl 4 (by omega)
              have hlen := fm_len GWrite.c 2 (fun _ => rfl) pl
              have h4 : 4 < pl.length := by omega
              have h4' : 10 ≤ pl.length * 2 := by omega
              have h4'' : 8 < pl.length * 2 := by omega
              simp at hdr
              simp
              refine drawP (tabEnv [] _) [⟨[.op 4 1 0], allD 47, true⟩, ⟨[.op 1 2 0], allD 47, true⟩, ⟨[.op 1 2 0], allD 47, true⟩, ⟨[.op 1 2 0], allD 47, true⟩, ⟨[.op 4 1 0], [40, 41, 42, 43, 44], false⟩, ⟨[.op 4 1 0, .op 12 4 0, .op 12 4 1], [40, 41, 42, 43, 44], false⟩] h0 hm (tabEnv_ok (tab_cons (ok_waiting 0 D pl[4] (by omega) (by omega)) tab_nil)) (by kernel_rfl) (by kernel_rfl) ?_
              have h4i : (4 : Int) < pl.length := by omega
              simp [h4, h4', h4'', h4i, hdr, hlen]
              subst hI
              refine Less_mk (q - 1) (by omega) ⟨5 + 1, by omega, ?_⟩
              rw [if_neg (by omega), e, hat, ofL_mv 2 _ _ _ rfl, addW_co]
              rfl
            · have c1' : ¬ (i : Int) < 4 := by omega
              have c2' : ¬ (i : Int) = 5 := by omega
              have e : saveN pl d (i + 1) = synced D := by rw [hs, stepS, if_neg c1, if_neg c2]
              simp [c1, c1', c2, c2']
              refine Inv_intro (ok_synced 0 D (by omega) (by omega) (fun w hw => by rw [o1]; exact (o4 w hw).1)) ?_
              simp
              subst hI
              refine Less_mk (q - 1) (by omega) ⟨i + 1, by omega, ?_⟩
              rw [if_neg (by omega), e, wrNext i (by omega)]
              rfl
      · simp at a
        have : i = n := by omega
        subst this
        by_cases hi0 : i = 0
        · simp [hi0, saveN]
        · simp [hi0]
theorem ok_l17Save (d : GDisk) (text : ByteArray) (n m : Nat) (hd : okD d m) (hm' : m ≤ 1000000) (hn : n ≤ 7) (ht : text.size ≤ 140737488351232) : CallOK Try.prog 51 [.agg d.co, .c (ps text), .c (pi n)] (.tup [.agg (if (saveL d text n).2 = true then (saveL d text n).1.co else d.co), .c (pb (saveL d text n).2)]) [.agg [.hole, .hole], .c (ps text), .c (pi n)] := by
  refine okS (fn := Try.f51) [(97, [2])] h0 Try.func51 (by kernel_rfl) rfl Try.ntmps51 Try.results51 (by simp) ?_
  simp
  refine Inv_intro (ok_l17Plan 0 d text hd.1 (fun s hs => by have := hd.2.1 s hs; omega) ht) ?_
  have hpl := @okPl_plan d.Sectors text
  have hsl : saveL d text n = if (planL d.Sectors text).2 = true then (saveN (planL d.Sectors text).1 d n, true) else (⟨[], []⟩, false) := rfl
  generalize hP : planL d.Sectors text = P at *
  obtain ⟨pl, okp⟩ := P
  simp
  cases okp with
  | false =>
    have hsl : saveL d text n = (⟨[], []⟩, false) := by rw [hsl]; rfl
    simp [hsl]
  | true =>
    have hpl : okPl pl := hpl rfl
    have hsl : saveL d text n = (saveN pl d n, true) := by rw [hsl]; rfl
    rw [hsl]
    simp
    refine loopS [2, 3, 6, 8, 10] [.op 0 0 0, .op 0 1 0, .op 1 2 0] (fun q st => ∃ (i : Nat), i + q = n ∧ st = ⟨slOf 51 [(2, .t (pi n)), (3, .ptr ⟨.op 0 0 0, []⟩ 0), (6, .ptr ⟨.op 0 1 0, []⟩ 0), (8, .ref ⟨.op 1 2 0, []⟩ 0 pl.length), (10, .t (pi i))], ofL [(.arg 0 0, .hole), (.arg 0 1, .hole), (.op 0 0 0, .sl 0 29 1 (saveN pl d i).co), (.op 0 1 0, .sl 0 29 1 [.sl 0 nilE 0 [], .sl 0 nilE 0 []]), (.op 1 2 0, .sl 0 43 pl.length (pl.flatMap GWrite.c))]⟩) n ?_ ?_
    · rintro Inv hI
      simp
      subst hI
      exact ⟨0, by omega, rfl⟩
    · rintro Inv hI q st ⟨i, hi, rfl⟩
      have hpl5 := hpl.1
      refine ewr_sound (M := [(97, [2])]) h0 ?_
      simp
      refine brn_app (fun a => ?_) (fun a => ?_)
      · simp at a
        have hok := okD_save hpl hd i
        have hs : saveN pl d (i + 1) = stepS pl (saveN pl d i) i := rfl
        simp
        generalize hD : saveN pl d i = D at *
        obtain ⟨o1, o2, o3, o4⟩ := hok
        have hWl := fm_len GWrite.c 2 (fun _ => rfl) D.Waiting
        have hWt : List.take (D.Waiting.length * 2) (D.Waiting.flatMap GWrite.c) = D.Waiting.flatMap GWrite.c := List.take_of_length_le (by omega)
        have b1 : (D.Waiting.length + 1) * 24 ≤ 140737488355328 := by omega
        have b2 : D.Waiting.length + 1 ≤ 9223372036854775807 := by omega
        by_cases c1 : i < 4
        · have c1' : (i : Int) < 4 := by omega
          have hat := plAt_get pl i (by omega)
          have e : saveN pl d (i + 1) = addW D (plAt pl i) := by rw [hs, stepS, if_pos c1]
          have hdr := fm_drop GWrite.c 2 (fun _ => rfl) pl i (by omega)
          have hlen := fm_len GWrite.c 2 (fun _ => rfl) pl
          have hlt : i * 2 < pl.length * 2 := by omega
          have hil : i < pl.length := by omega
          have hlt2 : i * 2 + 2 ≤ pl.length * 2 := by omega
          simp [c1, c1']
          refine drawP (tabEnv [] _) [⟨[.op 0 0 0], allD 51, true⟩, ⟨[.op 0 0 0], allD 51, true⟩, ⟨[.op 1 2 0], allD 51, true⟩, ⟨[], allD 51, true⟩, ⟨[.op 1 2 0], allD 51, true⟩, ⟨[.op 1 2 0], allD 51, true⟩, ⟨[.op 9 6 0], [30, 31, 32, 33, 34, 35, 36, 37, 38], false⟩, ⟨[.op 0 0 0, .op 9 6 0, .op 9 7 0], [30, 31, 32, 33, 34, 35, 36, 37, 38], false⟩, ⟨[.op 0 0 0], allD 51, true⟩, ⟨[.op 0 0 0, .op 9 7 0], [30, 31, 32, 33, 34, 35, 36, 37, 38], false⟩] h0 hm (tabEnv_ok tab_nil) (by kernel_rfl) (by kernel_rfl) ?_
          simp [hil, hdr, hlen, hlt, hlt2, hWl, hWt, b1, b2]
          subst hI
          refine Less_mk (q - 1) (by omega) ⟨i + 1, by omega, ?_⟩
          rw [e, hat, ofL_mv 2 _ _ _ rfl, wrNext i (by omega), addW_co]
          rfl
        · by_cases c2 : i = 5
          · subst c2
            have hat := plAt_get pl 4 (by omega)
            have e : saveN pl d (5 + 1) = addW D (plAt pl 4) := by rw [hs, stepS, if_neg c1, if_pos rfl]
            have hdr := fm_drop GWrite.c 2 (fun _ => rfl) pl 4 (by omega)
            have hlen := fm_len GWrite.c 2 (fun _ => rfl) pl
            have h4 : 4 < pl.length := by omega
            have h4' : 10 ≤ pl.length * 2 := by omega
            have h4'' : 8 < pl.length * 2 := by omega
            have h4i : (4 : Int) < pl.length := by omega
            simp at hdr
            simp
            refine drawP (tabEnv [] _) [⟨[.op 0 0 0], allD 51, true⟩, ⟨[.op 0 0 0], allD 51, true⟩, ⟨[.op 1 2 0], allD 51, true⟩, ⟨[.op 1 2 0], allD 51, true⟩, ⟨[.op 1 2 0], allD 51, true⟩, ⟨[.op 11 5 0], [42, 43, 44, 45, 46, 47, 48, 49], false⟩, ⟨[.op 0 0 0, .op 11 5 0, .op 11 6 0], [42, 43, 44, 45, 46, 47, 48, 49], false⟩, ⟨[.op 0 0 0], allD 51, true⟩, ⟨[.op 0 0 0, .op 11 6 0], [42, 43, 44, 45, 46, 47, 48, 49], false⟩] h0 hm (tabEnv_ok tab_nil) (by kernel_rfl) (by kernel_rfl) ?_
            simp [h4, h4', h4'', h4i, hdr, hlen, hWl, hWt, b1, b2]
            subst hI
            refine Less_mk (q - 1) (by omega) ⟨5 + 1, by omega, ?_⟩
            rw [e, hat, ofL_mv 2 _ _ _ rfl, addW_co]
            rfl
          · have c1' : ¬ (i : Int) < 4 := by omega
            have c2' : ¬ (i : Int) = 5 := by omega
            have e : saveN pl d (i + 1) = synced D := by rw [hs, stepS, if_neg c1, if_neg c2]
            simp [c1, c1', c2, c2']
            refine Inv_intro (ok_l17Sync D (by omega) (by omega) (fun w hw => by rw [o1]; exact (o4 w hw).1)) ?_
            simp
            subst hI
            refine Less_mk (q - 1) (by omega) ⟨i + 1, by omega, ?_⟩
            rw [e, wrNext i (by omega)]
            rfl
      · simp at a
        have : i = n := by omega
        subst this
        simp
def rSaveTo (d : GDisk) (text : ByteArray) (n : Int) : GDisk × Bool := if goodDisk d = true ∧ d.Waiting.length = 0 ∧ 0 ≤ n ∧ n ≤ 7 then saveL d text n.toNat else (⟨[], []⟩, false)
theorem good_okD {d : GDisk} (h : goodDisk d = true) : okD d 40 := by
  obtain ⟨h1, h2, h3⟩ := good_at h
  refine ⟨h1, (goodDisk_secs h).2, h2, fun w hw => ?_⟩
  have h4 := h3 w hw
  rw [h1] at h4
  refine ⟨h4, ?_⟩
  simp only [goodDisk, Bool.and_eq_true, decide_eq_true_eq, List.all_eq_true, okWrite] at h
  exact (h.2 w hw).2
theorem okD_wt {d : GDisk} {m : Nat} (h : okD d m) (hm : m ≤ 1000) : GDisk.lens d ∧ GDisk.cnT d ≤ 1152921504606846976 := by
  obtain ⟨a, b, c, e⟩ := h
  have h1 := cn_len_StringS d.Sectors
  have h2 := cn_len_WriteS d.Waiting
  refine ⟨⟨⟨by omega, fun _ _ => trivial⟩, ⟨by omega, fun _ _ => trivial⟩⟩, ?_⟩
  unfold GDisk.cnT
  omega
theorem nil_wt : GDisk.lens ⟨[], []⟩ ∧ GDisk.cnT ⟨[], []⟩ ≤ 1152921504606846976 := by
  have h1 := cn_len_StringS []
  have h2 := cn_len_WriteS []
  refine ⟨⟨⟨Nat.zero_le _, fun _ _ => trivial⟩, ⟨Nat.zero_le _, fun _ _ => trivial⟩⟩, ?_⟩
  unfold GDisk.cnT
  simp only [List.length_nil] at h1 h2
  simp only
  omega
theorem rSaveTo_ok (v0 : GDisk) (v1 : ByteArray) (v2 : Int) (hw0 : v0.wt ≤ 1048576) (hw1 : v1.size ≤ 1048576) : GDisk.lens (rSaveTo v0 v1 v2).1 ∧ GDisk.cnT (rSaveTo v0 v1 v2).1 ≤ 1152921504606846976 := by
  unfold rSaveTo
  split
  · rename_i h
    unfold saveL
    split
    · rename_i hp
      exact okD_wt (okD_save (okPl_plan hp) (good_okD h.1) v2.toNat) (by omega)
    · exact nil_wt
  · exact nil_wt
theorem law_iSaveTo (v0 : GDisk) (v1 : ByteArray) (v2 : Int) (hw0 : v0.wt ≤ 1048576) (hw1 : v1.size ≤ 1048576) : CallOK Try.prog 13 [.agg (GDisk.ci 0 v0), .c (ps v1), .c (pi v2)] (pvDB (rSaveTo v0 v1 v2)) [.agg (GDisk.ci 0 v0), .c (ps v1), .c (pi v2)] := by
  have hl := disk_len hw0
  refine okS (fn := Try.f13) [] h0 Try.func13 (by kernel_rfl) rfl Try.ntmps13 Try.results13 (by simp) ?_
  simp
  refine Inv_intro (ok_iGoodDisk 0 v0 (by omega) (by omega)) ?_
  simp
  refine gF (fun a => ?_) (fun a => ?_)
  · simp at a
    simp [a]
    have h0' := good_okD a
    refine gF (fun b => ?_) (fun b => ?_)
    · simp [b]
      simp at b
      refine Inv_intro (ok_within v2 0 7) ?_
      simp
      refine brn_app (fun c => ?_) (fun c => ?_)
      · simp at c
        have hc : ¬ (0 ≤ v2 ∧ v2 ≤ 7) := by omega
        have er : rSaveTo v0 v1 v2 = (⟨[], []⟩, false) := by
          unfold rSaveTo
          rw [if_neg]
          rintro ⟨_, _, h⟩
          exact hc h
        simp [er]
      · simp at c
        obtain ⟨n, rfl⟩ : ∃ n : Nat, v2 = n := ⟨v2.toNat, by omega⟩
        have hn : n ≤ 7 := by omega
        have er : rSaveTo v0 v1 n = saveL v0 v1 n := by
          unfold rSaveTo
          rw [if_pos ⟨a, by simp [b], by omega, by omega⟩]
          rfl
        rw [er]
        simp
        refine Inv_intro (ok_isave 0 v0 v1 n 40 h0' (by omega) hn (by omega)) ?_
        have hk := okD_saveL h0' v1 n
        have hz : n = 0 → (saveL v0 v1 n).2 = true → (saveL v0 v1 n).1 = v0 := by
          rintro rfl h
          unfold saveL at h ⊢
          split
          · rfl
          · rename_i hq
            rw [if_neg hq] at h
            cases h
        generalize hS : saveL v0 v1 n = S at *
        obtain ⟨S1, S2⟩ := S
        have hz1 : ¬ (S1, S2).2 = true → (S1, S2).1 = ⟨[], []⟩ := by
          intro h
          rw [← hS] at h ⊢
          unfold saveL at h ⊢
          split
          · rename_i hq
            rw [if_pos hq] at h
            exact absurd rfl h
          · rfl
        cases S2 with
        | false =>
          have hz1 : S1 = ⟨[], []⟩ := hz1 (by simp)
          subst hz1
          simp
        | true =>
          have hk : okD S1 (40 + n) := by
            rcases hk with h | h
            · exact h
            · cases h
          obtain ⟨k1, k2, k3, k4⟩ := hk
          by_cases hn0 : n = 0
          · have hz : S1 = v0 := hz hn0 rfl
            subst hz
            simp [hn0]
            refine drawP (tabEnv [] _) [⟨[.op 3 7 0], allD 42, true⟩, ⟨[.op 3 7 0], allD 42, true⟩, ⟨[], allD 42, false⟩, ⟨[.op 3 7 0], allD 42, true⟩, ⟨[.op 3 7 0], allD 42, true⟩, ⟨[], allD 42, false⟩, ⟨[.op 6 2 0, .op 6 5 0], allD 42, true⟩, ⟨[.op 0 1 0, .op 6 2 0, .op 6 5 0], [35, 36, 37, 38, 39, 40, 41, 7], false⟩, ⟨[], allD 42, true⟩] h0 hm (tabEnv_ok (tab_cons (ok_Clone_String 0 S1.Sectors (by omega)) (tab_cons (ok_Clone_Write 0 S1.Waiting (by omega)) tab_nil))) (by kernel_rfl) (by kernel_rfl) ?_
            simp
          · simp [hn0]
            refine ewp_freeze (.op 3 7 0) [6, 7] [.op 0 1 0] rfl (n := 1) (e := 29) (cs := S1.co) rfl (by decide) ?_
            simp
            refine drawP (tabEnv [] _) [⟨[.op 3 7 0], allD 42, true⟩, ⟨[.op 3 7 0], allD 42, true⟩, ⟨[], allD 42, false⟩, ⟨[.op 3 7 0], allD 42, true⟩, ⟨[.op 3 7 0], allD 42, true⟩, ⟨[], allD 42, false⟩, ⟨[.op 6 2 0, .op 6 5 0], allD 42, true⟩, ⟨[.op 0 1 0, .op 6 2 0, .op 6 5 0], [35, 36, 37, 38, 39, 40, 41, 7], false⟩, ⟨[], allD 42, true⟩] h0 hm (tabEnv_ok (tab_cons (ok_Clone_String 0 S1.Sectors (by omega)) (tab_cons (ok_Clone_Write 0 S1.Waiting (by omega)) tab_nil))) (by kernel_rfl) (by kernel_rfl) ?_
            simp
            refine Thawed_mk ?_
            simp
    · simp [b]
      simp at b
      have hb : ¬ v0.Waiting.length = 0 := by omega
      simp [rSaveTo, hb]
  · simp at a
    simp [a, rSaveTo]
theorem law_sSaveTo (v0 : GDisk) (v1 : ByteArray) (v2 : Int) (hw0 : v0.wt ≤ 1048576) (hw1 : v1.size ≤ 1048576) : CallOK Try.prog 14 [.agg (GDisk.ci 0 v0), .c (ps v1), .c (pi v2)] (pvDB (rSaveTo v0 v1 v2)) [.agg (GDisk.ci 0 v0), .c (ps v1), .c (pi v2)] := by
  have hl := disk_len hw0
  refine okS (fn := Try.f14) [(51, [2])] h0 Try.func14 (by kernel_rfl) rfl Try.ntmps14 Try.results14 (by simp) ?_
  simp
  refine Inv_intro (ok_sGoodDisk 0 v0 (by omega) (by omega)) ?_
  simp
  refine gF (fun a => ?_) (fun a => ?_)
  · simp at a
    simp [a]
    have h0' := good_okD a
    refine gF (fun b => ?_) (fun b => ?_)
    · simp [b]
      simp at b
      refine Inv_intro (ok_l1In v2 0 7) ?_
      simp
      refine brn_app (fun c => ?_) (fun c => ?_)
      · simp at c
        have hc : ¬ (0 ≤ v2 ∧ v2 ≤ 7) := by omega
        have er : rSaveTo v0 v1 v2 = (⟨[], []⟩, false) := by
          unfold rSaveTo
          rw [if_neg]
          rintro ⟨_, _, h⟩
          exact hc h
        simp [er]
      · simp at c
        obtain ⟨n, rfl⟩ : ∃ n : Nat, v2 = n := ⟨v2.toNat, by omega⟩
        have hn : n ≤ 7 := by omega
        have er : rSaveTo v0 v1 n = saveL v0 v1 n := by
          unfold rSaveTo
          rw [if_pos ⟨a, by simp [b], by omega, by omega⟩]
          rfl
        rw [er]
        simp
        refine Inv_intro (ok_l17Own 0 v0 (by omega) (by omega)) ?_
        simp
        refine Inv_intro (ok_l17Save v0 v1 n 40 h0' (by omega) hn (by omega)) ?_
        have hk := okD_saveL h0' v1 n
        have hz : n = 0 → (saveL v0 v1 n).2 = true → (saveL v0 v1 n).1 = v0 := by
          rintro rfl h
          unfold saveL at h ⊢
          split
          · rfl
          · rename_i hq
            rw [if_neg hq] at h
            cases h
        generalize hS : saveL v0 v1 n = S at *
        obtain ⟨S1, S2⟩ := S
        have hz1 : ¬ (S1, S2).2 = true → (S1, S2).1 = ⟨[], []⟩ := by
          intro h
          rw [← hS] at h ⊢
          unfold saveL at h ⊢
          split
          · rename_i hq
            rw [if_pos hq] at h
            exact absurd rfl h
          · rfl
        cases S2 with
        | false =>
          have hz1 : S1 = ⟨[], []⟩ := hz1 (by simp)
          subst hz1
          simp
        | true =>
          have hk : okD S1 (40 + n) := by
            rcases hk with h | h
            · exact h
            · cases h
          obtain ⟨k1, k2, k3, k4⟩ := hk
          simp
          refine Inv_intro (ok_l17Own 0 S1 (by omega) (by omega)) ?_
          simp
    · simp [b]
      simp at b
      have hb : ¬ v0.Waiting.length = 0 := by omega
      simp [rSaveTo, hb]
  · simp at a
    simp [a, rSaveTo]
def stepsOf (len done i : Nat) : Nat := if i + 1 = len then done else 7
def playI (l : List ByteArray) (done : Nat) : Nat → Option GDisk
  | 0 => some disk0
  | i + 1 => match playI l done i with
    | none => none
    | some d => if (saveL d (secAt l i) (stepsOf l.length done i)).2 = true then some (saveL d (secAt l i) (stepsOf l.length done i)).1 else none
theorem playI_none (l : List ByteArray) (done : Nat) {i : Nat} (h : playI l done i = none) : ∀ n, i ≤ n → playI l done n = none
  | n, hn => by
    induction hn with
    | refl => exact h
    | step _ ih => simp only [playI, ih]
theorem playI_ok (l : List ByteArray) (done : Nat) (hd : done ≤ 7) : ∀ (i : Nat) (d : GDisk), playI l done i = some d → okD d (7 * i)
  | 0, d, h => by
    cases h
    exact okD_disk0 0
  | i + 1, d, h => by
    unfold playI at h
    split at h
    · cases h
    · rename_i d0 hd0
      have ih := playI_ok l done hd i d0 hd0
      split at h
      · rename_i hs
        cases h
        rcases okD_saveL ih (secAt l i) (stepsOf l.length done i) with h1 | h1
        · have : stepsOf l.length done i ≤ 7 := by unfold stepsOf; split <;> omega
          obtain ⟨a, b, c, e⟩ := h1
          exact ⟨a, b, by omega, e⟩
        · rw [hs] at h1; cases h1
      · cases h
def playOK (l : List ByteArray) (done : Int) : Prop := (1 ≤ l.length ∧ l.length ≤ 40) ∧ 0 ≤ done ∧ done ≤ 7
instance (l : List ByteArray) (done : Int) : Decidable (playOK l done) := by unfold playOK; infer_instance
def rPlaySaves (l : List ByteArray) (done : Int) (kept : List Bool) : GDisk × Bool := if playOK l done then match playI l done.toNat l.length with
    | some d => (crashed d kept, true)
    | none => (⟨[], []⟩, false)
  else (⟨[], []⟩, false)
theorem law_sPlaySaves (v0 : List ByteArray) (v1 : Int) (v2 : List Bool) (hw0 : wt_StringS v0 ≤ 1048576) (hw2 : wt_BoolS v2 ≤ 1048576) : CallOK Try.prog 8 [.c (rd 0 v0.length (v0.map ps)), .c (pi v1), .c (rd 0 v2.length (v2.map pb))] (pvDB (rPlaySaves v0 v1 v2)) [.c (rd 0 v0.length (v0.map ps)), .c (pi v1), .c (rd 0 v2.length (v2.map pb))] := by
  have hl := len_wt_StringS v0
  have hl2 := len_wt_BoolS v2
  refine okS (fn := Try.f8) [(51, [2]), (52, [2])] h0 Try.func8 (by kernel_rfl) rfl Try.ntmps8 Try.results8 (by simp) ?_
  simp
  refine Inv_intro (ok_l1In v0.length 1 40) ?_
  simp
  refine gF (fun a => ?_) (fun a => ?_)
  · simp [a]
    simp at a
    refine Inv_intro (ok_l1In v1 0 7) ?_
    simp
    refine brn_app (fun b => ?_) (fun b => ?_)
    · simp at b
      have hp : ¬ playOK v0 v1 := by
        rintro ⟨_, h⟩
        omega
      simp [rPlaySaves, hp]
    · simp at b
      have hp : playOK v0 v1 := ⟨by omega, b.1, b.2⟩
      obtain ⟨done, rfl⟩ : ∃ n : Nat, v1 = n := ⟨v1.toNat, by omega⟩
      have er : rPlaySaves v0 done v2 = match playI v0 done v0.length with
          | some d => (crashed d v2, true)
          | none => (⟨[], []⟩, false) := by
        unfold rPlaySaves
        rw [if_pos hp]
        rfl
      simp
      refine Inv_intro ok_sNewDisk ?_
      simp
      refine loopS [0, 1, 2, 6, 8, 25, 26, 27] [.op 0 0 0, .op 3 1 0] (fun q st => ∃ (i : Nat) (d : GDisk), i + q = v0.length ∧ playI v0 done i = some d ∧ st = ⟨slOf 54 [(0, .t (rd 0 v0.length (v0.map ps))), (1, .t (pi done)), (2, .t (rd 0 v2.length (v2.map pb))), (6, .ptr ⟨.op 0 0 0, []⟩ 0), (8, .ptr ⟨.op 3 1 0, []⟩ 0), (25, .t (rd 0 v0.length (v0.map ps))), (26, .t (pi v0.length)), (27, .t (pi i))], ofL [(.op 0 0 0, .sl 0 29 1 [.sl 0 nilE 0 [], .sl 0 nilE 0 []]), (.op 3 1 0, .sl 0 29 1 d.co)]⟩) v0.length ?_ ?_
      · rintro Inv hI
        simp
        subst hI
        exact ⟨0, disk0, by omega, rfl, rfl⟩
      · rintro Inv hI q st ⟨i, d, hi, hpl, rfl⟩
        refine ewr_sound (M := [(51, [2]), (52, [2])]) h0 ?_
        simp
        refine brn_app (fun c => ?_) (fun c => ?_)
        · simp at c
          have hok := playI_ok v0 done (by omega) i d hpl
          have w1 : IntKind.wrap .i64 ((v0.length : Int) - 1) = (v0.length : Int) - 1 := wrap64 (by omega) (by omega)
          have hnext : playI v0 done (i + 1) = if (saveL d v0[i] (stepsOf v0.length done i)).2 = true then some (saveL d v0[i] (stepsOf v0.length done i)).1 else none := by
            simp only [playI, hpl]
            rw [secAt_get v0 i c]
          simp [c, w1]
          refine brn_app (fun e => ?_) (fun e => ?_)
          · simp at e
            have hzz : done = stepsOf v0.length done i := by
              unfold stepsOf
              rw [if_pos (by omega)]
            simp
            refine Inv_intro (ok_l17Save d v0[i] done (7 * i) hok (by omega) (by omega) (by have := mem_wt_StringS (List.getElem_mem c); omega)) ?_
            rw [← hzz] at hnext
            generalize hS : saveL d v0[i] done = S at *
            obtain ⟨S1, S2⟩ := S
            cases S2 with
            | false =>
              have hf : rPlaySaves v0 done v2 = (⟨[], []⟩, false) := by
                rw [er, playI_none v0 done (i := i + 1) hnext v0.length (by omega)]
              simp [hf]
            | true =>
              simp
              subst hI
              refine Less_mk (q - 1) (by omega) ⟨i + 1, S1, by omega, hnext, ?_⟩
              rw [wrNext i (by omega)]
              rfl
          · simp at e
            have hzz : 7 = stepsOf v0.length done i := by
              unfold stepsOf
              rw [if_neg (by omega)]
            simp
            refine Inv_intro (ok_l17Save d v0[i] 7 (7 * i) hok (by omega) (by omega) (by have := mem_wt_StringS (List.getElem_mem c); omega)) ?_
            rw [← hzz] at hnext
            generalize hS : saveL d v0[i] 7 = S at *
            obtain ⟨S1, S2⟩ := S
            cases S2 with
            | false =>
              have hf : rPlaySaves v0 done v2 = (⟨[], []⟩, false) := by
                rw [er, playI_none v0 done (i := i + 1) hnext v0.length (by omega)]
              simp [hf]
            | true =>
              simp
              subst hI
              refine Less_mk (q - 1) (by omega) ⟨i + 1, S1, by omega, hnext, ?_⟩
              rw [wrNext i (by omega)]
              rfl
        · simp at c
          have hil : i = v0.length := by omega
          subst hil
          have er : rPlaySaves v0 done v2 = (crashed d v2, true) := by rw [er, hpl]
          rw [er]
          simp
          have hok := playI_ok v0 done (by omega) v0.length d hpl
          have hln : v0.length ≤ 40 := by omega
          obtain ⟨k1, k2, k3, k4⟩ := hok
          refine Inv_intro (ok_l17Own 0 d (by omega) (by omega)) ?_
          simp
          refine Inv_intro (ok_l17Crash 0 d v2 (by omega) (by omega) (fun w hw => by rw [k1]; exact (k4 w hw).1)) ?_
          simp
  · simp [a]
    simp at a
    have hp : ¬ playOK v0 v1 := by
      rintro ⟨h, _⟩
      omega
    simp [rPlaySaves, hp]
end Go.V
