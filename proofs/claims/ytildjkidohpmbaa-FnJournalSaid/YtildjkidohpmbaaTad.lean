/- What functions of the seat's program do, each proved of its code, under the bounds that its theorem names. -/
import Derived.Test.YtildjkidohpmbaaTac
set_option linter.all false
namespace Go.V
open Go.Proofs
set_option maxHeartbeats 1000000
set_option maxRecDepth 10000
set_option linter.unusedSimpArgs false
set_option linter.unusedVariables false
theorem ok_isave2 (d : GDisk) (text : ByteArray) (n m : Nat) (hd : okD d m) (hm' : m ≤ 1000000) (hn : n ≤ 7) (ht : text.size ≤ 140737488351232) : CallOK Try.prog 47 [.agg d.co, .c (ps text), .c (pi n)] (.tup [.agg (saveL d text n).1.co, .c (pb (saveL d text n).2)]) [.agg [.hole, .hole], .c (ps text), .c (pi n)] := by
  refine okS (fn := Try.f47) [] h0 Try.func47 (by kernel_rfl) rfl Try.ntmps47 Try.results47 (by simp) ?_
  simp
  refine Inv_intro (ok_planOf 0 d text hd.1 (fun s hs => by have := hd.2.1 s hs; omega) ht) ?_
  have hpl := @okPl_plan d.Sectors text
  have hsl : saveL d text n = if (planL d.Sectors text).2 = true then (saveN (planL d.Sectors text).1 d n, true) else (⟨[], []⟩, false) := rfl
  generalize hP : planL d.Sectors text = P at *
  obtain ⟨pl, okp⟩ := P
  simp
  cases okp with
  | false =>
    have hsl : saveL d text n = (⟨[], []⟩, false) := by rw [hsl]; rfl
    simp [hsl]
  | true =>
    have hpl : okPl pl := hpl rfl
    have hsl : saveL d text n = (saveN pl d n, true) := by rw [hsl]; rfl
    rw [hsl]
    simp
    refine loopS [2, 6, 8, 10, 22, 23] [.op 0 0 0, .op 0 1 0, .op 1 2 0, .op 4 1 0] (fun q st => ∃ (i : Nat), i + q = n ∧ st = ⟨slOf 47 [(2, .t (pi n)), (6, .ptr ⟨.op 0 1 0, []⟩ 0), (8, .ref ⟨.op 1 2 0, []⟩ 0 pl.length), (10, .ptr ⟨.op 4 1 0, []⟩ 0), (22, .t (pi n)), (23, .t (pi i))], ofL [(.arg 0 0, .hole), (.arg 0 1, .hole), (.op 0 0 0, .sl 0 29 1 [.hole, .hole]), (.op 0 1 0, .sl 0 29 1 [.sl 0 nilE 0 [], .sl 0 nilE 0 []]), (.op 1 2 0, .sl 0 43 pl.length (pl.flatMap GWrite.c)), (.op 4 1 0, .sl 0 29 1 (saveN pl d i).co)]⟩) n ?_ ?_
    · rintro Inv hI
      simp
      subst hI
      exact ⟨0, by omega, rfl⟩
    · rintro Inv hI q st ⟨i, hi, rfl⟩
      have hpl5 := hpl.1
      refine ewr_sound (M := []) h0 ?_
      simp
      refine brn_app (fun a => ?_) (fun a => ?_)
      · simp at a
        have hok := okD_save hpl hd i
        have hs : saveN pl d (i + 1) = stepS pl (saveN pl d i) i := rfl
        simp
        generalize hD : saveN pl d i = D at *
        obtain ⟨o1, o2, o3, o4⟩ := hok
        by_cases c1 : i < 4
        · have c1' : (i : Int) < 4 := by omega
          have hat := plAt_get pl i (by omega)
          have e : saveN pl d (i + 1) = addW D (plAt pl i) := by rw [hs, stepS, if_pos c1]
          have hdr := fm_drop GWrite.c 2 (fun _ => rfl) pl i (by omega)
          have hlen := fm_len GWrite.c 2 (fun _ => rfl) pl
          have hlt : i * 2 < pl.length * 2 := by omega
          have hil : i < pl.length := by omega
          have hlt2 : i * 2 + 2 ≤ pl.length * 2 := by omega
          simp [c1, c1']
          refine drawP (tabEnv [] _) [⟨[.op 4 1 0], allD 47, true⟩, ⟨[.op 1 2 0], allD 47, true⟩, ⟨[], allD 47, true⟩, ⟨[.op 1 2 0], allD 47, true⟩, ⟨[.op 1 2 0], allD 47, true⟩, ⟨[.op 4 1 0], [31, 32, 33, 34, 35, 36], false⟩, ⟨[.op 4 1 0, .op 10 5 0, .op 10 5 1], [31, 32, 33, 34, 35, 36], false⟩] h0 hm (tabEnv_ok (tab_cons (ok_waiting 0 D pl[i] (by omega) (by omega)) tab_nil)) (by kernel_rfl) (by kernel_rfl) ?_
          simp [hil, hdr, hlen, hlt, hlt2]
          subst hI
          refine Less_mk (q - 1) (by omega) ⟨i + 1, by omega, ?_⟩
          rw [e, hat, ofL_mv 5 _ _ _ rfl, wrNext i (by omega), addW_co]
          rfl
        · by_cases c2 : i = 5
          · subst c2
            have hat := plAt_get pl 4 (by omega)
            have e : saveN pl d (5 + 1) = addW D (plAt pl 4) := by rw [hs, stepS, if_neg c1, if_pos rfl]
            have hdr := fm_drop GWrite.c 2 (fun _ => rfl) pl 4 (by omega)
            have hlen := fm_len GWrite.c 2 (fun _ => rfl) pl
            have h4 : 4 < pl.length := by omega
            have h4' : 10 ≤ pl.length * 2 := by omega
            have h4'' : 8 < pl.length * 2 := by omega
            simp at hdr
            simp
            refine drawP (tabEnv [] _) [⟨[.op 4 1 0], allD 47, true⟩, ⟨[.op 1 2 0], allD 47, true⟩, ⟨[.op 1 2 0], allD 47, true⟩, ⟨[.op 1 2 0], allD 47, true⟩, ⟨[.op 4 1 0], [40, 41, 42, 43, 44], false⟩, ⟨[.op 4 1 0, .op 12 4 0, .op 12 4 1], [40, 41, 42, 43, 44], false⟩] h0 hm (tabEnv_ok (tab_cons (ok_waiting 0 D pl[4] (by omega) (by omega)) tab_nil)) (by kernel_rfl) (by kernel_rfl) ?_
            have h4i : (4 : Int) < pl.length := by omega
            simp [h4, h4', h4'', h4i, hdr, hlen]
            subst hI
            refine Less_mk (q - 1) (by omega) ⟨5 + 1, by omega, ?_⟩
            rw [e, hat, ofL_mv 5 _ _ _ rfl, addW_co]
            rfl
          · have c1' : ¬ (i : Int) < 4 := by omega
            have c2' : ¬ (i : Int) = 5 := by omega
            have e : saveN pl d (i + 1) = synced D := by rw [hs, stepS, if_neg c1, if_neg c2]
            simp [c1, c1', c2, c2']
            refine Inv_intro (ok_synced 0 D (by omega) (by omega) (fun w hw => by rw [o1]; exact (o4 w hw).1)) ?_
            simp
            subst hI
            refine Less_mk (q - 1) (by omega) ⟨i + 1, by omega, ?_⟩
            rw [e, wrNext i (by omega)]
            rfl
      · simp at a
        have : i = n := by omega
        subst this
        simp
def disk0 : GDisk := ⟨[ByteArray.empty, ByteArray.empty, ByteArray.empty, ByteArray.empty, ByteArray.empty, ByteArray.empty, ByteArray.empty, ByteArray.empty, sealS (strOf [tb 0 1, tb 0 0, tb 0 0]), ByteArray.empty], []⟩
theorem okD_disk0 (m : Nat) : okD disk0 m := by
  refine ⟨rfl, ?_, Nat.zero_le _, fun w hw => absurd hw (by simp [disk0])⟩
  intro s hs
  have hz : (sealS (strOf [tb 0 1, tb 0 0, tb 0 0])).size ≤ 20 := by
    rw [sealS_size, strOf_size]
    simp
  have he : ByteArray.empty.size ≤ 20 := Nat.zero_le _
  simp only [disk0, List.mem_cons, List.not_mem_nil, or_false] at hs
  rcases hs with h | h | h | h | h | h | h | h | h | h <;> rw [h] <;> assumption
theorem ok_iNewDisk : CallOK Try.prog 31 [] (.agg disk0.co) [] := by
  refine okS (fn := Try.f31) [] h0 Try.func31 (by kernel_rfl) rfl Try.ntmps31 Try.results31 (by simp) ?_
  simp
  refine drawP (tabEnv [] _) [⟨[.op 1 2 0], allD 9, true⟩, ⟨[.op 1 2 0], allD 9, true⟩, ⟨[], allD 9, false⟩, ⟨[.op 1 2 0], allD 9, true⟩, ⟨[.op 1 2 0], [4, 5, 6, 7], false⟩] h0 hm (tabEnv_ok (tab_cons (ok_iteller 0 0) tab_nil)) (by kernel_rfl) (by kernel_rfl) ?_
  simp [disk0]
theorem ok_l17Empty : CallOK Try.prog 74 [] (.agg [.sl 0 9 10 ((List.replicate 10 ByteArray.empty).map ps), .sl 0 nilE 0 []]) [] := by
  refine okS (fn := Try.f74) [] h0 Try.func74 (by kernel_rfl) rfl Try.ntmps74 Try.results74 (by simp) ?_
  simp
theorem ok_sNewDisk : CallOK Try.prog 33 [] (.agg disk0.co) [] := by
  refine okS (fn := Try.f33) [] h0 Try.func33 (by kernel_rfl) rfl Try.ntmps33 Try.results33 (by simp) ?_
  simp
  refine Inv_intro ok_l17Empty ?_
  simp
  refine drawP (tabEnv [] _) [⟨[.op 1 1 0], allD 8, true⟩, ⟨[.op 1 1 0], allD 8, true⟩, ⟨[], allD 8, false⟩, ⟨[.op 1 1 0], allD 8, true⟩, ⟨[.op 1 1 0], [3, 4, 5, 6], false⟩] h0 hm (tabEnv_ok (tab_cons (ok_steller 0 0) tab_nil)) (by kernel_rfl) (by kernel_rfl) ?_
  simp [disk0]
def stepsOf (len done i : Nat) : Nat := if i + 1 = len then done else 7
def playI (l : List ByteArray) (done : Nat) : Nat → Option GDisk
  | 0 => some disk0
  | i + 1 => match playI l done i with
    | none => none
    | some d => if (saveL d (secAt l i) (stepsOf l.length done i)).2 = true then some (saveL d (secAt l i) (stepsOf l.length done i)).1 else none
theorem playI_none (l : List ByteArray) (done : Nat) {i : Nat} (h : playI l done i = none) : ∀ n, i ≤ n → playI l done n = none
  | n, hn => by
    induction hn with
    | refl => exact h
    | step _ ih => simp only [playI, ih]
theorem playI_ok (l : List ByteArray) (done : Nat) (hd : done ≤ 7) : ∀ (i : Nat) (d : GDisk), playI l done i = some d → okD d (7 * i)
  | 0, d, h => by
    cases h
    exact okD_disk0 0
  | i + 1, d, h => by
    unfold playI at h
    split at h
    · cases h
    · rename_i d0 hd0
      have ih := playI_ok l done hd i d0 hd0
      split at h
      · rename_i hs
        cases h
        rcases okD_saveL ih (secAt l i) (stepsOf l.length done i) with h1 | h1
        · have : stepsOf l.length done i ≤ 7 := by unfold stepsOf; split <;> omega
          obtain ⟨a, b, c, e⟩ := h1
          exact ⟨a, b, by omega, e⟩
        · rw [hs] at h1; cases h1
      · cases h
def playOK (l : List ByteArray) (done : Int) : Prop := (1 ≤ l.length ∧ l.length ≤ 40) ∧ 0 ≤ done ∧ done ≤ 7
instance (l : List ByteArray) (done : Int) : Decidable (playOK l done) := by unfold playOK; infer_instance
def rPlaySaves (l : List ByteArray) (done : Int) (kept : List Bool) : GDisk × Bool := if playOK l done then match playI l done.toNat l.length with
    | some d => (crashed d kept, true)
    | none => (⟨[], []⟩, false)
  else (⟨[], []⟩, false)
abbrev cBoolSo (xs : List Bool) : PT := .sl 0 4 xs.length (xs.map pb)
abbrev cBoolSi (k : Nat) (xs : List Bool) : PT := rd k xs.length (xs.map pb)
def wt_BoolS (xs : List Bool) : Nat := xs.length
theorem len_wt_BoolS (xs : List Bool) : xs.length ≤ wt_BoolS xs := by unfold wt_BoolS; omega
def fits_BoolS (xs : List Bool) : Prop := xs.length ≤ 140737488351232 ∧ ∀ x ∈ xs, True
def lens_BoolS (xs : List Bool) : Prop := xs.length ≤ 140737488351232 ∧ ∀ x ∈ xs, True
def mk_BoolS (xs : List Bool) (k : Int) : List Bool × Int := mkR (fun (_ : Bool) k => (decide (Int.tmod k 3 = 0), k + 1)) xs k
def cn_BoolS (xs : List Bool) : Nat := cnR (fun (_ : Bool) => 1) xs
theorem mk_BoolS_len (xs : List Bool) (k : Int) : (mk_BoolS xs k).1.length = xs.length := mkR_len _ xs k
attribute [simp] mk_BoolS_len
theorem mk_BoolS_snd (xs : List Bool) (k : Int) : (mk_BoolS xs k).2 = k + cn_BoolS xs := mkR_snd (fun _ _ => rfl) xs k
theorem lens_of_BoolS {xs : List Bool} (h : wt_BoolS xs ≤ 1048576) : lens_BoolS xs := by
  have hl := len_wt_BoolS xs
  exact ⟨by omega, fun _ _ => trivial⟩
theorem cn_len_BoolS (xs : List Bool) : cn_BoolS xs ≤ 32 * xs.length := cnR_le0 (fun x => by omega) xs
theorem cn_le_BoolS (xs : List Bool) : cn_BoolS xs ≤ 32 * wt_BoolS xs := cnR_le0 (fun _ => by omega) xs
theorem ok_PlaySaves1 (q k : Nat) (kept : List Bool) (i : Nat) (hi : i ≤ 1000000) : CallOK Try.prog 49 [.c (pi i), .ip q [rd k kept.length (kept.map pb)]] (.c (pb (kp kept i))) [.c (pi i), .ip q [rd k kept.length (kept.map pb)]] := by
  refine okS (fn := Try.f49) [] h0 Try.func49 (by kernel_rfl) rfl Try.ntmps49 Try.results49 (by simp) ?_
  by_cases h : i < kept.length
  · simp [h, kp_lt h]
  · simp [h, kp_ge h]
theorem law_iPlaySaves (v0 : List ByteArray) (v1 : Int) (v2 : List Bool) (hw0 : wt_StringS v0 ≤ 1048576) (hw2 : wt_BoolS v2 ≤ 1048576) : CallOK Try.prog 7 [.c (rd 0 v0.length (v0.map ps)), .c (pi v1), .c (rd 0 v2.length (v2.map pb))] (pvDB (rPlaySaves v0 v1 v2)) [.c (rd 0 v0.length (v0.map ps)), .c (pi v1), .c (rd 0 v2.length (v2.map pb))] := by
  have hl := len_wt_StringS v0
  have hl2 := len_wt_BoolS v2
  refine okS (fn := Try.f7) [(47, [2])] h0 Try.func7 (by kernel_rfl) rfl Try.ntmps7 Try.results7 (by simp) ?_
  simp
  refine Inv_intro (ok_within v0.length 1 40) ?_
  simp
  refine gF (fun a => ?_) (fun a => ?_)
  · simp [a]
    simp at a
    refine Inv_intro (ok_within v1 0 7) ?_
    simp
    refine brn_app (fun b => ?_) (fun b => ?_)
    · simp at b
      have hp : ¬ playOK v0 v1 := by
        rintro ⟨_, h⟩
        omega
      simp [rPlaySaves, hp]
    · simp at b
      have hp : playOK v0 v1 := ⟨by omega, b.1, b.2⟩
      obtain ⟨done, rfl⟩ : ∃ n : Nat, v1 = n := ⟨v1.toNat, by omega⟩
      have er : rPlaySaves v0 done v2 = match playI v0 done v0.length with
          | some d => (crashed d v2, true)
          | none => (⟨[], []⟩, false) := by
        unfold rPlaySaves
        rw [if_pos hp]
        rfl
      simp
      refine Inv_intro ok_iNewDisk ?_
      simp
      refine loopS [0, 1, 5, 6, 8, 25, 26, 27] [.op 0 0 0, .op 0 1 0, .op 3 1 0] (fun q st => ∃ (i : Nat) (d : GDisk), i + q = v0.length ∧ playI v0 done i = some d ∧ st = ⟨slOf 53 [(0, .t (rd 0 v0.length (v0.map ps))), (1, .t (pi done)), (5, .ptr ⟨.op 0 0 0, []⟩ 0), (6, .ptr ⟨.op 0 1 0, []⟩ 0), (8, .ptr ⟨.op 3 1 0, []⟩ 0), (25, .t (rd 0 v0.length (v0.map ps))), (26, .t (pi v0.length)), (27, .t (pi i))], ofL [(.op 0 0 0, .sl 0 24 1 [rd 0 v2.length (v2.map pb)]), (.op 0 1 0, .sl 0 29 1 [.sl 0 nilE 0 [], .sl 0 nilE 0 []]), (.op 3 1 0, .sl 0 29 1 d.co)]⟩) v0.length ?_ ?_
      · rintro Inv hI
        simp
        subst hI
        exact ⟨0, disk0, by omega, rfl, rfl⟩
      · rintro Inv hI q st ⟨i, d, hi, hpl, rfl⟩
        refine ewr_sound (M := [(47, [2])]) h0 ?_
        simp
        refine brn_app (fun c => ?_) (fun c => ?_)
        · simp at c
          have hok := playI_ok v0 done (by omega) i d hpl
          have w1 : IntKind.wrap .i64 ((v0.length : Int) - 1) = (v0.length : Int) - 1 := wrap64 (by omega) (by omega)
          have hnext : playI v0 done (i + 1) = if (saveL d v0[i] (stepsOf v0.length done i)).2 = true then some (saveL d v0[i] (stepsOf v0.length done i)).1 else none := by
            simp only [playI, hpl]
            rw [secAt_get v0 i c]
          simp [c, w1]
          refine brn_app (fun e => ?_) (fun e => ?_)
          · simp at e
            have hzz : done = stepsOf v0.length done i := by
              unfold stepsOf
              rw [if_pos (by omega)]
            simp
            refine Inv_intro (ok_isave2 d v0[i] done (7 * i) hok (by omega) (by omega) (by have := mem_wt_StringS (List.getElem_mem c); omega)) ?_
            rw [← hzz] at hnext
            generalize hS : saveL d v0[i] done = S at *
            obtain ⟨S1, S2⟩ := S
            cases S2 with
            | false =>
              have hf : rPlaySaves v0 done v2 = (⟨[], []⟩, false) := by
                rw [er, playI_none v0 done (i := i + 1) hnext v0.length (by omega)]
              simp [hf]
            | true =>
              simp
              subst hI
              refine Less_mk (q - 1) (by omega) ⟨i + 1, S1, by omega, hnext, ?_⟩
              rw [wrNext i (by omega)]
              rfl
          · simp at e
            have hzz : 7 = stepsOf v0.length done i := by
              unfold stepsOf
              rw [if_neg (by omega)]
            simp
            refine Inv_intro (ok_isave2 d v0[i] 7 (7 * i) hok (by omega) (by omega) (by have := mem_wt_StringS (List.getElem_mem c); omega)) ?_
            rw [← hzz] at hnext
            generalize hS : saveL d v0[i] 7 = S at *
            obtain ⟨S1, S2⟩ := S
            cases S2 with
            | false =>
              have hf : rPlaySaves v0 done v2 = (⟨[], []⟩, false) := by
                rw [er, playI_none v0 done (i := i + 1) hnext v0.length (by omega)]
              simp [hf]
            | true =>
              simp
              subst hI
              refine Less_mk (q - 1) (by omega) ⟨i + 1, S1, by omega, hnext, ?_⟩
              rw [wrNext i (by omega)]
              rfl
        · simp at c
          have hil : i = v0.length := by omega
          subst hil
          have er : rPlaySaves v0 done v2 = (crashed d v2, true) := by rw [er, hpl]
          rw [er]
          simp
          have hok := playI_ok v0 done (by omega) v0.length d hpl
          have hln : v0.length ≤ 40 := by omega
          obtain ⟨k1, k2, k3, k4⟩ := hok
          refine Inv_intro (ok_written 0 1 49 [[rd 0 v2.length (v2.map pb)]] d (kp v2) (by omega) (by omega) (fun w hw => by rw [k1]; exact (k4 w hw).1) (fun i hi => ok_PlaySaves1 1 0 v2 i (by omega))) ?_
          simp [crashed]
  · simp [a]
    simp at a
    have hp : ¬ playOK v0 v1 := by
      rintro ⟨h, _⟩
      omega
    simp [rPlaySaves, hp]
theorem disk_ok {d : GDisk} (h1 : d.Sectors.length ≤ 2097152) (h2 : d.Waiting.length ≤ 2097152) : d.lens ∧ GDisk.cnT d ≤ 1152921504606846976 := by
  refine ⟨⟨⟨by omega, fun _ _ => trivial⟩, ⟨by omega, fun _ _ => trivial⟩⟩, ?_⟩
  have := cn_len_StringS d.Sectors
  have := cn_len_WriteS d.Waiting
  unfold GDisk.cnT
  omega
theorem disk_len {d : GDisk} (h : d.wt ≤ 1048576) : d.Sectors.length ≤ 1048576 ∧ d.Waiting.length ≤ 1048576 := by
  have := len_wt_StringS d.Sectors
  have := len_wt_WriteS d.Waiting
  unfold GDisk.wt at h
  omega
def rLoadFrom (d : GDisk) : ByteArray × Int × Bool := if goodDisk d = true then loadR d.Sectors else (⟨#[]⟩, 0, false)
theorem goodDisk_secs {d : GDisk} (h : goodDisk d = true) : d.Sectors.length = 10 ∧ ∀ s ∈ d.Sectors, s.size ≤ 20 := by
  simp only [goodDisk, Bool.and_eq_true, decide_eq_true_eq, List.all_eq_true] at h
  exact ⟨h.1.1.1, h.1.2⟩
theorem law_iLoadFrom (v0 : GDisk) (hw0 : v0.wt ≤ 1048576) : CallOK Try.prog 10 [.agg (GDisk.ci 0 v0)] (.tup [.c (ps (rLoadFrom v0).1), .c (pi (rLoadFrom v0).2.1), .c (pb (rLoadFrom v0).2.2)]) [.agg (GDisk.ci 0 v0)] := by
  have hl := disk_len hw0
  refine okS (fn := Try.f10) [] h0 Try.func10 (by kernel_rfl) rfl Try.ntmps10 Try.results10 (by simp) ?_
  simp
  refine Inv_intro (ok_iGoodDisk 0 v0 (by omega) (by omega)) ?_
  cases c1 : goodDisk v0 with
  | false => simp [rLoadFrom, c1]
  | true =>
    obtain ⟨h10, hs⟩ := goodDisk_secs c1
    have er : rLoadFrom v0 = loadR v0.Sectors := by simp [rLoadFrom, c1]
    simp
    refine Inv_intro (ok_load 0 v0 h10 fun s hx => by have := hs s hx; omega) ?_
    simp [er]
theorem ok_l17Crash (k : Nat) (d : GDisk) (kept : List Bool) (h1 : d.Sectors.length ≤ 1048576) (h2 : d.Waiting.length ≤ 1048576) (hat : ∀ w ∈ d.Waiting, atOK d.Sectors.length w) : CallOK Try.prog 52 [.agg d.co, .c (rd k kept.length (kept.map pb))] (.agg (crashed d kept).co) [.agg [.hole, .hole], .c (rd k kept.length (kept.map pb))] := by
  refine okS (fn := Try.f52) [] h0 Try.func52 (by kernel_rfl) rfl Try.ntmps52 Try.results52 (by simp) ?_
  simp
  refine loopS [1, 2, 4, 8, 9, 10] [.op 0 0 0, .op 0 1 0] (fun n st => ∃ (i : Nat) (ss : List ByteArray), i + n = d.Waiting.length ∧ ss.length = d.Sectors.length ∧ applyW (kp kept) i (d.Waiting.drop i) ss = applyW (kp kept) 0 d.Waiting d.Sectors ∧ st = ⟨slOf 35 [(1, .t (rd k kept.length (kept.map pb))), (2, .ptr ⟨.op 0 0 0, []⟩ 0), (4, .ptr ⟨.op 0 1 0, []⟩ 0), (8, .ref ⟨.op 0 0 0, [1]⟩ 0 d.Waiting.length), (9, .t (pi d.Waiting.length)), (10, .t (pi i))], ofL [(.arg 0 0, .hole), (.arg 0 1, .hole), (.op 0 0 0, .sl 0 29 1 [.sl 0 9 ss.length (ss.map ps), .sl 0 43 d.Waiting.length (d.Waiting.flatMap GWrite.c)]), (.op 0 1 0, .sl 0 29 1 [.sl 0 nilE 0 [], .sl 0 nilE 0 []])]⟩) d.Waiting.length ?_ ?_
  · rintro Inv hI
    simp
    subst hI
    exact ⟨0, d.Sectors, by omega, rfl, rfl, rfl⟩
  · rintro Inv hI n st ⟨i, ss, hi, hss, hap, rfl⟩
    refine ewr_sound (M := []) h0 ?_
    simp
    refine brn_app (fun h => ?_) (fun h => ?_)
    · simp at h
      have hd := fm_drop GWrite.c 2 (fun _ => rfl) d.Waiting i h
      have hlt : i * 2 < d.Waiting.length * 2 := by omega
      have hlt2 : i * 2 + 2 ≤ d.Waiting.length * 2 := by omega
      have hw := hat _ (List.getElem_mem h)
      unfold atOK at hw
      rw [drop_step _ i h, applyW] at hap
      simp [h, hd, hlt, hlt2]
      refine gT (fun a => ?_) (fun a => ?_)
      · simp [a]
        simp at a
        have hk := kp_lt a
        simp [a]
        refine brn_app (fun b => ?_) (fun b => ?_)
        · rw [hk, if_pos b] at hap
          have hn : d.Waiting[i].At.toNat < ss.length := by omega
          have hn2 : d.Waiting[i].At < ss.length := by omega
          have hn1 : d.Waiting[i].At.toNat + 1 ≤ ss.length := by omega
          have hs := map_set ps ss d.Waiting[i].At.toNat d.Waiting[i].Data hn
          simp at hs
          simp [hw.1, hn2, hn1, hs]
          subst hI
          refine Less_mk (n - 1) (by omega) ⟨i + 1, ss.set d.Waiting[i].At.toNat d.Waiting[i].Data, by omega, by simp [hss], hap, ?_⟩
          rw [wrNext i (by omega)]
          simp
        · rw [hk, if_neg (by simp [b])] at hap
          simp
          subst hI
          exact Less_mk (n - 1) (by omega) ⟨i + 1, ss, by omega, hss, hap, by rw [wrNext i (by omega)]⟩
      · simp [a]
        simp at a
        rw [kp_ge (by omega), if_neg (by simp)] at hap
        subst hI
        exact Less_mk (n - 1) (by omega) ⟨i + 1, ss, by omega, hss, hap, by rw [wrNext i (by omega)]⟩
    · simp at h
      rw [List.drop_of_length_le (by omega), applyW] at hap
      subst hap
      simp [crashed]
theorem ok_l17Sync (d : GDisk) (h1 : d.Sectors.length ≤ 1048576) (h2 : d.Waiting.length ≤ 1048576) (hat : ∀ w ∈ d.Waiting, atOK d.Sectors.length w) : CallOK Try.prog 97 [.agg d.co] (.agg (synced d).co) [.agg [.hole, .hole]] := by
  refine okS (fn := Try.f97) [(52, [2])] h0 Try.func97 (by kernel_rfl) rfl Try.ntmps97 Try.results97 (by simp) ?_
  simp
  refine ewp_nil 3 (.op 4 2 0) 4 (by decide) rfl rfl rfl ?_
  refine loopS [1, 2, 3, 6, 7] [.op 4 2 0, .op 0 0 0, .op 0 1 0] (fun n st => ∃ (i : Nat), i + n = d.Waiting.length ∧ st = ⟨slOf 16 [(1, .ptr ⟨.op 0 0 0, []⟩ 0), (2, .ptr ⟨.op 0 1 0, []⟩ 0), (3, .ref ⟨.op 4 2 0, []⟩ 0 i), (6, .t (pi d.Waiting.length)), (7, .t (pi i))], ofL [(.op 4 2 0, .sl 0 4 i ((List.replicate i true).map pb)), (.arg 0 0, .hole), (.arg 0 1, .hole), (.op 0 0 0, .sl 0 29 1 d.co), (.op 0 1 0, .sl 0 29 1 [.sl 0 nilE 0 [], .sl 0 nilE 0 []])]⟩) d.Waiting.length ?_ ?_
  · rintro Inv hI
    simp
    subst hI
    exact ⟨0, by omega, rfl⟩
  · rintro Inv hI n st ⟨i, hi, rfl⟩
    have hCl : ((List.replicate i true).map pb).length = i := by simp
    have hun : PT.unownL ((List.replicate i true).map pb) = (List.replicate i true).map pb := unown_pb _
    have hcs : (List.replicate i true).map pb ++ [pb true] = (List.replicate (i + 1) true).map pb := by rw [List.replicate_succ', List.map_append]; rfl
    have hc := ok_l17Crash 0 d (List.replicate i true) h1 h2 hat
    rw [List.length_replicate] at hc
    generalize (List.replicate i true).map pb = C at hCl hun hcs hc ⊢
    have ht : C.take i = C := List.take_of_length_le (by omega)
    refine ewr_sound (M := [(52, [2])]) h0 ?_
    simp
    refine brn_app (fun h => ?_) (fun h => ?_)
    · simp at h
      have b1 : i + 1 ≤ 140737488355328 := by omega
      have b2 : i + 1 ≤ 9223372036854775807 := by omega
      simp [hCl, ht, b1, b2]
      subst hI
      refine Less_mk (n - 1) (by omega) ⟨i + 1, by omega, ?_⟩
      rw [wrNext i (by omega), ← hcs]
      rfl
    · simp at h
      have e : i = d.Waiting.length := by omega
      subst e
      rw [crashed_all] at hc
      simp at hc
      simp [hCl, ht, hun]
      refine Inv_intro hc ?_
      simp
theorem ok_l17Load (k : Nat) (d : GDisk) (h10 : d.Sectors.length = 10) (hs : ∀ s ∈ d.Sectors, s.size ≤ 140737488355328) : CallOK Try.prog 104 [.agg (GDisk.ci k d)] (.tup [.c (ps (loadR d.Sectors).1), .c (pi (loadR d.Sectors).2.1), .c (pb (loadR d.Sectors).2.2)]) [.agg (GDisk.ci k d)] := by
  refine okS (fn := Try.f104) [] h0 Try.func104 (by kernel_rfl) rfl Try.ntmps104 Try.results104 (by simp) ?_
  simp
  refine Inv_intro (ok_l17Newest k d h10 hs) ?_
  rw [swNew_eq]
  simp
  rcases newR_cases d.Sectors with e | ⟨h, hh, e⟩
  · simp [e, loadR]
  · have hl0 := tellsR_long (secAt d.Sectors (8 + h))
    obtain ⟨q8, hq8⟩ : ∃ q8, q8 = 8 + h := ⟨_, rfl⟩
    rw [← hq8] at e hl0
    have hq8l : q8 < d.Sectors.length := by omega
    have w8 : IntKind.wrap .i64 (8 + (h : Int)) = (q8 : Int) := (wrap64 (by omega) (by omega)).trans (by omega)
    have er : loadR d.Sectors = if ((catCut ((d.Sectors.drop (4 * h)).take 4)).size : Int) < (tellsR (secAt d.Sectors q8)).2.1 then (⟨#[]⟩, 0, false) else ((catCut ((d.Sectors.drop (4 * h)).take 4)).extract 0 (tellsR (secAt d.Sectors q8)).2.1.toNat, (tellsR (secAt d.Sectors q8)).1, true) := by
      have hn : ¬ (h : Int) < 0 := by omega
      simp [loadR, e, hn]
    rw [er]
    rw [secAt_get _ _ hq8l] at e hl0 ⊢
    have hn : ¬ (h : Int) < 0 := by omega
    simp [e, hn, w8, hq8l]
    refine Inv_intro (ok_l17Read d.Sectors[q8] (hs _ (List.getElem_mem hq8l))) ?_
    generalize (tellsR d.Sectors[q8]).1 = nu at *
    generalize (tellsR d.Sectors[q8]).2.1 = lo at *
    obtain ⟨xs, hxs⟩ : ∃ xs, xs = (d.Sectors.drop (4 * h)).take 4 := ⟨_, rfl⟩
    have hxl : xs.length = 4 := by rw [hxs]; simp; omega
    have hxg : ∀ (i q : Nat) (hi : i < xs.length) (hq : q < d.Sectors.length), q = 4 * h + i → d.Sectors[q] = xs[i] := by
      intro i q hi hq he
      subst he
      subst hxs
      simp
    have hxz : ∀ s ∈ xs, s.size ≤ 140737488355328 := fun s hsx => hs s (by rw [hxs] at hsx; exact List.mem_of_mem_drop (List.mem_of_mem_take hsx))
    rw [← hxs]
    simp
    refine loopS [1, 5, 6, 7, 9, 10] [.op 0 0 0] (fun m st => ∃ (i : Nat), i + m = xs.length ∧ st = ⟨slOf 55 [(1, .ptr ⟨.op 0 0 0, []⟩ 0), (5, .t (pi h)), (6, .t (pi nu)), (7, .t (pi lo)), (9, .t (ps (catCut (xs.take i)))), (10, .t (pi i))], ofL [(.op 0 0 0, .sl 0 29 1 (GDisk.ci k d))]⟩) xs.length ?_ ?_
    · rintro Inv hI
      simp
      subst hI
      exact ⟨0, by omega, rfl⟩
    · rintro Inv hI m st ⟨i, hi, rfl⟩
      have hZ := catCut_size xs i (by omega)
      have hS := catCut_snoc xs i
      generalize hZe : catCut (xs.take i) = Z at hZ hS ⊢
      refine ewr_sound (M := []) h0 ?_
      simp
      refine brn_app (fun a => ?_) (fun a => ?_)
      · simp at a
        have hil : i < xs.length := by omega
        obtain ⟨m4, hm4⟩ : ∃ m4, m4 = 4 * h := ⟨_, rfl⟩
        obtain ⟨q, hq⟩ : ∃ q, q = m4 + i := ⟨_, rfl⟩
        have hql : q < d.Sectors.length := by omega
        have w1 : IntKind.wrap .i64 (4 * (h : Int)) = (m4 : Int) := (wrap64 (by omega) (by omega)).trans (by omega)
        have w2 : IntKind.wrap .i64 ((m4 : Int) + i) = (q : Int) := (wrap64 (by omega) (by omega)).trans (by omega)
        have hx := hxz _ (List.getElem_mem hil)
        have hS' := hS hil
        have hg := hxg i q hil hql (by omega)
        simp [w1, w2, hql, hg]
        refine brn_app (fun c => ?_) (fun c => ?_)
        · simp at c
          have hcut : cut18 xs[i] = xs[i].extract 0 18 := by rw [cut18, Nat.min_eq_left (by omega)]
          have c' : (18 : Int) ≤ xs[i].size := by omega
          have c2 : 18 ≤ xs[i].size := by omega
          have z1 : Z.size + (xs[i].extract 0 18).size ≤ 9223372036854775807 := by rw [ByteArray.size_extract]; omega
          have z2 : Z.size + 18 ≤ 9223372036854775807 := by omega
          have z3 : Z.size + min 18 xs[i].size ≤ 9223372036854775807 := by omega
          simp [c', c2, z1, z2, z3]
          subst hI
          refine Less_mk (m - 1) (by omega) ⟨i + 1, by omega, ?_⟩
          rw [wrNext i (by omega), hS', hcut]
          rfl
        · simp at c
          have hcut : cut18 xs[i] = xs[i] := by rw [cut18, Nat.min_eq_right (by omega)]; simp
          have z2 : Z.size + xs[i].size ≤ 9223372036854775807 := by omega
          simp [z2]
          subst hI
          refine Less_mk (m - 1) (by omega) ⟨i + 1, by omega, ?_⟩
          rw [wrNext i (by omega), hS', hcut]
          rfl
      · simp at a
        have hil : i = xs.length := by omega
        have ht : List.take i xs = xs := List.take_of_length_le (by omega)
        rw [ht] at hZe
        subst hZe
        simp
        refine brn_app (fun b => ?_) (fun b => ?_)
        · simp at b
          simp [b]
        · simp at b
          have b' : ¬ ((catCut xs).size : Int) < lo := by omega
          have b2 : lo ≤ (catCut xs).size := b
          simp [hl0, b', b2]
theorem ok_l17Plan (k : Nat) (d : GDisk) (text : ByteArray) (h10 : d.Sectors.length = 10) (hs : ∀ s ∈ d.Sectors, s.size ≤ 140737488355328) (ht : text.size ≤ 140737488351232) : CallOK Try.prog 67 [.agg (GDisk.ci k d), .c (ps text)] (.tup [.c (.sl 0 43 (planL d.Sectors text).1.length ((planL d.Sectors text).1.flatMap GWrite.c)), .c (pb (planL d.Sectors text).2)]) [.agg (GDisk.ci k d), .c (ps text)] := by
  refine okS (fn := Try.f67) [] h0 Try.func67 (by kernel_rfl) rfl Try.ntmps67 Try.results67 (by simp) ?_
  simp
  refine Inv_intro (ok_l17Load k d h10 hs) ?_
  simp
  have hnew := @loadR_new d.Sectors
  have hpl : ∀ a b c, loadR d.Sectors = (a, b, c) → planL d.Sectors text = if (!c || decide (999 ≤ b) || decide (72 < text.size)) = true then ([], false) else (planN text (1 - (newR d.Sectors).1.toNat) 4 ++ [⟨(8 + (1 - (newR d.Sectors).1.toNat) : Nat), sealS (strOf [tb (IntKind.wrap .i64 (b + 1)) 1, tb (IntKind.wrap .i64 (b + 1)) 0, tb text.size 0])⟩], true) := by
    intro a b c e
    simp [planL, e]
  generalize hL : loadR d.Sectors = L at *
  obtain ⟨L1, L2, L3⟩ := L
  have hpl := hpl L1 L2 L3 rfl
  cases L3 with
  | false => simp [hpl]
  | true =>
    by_cases c1 : 999 ≤ L2
    · simp [hpl, c1]
    · by_cases c2 : 72 < text.size
      · have c2' : 72 < (text.size : Int) := by omega
        simp [hpl, c1, c2, c2']
      · have c2' : ¬ 72 < (text.size : Int) := by omega
        obtain ⟨o, ho, hn1, hn2⟩ := hnew rfl
        have hpl : planL d.Sectors text = (planN text o 4 ++ [⟨(8 + o : Nat), sealS (strOf [tb (IntKind.wrap .i64 (L2 + 1)) 1, tb (IntKind.wrap .i64 (L2 + 1)) 0, tb text.size 0])⟩], true) := by
          rw [hpl, hn2]
          simp [c1, c2]
        rw [hpl]
        simp [c1, c2']
        refine Inv_intro (ok_l17Newest k d h10 hs) ?_
        rw [swNew_eq, hn1]
        have w0 : IntKind.wrap .i64 (1 - ((1 - o : Nat) : Int)) = (o : Int) := (wrap64 (by omega) (by omega)).trans (by omega)
        simp [w0]
        refine ewp_nil 10 (.op 13 10 0) 43 (by decide) rfl rfl rfl ?_
        refine loopS [1, 7, 9, 10, 11, 12] [.op 13 10 0] (fun m st => ∃ (i : Nat), i + m = 4 ∧ st = ⟨slOf 68 [(1, .t (ps text)), (7, .t (pi L2)), (9, .t (pi o)), (10, .ref ⟨.op 13 10 0, []⟩ 0 i), (11, .t (ps (text.extract (min (18 * i) text.size) text.size))), (12, .t (pi i))], ofL [(.op 13 10 0, .sl 0 43 i ((planN text o i).flatMap GWrite.c))]⟩) 4 ?_ ?_
        · rintro Inv hI
          simp
          subst hI
          refine ⟨0, by omega, ?_⟩
          simp [planN]
        · rintro Inv hI m st ⟨i, hi, rfl⟩
          have hA : ((planN text o i).flatMap GWrite.c).length = i * 2 := by rw [fm_len GWrite.c 2 (fun _ => rfl), planN_len]
          have hAm : (planN text o (i + 1)).flatMap GWrite.c = (planN text o i).flatMap GWrite.c ++ GWrite.c ⟨(4 * o + i : Nat), partK text i⟩ := by rw [planN_succ, List.flatMap_append, List.flatMap_cons, List.flatMap_nil, List.append_nil]
          have hAf : i = 4 → (planN text o 4).flatMap GWrite.c = (planN text o i).flatMap GWrite.c := by rintro rfl; rfl
          generalize hAe : ((planN text o i).flatMap GWrite.c) = A at hA hAm hAf ⊢
          refine ewr_sound (M := []) h0 ?_
          simp
          refine brn_app (fun a => ?_) (fun a => ?_)
          · simp at a
            have hi4 : i < 4 := by omega
            obtain ⟨R, hR⟩ : ∃ R, R = text.extract (min (18 * i) text.size) text.size := ⟨_, rfl⟩
            obtain ⟨q, hq⟩ : ∃ q, q = min 18 (text.size - 18 * i) := ⟨_, rfl⟩
            have hRz : R.size = text.size - min (18 * i) text.size := by rw [hR, ByteArray.size_extract]; omega
            have hRp : R.extract 0 q = partK text i := by
              apply ByteArray.ext_getElem
              · simp only [ByteArray.size_extract, partK, hRz]
                omega
              · intro j h1 h2
                simp only [ByteArray.size_extract, partK, hRz] at h1 h2
                subst hR
                simp only [partK, ByteArray.getElem_extract]
                congr 1
                omega
            have hRn : R.extract q R.size = text.extract (min (18 * (i + 1)) text.size) text.size := by
              apply ByteArray.ext_getElem
              · simp only [ByteArray.size_extract, hRz]
                omega
              · intro j h1 h2
                simp only [ByteArray.size_extract, hRz] at h1 h2
                subst hR
                simp only [ByteArray.getElem_extract]
                congr 1
                omega
            have hqR : q ≤ R.size := by omega
            have w4 : IntKind.wrap .i64 (4 * (o : Int)) = ((4 * o : Nat) : Int) := (wrap64 (by omega) (by omega)).trans (by omega)
            have w5 : IntKind.wrap .i64 (((4 * o : Nat) : Int) + (i : Int)) = ((4 * o + i : Nat) : Int) := (wrap64 (by omega) (by omega)).trans (by omega)
            have b1 : (i + 1) * 24 ≤ 140737488355328 := by omega
            have b2 : i ≤ 9223372036854775806 := by omega
            have hAt : A.take (i * 2) = A := List.take_of_length_le (by omega)
            rw [← hR]
            have hcond : ∀ q0 : Nat, q0 = q → IntKind.wrap .i64 (q0 : Int) = (q : Int) := by
              rintro _ rfl
              exact wrap64 (by omega) (by omega)
            generalize (4 * o + i : Nat) = z at *
            generalize (4 * o : Nat) = z0 at *
            simp
            refine brn_app (fun b => ?_) (fun b => ?_)
            · simp at b
              have hq18 : q = 18 := by omega
              subst hq18
              have b3 : 18 ≤ R.size := hqR
              have b4 : (18 : Int) ≤ R.size := by omega
              have s1 := pr_sliceH (P := Try.prog) (t := 9) (s := R) (k := .i64) (b := 18) (by kernel_rfl) (by decide) b4
              have s2 := pr_sliceL (P := Try.prog) (t := 9) (s := R) (k := .i64) (a := 18) (by kernel_rfl) (by decide) b4
              have s3 : (18 : Int).toNat = 18 := rfl
              rw [s3] at s1 s2
              simp [w4, w5, hA, b1, b2, b3, s1, s2, hRp, hRn, hAt]
              subst hI
              refine Less_mk (m - 1) (by omega) ⟨i + 1, by omega, ?_⟩
              rw [wrNext i (by omega), hAm]
              rfl
            · simp at b
              have hqR2 : q = R.size := by omega
              subst hqR2
              have hE : text.extract (min (18 * (i + 1)) text.size) text.size = ByteArray.empty := by
                rw [← hRn]
                simp
              simp [w4, w5, hA, b1, b2, hRp, hRn, hAt]
              subst hI
              refine Less_mk (m - 1) (by omega) ⟨i + 1, by omega, ?_⟩
              rw [wrNext i (by omega), hAm, hE]
              rfl
          · simp at a
            have : i = 4 := by omega
            subst this
            have hAf := hAf rfl
            have w6 : IntKind.wrap .i64 (8 + (o : Int)) = ((8 + o : Nat) : Int) := (wrap64 (by omega) (by omega)).trans (by omega)
            have hAt : A.take (4 * 2) = A := List.take_of_length_le (by omega)
            have b1 : (4 + 1) * 24 ≤ 140737488355328 := by omega
            rw [hAf]
            simp [w6]
            refine Inv_intro (ok_steller _ text.size) ?_
            have ht2 : ∀ x y : PT, List.take 10 (A ++ [x, y]) = A ++ [x, y] := fun x y => List.take_of_length_le (by simp [hA])
            simp [hA, b1, hAt, planN_len, ht2]
end Go.V
