/- What functions of the seat's program do, each proved of its code, under the bounds that its theorem names. -/
import Derived.Test.YtfooiclnbkchmaaTad
set_option linter.all false
namespace Go.V
open Go.Proofs
set_option maxHeartbeats 1000000
set_option maxRecDepth 10000
set_option linter.unusedSimpArgs false
set_option linter.unusedVariables false
theorem ok_l1In (n lo hi : Int) : CallOK Try.prog 61 [.c (pi n), .c (pi lo), .c (pi hi)] (.c (pb (decide (lo ≤ n ∧ n ≤ hi)))) [.c (pi n), .c (pi lo), .c (pi hi)] := by
  refine okS (fn := Try.f61) [] h0 Try.func61 (by kernel_rfl) rfl Try.ntmps61 Try.results61 (by simp) ?_
  simp
  refine gT (fun h => ?_) (fun h => ?_) <;> simp [h]
theorem law_sPlaySaves (v0 : List ByteArray) (v1 : Int) (v2 : List Bool) (hw0 : wt_StringS v0 ≤ 1048576) (hw2 : wt_BoolS v2 ≤ 1048576) : CallOK Try.prog 21 [.c (rd 0 v0.length (v0.map ps)), .c (pi v1), .c (rd 0 v2.length (v2.map pb))] (pvDB (rPlaySaves v0 v1 v2)) [.c (rd 0 v0.length (v0.map ps)), .c (pi v1), .c (rd 0 v2.length (v2.map pb))] := by
  have hl := len_wt_StringS v0
  have hl2 := len_wt_BoolS v2
  refine okS (fn := Try.f21) [(62, [2]), (63, [2])] h0 Try.func21 (by kernel_rfl) rfl Try.ntmps21 Try.results21 (by simp) ?_
  simp
  refine Inv_intro (ok_l1In v0.length 1 40) ?_
  simp
  refine gF (fun a => ?_) (fun a => ?_)
  · simp [a]
    simp at a
    refine Inv_intro (ok_l1In v1 0 7) ?_
    simp
    refine brn_app (fun b => ?_) (fun b => ?_)
    · simp at b
      have hp : ¬ playOK v0 v1 := by
        rintro ⟨_, h⟩
        omega
      simp [rPlaySaves, hp]
    · simp at b
      have hp : playOK v0 v1 := ⟨by omega, b.1, b.2⟩
      obtain ⟨done, rfl⟩ : ∃ n : Nat, v1 = n := ⟨v1.toNat, by omega⟩
      have er : rPlaySaves v0 done v2 = match playI v0 done v0.length with
          | some d => (crashed d v2, true)
          | none => (⟨[], []⟩, false) := by
        unfold rPlaySaves
        rw [if_pos hp]
        rfl
      simp
      refine Inv_intro ok_sNewDisk ?_
      simp
      refine loopS [0, 1, 2, 6, 8, 25, 26, 27] [.op 0 0 0, .op 3 1 0] (fun q st => ∃ (i : Nat) (d : GDisk), i + q = v0.length ∧ playI v0 done i = some d ∧ st = ⟨slOf 54 [(0, .t (rd 0 v0.length (v0.map ps))), (1, .t (pi done)), (2, .t (rd 0 v2.length (v2.map pb))), (6, .ptr ⟨.op 0 0 0, []⟩ 0), (8, .ptr ⟨.op 3 1 0, []⟩ 0), (25, .t (rd 0 v0.length (v0.map ps))), (26, .t (pi v0.length)), (27, .t (pi i))], ofL [(.op 0 0 0, .sl 0 31 1 [.sl 0 nilE 0 [], .sl 0 nilE 0 []]), (.op 3 1 0, .sl 0 31 1 d.co)]⟩) v0.length ?_ ?_
      · rintro Inv hI
        simp
        subst hI
        exact ⟨0, disk0, by omega, rfl, rfl⟩
      · rintro Inv hI q st ⟨i, d, hi, hpl, rfl⟩
        refine ewr_sound (M := [(62, [2]), (63, [2])]) h0 ?_
        simp
        refine brn_app (fun c => ?_) (fun c => ?_)
        · simp at c
          have hok := playI_ok v0 done (by omega) i d hpl
          have w1 : IntKind.wrap .i64 ((v0.length : Int) - 1) = (v0.length : Int) - 1 := wrap64 (by omega) (by omega)
          have hnext : playI v0 done (i + 1) = if (saveL d v0[i] (stepsOf v0.length done i)).2 = true then some (saveL d v0[i] (stepsOf v0.length done i)).1 else none := by
            simp only [playI, hpl]
            rw [secAt_get v0 i c]
          simp [c, w1]
          refine brn_app (fun e => ?_) (fun e => ?_)
          · simp at e
            have hzz : done = stepsOf v0.length done i := by
              unfold stepsOf
              rw [if_pos (by omega)]
            simp
            refine Inv_intro (ok_l17Save d v0[i] done (7 * i) hok (by omega) (by omega) (by have := mem_wt_StringS (List.getElem_mem c); omega)) ?_
            rw [← hzz] at hnext
            generalize hS : saveL d v0[i] done = S at *
            obtain ⟨S1, S2⟩ := S
            cases S2 with
            | false =>
              have hf : rPlaySaves v0 done v2 = (⟨[], []⟩, false) := by
                rw [er, playI_none v0 done (i := i + 1) hnext v0.length (by omega)]
              simp [hf]
            | true =>
              simp
              subst hI
              refine Less_mk (q - 1) (by omega) ⟨i + 1, S1, by omega, hnext, ?_⟩
              rw [wrNext i (by omega)]
              rfl
          · simp at e
            have hzz : 7 = stepsOf v0.length done i := by
              unfold stepsOf
              rw [if_neg (by omega)]
            simp
            refine Inv_intro (ok_l17Save d v0[i] 7 (7 * i) hok (by omega) (by omega) (by have := mem_wt_StringS (List.getElem_mem c); omega)) ?_
            rw [← hzz] at hnext
            generalize hS : saveL d v0[i] 7 = S at *
            obtain ⟨S1, S2⟩ := S
            cases S2 with
            | false =>
              have hf : rPlaySaves v0 done v2 = (⟨[], []⟩, false) := by
                rw [er, playI_none v0 done (i := i + 1) hnext v0.length (by omega)]
              simp [hf]
            | true =>
              simp
              subst hI
              refine Less_mk (q - 1) (by omega) ⟨i + 1, S1, by omega, hnext, ?_⟩
              rw [wrNext i (by omega)]
              rfl
        · simp at c
          have hil : i = v0.length := by omega
          subst hil
          have er : rPlaySaves v0 done v2 = (crashed d v2, true) := by rw [er, hpl]
          rw [er]
          simp
          have hok := playI_ok v0 done (by omega) v0.length d hpl
          have hln : v0.length ≤ 40 := by omega
          obtain ⟨k1, k2, k3, k4⟩ := hok
          refine Inv_intro (ok_l17Own 0 d (by omega) (by omega)) ?_
          simp
          refine Inv_intro (ok_l17Crash 0 d v2 (by omega) (by omega) (fun w hw => by rw [k1]; exact (k4 w hw).1)) ?_
          simp
  · simp [a]
    simp at a
    have hp : ¬ playOK v0 v1 := by
      rintro ⟨h, _⟩
      omega
    simp [rPlaySaves, hp]
theorem ok_eqBoolS (k k' : Nat) (xs ys : List Bool) (ha : lens_BoolS xs) (hb : lens_BoolS ys) : CallOK Try.prog 26 [.c (rd k xs.length (xs.map pb)), .c (rd k' ys.length (ys.map pb))] (.c (pb (decide (xs = ys)))) [.c (rd k xs.length (xs.map pb)), .c (rd k' ys.length (ys.map pb))] := by
  obtain ⟨ha, hax⟩ := ha
  obtain ⟨hb, hbx⟩ := hb
  refine okS (fn := Try.f26) [] h0 Try.func26 (by kernel_rfl) rfl Try.ntmps26 Try.results26 (by simp) ?_
  simp
  refine brn_app (fun h => ?_) (fun h => ?_)
  · simp at h
    simp
    rintro rfl
    exact h rfl
  · simp at h
    have hl : ys.length = xs.length := by omega
    simp
    refine loopS [0, 1, 5] [] (fun n st => ∃ (i : Nat), i + n = xs.length ∧ (xs.drop i = ys.drop i ↔ xs = ys) ∧ st = ⟨slOf 26 [(0, .t (rd k xs.length (xs.map pb))), (1, .t (rd k' ys.length (ys.map pb))), (5, .t (pi i))], ofL []⟩) xs.length ?_ ?_
    · rintro Inv hI
      simp
      subst hI
      exact ⟨0, by omega, by simp, rfl⟩
    · rintro Inv hI n st ⟨i, hi, htk, rfl⟩
      refine ewr_sound (M := []) h0 ?_
      simp
      refine brn_app (fun h => ?_) (fun h => ?_)
      · simp at h
        have hib : i < ys.length := by omega
        rw [drop_step xs i h, drop_step ys i hib, List.cons.injEq] at htk
        simp
        refine drawP E0 [⟨[], allD 26, true⟩, ⟨[], allD 26, true⟩, ⟨[], allD 26, true⟩, ⟨[], allD 26, true⟩, ⟨[], allD 26, true⟩, ⟨[], allD 26, true⟩, ⟨[], allD 26, true⟩, ⟨[], allD 26, true⟩, ⟨[], allD 26, true⟩] h0 hm (E0_ok _) (by kernel_rfl) (by kernel_rfl) ?_
        simp [h, hib]
        refine brn_app (fun h2 => ?_) (fun h2 => ?_)
        · simp at h2
          simp
          intro he
          exact h2 (htk.2 he).1
        · simp at h2
          simp
          subst hI
          exact Less_mk (n - 1) (by omega) ⟨i + 1, by omega, ⟨fun h4 => htk.1 ⟨h2, h4⟩, fun h4 => (htk.2 h4).2⟩, by rw [wrNext i (by omega)]⟩
      · simp at h
        rw [List.drop_of_length_le (by omega), List.drop_of_length_le (by omega)] at htk
        simp
        exact htk.1 rfl
theorem ok_eqStringS (k k' : Nat) (xs ys : List ByteArray) (ha : lens_StringS xs) (hb : lens_StringS ys) : CallOK Try.prog 25 [.c (rd k xs.length (xs.map ps)), .c (rd k' ys.length (ys.map ps))] (.c (pb (decide (xs = ys)))) [.c (rd k xs.length (xs.map ps)), .c (rd k' ys.length (ys.map ps))] := by
  obtain ⟨ha, hax⟩ := ha
  obtain ⟨hb, hbx⟩ := hb
  refine okS (fn := Try.f25) [] h0 Try.func25 (by kernel_rfl) rfl Try.ntmps25 Try.results25 (by simp) ?_
  simp
  refine brn_app (fun h => ?_) (fun h => ?_)
  · simp at h
    simp
    rintro rfl
    exact h rfl
  · simp at h
    have hl : ys.length = xs.length := by omega
    simp
    refine loopS [0, 1, 5] [] (fun n st => ∃ (i : Nat), i + n = xs.length ∧ (xs.drop i = ys.drop i ↔ xs = ys) ∧ st = ⟨slOf 26 [(0, .t (rd k xs.length (xs.map ps))), (1, .t (rd k' ys.length (ys.map ps))), (5, .t (pi i))], ofL []⟩) xs.length ?_ ?_
    · rintro Inv hI
      simp
      subst hI
      exact ⟨0, by omega, by simp, rfl⟩
    · rintro Inv hI n st ⟨i, hi, htk, rfl⟩
      refine ewr_sound (M := []) h0 ?_
      simp
      refine brn_app (fun h => ?_) (fun h => ?_)
      · simp at h
        have hib : i < ys.length := by omega
        rw [drop_step xs i h, drop_step ys i hib, List.cons.injEq] at htk
        simp
        refine drawP E0 [⟨[], allD 26, true⟩, ⟨[], allD 26, true⟩, ⟨[], allD 26, true⟩, ⟨[], allD 26, true⟩, ⟨[], allD 26, true⟩, ⟨[], allD 26, true⟩, ⟨[], allD 26, true⟩, ⟨[], allD 26, true⟩, ⟨[], allD 26, true⟩] h0 hm (E0_ok _) (by kernel_rfl) (by kernel_rfl) ?_
        simp [h, hib]
        refine brn_app (fun h2 => ?_) (fun h2 => ?_)
        · simp at h2
          simp
          intro he
          exact h2 (htk.2 he).1
        · simp at h2
          simp
          subst hI
          exact Less_mk (n - 1) (by omega) ⟨i + 1, by omega, ⟨fun h4 => htk.1 ⟨h2, h4⟩, fun h4 => (htk.2 h4).2⟩, by rw [wrNext i (by omega)]⟩
      · simp at h
        rw [List.drop_of_length_le (by omega), List.drop_of_length_le (by omega)] at htk
        simp
        exact htk.1 rfl
theorem ok_eqWrite (x y : GWrite) : CallOK Try.prog 59 [.agg (GWrite.c x), .agg (GWrite.c y)] (.c (pb (decide (x = y)))) [.agg (GWrite.c x), .agg (GWrite.c y)] := by
  refine okS (fn := Try.f59) [] h0 Try.func59 (by kernel_rfl) rfl Try.ntmps59 Try.results59 (by simp) ?_
  simp
  refine brn_app (fun a0 => ?_) (fun a0 => ?_)
  · simp at a0
    simp
    rintro rfl
    exact a0 rfl
  · simp at a0
    simp
    refine brn_app (fun a1 => ?_) (fun a1 => ?_)
    · simp at a1
      simp
      rintro rfl
      exact a1 rfl
    · simp at a1
      simp
      cases x
      cases y
      simp_all
theorem ok_eqWriteS (k k' : Nat) (xs ys : List GWrite) (ha : lens_WriteS xs) (hb : lens_WriteS ys) : CallOK Try.prog 16 [.c (rd k xs.length (xs.flatMap GWrite.c)), .c (rd k' ys.length (ys.flatMap GWrite.c))] (.c (pb (decide (xs = ys)))) [.c (rd k xs.length (xs.flatMap GWrite.c)), .c (rd k' ys.length (ys.flatMap GWrite.c))] := by
  obtain ⟨ha, hax⟩ := ha
  obtain ⟨hb, hbx⟩ := hb
  refine okS (fn := Try.f16) [] h0 Try.func16 (by kernel_rfl) rfl Try.ntmps16 Try.results16 (by simp) ?_
  simp
  refine brn_app (fun h => ?_) (fun h => ?_)
  · simp at h
    simp
    rintro rfl
    exact h rfl
  · simp at h
    have hl : ys.length = xs.length := by omega
    simp
    refine loopS [0, 1, 5] [] (fun n st => ∃ (i : Nat), i + n = xs.length ∧ (xs.drop i = ys.drop i ↔ xs = ys) ∧ st = ⟨slOf 27 [(0, .t (rd k xs.length (xs.flatMap GWrite.c))), (1, .t (rd k' ys.length (ys.flatMap GWrite.c))), (5, .t (pi i))], ofL []⟩) xs.length ?_ ?_
    · rintro Inv hI
      simp
      subst hI
      exact ⟨0, by omega, by simp, rfl⟩
    · rintro Inv hI n st ⟨i, hi, htk, rfl⟩
      refine ewr_sound (M := []) h0 ?_
      simp
      refine brn_app (fun h => ?_) (fun h => ?_)
      · simp at h
        have hib : i < ys.length := by omega
        rw [drop_step xs i h, drop_step ys i hib, List.cons.injEq] at htk
        simp
        have hd := fm_drop GWrite.c 2 (fun _ => rfl) xs i h
        have hd' := fm_drop GWrite.c 2 (fun _ => rfl) ys i hib
        have hlen := fm_len GWrite.c 2 (fun _ => rfl) xs
        have hlen' := fm_len GWrite.c 2 (fun _ => rfl) ys
        have hlt : i * 2 < xs.length * 2 := by omega
        have hlt' : i * 2 < ys.length * 2 := by omega
        have hE := ok_eqWrite xs[i] ys[i]
        refine drawP (tabEnv [] [(59, [.agg (GWrite.c xs[i]), .agg (GWrite.c ys[i])], .c (pb (decide (xs[i] = ys[i]))), [.agg (GWrite.c xs[i]), .agg (GWrite.c ys[i])])]) [⟨[], allD 27, true⟩, ⟨[], allD 27, true⟩, ⟨[], allD 27, true⟩, ⟨[], allD 27, true⟩, ⟨[], allD 27, true⟩, ⟨[], allD 27, true⟩, ⟨[], allD 27, true⟩, ⟨[], allD 27, true⟩, ⟨[], allD 27, false⟩, ⟨[], allD 27, true⟩] h0 hm (tabEnv_ok (by intro x hx; simp only [List.mem_singleton] at hx; subst hx; exact hE)) (by kernel_rfl) (by kernel_rfl) ?_
        simp [h, hib, hd, hd', hlen, hlen', hlt, hlt']
        refine brn_app (fun h2 => ?_) (fun h2 => ?_)
        · simp at h2
          simp
          intro he
          exact h2 (htk.2 he).1
        · simp at h2
          simp
          subst hI
          exact Less_mk (n - 1) (by omega) ⟨i + 1, by omega, ⟨fun h4 => htk.1 ⟨h2, h4⟩, fun h4 => (htk.2 h4).2⟩, by rw [wrNext i (by omega)]⟩
      · simp at h
        rw [List.drop_of_length_le (by omega), List.drop_of_length_le (by omega)] at htk
        simp
        exact htk.1 rfl
theorem ok_eqDisk (k k' : Nat) (x y : GDisk) (ha : GDisk.lens x) (hb : GDisk.lens y) : CallOK Try.prog 13 [.agg (GDisk.ci k x), .agg (GDisk.ci k' y)] (.c (pb (decide (x = y)))) [.agg (GDisk.ci k x), .agg (GDisk.ci k' y)] := by
  simp only [GDisk.lens] at ha hb
  refine okS (fn := Try.f13) [] h0 Try.func13 (by kernel_rfl) rfl Try.ntmps13 Try.results13 (by simp) ?_
  simp
  refine Inv_intro (ok_eqStringS k k' x.Sectors y.Sectors (ha.1) (hb.1)) ?_
  simp
  refine brn_app (fun a0 => ?_) (fun a0 => ?_)
  · simp at a0
    simp
    rintro rfl
    exact a0 rfl
  · simp at a0
    simp
    refine Inv_intro (ok_eqWriteS k k' x.Waiting y.Waiting (ha.2) (hb.2)) ?_
    simp
    refine brn_app (fun a1 => ?_) (fun a1 => ?_)
    · simp at a1
      simp
      rintro rfl
      exact a1 rfl
    · simp at a1
      simp
      cases x
      cases y
      simp_all
theorem ok_heldStringS (q : Nat) (xs : List ByteArray) (k : Int) (hls : lens_StringS xs) (hk : 0 < k) (hk2 : k + cn_StringS xs ≤ 2305843009213693952) : CallOK Try.prog 69 [.c (rd q xs.length ((mk_StringS xs k).1.map ps)), .c (pi k)] (.c (pi (mk_StringS xs k).2)) [.c (rd q xs.length ((mk_StringS xs k).1.map ps)), .c (pi k)] := by
  obtain ⟨hl0, hlx⟩ := hls
  unfold mk_StringS
  unfold cn_StringS at hk2
  have hyl := mkR_len (fun (_ : ByteArray) k => (mtext k, k + 1)) xs k
  have hyi : ∀ (i : Nat) (h : i < xs.length) (h' : i < (mkR (fun (_ : ByteArray) k => (mtext k, k + 1)) xs k).1.length), (mkR (fun (_ : ByteArray) k => (mtext k, k + 1)) xs k).1[i] = ((fun (_ : ByteArray) k => (mtext k, k + 1)) xs[i] (mkR (fun (_ : ByteArray) k => (mtext k, k + 1)) (xs.take i) k).2).1 := fun i h _ => mkR_get (fun (_ : ByteArray) k => (mtext k, k + 1)) xs i h k
  have hend : (mkR (fun (_ : ByteArray) k => (mtext k, k + 1)) xs k).2 = k + cnR (fun (_ : ByteArray) => 1) xs := mkR_snd (f := (fun (_ : ByteArray) k => (mtext k, k + 1))) (g := (fun (_ : ByteArray) => 1)) (fun _ _ => rfl) xs k
  generalize hY : (mkR (fun (_ : ByteArray) k => (mtext k, k + 1)) xs k).1 = ys at hyl hyi ⊢
  refine okS (fn := Try.f69) [] h0 Try.func69 (by kernel_rfl) rfl Try.ntmps69 Try.results69 (by simp) ?_
  simp
  refine loopS [0, 1, 5] [] (fun n st => ∃ (i : Nat), i + n = xs.length ∧ st = ⟨slOf 22 [(0, .t (rd q xs.length (ys.map ps))), (1, .t (pi (mkR (fun (_ : ByteArray) k => (mtext k, k + 1)) (xs.take i) k).2)), (5, .t (pi i))], ofL []⟩) xs.length ?_ ?_
  · rintro Inv hI
    simp
    subst hI
    exact ⟨0, by omega, rfl⟩
  · rintro Inv hI n st ⟨i, hi, rfl⟩
    have hKb := mkR_snd (f := (fun (_ : ByteArray) k => (mtext k, k + 1))) (g := (fun (_ : ByteArray) => 1)) (fun _ _ => rfl) (xs.take i) k
    have hyK : ∀ (h : i < xs.length), ys[i]'(by omega) = ((fun (_ : ByteArray) k => (mtext k, k + 1)) xs[i] (mkR (fun (_ : ByteArray) k => (mtext k, k + 1)) (xs.take i) k).2).1 := fun h => hyi i h (by omega)
    generalize hK : (mkR (fun (_ : ByteArray) k => (mtext k, k + 1)) (xs.take i) k).2 = K at hKb hyK ⊢
    refine ewr_sound (M := []) h0 ?_
    simp
    refine brn_app (fun h => ?_) (fun h => ?_)
    · simp at h
      obtain ⟨m, rfl⟩ : ∃ m, n = m + 1 := ⟨n - 1, by omega⟩
      have hcn := cnR_take (fun (_ : ByteArray) => 1) xs i h
      have hb : i < ys.length := by omega
      have ey := hyK h
      have hw0 : IntKind.wrap .i64 (K + 1) = K + 1 := wrap64 (by omega) (by omega)
      simp [h, hb, ey, hw0]
      refine drawP (tabEnv [] _) [⟨[], allD 22, true⟩, ⟨[], allD 22, true⟩, ⟨[], allD 22, true⟩, ⟨[], allD 22, true⟩, ⟨[], allD 22, true⟩, ⟨[], allD 22, false⟩, ⟨[], allD 22, true⟩] h0 hm (tabEnv_ok (tab_cons (ok_markText (K) (by omega)) tab_nil)) (by kernel_rfl) (by kernel_rfl) ?_
      simp [h, hb, ey, hw0]
      have e4 := mkR_take (fun (_ : ByteArray) k => (mtext k, k + 1)) xs i h k
      rw [hK] at e4
      subst hI
      refine Less_mk m (by omega) ⟨i + 1, by omega, ?_⟩
      rw [wrNext i (by omega), e4]
      all_goals rfl
    · simp at h
      have hx : xs.take i = xs := List.take_of_length_le (by omega)
      rw [hx] at hK
      simp [hK]
theorem ok_heldWriteS (q : Nat) (xs : List GWrite) (k : Int) (hls : lens_WriteS xs) (hk : 0 < k) (hk2 : k + cn_WriteS xs ≤ 2305843009213693952) : CallOK Try.prog 19 [.c (rd q xs.length ((mk_WriteS xs k).1.flatMap GWrite.c)), .c (pi k)] (.c (pi (mk_WriteS xs k).2)) [.c (rd q xs.length ((mk_WriteS xs k).1.flatMap GWrite.c)), .c (pi k)] := by
  obtain ⟨hl0, hlx⟩ := hls
  unfold mk_WriteS
  unfold cn_WriteS at hk2
  have hyl := mkR_len GWrite.mark xs k
  have hyi : ∀ (i : Nat) (h : i < xs.length) (h' : i < (mkR GWrite.mark xs k).1.length), (mkR GWrite.mark xs k).1[i] = (GWrite.mark xs[i] (mkR GWrite.mark (xs.take i) k).2).1 := fun i h _ => mkR_get GWrite.mark xs i h k
  have hend : (mkR GWrite.mark xs k).2 = k + cnR GWrite.cn xs := mkR_snd (f := GWrite.mark) (g := GWrite.cn) (GWrite.mark_snd) xs k
  generalize hY : (mkR GWrite.mark xs k).1 = ys at hyl hyi ⊢
  refine okS (fn := Try.f19) [] h0 Try.func19 (by kernel_rfl) rfl Try.ntmps19 Try.results19 (by simp) ?_
  simp
  refine loopS [0, 1, 5] [] (fun n st => ∃ (i : Nat), i + n = xs.length ∧ st = ⟨slOf 32 [(0, .t (rd q xs.length (ys.flatMap GWrite.c))), (1, .t (pi (mkR GWrite.mark (xs.take i) k).2)), (5, .t (pi i))], ofL []⟩) xs.length ?_ ?_
  · rintro Inv hI
    simp
    subst hI
    exact ⟨0, by omega, rfl⟩
  · rintro Inv hI n st ⟨i, hi, rfl⟩
    have hKb := mkR_snd (f := GWrite.mark) (g := GWrite.cn) (GWrite.mark_snd) (xs.take i) k
    have hyK : ∀ (h : i < xs.length), ys[i]'(by omega) = (GWrite.mark xs[i] (mkR GWrite.mark (xs.take i) k).2).1 := fun h => hyi i h (by omega)
    generalize hK : (mkR GWrite.mark (xs.take i) k).2 = K at hKb hyK ⊢
    refine ewr_sound (M := []) h0 ?_
    simp
    refine brn_app (fun h => ?_) (fun h => ?_)
    · simp at h
      obtain ⟨m, rfl⟩ : ∃ m, n = m + 1 := ⟨n - 1, by omega⟩
      have hcn := cnR_take GWrite.cn xs i h
      have hb : i < ys.length := by omega
      have ey := hyK h
      have hd := fm_drop GWrite.c 2 (fun _ => rfl) ys i hb
      have hlen := fm_len GWrite.c 2 (fun _ => rfl) ys
      have hlt : i * 2 < ys.length * 2 := by omega
      rw [ey] at hd
      simp only [GWrite.cn] at hcn
      have hw0 : IntKind.wrap .i64 (K + 1) = K + 1 := wrap64 (by omega) (by omega)
      have hw1 : IntKind.wrap .i64 ((K + 1) + 1) = (K + 1) + 1 := wrap64 (by omega) (by omega)
      simp [h, hb, hd, hlen, hlt, GWrite.mark, hw0, hw1]
      refine drawP (tabEnv [] _) [⟨[], allD 32, true⟩, ⟨[], allD 32, true⟩, ⟨[], allD 32, true⟩, ⟨[], allD 32, true⟩, ⟨[], allD 32, true⟩, ⟨[], allD 32, true⟩, ⟨[], allD 32, false⟩, ⟨[], allD 32, true⟩] h0 hm (tabEnv_ok (tab_cons (ok_markText ((K + 1)) (by omega)) tab_nil)) (by kernel_rfl) (by kernel_rfl) ?_
      simp [h, hb, hd, hlen, hlt, GWrite.mark, hw0, hw1]
      have e4 := mkR_take GWrite.mark xs i h k
      rw [hK] at e4
      subst hI
      refine Less_mk m (by omega) ⟨i + 1, by omega, ?_⟩
      rw [wrNext i (by omega), e4]
      all_goals rfl
    · simp at h
      have hx : xs.take i = xs := List.take_of_length_le (by omega)
      rw [hx] at hK
      simp [hK]
theorem ok_heldDisk (q : Nat) (x : GDisk) (k : Int) (hls : GDisk.lens x) (hk : 0 < k) (hk2 : k + GDisk.cnT x ≤ 2305843009213693952) : CallOK Try.prog 29 [.agg (GDisk.ci q (GDisk.markT x k).1), .c (pi k)] (.c (pi (GDisk.markT x k).2)) [.agg (GDisk.ci q (GDisk.markT x k).1), .c (pi k)] := by
  unfold GDisk.cnT at hk2
  unfold GDisk.markT
  have hs0 := mk_StringS_snd x.Sectors k
  have hn0 : ¬ (mk_StringS x.Sectors k).2 < 0 := by omega
  have hs1 := mk_WriteS_snd x.Waiting (mk_StringS x.Sectors k).2
  have hn1 : ¬ (mk_WriteS x.Waiting (mk_StringS x.Sectors k).2).2 < 0 := by omega
  refine okS (fn := Try.f29) [] h0 Try.func29 (by kernel_rfl) rfl Try.ntmps29 Try.results29 (by simp) ?_
  simp
  refine Inv_intro (ok_heldStringS q x.Sectors (k) (hls.1) (by omega) (by omega)) ?_
  simp [hn0, hn1]
  refine Inv_intro (ok_heldWriteS q x.Waiting ((mk_StringS x.Sectors k).2) (hls.2) (by omega) (by omega)) ?_
  simp [hn0, hn1]
theorem ok_markBoolS (xs : List Bool) (k : Int) (hls : lens_BoolS xs) (hk : 0 < k) (hk2 : k + cn_BoolS xs ≤ 2305843009213693952) : CallOK Try.prog 28 [.c (.sl 0 4 xs.length (xs.map pb)), .c (pi k)] (.c (pi (mk_BoolS xs k).2)) [.c (.sl 0 4 xs.length ((mk_BoolS xs k).1.map pb)), .c (pi k)] := by
  obtain ⟨hl0, hlx⟩ := hls
  unfold mk_BoolS
  unfold cn_BoolS at hk2
  refine okS (fn := Try.f28) [] h0 Try.func28 (by kernel_rfl) rfl Try.ntmps28 Try.results28 (by simp) ?_
  simp
  refine loopS [0, 1, 5] [] (fun n st => ∃ (i : Nat), i + n = xs.length ∧ st = ⟨slOf 21 [(0, .ref ⟨.arg 0 0, []⟩ 0 xs.length), (1, .t (pi (mkR (fun (_ : Bool) k => (decide (Int.tmod k 3 = 0), k + 1)) (xs.take i) k).2)), (5, .t (pi i))], ofL [(.arg 0 0, .sl 0 4 xs.length (((mkR (fun (_ : Bool) k => (decide (Int.tmod k 3 = 0), k + 1)) (xs.take i) k).1.map pb) ++ ((xs.drop i).map pb)))]⟩) xs.length ?_ ?_
  · rintro Inv hI
    simp
    subst hI
    exact ⟨0, by omega, rfl⟩
  · rintro Inv hI n st ⟨i, hi, rfl⟩
    have hAl : (((mkR (fun (_ : Bool) k => (decide (Int.tmod k 3 = 0), k + 1)) (xs.take i) k).1.map pb)).length = i * 1 := by rw [List.length_map, mkR_len, len_take xs i (by omega), Nat.mul_one]
    have hKb := mkR_snd (f := (fun (_ : Bool) k => (decide (Int.tmod k 3 = 0), k + 1))) (g := (fun (_ : Bool) => 1)) (fun _ _ => rfl) (xs.take i) k
    generalize hA : ((mkR (fun (_ : Bool) k => (decide (Int.tmod k 3 = 0), k + 1)) (xs.take i) k).1.map pb) = A at hAl ⊢
    generalize hK : (mkR (fun (_ : Bool) k => (decide (Int.tmod k 3 = 0), k + 1)) (xs.take i) k).2 = K at hKb ⊢
    generalize hB : ((xs.drop i).map pb) = B
    refine ewr_sound (M := []) h0 ?_
    simp
    refine brn_app (fun h => ?_) (fun h => ?_)
    · simp at h
      obtain ⟨m, rfl⟩ : ∃ m, n = m + 1 := ⟨n - 1, by omega⟩
      have hcn := cnR_take (fun (_ : Bool) => 1) xs i h
      have hBe : B = [pb xs[i]] ++ ((xs.drop (i + 1)).map pb) := by rw [← hB, drop_step xs i h]; rfl
      generalize hC : ((xs.drop (i + 1)).map pb) = D at hBe
      subst hBe
      rw [Nat.mul_one] at hAl
      have hw0 : IntKind.wrap .i64 (K + 1) = K + 1 := wrap64 (by omega) (by omega)
      simp [h, hAl, hw0]
      have e4 := mkR_take (fun (_ : Bool) k => (decide (Int.tmod k 3 = 0), k + 1)) xs i h k
      rw [hK] at e4
      have e3 : ((mkR (fun (_ : Bool) k => (decide (Int.tmod k 3 = 0), k + 1)) (xs.take (i + 1)) k).1.map pb) = A ++ [pb ((fun (_ : Bool) k => (decide (Int.tmod k 3 = 0), k + 1)) xs[i] K).1] := by rw [e4, List.map_append, hA]; rfl
      subst hI
      refine Less_mk m (by omega) ⟨i + 1, by omega, ?_⟩
      rw [wrNext i (by omega), e3, e4, hC, List.append_assoc]
      all_goals rfl
    · simp at h
      have hx : xs.take i = xs := List.take_of_length_le (by omega)
      have hBn : B = [] := by rw [← hB, List.drop_of_length_le (by omega)]; rfl
      subst hBn
      rw [hx] at hA hK
      subst hK
      subst hA
      simp
theorem ok_markStringS (xs : List ByteArray) (k : Int) (hls : lens_StringS xs) (hk : 0 < k) (hk2 : k + cn_StringS xs ≤ 2305843009213693952) : CallOK Try.prog 27 [.c (.sl 0 9 xs.length (xs.map ps)), .c (pi k)] (.c (pi (mk_StringS xs k).2)) [.c (.sl 0 9 xs.length ((mk_StringS xs k).1.map ps)), .c (pi k)] := by
  obtain ⟨hl0, hlx⟩ := hls
  unfold mk_StringS
  unfold cn_StringS at hk2
  refine okS (fn := Try.f27) [] h0 Try.func27 (by kernel_rfl) rfl Try.ntmps27 Try.results27 (by simp) ?_
  simp
  refine loopS [0, 1, 5] [] (fun n st => ∃ (i : Nat), i + n = xs.length ∧ st = ⟨slOf 20 [(0, .ref ⟨.arg 0 0, []⟩ 0 xs.length), (1, .t (pi (mkR (fun (_ : ByteArray) k => (mtext k, k + 1)) (xs.take i) k).2)), (5, .t (pi i))], ofL [(.arg 0 0, .sl 0 9 xs.length (((mkR (fun (_ : ByteArray) k => (mtext k, k + 1)) (xs.take i) k).1.map ps) ++ ((xs.drop i).map ps)))]⟩) xs.length ?_ ?_
  · rintro Inv hI
    simp
    subst hI
    exact ⟨0, by omega, rfl⟩
  · rintro Inv hI n st ⟨i, hi, rfl⟩
    have hAl : (((mkR (fun (_ : ByteArray) k => (mtext k, k + 1)) (xs.take i) k).1.map ps)).length = i * 1 := by rw [List.length_map, mkR_len, len_take xs i (by omega), Nat.mul_one]
    have hKb := mkR_snd (f := (fun (_ : ByteArray) k => (mtext k, k + 1))) (g := (fun (_ : ByteArray) => 1)) (fun _ _ => rfl) (xs.take i) k
    generalize hA : ((mkR (fun (_ : ByteArray) k => (mtext k, k + 1)) (xs.take i) k).1.map ps) = A at hAl ⊢
    generalize hK : (mkR (fun (_ : ByteArray) k => (mtext k, k + 1)) (xs.take i) k).2 = K at hKb ⊢
    generalize hB : ((xs.drop i).map ps) = B
    refine ewr_sound (M := []) h0 ?_
    simp
    refine brn_app (fun h => ?_) (fun h => ?_)
    · simp at h
      obtain ⟨m, rfl⟩ : ∃ m, n = m + 1 := ⟨n - 1, by omega⟩
      have hcn := cnR_take (fun (_ : ByteArray) => 1) xs i h
      have hBe : B = [ps xs[i]] ++ ((xs.drop (i + 1)).map ps) := by rw [← hB, drop_step xs i h]; rfl
      generalize hC : ((xs.drop (i + 1)).map ps) = D at hBe
      subst hBe
      rw [Nat.mul_one] at hAl
      have hw0 : IntKind.wrap .i64 (K + 1) = K + 1 := wrap64 (by omega) (by omega)
      simp [h, hAl, hw0]
      refine Inv_intro (ok_markText (K) (by omega)) ?_
      simp [h, hAl, hw0]
      have e4 := mkR_take (fun (_ : ByteArray) k => (mtext k, k + 1)) xs i h k
      rw [hK] at e4
      have e3 : ((mkR (fun (_ : ByteArray) k => (mtext k, k + 1)) (xs.take (i + 1)) k).1.map ps) = A ++ [ps ((fun (_ : ByteArray) k => (mtext k, k + 1)) xs[i] K).1] := by rw [e4, List.map_append, hA]; rfl
      subst hI
      refine Less_mk m (by omega) ⟨i + 1, by omega, ?_⟩
      rw [wrNext i (by omega), e3, e4, hC, List.append_assoc]
      all_goals rfl
    · simp at h
      have hx : xs.take i = xs := List.take_of_length_le (by omega)
      have hBn : B = [] := by rw [← hB, List.drop_of_length_le (by omega)]; rfl
      subst hBn
      rw [hx] at hA hK
      subst hK
      subst hA
      simp
theorem ok_markWriteS (xs : List GWrite) (k : Int) (hls : lens_WriteS xs) (hk : 0 < k) (hk2 : k + cn_WriteS xs ≤ 2305843009213693952) : CallOK Try.prog 18 [.c (.sl 0 61 xs.length (xs.flatMap GWrite.c)), .c (pi k)] (.c (pi (mk_WriteS xs k).2)) [.c (.sl 0 61 xs.length ((mk_WriteS xs k).1.flatMap GWrite.c)), .c (pi k)] := by
  obtain ⟨hl0, hlx⟩ := hls
  unfold mk_WriteS
  unfold cn_WriteS at hk2
  refine okS (fn := Try.f18) [] h0 Try.func18 (by kernel_rfl) rfl Try.ntmps18 Try.results18 (by simp) ?_
  simp
  refine loopS [0, 1, 5] [] (fun n st => ∃ (i : Nat), i + n = xs.length ∧ st = ⟨slOf 28 [(0, .ref ⟨.arg 0 0, []⟩ 0 xs.length), (1, .t (pi (mkR GWrite.mark (xs.take i) k).2)), (5, .t (pi i))], ofL [(.arg 0 0, .sl 0 61 xs.length (((mkR GWrite.mark (xs.take i) k).1.flatMap GWrite.c) ++ ((xs.drop i).flatMap GWrite.c)))]⟩) xs.length ?_ ?_
  · rintro Inv hI
    simp
    subst hI
    exact ⟨0, by omega, rfl⟩
  · rintro Inv hI n st ⟨i, hi, rfl⟩
    have hAl : (((mkR GWrite.mark (xs.take i) k).1.flatMap GWrite.c)).length = i * 2 := by rw [fm_len GWrite.c 2 (fun _ => rfl), mkR_len, len_take xs i (by omega)]
    have hKb := mkR_snd (f := GWrite.mark) (g := GWrite.cn) (GWrite.mark_snd) (xs.take i) k
    generalize hA : ((mkR GWrite.mark (xs.take i) k).1.flatMap GWrite.c) = A at hAl ⊢
    generalize hK : (mkR GWrite.mark (xs.take i) k).2 = K at hKb ⊢
    generalize hB : ((xs.drop i).flatMap GWrite.c) = B
    refine ewr_sound (M := []) h0 ?_
    simp
    refine brn_app (fun h => ?_) (fun h => ?_)
    · simp at h
      obtain ⟨m, rfl⟩ : ∃ m, n = m + 1 := ⟨n - 1, by omega⟩
      have hcn := cnR_take GWrite.cn xs i h
      have hBe : B = [pi xs[i].At, ps xs[i].Data] ++ ((xs.drop (i + 1)).flatMap GWrite.c) := by rw [← hB, drop_step xs i h]; rfl
      generalize hC : ((xs.drop (i + 1)).flatMap GWrite.c) = D at hBe
      subst hBe
      simp only [GWrite.cn] at hcn
      have hw0 : IntKind.wrap .i64 (K + 1) = K + 1 := wrap64 (by omega) (by omega)
      have hw1 : IntKind.wrap .i64 ((K + 1) + 1) = (K + 1) + 1 := wrap64 (by omega) (by omega)
      simp [h, hAl, hw0, hw1]
      refine Inv_intro (ok_markText ((K + 1)) (by omega)) ?_
      simp [h, hAl, hw0, hw1]
      have e4 := mkR_take GWrite.mark xs i h k
      rw [hK] at e4
      have e3 : ((mkR GWrite.mark (xs.take (i + 1)) k).1.flatMap GWrite.c) = A ++ GWrite.c (GWrite.mark xs[i] K).1 := by rw [e4, List.flatMap_append, hA, List.flatMap_cons, List.flatMap_nil, List.append_nil]
      subst hI
      refine Less_mk m (by omega) ⟨i + 1, by omega, ?_⟩
      rw [wrNext i (by omega), e3, e4, hC, List.append_assoc]
      all_goals first | rfl | simp [GWrite.mark] | simp
    · simp at h
      have hx : xs.take i = xs := List.take_of_length_le (by omega)
      have hBn : B = [] := by rw [← hB, List.drop_of_length_le (by omega)]; rfl
      subst hBn
      rw [hx] at hA hK
      subst hK
      subst hA
      simp
end Go.V
