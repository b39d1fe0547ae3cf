/- What functions of the seat's program do, each proved of its code, under the bounds that its theorem names. -/
import Derived.Test.YtfooiclnbkchmaaTae
set_option linter.all false
namespace Go.V
open Go.Proofs
set_option maxHeartbeats 1000000
set_option maxRecDepth 10000
set_option linter.unusedSimpArgs false
set_option linter.unusedVariables false
theorem ok_markDisk (x : GDisk) (k : Int) (hls : GDisk.lens x) (hk : 0 < k) (hk2 : k + GDisk.cnT x ≤ 2305843009213693952) : CallOK Try.prog 17 [.agg (GDisk.co x), .c (pi k)] (.c (pi (GDisk.markT x k).2)) [.agg (GDisk.co (GDisk.markT x k).1), .c (pi k)] := by
  unfold GDisk.cnT at hk2
  unfold GDisk.markT
  have hs0 := mk_StringS_snd x.Sectors k
  have hs1 := mk_WriteS_snd x.Waiting (mk_StringS x.Sectors k).2
  refine okA h0 Try.func17 (by kernel_rfl) rfl Try.ntmps17 Try.results17 (by simp) ?_
  intro A hA
  obtain ⟨v0, hv0⟩ := hA 0 0 rfl
  obtain ⟨v1, hv1⟩ := hA 0 1 rfl
  refine ewpA_ghost 0 (.agg [.t (.raw v0), .t (.raw v1)]) (.inr ⟨_, _, rfl, rfl, (GhL.cons (Gh.raw hv0 (by rfl)) (GhL.cons (Gh.raw hv1 (by rfl)) GhL.nil))⟩) ?_
  refine ewpA_seq (ewpA_of (ewr_sound (M := [(27, [1, 0]), (18, [1, 0])]) h0 ?_))
  simp
  refine ewpA_seq (ewpA_region (runA_split (M := [(27, [1, 0]), (18, [1, 0])]) (r := 0) 2 h0 (hl_of rfl) ?_))
  simp
  refine runA_ghost 6 (.ref ⟨.arg 0 0, []⟩ 0 x.Sectors.length) (.inl (Gh.ref hv0 (by rfl))) ?_
  refine runA_of (M := [(27, [1, 0]), (18, [1, 0])]) (r := 0) h0 (hl_of rfl) ?_
  simp
  refine Inv_intro (ok_markStringS x.Sectors (k) (hls.1) (by omega) (by omega)) ?_
  simp
  refine ewpA_seq (ewpA_region (runA_split (M := [(27, [1, 0]), (18, [1, 0])]) (r := 0) 2 h0 (hl_of rfl) ?_))
  simp
  refine runA_ghost 10 (.ref ⟨.arg 0 1, []⟩ 0 x.Waiting.length) (.inl (Gh.ref hv1 (by rfl))) ?_
  refine runA_of (M := [(27, [1, 0]), (18, [1, 0])]) (r := 0) h0 (hl_of rfl) ?_
  simp
  refine Inv_intro (ok_markWriteS x.Waiting ((mk_StringS x.Sectors k).2) (hls.2) (by omega) (by omega)) ?_
  simp
  refine ewpA_of (ewr_sound (M := [(27, [1, 0]), (18, [1, 0])]) h0 ?_)
  simp
theorem ok_szStringS (k : Nat) (xs : List ByteArray) (left : Int) (h1 : 0 ≤ left) (h2 : left ≤ 1048576) (hf : fits_StringS xs) : CallOK Try.prog 20 [.c (rd k xs.length (xs.map ps)), .c (pi left)] (.c (pi (szr left (wt_StringS xs)))) [.c (rd k xs.length (xs.map ps)), .c (pi left)] := by
  obtain ⟨hl, hx⟩ := hf
  refine okS (fn := Try.f20) [] h0 Try.func20 (by kernel_rfl) rfl Try.ntmps20 Try.results20 (by simp) ?_
  have hw : IntKind.wrap .i64 (left - xs.length) = left - xs.length := wrap64 (by omega) (by omega)
  have hwl := len_wt_StringS xs
  simp [hw]
  refine brn_app (fun h => ?_) (fun h => ?_)
  · simp at h
    have e1 : szr left (wt_StringS xs) = -1 := szr_neg (by omega)
    simp [e1]
  · simp at h
    simp
    refine loopS [0, 1, 5] [] (fun n st => ∃ (i : Nat) (m : Int), i + n = xs.length ∧ 0 ≤ m ∧ m ≤ 1048576 ∧ szr m (((xs.drop i).map ByteArray.size).sum) = szr left (wt_StringS xs) ∧ st = ⟨slOf 28 [(0, .t (rd k xs.length (xs.map ps))), (1, .t (pi m)), (5, .t (pi i))], ofL []⟩) xs.length ?_ ?_
    · rintro Inv hI
      simp
      subst hI
      exact ⟨0, left - xs.length, by omega, by omega, by omega, by rw [List.drop_zero, wt_StringS, wtR, szr_add (by omega)], rfl⟩
    · rintro Inv hI n st ⟨i, m, hi, hm1, hm2, hg, rfl⟩
      refine ewr_sound (M := []) h0 ?_
      simp
      refine brn_app (fun h3 => ?_) (fun h3 => ?_)
      · simp at h3
        have hxi := hx xs[i] (List.getElem_mem h3)
        rw [drop_step xs i h3, List.map_cons, List.sum_cons] at hg
        have hw2 : IntKind.wrap .i64 (m - xs[i].size) = m - xs[i].size := wrap64 (by omega) (by omega)
        simp [h3, hw2]
        refine brn_app (fun h4 => ?_) (fun h4 => ?_)
        · simp at h4
          rw [szr_add_neg (by omega)] at hg
          simp [← hg]
        · simp at h4
          rw [szr_add (by omega)] at hg
          simp
          subst hI
          exact Less_mk (n - 1) (by omega) ⟨i + 1, m - xs[i].size, by omega, by omega, by omega, hg, by rw [wrNext i (by omega)]⟩
      · simp at h3
        rw [List.drop_of_length_le (by omega), List.map_nil, List.sum_nil, szr_zero hm1] at hg
        simp [hg]
theorem ok_toBoolS (k : Nat) (xs : List Bool) (hwt : wt_BoolS xs ≤ 1048576) : CallOK Try.prog 23 [.c (rd k xs.length (xs.map pb))] (.c (.sl 0 4 xs.length (xs.map pb))) [.c (rd k xs.length (xs.map pb))] := by
  have hl := len_wt_BoolS xs
  refine okS (fn := Try.f23) [] h0 Try.func23 (by kernel_rfl) rfl Try.ntmps23 Try.results23 (by simp) ?_
  have hb1 : (xs.length : Int) ≤ 281474976710656 := by omega
  have hb2 : 1 * (xs.length : Int) ≤ 281474976710656 := by omega
  simp [hb1, hb2]
  refine loopS [0, 3, 4] [.op 1 2 0] (fun n st => ∃ (i : Nat), i + n = xs.length ∧ st = ⟨slOf 22 [(0, .t (rd k xs.length (xs.map pb))), (3, .ref ⟨.op 1 2 0, []⟩ 0 xs.length), (4, .t (pi i))], ofL [(.op 1 2 0, .sl 0 4 xs.length (((xs.take i).map pb) ++ List.replicate n (.raw (.bool false))))]⟩) xs.length ?_ ?_
  · rintro Inv hI
    simp
    subst hI
    exact ⟨0, by omega, by simp⟩
  · rintro Inv hI n st ⟨i, hi, rfl⟩
    have hA := map_take_len pb xs i (by omega)
    generalize hAe : ((xs.take i).map pb) = A at hA ⊢
    refine ewr_sound (M := []) h0 ?_
    simp
    refine brn_app (fun h => ?_) (fun h => ?_)
    · simp at h
      obtain ⟨m, rfl⟩ : ∃ m, n = m + 1 := ⟨n - 1, by omega⟩
      simp [h, hA, List.replicate_succ]
      have e3 : ((xs.take (i + 1)).map pb) = A ++ [pb xs[i]] := by rw [take_step xs i h, List.map_append, hAe]; rfl
      subst hI
      refine Less_mk m (by omega) ⟨i + 1, by omega, ?_⟩
      rw [wrNext i (by omega), e3, List.append_assoc]
      all_goals rfl
    · simp at h
      have hn : n = 0 := by omega
      subst hn
      have ht : List.take i xs = xs := List.take_of_length_le (by omega)
      have ht2 : List.take (xs.length) (xs.map pb) = (xs.map pb) := List.take_of_length_le (by simp)
      rw [← hAe, ht]
      simp [ht2]
theorem ok_toStringS (k : Nat) (xs : List ByteArray) (hwt : wt_StringS xs ≤ 1048576) : CallOK Try.prog 22 [.c (rd k xs.length (xs.map ps))] (.c (.sl 0 9 xs.length (xs.map ps))) [.c (rd k xs.length (xs.map ps))] := by
  have hl := len_wt_StringS xs
  refine okS (fn := Try.f22) [] h0 Try.func22 (by kernel_rfl) rfl Try.ntmps22 Try.results22 (by simp) ?_
  have hb1 : (xs.length : Int) ≤ 281474976710656 := by omega
  have hb2 : 16 * (xs.length : Int) ≤ 281474976710656 := by omega
  simp [hb1, hb2]
  refine loopS [0, 3, 4] [.op 1 2 0] (fun n st => ∃ (i : Nat), i + n = xs.length ∧ st = ⟨slOf 22 [(0, .t (rd k xs.length (xs.map ps))), (3, .ref ⟨.op 1 2 0, []⟩ 0 xs.length), (4, .t (pi i))], ofL [(.op 1 2 0, .sl 0 9 xs.length (((xs.take i).map ps) ++ List.replicate n (.raw (.string ByteArray.empty))))]⟩) xs.length ?_ ?_
  · rintro Inv hI
    simp
    subst hI
    exact ⟨0, by omega, by simp⟩
  · rintro Inv hI n st ⟨i, hi, rfl⟩
    have hA := map_take_len ps xs i (by omega)
    generalize hAe : ((xs.take i).map ps) = A at hA ⊢
    refine ewr_sound (M := []) h0 ?_
    simp
    refine brn_app (fun h => ?_) (fun h => ?_)
    · simp at h
      obtain ⟨m, rfl⟩ : ∃ m, n = m + 1 := ⟨n - 1, by omega⟩
      simp [h, hA, List.replicate_succ]
      have e3 : ((xs.take (i + 1)).map ps) = A ++ [ps xs[i]] := by rw [take_step xs i h, List.map_append, hAe]; rfl
      subst hI
      refine Less_mk m (by omega) ⟨i + 1, by omega, ?_⟩
      rw [wrNext i (by omega), e3, List.append_assoc]
      all_goals rfl
    · simp at h
      have hn : n = 0 := by omega
      subst hn
      have ht : List.take i xs = xs := List.take_of_length_le (by omega)
      have ht2 : List.take (xs.length) (xs.map ps) = (xs.map ps) := List.take_of_length_le (by simp)
      rw [← hAe, ht]
      simp [ht2]
theorem ok_FnExactPlaySaves (v0 : (List ByteArray)) (v1 : Int) (v2 : (List Bool)) (f0 : fits_StringS v0) (f2 : fits_BoolS v2) : CallOK Try.prog 5 [.c (rd 1 v0.length (v0.map ps)), .c (pi v1), .c (rd 1 v2.length (v2.map pb))] (.c (pb true)) [.c (rd 1 v0.length (v0.map ps)), .c (pi v1), .c (rd 1 v2.length (v2.map pb))] := by
  refine okS (fn := Try.f5) [(28, [1,0]), (17, [1,0]), (27, [1,0])] h0 Try.func5 (by kernel_rfl) rfl Try.ntmps5 Try.results5 (by simp) ?_
  simp
  refine brn_app (fun b0 => ?_) (fun b0 => ?_)
  · simp
  · simp at b0
    have hv2 : wt_BoolS v2 ≤ 1048576 := by unfold wt_BoolS; omega
    simp
    refine Inv_intro (ok_szStringS 1 v0 _ (by omega) (by omega) f0) ?_
    simp
    refine brn_app (fun b1 => ?_) (fun b1 => ?_)
    · simp
    · simp at b1
      have e1 := szr_ge (szr_ge0 b1)
      have d1 := szr_ge0 b1
      simp
      have hv0 : wt_StringS v0 ≤ 1048576 := by omega
      have hlp0 : lens_StringS v0 := lens_of_StringS hv0
      have hcp0 := cn_le_StringS v0
      have hlp2 : lens_BoolS v2 := lens_of_BoolS hv2
      have hcp2 := cn_le_BoolS v2
      have hrr := rPlaySaves_ok v0 v1 v2 hv0 hv2
      obtain ⟨hlr0, hcr0⟩ := hrr
      refine Inv_intro (ok_toStringS 1 v0 hv0) ?_
      simp
      refine Inv_intro (ok_toBoolS 1 v2 hv2) ?_
      simp
      refine Inv_intro (law_sPlaySaves v0 v1 v2 hv0 hv2) ?_
      simp
      refine Inv_intro (ok_toStringS 1 v0 hv0) ?_
      simp
      refine Inv_intro (ok_toBoolS 1 v2 hv2) ?_
      simp
      refine Inv_intro (law_iPlaySaves v0 v1 v2 hv0 hv2) ?_
      simp
      refine Inv_intro (ok_eqDisk 0 0 ((rPlaySaves v0 v1 v2).1) ((rPlaySaves v0 v1 v2).1) hlr0 hlr0) ?_
      simp
      refine Inv_intro (ok_toStringS 1 v0 hv0) ?_
      simp
      refine Inv_intro (ok_eqStringS 0 0 (v0) (v0) hlp0 hlp0) ?_
      simp
      refine Inv_intro (ok_toBoolS 1 v2 hv2) ?_
      simp
      refine Inv_intro (ok_eqBoolS 0 0 (v2) (v2) hlp2 hlp2) ?_
      simp
      have hm0 := mk_StringS_snd (v0) (1)
      have hn0 : ¬ (mk_StringS (v0) (1)).2 < 0 := by omega
      refine Inv_intro (ok_markStringS (v0) (1) hlp0 (by omega) (by omega)) ?_
      simp [hn0]
      have hm1 := mk_BoolS_snd (v2) ((mk_StringS (v0) (1)).2)
      have hn1 : ¬ (mk_BoolS (v2) ((mk_StringS (v0) (1)).2)).2 < 0 := by omega
      refine Inv_intro (ok_markBoolS (v2) ((mk_StringS (v0) (1)).2) hlp2 (by omega) (by omega)) ?_
      simp [hn0, hn1]
      refine Inv_intro (ok_eqDisk 0 0 ((rPlaySaves v0 v1 v2).1) ((rPlaySaves v0 v1 v2).1) hlr0 hlr0) ?_
      simp [hn0, hn1]
      have hm2 := GDisk.markT_snd ((rPlaySaves v0 v1 v2).1) (1)
      have hn2 : ¬ (GDisk.markT ((rPlaySaves v0 v1 v2).1) (1)).2 < 0 := by omega
      refine Inv_intro (ok_markDisk ((rPlaySaves v0 v1 v2).1) (1) hlr0 (by omega) (by omega)) ?_
      simp [hn0, hn1, hn2]
      refine Inv_intro (ok_heldDisk 0 ((rPlaySaves v0 v1 v2).1) (1) hlr0 (by omega) (by omega)) ?_
      simp [hn0, hn1, hn2]
      refine Inv_intro (ok_toStringS 1 v0 hv0) ?_
      simp [hn0, hn1, hn2]
      refine Inv_intro (ok_toBoolS 1 v2 hv2) ?_
      simp [hn0, hn1, hn2]
      refine Inv_intro (law_iPlaySaves v0 v1 v2 hv0 hv2) ?_
      simp [hn0, hn1, hn2]
      refine Inv_intro (ok_eqDisk 0 0 ((rPlaySaves v0 v1 v2).1) ((rPlaySaves v0 v1 v2).1) hlr0 hlr0) ?_
      simp [hn0, hn1, hn2]
      refine Inv_intro (ok_heldDisk 0 ((rPlaySaves v0 v1 v2).1) (1) hlr0 (by omega) (by omega)) ?_
      simp [hn0, hn1, hn2]
end Go.V
