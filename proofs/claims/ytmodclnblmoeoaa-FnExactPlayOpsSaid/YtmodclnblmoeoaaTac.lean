/- What functions of the seat's program do, each proved of its code, under the bounds that its theorem names. -/
import Derived.Test.YtmodclnblmoeoaaTab
set_option linter.all false
namespace Go.V
open Go.Proofs
set_option maxHeartbeats 1000000
set_option maxRecDepth 10000
set_option linter.unusedSimpArgs false
set_option linter.unusedVariables false
theorem ok_markLeafS (xs : List GLeaf) (k : Int) (hls : lens_LeafS xs) (hk : 0 < k) (hk2 : k + cn_LeafS xs ≤ 2305843009213693952) : CallOK Try.prog 28 [.c (.sl 0 103 xs.length (xs.flatMap GLeaf.co)), .c (pi k)] (.c (pi (mk_LeafS xs k).2)) [.c (.sl 0 103 xs.length ((mk_LeafS xs k).1.flatMap GLeaf.co)), .c (pi k)] := by
  obtain ⟨hl0, hlx⟩ := hls
  unfold mk_LeafS
  unfold cn_LeafS at hk2
  refine okS (fn := Try.f28) [(29, [1,0])] h0 Try.func28 (by kernel_rfl) rfl Try.ntmps28 Try.results28 (by simp) ?_
  simp
  refine loopS [0, 1, 5] [] (fun n st => ∃ (i : Nat), i + n = xs.length ∧ st = ⟨slOf 28 [(0, .ref ⟨.arg 0 0, []⟩ 0 xs.length), (1, .t (pi (mkR GLeaf.mark (xs.take i) k).2)), (5, .t (pi i))], ofL [(.arg 0 0, .sl 0 103 xs.length (((mkR GLeaf.mark (xs.take i) k).1.flatMap GLeaf.co) ++ ((xs.drop i).flatMap GLeaf.co)))]⟩) xs.length ?_ ?_
  · rintro Inv hI
    simp
    subst hI
    exact ⟨0, by omega, rfl⟩
  · rintro Inv hI n st ⟨i, hi, rfl⟩
    have hAl : (((mkR GLeaf.mark (xs.take i) k).1.flatMap GLeaf.co)).length = i * 2 := by rw [fm_len GLeaf.co 2 (fun _ => rfl), mkR_len, len_take xs i (by omega)]
    have hKb := mkR_snd (f := GLeaf.mark) (g := GLeaf.cn) (GLeaf.mark_snd) (xs.take i) k
    generalize hA : ((mkR GLeaf.mark (xs.take i) k).1.flatMap GLeaf.co) = A at hAl ⊢
    generalize hK : (mkR GLeaf.mark (xs.take i) k).2 = K at hKb ⊢
    generalize hB : ((xs.drop i).flatMap GLeaf.co) = B
    refine ewr_sound (M := [(29, [1, 0])]) h0 ?_
    simp
    refine brn_app (fun h => ?_) (fun h => ?_)
    · simp at h
      obtain ⟨m, rfl⟩ : ∃ m, n = m + 1 := ⟨n - 1, by omega⟩
      have hcn := cnR_take GLeaf.cn xs i h
      have hBe : B = [.sl 0 9 xs[i].Path.length (xs[i].Path.map ps), ps xs[i].Value] ++ ((xs.drop (i + 1)).flatMap GLeaf.co) := by rw [← hB, drop_step xs i h]; rfl
      generalize hC : ((xs.drop (i + 1)).flatMap GLeaf.co) = D at hBe
      subst hBe
      have hxl := hlx _ (List.getElem_mem h)
      simp only [GLeaf.cn] at hcn
      have hs0 := mk_StringS_snd xs[i].Path K
      have hw1 : IntKind.wrap .i64 ((mk_StringS xs[i].Path K).2 + 1) = (mk_StringS xs[i].Path K).2 + 1 := wrap64 (by omega) (by omega)
      simp [h, hAl, hw1]
      refine Inv_intro (ok_markStringS xs[i].Path (K) hxl (by omega) (by omega)) ?_
      simp [h, hAl, hw1]
      refine Inv_intro (ok_markText ((mk_StringS xs[i].Path K).2) (by omega)) ?_
      simp [h, hAl, hw1]
      have e4 := mkR_take GLeaf.mark xs i h k
      rw [hK] at e4
      have e3 : ((mkR GLeaf.mark (xs.take (i + 1)) k).1.flatMap GLeaf.co) = A ++ GLeaf.co (GLeaf.mark xs[i] K).1 := by rw [e4, List.flatMap_append, hA, List.flatMap_cons, List.flatMap_nil, List.append_nil]
      subst hI
      refine Less_mk m (by omega) ⟨i + 1, by omega, ?_⟩
      rw [wrNext i (by omega), e3, e4, hC, List.append_assoc]
      all_goals first | rfl | simp [GLeaf.mark] | simp
    · simp at h
      have hx : xs.take i = xs := List.take_of_length_le (by omega)
      have hBn : B = [] := by rw [← hB, List.drop_of_length_le (by omega)]; rfl
      subst hBn
      rw [hx] at hA hK
      subst hK
      subst hA
      simp
theorem ok_markLeafSS (xs : List (List GLeaf)) (k : Int) (hls : lens_LeafSS xs) (hk : 0 < k) (hk2 : k + cn_LeafSS xs ≤ 2305843009213693952) : CallOK Try.prog 98 [.c (.sl 0 35 xs.length (xs.map (cLeafSo))), .c (pi k)] (.c (pi (mk_LeafSS xs k).2)) [.c (.sl 0 35 xs.length ((mk_LeafSS xs k).1.map (cLeafSo))), .c (pi k)] := by
  obtain ⟨hl0, hlx⟩ := hls
  unfold mk_LeafSS
  unfold cn_LeafSS at hk2
  refine okS (fn := Try.f98) [(28, [1,0])] h0 Try.func98 (by kernel_rfl) rfl Try.ntmps98 Try.results98 (by simp) ?_
  simp
  refine loopS [0, 1, 5] [] (fun n st => ∃ (i : Nat), i + n = xs.length ∧ st = ⟨slOf 19 [(0, .ref ⟨.arg 0 0, []⟩ 0 xs.length), (1, .t (pi (mkR mk_LeafS (xs.take i) k).2)), (5, .t (pi i))], ofL [(.arg 0 0, .sl 0 35 xs.length (((mkR mk_LeafS (xs.take i) k).1.map (cLeafSo)) ++ ((xs.drop i).map (cLeafSo))))]⟩) xs.length ?_ ?_
  · rintro Inv hI
    simp
    subst hI
    exact ⟨0, by omega, rfl⟩
  · rintro Inv hI n st ⟨i, hi, rfl⟩
    have hAl : (((mkR mk_LeafS (xs.take i) k).1.map (cLeafSo))).length = i * 1 := by rw [List.length_map, mkR_len, len_take xs i (by omega), Nat.mul_one]
    have hKb := mkR_snd (f := mk_LeafS) (g := cn_LeafS) (mk_LeafS_snd) (xs.take i) k
    generalize hA : ((mkR mk_LeafS (xs.take i) k).1.map (cLeafSo)) = A at hAl ⊢
    generalize hK : (mkR mk_LeafS (xs.take i) k).2 = K at hKb ⊢
    generalize hB : ((xs.drop i).map (cLeafSo)) = B
    refine ewr_sound (M := [(28, [1, 0])]) h0 ?_
    simp
    refine brn_app (fun h => ?_) (fun h => ?_)
    · simp at h
      obtain ⟨m, rfl⟩ : ∃ m, n = m + 1 := ⟨n - 1, by omega⟩
      have hcn := cnR_take cn_LeafS xs i h
      have hBe : B = [.sl 0 103 xs[i].length (xs[i].flatMap GLeaf.co)] ++ ((xs.drop (i + 1)).map (cLeafSo)) := by rw [← hB, drop_step xs i h]; rfl
      generalize hC : ((xs.drop (i + 1)).map (cLeafSo)) = D at hBe
      subst hBe
      rw [Nat.mul_one] at hAl
      have hs0 := mk_LeafS_snd xs[i] K
      simp [h, hAl]
      refine Inv_intro (ok_markLeafS xs[i] (K) (hlx _ (List.getElem_mem h)) (by omega) (by omega)) ?_
      simp [h, hAl]
      have e4 := mkR_take mk_LeafS xs i h k
      rw [hK] at e4
      have e3 : ((mkR mk_LeafS (xs.take (i + 1)) k).1.map (cLeafSo)) = A ++ [cLeafSo (mk_LeafS xs[i] K).1] := by rw [e4, List.map_append, hA]; rfl
      subst hI
      refine Less_mk m (by omega) ⟨i + 1, by omega, ?_⟩
      rw [wrNext i (by omega), e3, e4, hC, List.append_assoc]
      all_goals first | rfl | simp [cLeafSo]
    · simp at h
      have hx : xs.take i = xs := List.take_of_length_le (by omega)
      have hBn : B = [] := by rw [← hB, List.drop_of_length_le (by omega)]; rfl
      subst hBn
      rw [hx] at hA hK
      subst hK
      subst hA
      simp
theorem ok_markStore (x : GStore) (k : Int) (hls : GStore.lens x) (hk : 0 < k) (hk2 : k + GStore.cnT x ≤ 2305843009213693952) : CallOK Try.prog 43 [.agg (GStore.co x), .c (pi k)] (.c (pi (GStore.markT x k).2)) [.agg (GStore.co (GStore.markT x k).1), .c (pi k)] := by
  unfold GStore.cnT at hk2
  unfold GStore.markT
  have hs0 := mk_LeafS_snd x.Candidate k
  have hs1 := mk_LeafS_snd x.Running (mk_LeafS x.Candidate k).2
  have hs2 := mk_LeafSS_snd x.History (mk_LeafS x.Running (mk_LeafS x.Candidate k).2).2
  refine okA h0 Try.func43 (by kernel_rfl) rfl Try.ntmps43 Try.results43 (by simp) ?_
  intro A hA
  obtain ⟨v0, hv0⟩ := hA 0 0 rfl
  obtain ⟨v1, hv1⟩ := hA 0 1 rfl
  obtain ⟨v2, hv2⟩ := hA 0 2 rfl
  refine ewpA_ghost 0 (.agg [.t (.raw v0), .t (.raw v1), .t (.raw v2), .t (pi x.Left)]) (.inr ⟨_, _, rfl, rfl, (GhL.cons (Gh.raw hv0 (by rfl)) (GhL.cons (Gh.raw hv1 (by rfl)) (GhL.cons (Gh.raw hv2 (by rfl)) (GhL.cons Gh.rfl' GhL.nil))))⟩) ?_
  refine ewpA_seq (ewpA_of (ewr_sound (M := [(28, [1, 0]), (98, [1, 0])]) h0 ?_))
  simp
  refine ewpA_seq (ewpA_region (runA_split (M := [(28, [1, 0]), (98, [1, 0])]) (r := 0) 2 h0 (hl_of rfl) ?_))
  simp
  refine runA_ghost 6 (.ref ⟨.arg 0 0, []⟩ 0 x.Candidate.length) (.inl (Gh.ref hv0 (by rfl))) ?_
  refine runA_of (M := [(28, [1, 0]), (98, [1, 0])]) (r := 0) h0 (hl_of rfl) ?_
  simp
  refine Inv_intro (ok_markLeafS x.Candidate (k) (hls.1) (by omega) (by omega)) ?_
  simp
  refine ewpA_seq (ewpA_region (runA_split (M := [(28, [1, 0]), (98, [1, 0])]) (r := 0) 2 h0 (hl_of rfl) ?_))
  simp
  refine runA_ghost 10 (.ref ⟨.arg 0 1, []⟩ 0 x.Running.length) (.inl (Gh.ref hv1 (by rfl))) ?_
  refine runA_of (M := [(28, [1, 0]), (98, [1, 0])]) (r := 0) h0 (hl_of rfl) ?_
  simp
  refine Inv_intro (ok_markLeafS x.Running ((mk_LeafS x.Candidate k).2) (hls.2.1) (by omega) (by omega)) ?_
  simp
  refine ewpA_seq (ewpA_region (runA_split (M := [(28, [1, 0]), (98, [1, 0])]) (r := 0) 2 h0 (hl_of rfl) ?_))
  simp
  refine runA_ghost 14 (.ref ⟨.arg 0 2, []⟩ 0 x.History.length) (.inl (Gh.ref hv2 (by rfl))) ?_
  refine runA_of (M := [(28, [1, 0]), (98, [1, 0])]) (r := 0) h0 (hl_of rfl) ?_
  simp
  refine Inv_intro (ok_markLeafSS x.History ((mk_LeafS x.Running (mk_LeafS x.Candidate k).2).2) (hls.2.2) (by omega) (by omega)) ?_
  simp
  refine ewpA_of (ewr_sound (M := [(28, [1, 0]), (98, [1, 0])]) h0 ?_)
  simp
theorem ok_szStringS (k : Nat) (xs : List ByteArray) (left : Int) (h1 : 0 ≤ left) (h2 : left ≤ 1048576) (hf : fits_StringS xs) : CallOK Try.prog 21 [.c (rd k xs.length (xs.map ps)), .c (pi left)] (.c (pi (szr left (wt_StringS xs)))) [.c (rd k xs.length (xs.map ps)), .c (pi left)] := by
  obtain ⟨hl, hx⟩ := hf
  refine okS (fn := Try.f21) [] h0 Try.func21 (by kernel_rfl) rfl Try.ntmps21 Try.results21 (by simp) ?_
  have hw : IntKind.wrap .i64 (left - xs.length) = left - xs.length := wrap64 (by omega) (by omega)
  have hwl := len_wt_StringS xs
  simp [hw]
  refine brn_app (fun h => ?_) (fun h => ?_)
  · simp at h
    have e1 : szr left (wt_StringS xs) = -1 := szr_neg (by omega)
    simp [e1]
  · simp at h
    simp
    refine loopS [0, 1, 5] [] (fun n st => ∃ (i : Nat) (m : Int), i + n = xs.length ∧ 0 ≤ m ∧ m ≤ 1048576 ∧ szr m (((xs.drop i).map ByteArray.size).sum) = szr left (wt_StringS xs) ∧ st = ⟨slOf 28 [(0, .t (rd k xs.length (xs.map ps))), (1, .t (pi m)), (5, .t (pi i))], ofL []⟩) xs.length ?_ ?_
    · rintro Inv hI
      simp
      subst hI
      exact ⟨0, left - xs.length, by omega, by omega, by omega, by rw [List.drop_zero, wt_StringS, wtR, szr_add (by omega)], rfl⟩
    · rintro Inv hI n st ⟨i, m, hi, hm1, hm2, hg, rfl⟩
      refine ewr_sound (M := []) h0 ?_
      simp
      refine brn_app (fun h3 => ?_) (fun h3 => ?_)
      · simp at h3
        have hxi := hx xs[i] (List.getElem_mem h3)
        rw [drop_step xs i h3, List.map_cons, List.sum_cons] at hg
        have hw2 : IntKind.wrap .i64 (m - xs[i].size) = m - xs[i].size := wrap64 (by omega) (by omega)
        simp [h3, hw2]
        refine brn_app (fun h4 => ?_) (fun h4 => ?_)
        · simp at h4
          rw [szr_add_neg (by omega)] at hg
          simp [← hg]
        · simp at h4
          rw [szr_add (by omega)] at hg
          simp
          subst hI
          exact Less_mk (n - 1) (by omega) ⟨i + 1, m - xs[i].size, by omega, by omega, by omega, hg, by rw [wrNext i (by omega)]⟩
      · simp at h3
        rw [List.drop_of_length_le (by omega), List.map_nil, List.sum_nil, szr_zero hm1] at hg
        simp [hg]
theorem ok_szOp (k : Nat) (x : GOp) (left : Int) (h1 : 0 ≤ left) (h2 : left ≤ 1048576) (hf : GOp.fits x) : CallOK Try.prog 56 [.agg (GOp.ci k x), .c (pi left)] (.c (pi (szr left (GOp.wt x)))) [.agg (GOp.ci k x), .c (pi left)] := by
  simp only [GOp.fits] at hf
  obtain ⟨hf0, hf1⟩ := hf
  refine okS (fn := Try.f56) [] h0 Try.func56 (by kernel_rfl) rfl Try.ntmps56 Try.results56 (by simp) ?_
  simp
  refine Inv_intro (ok_szStringS k x.Path (left) (by omega) (by omega) hf0) ?_
  simp
  refine brn_app (fun a0 => ?_) (fun a0 => ?_)
  · simp at a0
    have b0 := szr_lt0 a0 (by omega)
    have e : szr left (GOp.wt x) = -1 := szr_neg (by unfold GOp.wt; omega)
    simp [e]
  · simp at a0
    have b0 := szr_ge0 a0
    have e0 := szr_ge b0
    simp only [e0]
    have hw1 : IntKind.wrap .i64 (left - (wt_StringS x.Path : Nat) - x.Value.size) = left - (wt_StringS x.Path : Nat) - x.Value.size := wrap64 (by omega) (by omega)
    simp [hw1]
    refine brn_app (fun a1 => ?_) (fun a1 => ?_)
    · simp at a1
      have e : szr left (GOp.wt x) = -1 := szr_neg (by unfold GOp.wt; omega)
      simp [e]
    · simp at a1
      have e : szr left (GOp.wt x) = left - (wt_StringS x.Path : Nat) - x.Value.size := by
        rw [szr_ge (by unfold GOp.wt; omega)]
        unfold GOp.wt
        omega
      simp [e]
theorem ok_szOpS (k : Nat) (xs : List GOp) (left : Int) (h1 : 0 ≤ left) (h2 : left ≤ 1048576) (hf : fits_OpS xs) : CallOK Try.prog 63 [.c (rd k xs.length (xs.flatMap (GOp.ci k))), .c (pi left)] (.c (pi (szr left (wt_OpS xs)))) [.c (rd k xs.length (xs.flatMap (GOp.ci k))), .c (pi left)] := by
  obtain ⟨hl, hx⟩ := hf
  refine okS (fn := Try.f63) [] h0 Try.func63 (by kernel_rfl) rfl Try.ntmps63 Try.results63 (by simp) ?_
  have hw : IntKind.wrap .i64 (left - xs.length) = left - xs.length := wrap64 (by omega) (by omega)
  have hwl := len_wt_OpS xs
  simp [hw]
  refine brn_app (fun h => ?_) (fun h => ?_)
  · simp at h
    have e1 : szr left (wt_OpS xs) = -1 := szr_neg (by omega)
    simp [e1]
  · simp at h
    simp
    refine loopS [0, 1, 5] [] (fun n st => ∃ (i : Nat) (m : Int), i + n = xs.length ∧ 0 ≤ m ∧ m ≤ 1048576 ∧ szr m (((xs.drop i).map GOp.wt).sum) = szr left (wt_OpS xs) ∧ st = ⟨slOf 27 [(0, .t (rd k xs.length (xs.flatMap (GOp.ci k)))), (1, .t (pi m)), (5, .t (pi i))], ofL []⟩) xs.length ?_ ?_
    · rintro Inv hI
      simp
      subst hI
      exact ⟨0, left - xs.length, by omega, by omega, by omega, by rw [List.drop_zero, wt_OpS, wtR, szr_add (by omega)], rfl⟩
    · rintro Inv hI n st ⟨i, m, hi, hm1, hm2, hg, rfl⟩
      refine ewr_sound (M := []) h0 ?_
      simp
      refine brn_app (fun h3 => ?_) (fun h3 => ?_)
      · simp at h3
        have hxi := hx xs[i] (List.getElem_mem h3)
        rw [drop_step xs i h3, List.map_cons, List.sum_cons] at hg
        have hd := fm_drop (GOp.ci k) 4 (fun _ => rfl) xs i h3
        have hlen := fm_len (GOp.ci k) 4 (fun _ => rfl) xs
        have hlt : i * 4 < xs.length * 4 := by omega
        simp [h3, hd, hlen, hlt]
        refine Inv_intro (ok_szOp k xs[i] m hm1 hm2 hxi) ?_
        simp
        refine brn_app (fun h4 => ?_) (fun h4 => ?_)
        · simp at h4
          have h5 := szr_lt0 h4 hm1
          rw [szr_add_neg h5] at hg
          simp [← hg]
        · simp at h4
          have h5 := szr_ge0 h4
          have e5 := szr_ge h5
          rw [szr_add h5, ← e5] at hg
          simp
          subst hI
          exact Less_mk (n - 1) (by omega) ⟨i + 1, szr m (GOp.wt xs[i]), by omega, by omega, by omega, hg, by rw [wrNext i (by omega)]⟩
      · simp at h3
        rw [List.drop_of_length_le (by omega), List.map_nil, List.sum_nil, szr_zero hm1] at hg
        simp [hg]
theorem ok_toStringS (k : Nat) (xs : List ByteArray) (hwt : wt_StringS xs ≤ 1048576) : CallOK Try.prog 24 [.c (rd k xs.length (xs.map ps))] (.c (.sl 0 9 xs.length (xs.map ps))) [.c (rd k xs.length (xs.map ps))] := by
  have hl := len_wt_StringS xs
  refine okS (fn := Try.f24) [] h0 Try.func24 (by kernel_rfl) rfl Try.ntmps24 Try.results24 (by simp) ?_
  have hb1 : (xs.length : Int) ≤ 281474976710656 := by omega
  have hb2 : 16 * (xs.length : Int) ≤ 281474976710656 := by omega
  simp [hb1, hb2]
  refine loopS [0, 3, 4] [.op 1 2 0] (fun n st => ∃ (i : Nat), i + n = xs.length ∧ st = ⟨slOf 22 [(0, .t (rd k xs.length (xs.map ps))), (3, .ref ⟨.op 1 2 0, []⟩ 0 xs.length), (4, .t (pi i))], ofL [(.op 1 2 0, .sl 0 9 xs.length (((xs.take i).map ps) ++ List.replicate n (.raw (.string ByteArray.empty))))]⟩) xs.length ?_ ?_
  · rintro Inv hI
    simp
    subst hI
    exact ⟨0, by omega, by simp⟩
  · rintro Inv hI n st ⟨i, hi, rfl⟩
    have hA := map_take_len ps xs i (by omega)
    generalize hAe : ((xs.take i).map ps) = A at hA ⊢
    refine ewr_sound (M := []) h0 ?_
    simp
    refine brn_app (fun h => ?_) (fun h => ?_)
    · simp at h
      obtain ⟨m, rfl⟩ : ∃ m, n = m + 1 := ⟨n - 1, by omega⟩
      simp [h, hA, List.replicate_succ]
      have e3 : ((xs.take (i + 1)).map ps) = A ++ [ps xs[i]] := by rw [take_step xs i h, List.map_append, hAe]; rfl
      subst hI
      refine Less_mk m (by omega) ⟨i + 1, by omega, ?_⟩
      rw [wrNext i (by omega), e3, List.append_assoc]
      all_goals rfl
    · simp at h
      have hn : n = 0 := by omega
      subst hn
      have ht : List.take i xs = xs := List.take_of_length_le (by omega)
      have ht2 : List.take (xs.length) (xs.map ps) = (xs.map ps) := List.take_of_length_le (by simp)
      rw [← hAe, ht]
      simp [ht2]
theorem ok_toOp (k : Nat) (x : GOp) (hwt : GOp.wt x ≤ 1048576) : CallOK Try.prog 58 [.agg (GOp.ci k x)] (.agg (GOp.co x)) [.agg (GOp.ci k x)] := by
  unfold GOp.wt at hwt
  refine okS (fn := Try.f58) [] h0 Try.func58 (by kernel_rfl) rfl Try.ntmps58 Try.results58 (by simp) ?_
  simp
  refine Inv_intro (ok_toStringS k x.Path (by omega)) ?_
  simp
theorem ok_toOpS (k : Nat) (xs : List GOp) (hwt : wt_OpS xs ≤ 1048576) : CallOK Try.prog 65 [.c (rd k xs.length (xs.flatMap (GOp.ci k)))] (.c (.sl 0 80 xs.length (xs.flatMap GOp.co))) [.c (rd k xs.length (xs.flatMap (GOp.ci k)))] := by
  have hl := len_wt_OpS xs
  refine okS (fn := Try.f65) [] h0 Try.func65 (by kernel_rfl) rfl Try.ntmps65 Try.results65 (by simp) ?_
  have hb1 : (xs.length : Int) ≤ 281474976710656 := by omega
  have hb2 : 56 * (xs.length : Int) ≤ 281474976710656 := by omega
  simp [hb1, hb2]
  refine loopS [0, 3, 4] [.op 1 2 0] (fun n st => ∃ (i : Nat), i + n = xs.length ∧ st = ⟨slOf 23 [(0, .t (rd k xs.length (xs.flatMap (GOp.ci k)))), (3, .ref ⟨.op 1 2 0, []⟩ 0 xs.length), (4, .t (pi i))], ofL [(.op 1 2 0, .sl 0 80 xs.length (((xs.take i).flatMap GOp.co) ++ (List.replicate n [.raw (.int .i64 0), .sl 0 nilE 0 [], .raw (.string ByteArray.empty), .raw (.int .i64 0)]).flatten))]⟩) xs.length ?_ ?_
  · rintro Inv hI
    simp
    subst hI
    exact ⟨0, by omega, by simp⟩
  · rintro Inv hI n st ⟨i, hi, rfl⟩
    have hA := fm_take_len GOp.co 4 (fun _ => rfl) xs i (by omega)
    generalize hAe : ((xs.take i).flatMap GOp.co) = A at hA ⊢
    refine ewr_sound (M := []) h0 ?_
    simp
    refine brn_app (fun h => ?_) (fun h => ?_)
    · simp at h
      obtain ⟨m, rfl⟩ : ∃ m, n = m + 1 := ⟨n - 1, by omega⟩
      have hd := fm_drop (GOp.ci k) 4 (fun _ => rfl) xs i h
      have hlen := fm_len (GOp.ci k) 4 (fun _ => rfl) xs
      have hlt : i * 4 < xs.length * 4 := by omega
      simp [h, hd, hlen, hlt]
      refine Inv_intro (ok_toOp k xs[i] (by have := mem_wt_OpS (List.getElem_mem h); omega)) ?_
      simp [h, hA, List.replicate_succ]
      have e3 : ((xs.take (i + 1)).flatMap GOp.co) = A ++ GOp.co xs[i] := by rw [take_step xs i h, List.flatMap_append, hAe, List.flatMap_cons, List.flatMap_nil, List.append_nil]
      subst hI
      refine Less_mk m (by omega) ⟨i + 1, by omega, ?_⟩
      rw [wrNext i (by omega), e3, List.append_assoc]
      all_goals rfl
    · simp at h
      have hn : n = 0 := by omega
      subst hn
      have ht : List.take i xs = xs := List.take_of_length_le (by omega)
      have ht2 : List.take (xs.length * 4) (xs.flatMap GOp.co) = (xs.flatMap GOp.co) := List.take_of_length_le (by rw [fm_len GOp.co 4 (fun _ => rfl)]; exact Nat.le_refl _)
      have hlo := fm_len GOp.co 4 (fun _ => rfl) xs
      rw [← hAe, ht]
      simp [ht2, hlo, -List.length_flatMap]
def firstC : List GLeaf := [⟨[⟨#[118, 101, 114, 115, 105, 111, 110]⟩], ⟨#[48]⟩⟩]
theorem ok_ifirst : CallOK Try.prog 153 [] (.c (.sl 0 103 1 (firstC.flatMap GLeaf.co))) [] := by
  refine okS (fn := Try.f153) [] h0 Try.func153 (by kernel_rfl) rfl Try.ntmps153 Try.results153 (by simp) ?_
  simp [firstC]
theorem ok_sfirst : CallOK Try.prog 152 [] (.c (.sl 0 103 1 (firstC.flatMap GLeaf.co))) [] := by
  refine okS (fn := Try.f152) [] h0 Try.func152 (by kernel_rfl) rfl Try.ntmps152 Try.results152 (by simp) ?_
  simp [firstC]
theorem firstC_len : firstC.length = 1 := rfl
theorem firstC_take : List.take 2 (firstC.flatMap GLeaf.co) = firstC.flatMap GLeaf.co := rfl
def rNewStore : GStore := ⟨firstC, firstC, [firstC], 0⟩
theorem ok_iNewStore : CallOK Try.prog 115 [] (.agg (GStore.co rNewStore)) [] := by
  refine okS (fn := Try.f115) [] h0 Try.func115 (by kernel_rfl) rfl Try.ntmps115 Try.results115 (by simp) ?_
  simp
  refine Inv_intro ok_ifirst ?_
  simp
  refine Inv_intro ok_ifirst ?_
  simp
  refine Inv_intro ok_ifirst ?_
  simp [firstC_len, firstC_take, rNewStore]
theorem ok_sNewStore : CallOK Try.prog 114 [] (.agg (GStore.co rNewStore)) [] := by
  refine okS (fn := Try.f114) [] h0 Try.func114 (by kernel_rfl) rfl Try.ntmps114 Try.results114 (by simp) ?_
  simp
  refine Inv_intro ok_sfirst ?_
  simp
  refine Inv_intro ok_sfirst ?_
  simp
  refine Inv_intro ok_sfirst ?_
  simp [firstC_len, firstC_take, rNewStore]
theorem law_iNewStore : CallOK Try.prog 115 [] (.agg (GStore.co rNewStore)) [] := ok_iNewStore
theorem law_sNewStore : CallOK Try.prog 114 [] (.agg (GStore.co rNewStore)) [] := ok_sNewStore
theorem firstC_ok : lens_LeafS firstC := lens_of_LeafS (by decide)
theorem rNewStore_ok : rNewStore.lens ∧ GStore.cnT rNewStore ≤ 1152921504606846976 := by
  refine ⟨lens_of_Store (by decide), ?_⟩
  exact Nat.le_trans (cn_le_Store rNewStore) (by decide)
def sLt (u v : ByteArray) : Bool := Op.bytesLess u.toList v.toList
theorem bless_irr : ∀ l : List UInt8, Op.bytesLess l l = false
  | [] => rfl
  | a :: l => by
    unfold Op.bytesLess
    rw [bless_irr l]
    simp
theorem sl_irr (u : ByteArray) : sLt u u = false := bless_irr _
def cmpS (u v : ByteArray) : Int := if sLt u v = true then -1 else if u = v then 0 else 1
theorem cmpS_eq (u : ByteArray) : cmpS u u = 0 := by simp [cmpS, sl_irr]
theorem cmpS_ne {u v : ByteArray} (h : ¬ u = v) : ¬ cmpS u v = 0 := by
  unfold cmpS
  split
  · omega
  · simp [h]
theorem cmpS_z {u v : ByteArray} (h : cmpS u v = 0) : u = v := Classical.byContradiction fun hn => cmpS_ne hn h
def cmpP : List ByteArray → List ByteArray → Int
  | [], [] => 0
  | [], _ :: _ => -1
  | _ :: _, [] => 1
  | a :: us, b :: vs => if cmpS a b = 0 then cmpP us vs else cmpS a b
def lessP : List ByteArray → List ByteArray → Bool
  | [], [] => false
  | [], _ :: _ => true
  | _ :: _, [] => false
  | a :: us, b :: vs => if a = b then lessP us vs else sLt a b
def begP : List ByteArray → List ByteArray → Bool
  | [], _ => true
  | _ :: _, [] => false
  | a :: us, b :: vs => decide (a = b) && begP us vs
theorem cmpP_less : ∀ a b : List ByteArray, decide (0 ≤ cmpP a b) = !lessP a b
  | [], [] => rfl
  | [], _ :: _ => rfl
  | _ :: _, [] => rfl
  | a :: us, b :: vs => by
    unfold cmpP lessP
    by_cases h : a = b
    · subst h
      rw [cmpS_eq, if_pos rfl, if_pos rfl]
      exact cmpP_less us vs
    · rw [if_neg (cmpS_ne h), if_neg h]
      unfold cmpS
      cases hs : sLt a b <;> simp [h]
theorem begP_take : ∀ a b : List ByteArray, a.length ≤ b.length → begP a b = decide (a = b.take a.length)
  | [], _, _ => by simp [begP]
  | _ :: _, [], h => by simp at h
  | a :: us, b :: vs, h => by
    have := begP_take us vs (by simpa using h)
    simp [begP, this]
theorem begP_long : ∀ a b : List ByteArray, b.length < a.length → begP a b = false
  | [], _, h => by simp at h
  | _ :: _, [], _ => rfl
  | a :: us, b :: vs, h => by simp [begP, begP_long us vs (by simpa using h)]
theorem ok_isNaN (s : ByteArray) : CallOK Try.prog 170 [.c (ps s)] (.c (pb false)) [.c (ps s)] := by
  refine okS (fn := Try.f170) [] h0 Try.func170 (by kernel_rfl) rfl Try.ntmps170 Try.results170 (by simp) ?_
  simp
theorem ok_cmpS (u v : ByteArray) : CallOK Try.prog 146 [.c (ps u), .c (ps v)] (.c (pi (cmpS u v))) [.c (ps u), .c (ps v)] := by
  refine okS (fn := Try.f146) [] h0 Try.func146 (by kernel_rfl) rfl Try.ntmps146 Try.results146 (by simp) ?_
  simp
  refine Inv_intro (ok_isNaN u) ?_
  simp
  refine Inv_intro (ok_isNaN v) ?_
  simp
  refine brn_app (fun a => ?_) (fun a => ?_)
  · have a' : sLt u v = true := a
    simp [cmpS, a']
  · have a' : sLt u v = false := a
    simp
    refine brn_app (fun b => ?_) (fun b => ?_)
    · have b' : u ≠ v := by
        rintro rfl
        simp at b
      simp [cmpS, a', b']
    · have b' : u = v := by
        have e : Op.bytesLess u.toList v.toList = false := a
        rw [e] at b
        simp at b
        exact bytes_toList_inj b
      subst b'
      simp [cmpS, a']
theorem ok_cmpP (k k' : Nat) (xs ys : List ByteArray) (ha : xs.length ≤ 140737488351232) (hb : ys.length ≤ 140737488351232) : CallOK Try.prog 109 [.c (rd k xs.length (xs.map ps)), .c (rd k' ys.length (ys.map ps))] (.c (pi (cmpP xs ys))) [.c (rd k xs.length (xs.map ps)), .c (rd k' ys.length (ys.map ps))] := by
  refine okS (fn := Try.f109) [] h0 Try.func109 (by kernel_rfl) rfl Try.ntmps109 Try.results109 (by simp) ?_
  simp
  refine loopS [0, 1, 9, 10, 11] [] (fun n st => ∃ (i : Nat), i + n = xs.length ∧ i ≤ ys.length ∧ cmpP (xs.drop i) (ys.drop i) = cmpP xs ys ∧ st = ⟨slOf 36 [(0, .t (rd k xs.length (xs.map ps))), (1, .t (rd k' ys.length (ys.map ps))), (9, .t (rd k xs.length (xs.map ps))), (10, .t (pi xs.length)), (11, .t (pi i))], ofL []⟩) xs.length ?_ ?_
  · rintro Inv hI
    simp
    subst hI
    exact ⟨0, by omega, by omega, rfl, rfl⟩
  · rintro Inv hI n st ⟨i, hi, hiy, hc, rfl⟩
    refine ewr_sound (M := []) h0 ?_
    simp
    refine brn_app (fun h => ?_) (fun h => ?_)
    · simp at h
      rw [drop_step xs i h] at hc
      simp [h]
      refine brn_app (fun h2 => ?_) (fun h2 => ?_)
      · simp at h2
        rw [List.drop_of_length_le (show ys.length ≤ i by omega), cmpP] at hc
        simp [← hc]
      · simp at h2
        rw [drop_step ys i h2, cmpP] at hc
        simp [h2]
        refine Inv_intro (ok_cmpS _ _) ?_
        simp
        refine brn_app (fun h3 => ?_) (fun h3 => ?_)
        · simp at h3
          rw [if_neg h3] at hc
          simp [hc]
        · simp at h3
          rw [if_pos h3] at hc
          simp
          subst hI
          exact Less_mk (n - 1) (by omega) ⟨i + 1, by omega, by omega, hc, by rw [wrNext i (by omega)]⟩
    · simp at h
      rw [List.drop_of_length_le (by omega)] at hc
      simp
      refine brn_app (fun h2 => ?_) (fun h2 => ?_)
      · simp at h2
        rw [drop_step ys i (by omega), cmpP] at hc
        simp [← hc]
      · simp at h2
        rw [List.drop_of_length_le (by omega), cmpP] at hc
        simp [← hc]
theorem ok_l15Less (k k' : Nat) (xs ys : List ByteArray) (ha : xs.length ≤ 140737488351232) (hb : ys.length ≤ 140737488351232) : CallOK Try.prog 124 [.c (rd k xs.length (xs.map ps)), .c (rd k' ys.length (ys.map ps))] (.c (pb (lessP xs ys))) [.c (rd k xs.length (xs.map ps)), .c (rd k' ys.length (ys.map ps))] := by
  refine okS (fn := Try.f124) [] h0 Try.func124 (by kernel_rfl) rfl Try.ntmps124 Try.results124 (by simp) ?_
  simp
  refine loopS [0, 1, 7, 8] [] (fun n st => ∃ (i : Nat), i + n = xs.length ∧ i ≤ ys.length ∧ lessP (xs.drop i) (ys.drop i) = lessP xs ys ∧ st = ⟨slOf 39 [(0, .t (rd k xs.length (xs.map ps))), (1, .t (rd k' ys.length (ys.map ps))), (7, .t (pi xs.length)), (8, .t (pi i))], ofL []⟩) xs.length ?_ ?_
  · rintro Inv hI
    simp
    subst hI
    exact ⟨0, by omega, by omega, rfl, rfl⟩
  · rintro Inv hI n st ⟨i, hi, hiy, hc, rfl⟩
    refine ewr_sound (M := []) h0 ?_
    simp
    refine brn_app (fun h => ?_) (fun h => ?_)
    · simp at h
      rw [drop_step xs i h] at hc
      simp
      refine brn_app (fun h2 => ?_) (fun h2 => ?_)
      · simp at h2
        rw [List.drop_of_length_le (show ys.length ≤ i by omega), lessP] at hc
        simp [← hc]
      · simp at h2
        have hib : i < ys.length := by omega
        rw [drop_step ys i hib, lessP] at hc
        simp
        refine drawP E0 [⟨[], allD 39, true⟩, ⟨[], allD 39, true⟩, ⟨[], allD 39, true⟩, ⟨[], allD 39, true⟩, ⟨[], allD 39, true⟩, ⟨[], allD 39, true⟩, ⟨[], allD 39, true⟩, ⟨[], allD 39, true⟩, ⟨[], allD 39, true⟩] h0 hm (E0_ok _) (by kernel_rfl) (by kernel_rfl) ?_
        simp [h, hib]
        refine brn_app (fun h3 => ?_) (fun h3 => ?_)
        · simp at h3
          rw [if_neg h3] at hc
          simp
          refine drawP E0 [⟨[], allD 39, true⟩, ⟨[], allD 39, true⟩, ⟨[], allD 39, true⟩, ⟨[], allD 39, true⟩, ⟨[], allD 39, true⟩, ⟨[], allD 39, true⟩, ⟨[], allD 39, true⟩, ⟨[], allD 39, true⟩, ⟨[], allD 39, true⟩, ⟨[], allD 39, true⟩] h0 hm (E0_ok _) (by kernel_rfl) (by kernel_rfl) ?_
          simp [h, hib, ← hc, sLt]
        · simp at h3
          rw [if_pos h3] at hc
          simp
          subst hI
          exact Less_mk (n - 1) (by omega) ⟨i + 1, by omega, by omega, hc, by rw [wrNext i (by omega)]⟩
    · simp at h
      rw [List.drop_of_length_le (by omega)] at hc
      simp
      by_cases h2 : i < ys.length
      · rw [drop_step ys i (by omega), lessP] at hc
        have : xs.length < ys.length := by omega
        simp [← hc, this]
      · rw [List.drop_of_length_le (by omega), lessP] at hc
        have : ¬ xs.length < ys.length := by omega
        simp [← hc, this]
theorem ok_l15Begins (k k' : Nat) (xs ys : List ByteArray) (ha : xs.length ≤ 140737488351232) (hb : ys.length ≤ 140737488351232) : CallOK Try.prog 79 [.c (rd k xs.length (xs.map ps)), .c (rd k' ys.length (ys.map ps))] (.c (pb (begP xs ys))) [.c (rd k xs.length (xs.map ps)), .c (rd k' ys.length (ys.map ps))] := by
  refine okS (fn := Try.f79) [] h0 Try.func79 (by kernel_rfl) rfl Try.ntmps79 Try.results79 (by simp) ?_
  simp
  refine loopS [0, 1, 7, 8] [] (fun n st => ∃ (i : Nat), i + n = xs.length ∧ i ≤ ys.length ∧ begP (xs.drop i) (ys.drop i) = begP xs ys ∧ st = ⟨slOf 27 [(0, .t (rd k xs.length (xs.map ps))), (1, .t (rd k' ys.length (ys.map ps))), (7, .t (pi xs.length)), (8, .t (pi i))], ofL []⟩) xs.length ?_ ?_
  · rintro Inv hI
    simp
    subst hI
    exact ⟨0, by omega, by omega, rfl, rfl⟩
  · rintro Inv hI n st ⟨i, hi, hiy, hc, rfl⟩
    refine ewr_sound (M := []) h0 ?_
    simp
    refine brn_app (fun h => ?_) (fun h => ?_)
    · simp at h
      rw [drop_step xs i h] at hc
      simp
      by_cases h2 : i < ys.length
      · rw [drop_step ys i h2, begP] at hc
        have h2' : ¬ (ys.length : Int) ≤ i := by omega
        refine drawP E0 [⟨[], allD 27, true⟩, ⟨[], allD 27, true⟩, ⟨[], allD 27, true⟩, ⟨[], allD 27, true⟩, ⟨[], allD 27, true⟩, ⟨[], allD 27, true⟩, ⟨[], allD 27, true⟩, ⟨[], allD 27, true⟩, ⟨[], allD 27, true⟩, ⟨[], allD 27, true⟩, ⟨[], allD 27, true⟩, ⟨[], allD 27, true⟩, ⟨[], allD 27, true⟩, ⟨[], allD 27, true⟩, ⟨[], allD 27, true⟩] h0 hm (E0_ok _) (by kernel_rfl) (by kernel_rfl) ?_
        simp [h, h2, h2']
        refine brn_app (fun h3 => ?_) (fun h3 => ?_)
        · simp at h3
          simp [h3] at hc
          simp [hc]
        · simp at h3
          simp [h3] at hc
          simp
          subst hI
          exact Less_mk (n - 1) (by omega) ⟨i + 1, by omega, by omega, hc, by rw [wrNext i (by omega)]⟩
      · have h2' : (ys.length : Int) ≤ i := by omega
        rw [List.drop_of_length_le (show ys.length ≤ i by omega), begP] at hc
        refine drawP E0 [⟨[], allD 27, true⟩, ⟨[], allD 27, true⟩, ⟨[], allD 27, true⟩, ⟨[], allD 27, true⟩, ⟨[], allD 27, true⟩, ⟨[], allD 27, true⟩, ⟨[], allD 27, true⟩, ⟨[], allD 27, true⟩, ⟨[], allD 27, true⟩, ⟨[], allD 27, true⟩, ⟨[], allD 27, true⟩, ⟨[], allD 27, true⟩, ⟨[], allD 27, true⟩, ⟨[], allD 27, true⟩, ⟨[], allD 27, true⟩] h0 hm (E0_ok _) (by kernel_rfl) (by kernel_rfl) ?_
        simp [h2', ← hc]
    · simp at h
      rw [List.drop_of_length_le (by omega), begP] at hc
      simp [← hc]
theorem ok_EqualS (k k' : Nat) (xs ys : List ByteArray) (ha : xs.length ≤ 140737488351232) (hb : ys.length ≤ 140737488351232) : CallOK Try.prog 125 [.c (rd k xs.length (xs.map ps)), .c (rd k' ys.length (ys.map ps))] (.c (pb (decide (xs = ys)))) [.c (rd k xs.length (xs.map ps)), .c (rd k' ys.length (ys.map ps))] := by
  refine okS (fn := Try.f125) [] h0 Try.func125 (by kernel_rfl) rfl Try.ntmps125 Try.results125 (by simp) ?_
  simp
  refine brn_app (fun h => ?_) (fun h => ?_)
  · simp at h
    simp
    rintro rfl
    exact h rfl
  · simp at h
    have hl : ys.length = xs.length := by omega
    simp
    refine loopS [0, 1, 12, 13] [] (fun n st => ∃ (i : Nat), i + n = xs.length ∧ (xs.drop i = ys.drop i ↔ xs = ys) ∧ st = ⟨slOf 26 [(0, .t (rd k xs.length (xs.map ps))), (1, .t (rd k' ys.length (ys.map ps))), (12, .t (pi xs.length)), (13, .t (pi i))], ofL []⟩) xs.length ?_ ?_
    · rintro Inv hI
      simp
      subst hI
      exact ⟨0, by omega, by simp, rfl⟩
    · rintro Inv hI n st ⟨i, hi, htk, rfl⟩
      refine ewr_sound (M := []) h0 ?_
      simp
      refine brn_app (fun h => ?_) (fun h => ?_)
      · simp at h
        have hib : i < ys.length := by omega
        rw [drop_step xs i h, drop_step ys i hib, List.cons.injEq] at htk
        simp
        refine drawP E0 [⟨[], allD 26, true⟩, ⟨[], allD 26, true⟩, ⟨[], allD 26, true⟩, ⟨[], allD 26, true⟩, ⟨[], allD 26, true⟩, ⟨[], allD 26, true⟩, ⟨[], allD 26, true⟩, ⟨[], allD 26, true⟩, ⟨[], allD 26, true⟩] h0 hm (E0_ok _) (by kernel_rfl) (by kernel_rfl) ?_
        simp [h, hib]
        refine brn_app (fun h2 => ?_) (fun h2 => ?_)
        · simp at h2
          simp
          intro he
          exact h2 (htk.2 he).1
        · simp at h2
          simp
          subst hI
          exact Less_mk (n - 1) (by omega) ⟨i + 1, by omega, ⟨fun h4 => htk.1 ⟨h2, h4⟩, fun h4 => (htk.2 h4).2⟩, by rw [wrNext i (by omega)]⟩
      · simp at h
        rw [List.drop_of_length_le (by omega), List.drop_of_length_le (by omega)] at htk
        simp
        exact htk.1 rfl
theorem ok_begins (k k' : Nat) (xs ys : List ByteArray) (ha : xs.length ≤ 140737488351232) (hb : ys.length ≤ 140737488351232) : CallOK Try.prog 82 [.c (rd k xs.length (xs.map ps)), .c (rd k' ys.length (ys.map ps))] (.c (pb (begP xs ys))) [.c (rd k xs.length (xs.map ps)), .c (rd k' ys.length (ys.map ps))] := by
  refine okS (fn := Try.f82) [] h0 Try.func82 (by kernel_rfl) rfl Try.ntmps82 Try.results82 (by simp) ?_
  simp
  refine gT (fun a => ?_) (fun a => ?_)
  · have a1 : xs.length ≤ ys.length := by simpa using a
    simp [a, a1]
    have hc := ok_EqualS k k' xs (ys.take xs.length) ha (by simp; omega)
    simp [a1] at hc
    refine Inv_intro hc ?_
    simp [begP_take _ _ a1]
  · have a1 : ys.length < xs.length := by simpa using a
    simp [a, begP_long _ _ a1]
end Go.V
