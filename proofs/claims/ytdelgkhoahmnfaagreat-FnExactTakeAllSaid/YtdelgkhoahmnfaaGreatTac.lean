/- What functions of the seat's program do, each proved of its code, under the bounds that its theorem names. -/
import Derived.Test.YtdelgkhoahmnfaaGreatTab
set_option linter.all false
namespace Go.V
open Go.Proofs
set_option maxHeartbeats 1000000
set_option maxRecDepth 10000
set_option linter.unusedSimpArgs false
set_option linter.unusedVariables false
theorem ok_markIntS (xs : List Int) (k : Int) (hls : lens_IntS xs) (hk : 0 < k) (hk2 : k + cn_IntS xs ≤ 2305843009213693952) : CallOK Tryz.prog 37 [.c (.sl 0 3 xs.length (xs.map pi)), .c (pi k)] (.c (pi (mk_IntS xs k).2)) [.c (.sl 0 3 xs.length ((mk_IntS xs k).1.map pi)), .c (pi k)] := by
  obtain ⟨hl0, hlx⟩ := hls
  unfold mk_IntS
  unfold cn_IntS at hk2
  refine okS (fn := Tryz.f37) [] h0 Tryz.func37 (by kernel_rfl) rfl Tryz.ntmps37 Tryz.results37 (by simp) ?_
  simp
  refine loopS [0, 1, 5] [] (fun n st => ∃ (i : Nat), i + n = xs.length ∧ st = ⟨slOf 19 [(0, .ref ⟨.arg 0 0, []⟩ 0 xs.length), (1, .t (pi (mkR (fun (_ : Int) k => (k, k + 1)) (xs.take i) k).2)), (5, .t (pi i))], ofL [(.arg 0 0, .sl 0 3 xs.length (((mkR (fun (_ : Int) k => (k, k + 1)) (xs.take i) k).1.map pi) ++ ((xs.drop i).map pi)))]⟩) xs.length ?_ ?_
  · rintro Inv hI
    simp
    subst hI
    exact ⟨0, by omega, rfl⟩
  · rintro Inv hI n st ⟨i, hi, rfl⟩
    have hAl : (((mkR (fun (_ : Int) k => (k, k + 1)) (xs.take i) k).1.map pi)).length = i * 1 := by rw [List.length_map, mkR_len, len_take xs i (by omega), Nat.mul_one]
    have hKb := mkR_snd (f := (fun (_ : Int) k => (k, k + 1))) (g := (fun (_ : Int) => 1)) (fun _ _ => rfl) (xs.take i) k
    generalize hA : ((mkR (fun (_ : Int) k => (k, k + 1)) (xs.take i) k).1.map pi) = A at hAl ⊢
    generalize hK : (mkR (fun (_ : Int) k => (k, k + 1)) (xs.take i) k).2 = K at hKb ⊢
    generalize hB : ((xs.drop i).map pi) = B
    refine ewr_sound (M := []) h0 ?_
    simp
    refine brn_app (fun h => ?_) (fun h => ?_)
    · simp at h
      obtain ⟨m, rfl⟩ : ∃ m, n = m + 1 := ⟨n - 1, by omega⟩
      have hcn := cnR_take (fun (_ : Int) => 1) xs i h
      have hBe : B = [pi xs[i]] ++ ((xs.drop (i + 1)).map pi) := by rw [← hB, drop_step xs i h]; rfl
      generalize hC : ((xs.drop (i + 1)).map pi) = D at hBe
      subst hBe
      rw [Nat.mul_one] at hAl
      have hw0 : IntKind.wrap .i64 (K + 1) = K + 1 := wrap64 (by omega) (by omega)
      simp [h, hAl, hw0]
      have e4 := mkR_take (fun (_ : Int) k => (k, k + 1)) xs i h k
      rw [hK] at e4
      have e3 : ((mkR (fun (_ : Int) k => (k, k + 1)) (xs.take (i + 1)) k).1.map pi) = A ++ [pi ((fun (_ : Int) k => (k, k + 1)) xs[i] K).1] := by rw [e4, List.map_append, hA]; rfl
      subst hI
      refine Less_mk m (by omega) ⟨i + 1, by omega, ?_⟩
      rw [wrNext i (by omega), e3, e4, hC, List.append_assoc]
      all_goals rfl
    · simp at h
      have hx : xs.take i = xs := List.take_of_length_le (by omega)
      have hBn : B = [] := by rw [← hB, List.drop_of_length_le (by omega)]; rfl
      subst hBn
      rw [hx] at hA hK
      subst hK
      subst hA
      simp
theorem ok_markOfferS (xs : List GOffer) (k : Int) (hls : lens_OfferS xs) (hk : 0 < k) (hk2 : k + cn_OfferS xs ≤ 2305843009213693952) : CallOK Tryz.prog 17 [.c (.sl 0 81 xs.length (xs.flatMap GOffer.co)), .c (pi k)] (.c (pi (mk_OfferS xs k).2)) [.c (.sl 0 81 xs.length ((mk_OfferS xs k).1.flatMap GOffer.co)), .c (pi k)] := by
  obtain ⟨hl0, hlx⟩ := hls
  unfold mk_OfferS
  unfold cn_OfferS at hk2
  refine okS (fn := Tryz.f17) [(37, [1,0])] h0 Tryz.func17 (by kernel_rfl) rfl Tryz.ntmps17 Tryz.results17 (by simp) ?_
  simp
  refine loopS [0, 1, 5] [] (fun n st => ∃ (i : Nat), i + n = xs.length ∧ st = ⟨slOf 68 [(0, .ref ⟨.arg 0 0, []⟩ 0 xs.length), (1, .t (pi (mkR GOffer.mark (xs.take i) k).2)), (5, .t (pi i))], ofL [(.arg 0 0, .sl 0 81 xs.length (((mkR GOffer.mark (xs.take i) k).1.flatMap GOffer.co) ++ ((xs.drop i).flatMap GOffer.co)))]⟩) xs.length ?_ ?_
  · rintro Inv hI
    simp
    subst hI
    exact ⟨0, by omega, rfl⟩
  · rintro Inv hI n st ⟨i, hi, rfl⟩
    have hAl : (((mkR GOffer.mark (xs.take i) k).1.flatMap GOffer.co)).length = i * 7 := by rw [fm_len GOffer.co 7 (fun _ => rfl), mkR_len, len_take xs i (by omega)]
    have hKb := mkR_snd (f := GOffer.mark) (g := GOffer.cn) (GOffer.mark_snd) (xs.take i) k
    generalize hA : ((mkR GOffer.mark (xs.take i) k).1.flatMap GOffer.co) = A at hAl ⊢
    generalize hK : (mkR GOffer.mark (xs.take i) k).2 = K at hKb ⊢
    generalize hB : ((xs.drop i).flatMap GOffer.co) = B
    refine ewr_sound (M := [(37, [1, 0])]) h0 ?_
    simp
    refine brn_app (fun h => ?_) (fun h => ?_)
    · simp at h
      obtain ⟨m, rfl⟩ : ∃ m, n = m + 1 := ⟨n - 1, by omega⟩
      have hcn := cnR_take GOffer.cn xs i h
      have hBe : B = [pi xs[i].Peer, pi xs[i].Attrs.Origin, .sl 0 3 xs[i].Attrs.Path.length (xs[i].Attrs.Path.map pi), pi xs[i].Attrs.Next, pi xs[i].Attrs.Med, pi xs[i].Attrs.Pref, .sl 0 3 xs[i].Attrs.Comms.length (xs[i].Attrs.Comms.map pi)] ++ ((xs.drop (i + 1)).flatMap GOffer.co) := by rw [← hB, drop_step xs i h]; rfl
      generalize hC : ((xs.drop (i + 1)).flatMap GOffer.co) = D at hBe
      subst hBe
      have hxl := hlx _ (List.getElem_mem h)
      simp only [GOffer.cn] at hcn
      have hw0 : IntKind.wrap .i64 (K + 1) = K + 1 := wrap64 (by omega) (by omega)
      have hw1 : IntKind.wrap .i64 ((K + 1) + 1) = (K + 1) + 1 := wrap64 (by omega) (by omega)
      have hs2 := mk_IntS_snd xs[i].Attrs.Path ((K + 1) + 1)
      have hw3 : IntKind.wrap .i64 ((mk_IntS xs[i].Attrs.Path ((K + 1) + 1)).2 + 1) = (mk_IntS xs[i].Attrs.Path ((K + 1) + 1)).2 + 1 := wrap64 (by omega) (by omega)
      have hw4 : IntKind.wrap .i64 (((mk_IntS xs[i].Attrs.Path ((K + 1) + 1)).2 + 1) + 1) = ((mk_IntS xs[i].Attrs.Path ((K + 1) + 1)).2 + 1) + 1 := wrap64 (by omega) (by omega)
      have hw5 : IntKind.wrap .i64 ((((mk_IntS xs[i].Attrs.Path ((K + 1) + 1)).2 + 1) + 1) + 1) = (((mk_IntS xs[i].Attrs.Path ((K + 1) + 1)).2 + 1) + 1) + 1 := wrap64 (by omega) (by omega)
      have hs6 := mk_IntS_snd xs[i].Attrs.Comms ((((mk_IntS xs[i].Attrs.Path ((K + 1) + 1)).2 + 1) + 1) + 1)
      have hq0 : i * 7 + 1 + 1 = i * 7 + 2 := by omega
      have hq1 : i * 7 + 1 + 2 = i * 7 + 3 := by omega
      have hq2 : i * 7 + 1 + 3 = i * 7 + 4 := by omega
      have hq3 : i * 7 + 1 + 4 = i * 7 + 5 := by omega
      have hq4 : i * 7 + 1 + 5 = i * 7 + 6 := by omega
      simp [h, hAl, hw0, hw1, hw3, hw4, hw5, hq0, hq1, hq2, hq3, hq4]
      refine Inv_intro (ok_markIntS xs[i].Attrs.Path (((K + 1) + 1)) hxl.1 (by omega) (by omega)) ?_
      simp [h, hAl, hw0, hw1, hw3, hw4, hw5, hq0, hq1, hq2, hq3, hq4]
      refine Inv_intro (ok_markIntS xs[i].Attrs.Comms (((((mk_IntS xs[i].Attrs.Path ((K + 1) + 1)).2 + 1) + 1) + 1)) hxl.2 (by omega) (by omega)) ?_
      simp [h, hAl, hw0, hw1, hw3, hw4, hw5, hq0, hq1, hq2, hq3, hq4]
      have e4 := mkR_take GOffer.mark xs i h k
      rw [hK] at e4
      have e3 : ((mkR GOffer.mark (xs.take (i + 1)) k).1.flatMap GOffer.co) = A ++ GOffer.co (GOffer.mark xs[i] K).1 := by rw [e4, List.flatMap_append, hA, List.flatMap_cons, List.flatMap_nil, List.append_nil]
      subst hI
      refine Less_mk m (by omega) ⟨i + 1, by omega, ?_⟩
      rw [wrNext i (by omega), e3, e4, hC, List.append_assoc]
      all_goals first | rfl | simp [GOffer.mark] | simp
    · simp at h
      have hx : xs.take i = xs := List.take_of_length_le (by omega)
      have hBn : B = [] := by rw [← hB, List.drop_of_length_le (by omega)]; rfl
      subst hBn
      rw [hx] at hA hK
      subst hK
      subst hA
      simp
theorem ok_markRowS (xs : List GRow) (k : Int) (hls : lens_RowS xs) (hk : 0 < k) (hk2 : k + cn_RowS xs ≤ 2305843009213693952) : CallOK Tryz.prog 71 [.c (.sl 0 79 xs.length (xs.flatMap GRow.co)), .c (pi k)] (.c (pi (mk_RowS xs k).2)) [.c (.sl 0 79 xs.length ((mk_RowS xs k).1.flatMap GRow.co)), .c (pi k)] := by
  obtain ⟨hl0, hlx⟩ := hls
  unfold mk_RowS
  unfold cn_RowS at hk2
  refine okS (fn := Tryz.f71) [(17, [1,0])] h0 Tryz.func71 (by kernel_rfl) rfl Tryz.ntmps71 Tryz.results71 (by simp) ?_
  simp
  refine loopS [0, 1, 5] [] (fun n st => ∃ (i : Nat), i + n = xs.length ∧ st = ⟨slOf 36 [(0, .ref ⟨.arg 0 0, []⟩ 0 xs.length), (1, .t (pi (mkR GRow.mark (xs.take i) k).2)), (5, .t (pi i))], ofL [(.arg 0 0, .sl 0 79 xs.length (((mkR GRow.mark (xs.take i) k).1.flatMap GRow.co) ++ ((xs.drop i).flatMap GRow.co)))]⟩) xs.length ?_ ?_
  · rintro Inv hI
    simp
    subst hI
    exact ⟨0, by omega, rfl⟩
  · rintro Inv hI n st ⟨i, hi, rfl⟩
    have hAl : (((mkR GRow.mark (xs.take i) k).1.flatMap GRow.co)).length = i * 3 := by rw [fm_len GRow.co 3 (fun _ => rfl), mkR_len, len_take xs i (by omega)]
    have hKb := mkR_snd (f := GRow.mark) (g := GRow.cn) (GRow.mark_snd) (xs.take i) k
    generalize hA : ((mkR GRow.mark (xs.take i) k).1.flatMap GRow.co) = A at hAl ⊢
    generalize hK : (mkR GRow.mark (xs.take i) k).2 = K at hKb ⊢
    generalize hB : ((xs.drop i).flatMap GRow.co) = B
    refine ewr_sound (M := [(17, [1, 0])]) h0 ?_
    simp
    refine brn_app (fun h => ?_) (fun h => ?_)
    · simp at h
      obtain ⟨m, rfl⟩ : ∃ m, n = m + 1 := ⟨n - 1, by omega⟩
      have hcn := cnR_take GRow.cn xs i h
      have hBe : B = [pi xs[i].Prefix.Addr, pi xs[i].Prefix.Len, .sl 0 81 xs[i].Offers.length (xs[i].Offers.flatMap GOffer.co)] ++ ((xs.drop (i + 1)).flatMap GRow.co) := by rw [← hB, drop_step xs i h]; rfl
      generalize hC : ((xs.drop (i + 1)).flatMap GRow.co) = D at hBe
      subst hBe
      have hxl := hlx _ (List.getElem_mem h)
      simp only [GRow.cn] at hcn
      have hw0 : IntKind.wrap .i64 (K + 1) = K + 1 := wrap64 (by omega) (by omega)
      have hw1 : IntKind.wrap .i64 ((K + 1) + 1) = (K + 1) + 1 := wrap64 (by omega) (by omega)
      have hs2 := mk_OfferS_snd xs[i].Offers ((K + 1) + 1)
      simp [h, hAl, hw0, hw1]
      refine Inv_intro (ok_markOfferS xs[i].Offers (((K + 1) + 1)) hxl (by omega) (by omega)) ?_
      simp [h, hAl, hw0, hw1]
      have e4 := mkR_take GRow.mark xs i h k
      rw [hK] at e4
      have e3 : ((mkR GRow.mark (xs.take (i + 1)) k).1.flatMap GRow.co) = A ++ GRow.co (GRow.mark xs[i] K).1 := by rw [e4, List.flatMap_append, hA, List.flatMap_cons, List.flatMap_nil, List.append_nil]
      subst hI
      refine Less_mk m (by omega) ⟨i + 1, by omega, ?_⟩
      rw [wrNext i (by omega), e3, e4, hC, List.append_assoc]
      all_goals first | rfl | simp [GRow.mark] | simp
    · simp at h
      have hx : xs.take i = xs := List.take_of_length_le (by omega)
      have hBn : B = [] := by rw [← hB, List.drop_of_length_le (by omega)]; rfl
      subst hBn
      rw [hx] at hA hK
      subst hK
      subst hA
      simp
theorem ok_markRib (x : GRib) (k : Int) (hls : GRib.lens x) (hk : 0 < k) (hk2 : k + GRib.cnT x ≤ 2305843009213693952) : CallOK Tryz.prog 16 [.agg (GRib.co x), .c (pi k)] (.c (pi (GRib.markT x k).2)) [.agg (GRib.co (GRib.markT x k).1), .c (pi k)] := by
  unfold GRib.cnT at hk2
  unfold GRib.markT
  have hs0 := mk_RowS_snd x.Rows k
  refine okA h0 Tryz.func16 (by kernel_rfl) rfl Tryz.ntmps16 Tryz.results16 (by simp) ?_
  intro A hA
  obtain ⟨v1, hv1⟩ := hA 0 1 rfl
  refine ewpA_ghost 0 (.agg [.t (pi x.Own), .t (.raw v1)]) (.inr ⟨_, _, rfl, rfl, (GhL.cons Gh.rfl' (GhL.cons (Gh.raw hv1 (by rfl)) GhL.nil))⟩) ?_
  refine ewpA_seq (ewpA_of (ewr_sound (M := [(71, [1, 0])]) h0 ?_))
  simp
  refine ewpA_seq (ewpA_region (runA_split (M := [(71, [1, 0])]) (r := 0) 2 h0 (hl_of rfl) ?_))
  simp
  refine runA_ghost 6 (.ref ⟨.arg 0 1, []⟩ 0 x.Rows.length) (.inl (Gh.ref hv1 (by rfl))) ?_
  refine runA_of (M := [(71, [1, 0])]) (r := 0) h0 (hl_of rfl) ?_
  simp
  refine Inv_intro (ok_markRowS x.Rows (k) (hls) (by omega) (by omega)) ?_
  simp
  refine ewpA_of (ewr_sound (M := [(71, [1, 0])]) h0 ?_)
  simp
theorem ok_markPrefixS (xs : List GPrefix) (k : Int) (hls : lens_PrefixS xs) (hk : 0 < k) (hk2 : k + cn_PrefixS xs ≤ 2305843009213693952) : CallOK Tryz.prog 18 [.c (.sl 0 77 xs.length (xs.flatMap GPrefix.c)), .c (pi k)] (.c (pi (mk_PrefixS xs k).2)) [.c (.sl 0 77 xs.length ((mk_PrefixS xs k).1.flatMap GPrefix.c)), .c (pi k)] := by
  obtain ⟨hl0, hlx⟩ := hls
  unfold mk_PrefixS
  unfold cn_PrefixS at hk2
  refine okS (fn := Tryz.f18) [] h0 Tryz.func18 (by kernel_rfl) rfl Tryz.ntmps18 Tryz.results18 (by simp) ?_
  simp
  refine loopS [0, 1, 5] [] (fun n st => ∃ (i : Nat), i + n = xs.length ∧ st = ⟨slOf 27 [(0, .ref ⟨.arg 0 0, []⟩ 0 xs.length), (1, .t (pi (mkR GPrefix.mark (xs.take i) k).2)), (5, .t (pi i))], ofL [(.arg 0 0, .sl 0 77 xs.length (((mkR GPrefix.mark (xs.take i) k).1.flatMap GPrefix.c) ++ ((xs.drop i).flatMap GPrefix.c)))]⟩) xs.length ?_ ?_
  · rintro Inv hI
    simp
    subst hI
    exact ⟨0, by omega, rfl⟩
  · rintro Inv hI n st ⟨i, hi, rfl⟩
    have hAl : (((mkR GPrefix.mark (xs.take i) k).1.flatMap GPrefix.c)).length = i * 2 := by rw [fm_len GPrefix.c 2 (fun _ => rfl), mkR_len, len_take xs i (by omega)]
    have hKb := mkR_snd (f := GPrefix.mark) (g := GPrefix.cn) (GPrefix.mark_snd) (xs.take i) k
    generalize hA : ((mkR GPrefix.mark (xs.take i) k).1.flatMap GPrefix.c) = A at hAl ⊢
    generalize hK : (mkR GPrefix.mark (xs.take i) k).2 = K at hKb ⊢
    generalize hB : ((xs.drop i).flatMap GPrefix.c) = B
    refine ewr_sound (M := []) h0 ?_
    simp
    refine brn_app (fun h => ?_) (fun h => ?_)
    · simp at h
      obtain ⟨m, rfl⟩ : ∃ m, n = m + 1 := ⟨n - 1, by omega⟩
      have hcn := cnR_take GPrefix.cn xs i h
      have hBe : B = [pi xs[i].Addr, pi xs[i].Len] ++ ((xs.drop (i + 1)).flatMap GPrefix.c) := by rw [← hB, drop_step xs i h]; rfl
      generalize hC : ((xs.drop (i + 1)).flatMap GPrefix.c) = D at hBe
      subst hBe
      simp only [GPrefix.cn] at hcn
      have hw0 : IntKind.wrap .i64 (K + 1) = K + 1 := wrap64 (by omega) (by omega)
      have hw1 : IntKind.wrap .i64 ((K + 1) + 1) = (K + 1) + 1 := wrap64 (by omega) (by omega)
      simp [h, hAl, hw0, hw1]
      have e4 := mkR_take GPrefix.mark xs i h k
      rw [hK] at e4
      have e3 : ((mkR GPrefix.mark (xs.take (i + 1)) k).1.flatMap GPrefix.c) = A ++ GPrefix.c (GPrefix.mark xs[i] K).1 := by rw [e4, List.flatMap_append, hA, List.flatMap_cons, List.flatMap_nil, List.append_nil]
      subst hI
      refine Less_mk m (by omega) ⟨i + 1, by omega, ?_⟩
      rw [wrNext i (by omega), e3, e4, hC, List.append_assoc]
      all_goals first | rfl | simp [GPrefix.mark] | simp
    · simp at h
      have hx : xs.take i = xs := List.take_of_length_le (by omega)
      have hBn : B = [] := by rw [← hB, List.drop_of_length_le (by omega)]; rfl
      subst hBn
      rw [hx] at hA hK
      subst hK
      subst hA
      simp
theorem ok_markUpdateS (xs : List GUpdate) (k : Int) (hls : lens_UpdateS xs) (hk : 0 < k) (hk2 : k + cn_UpdateS xs ≤ 2305843009213693952) : CallOK Tryz.prog 38 [.c (.sl 0 54 xs.length (xs.flatMap GUpdate.co)), .c (pi k)] (.c (pi (mk_UpdateS xs k).2)) [.c (.sl 0 54 xs.length ((mk_UpdateS xs k).1.flatMap GUpdate.co)), .c (pi k)] := by
  obtain ⟨hl0, hlx⟩ := hls
  unfold mk_UpdateS
  unfold cn_UpdateS at hk2
  refine okS (fn := Tryz.f38) [(37, [1,0]), (18, [1,0])] h0 Tryz.func38 (by kernel_rfl) rfl Tryz.ntmps38 Tryz.results38 (by simp) ?_
  simp
  refine loopS [0, 1, 5] [] (fun n st => ∃ (i : Nat), i + n = xs.length ∧ st = ⟨slOf 75 [(0, .ref ⟨.arg 0 0, []⟩ 0 xs.length), (1, .t (pi (mkR GUpdate.mark (xs.take i) k).2)), (5, .t (pi i))], ofL [(.arg 0 0, .sl 0 54 xs.length (((mkR GUpdate.mark (xs.take i) k).1.flatMap GUpdate.co) ++ ((xs.drop i).flatMap GUpdate.co)))]⟩) xs.length ?_ ?_
  · rintro Inv hI
    simp
    subst hI
    exact ⟨0, by omega, rfl⟩
  · rintro Inv hI n st ⟨i, hi, rfl⟩
    have hAl : (((mkR GUpdate.mark (xs.take i) k).1.flatMap GUpdate.co)).length = i * 8 := by rw [fm_len GUpdate.co 8 (fun _ => rfl), mkR_len, len_take xs i (by omega)]
    have hKb := mkR_snd (f := GUpdate.mark) (g := GUpdate.cn) (GUpdate.mark_snd) (xs.take i) k
    generalize hA : ((mkR GUpdate.mark (xs.take i) k).1.flatMap GUpdate.co) = A at hAl ⊢
    generalize hK : (mkR GUpdate.mark (xs.take i) k).2 = K at hKb ⊢
    generalize hB : ((xs.drop i).flatMap GUpdate.co) = B
    refine ewr_sound (M := [(37, [1, 0]), (18, [1, 0])]) h0 ?_
    simp
    refine brn_app (fun h => ?_) (fun h => ?_)
    · simp at h
      obtain ⟨m, rfl⟩ : ∃ m, n = m + 1 := ⟨n - 1, by omega⟩
      have hcn := cnR_take GUpdate.cn xs i h
      have hBe : B = [.sl 0 77 xs[i].Gone.length (xs[i].Gone.flatMap GPrefix.c), pi xs[i].Attrs.Origin, .sl 0 3 xs[i].Attrs.Path.length (xs[i].Attrs.Path.map pi), pi xs[i].Attrs.Next, pi xs[i].Attrs.Med, pi xs[i].Attrs.Pref, .sl 0 3 xs[i].Attrs.Comms.length (xs[i].Attrs.Comms.map pi), .sl 0 77 xs[i].Come.length (xs[i].Come.flatMap GPrefix.c)] ++ ((xs.drop (i + 1)).flatMap GUpdate.co) := by rw [← hB, drop_step xs i h]; rfl
      generalize hC : ((xs.drop (i + 1)).flatMap GUpdate.co) = D at hBe
      subst hBe
      have hxl := hlx _ (List.getElem_mem h)
      simp only [GUpdate.cn] at hcn
      have hs0 := mk_PrefixS_snd xs[i].Gone K
      have hw1 : IntKind.wrap .i64 ((mk_PrefixS xs[i].Gone K).2 + 1) = (mk_PrefixS xs[i].Gone K).2 + 1 := wrap64 (by omega) (by omega)
      have hs2 := mk_IntS_snd xs[i].Attrs.Path ((mk_PrefixS xs[i].Gone K).2 + 1)
      have hw3 : IntKind.wrap .i64 ((mk_IntS xs[i].Attrs.Path ((mk_PrefixS xs[i].Gone K).2 + 1)).2 + 1) = (mk_IntS xs[i].Attrs.Path ((mk_PrefixS xs[i].Gone K).2 + 1)).2 + 1 := wrap64 (by omega) (by omega)
      have hw4 : IntKind.wrap .i64 (((mk_IntS xs[i].Attrs.Path ((mk_PrefixS xs[i].Gone K).2 + 1)).2 + 1) + 1) = ((mk_IntS xs[i].Attrs.Path ((mk_PrefixS xs[i].Gone K).2 + 1)).2 + 1) + 1 := wrap64 (by omega) (by omega)
      have hw5 : IntKind.wrap .i64 ((((mk_IntS xs[i].Attrs.Path ((mk_PrefixS xs[i].Gone K).2 + 1)).2 + 1) + 1) + 1) = (((mk_IntS xs[i].Attrs.Path ((mk_PrefixS xs[i].Gone K).2 + 1)).2 + 1) + 1) + 1 := wrap64 (by omega) (by omega)
      have hs6 := mk_IntS_snd xs[i].Attrs.Comms ((((mk_IntS xs[i].Attrs.Path ((mk_PrefixS xs[i].Gone K).2 + 1)).2 + 1) + 1) + 1)
      have hs7 := mk_PrefixS_snd xs[i].Come (mk_IntS xs[i].Attrs.Comms ((((mk_IntS xs[i].Attrs.Path ((mk_PrefixS xs[i].Gone K).2 + 1)).2 + 1) + 1) + 1)).2
      have hq0 : i * 8 + 1 + 1 = i * 8 + 2 := by omega
      have hq1 : i * 8 + 1 + 2 = i * 8 + 3 := by omega
      have hq2 : i * 8 + 1 + 3 = i * 8 + 4 := by omega
      have hq3 : i * 8 + 1 + 4 = i * 8 + 5 := by omega
      have hq4 : i * 8 + 1 + 5 = i * 8 + 6 := by omega
      simp [h, hAl, hw1, hw3, hw4, hw5, hq0, hq1, hq2, hq3, hq4]
      refine Inv_intro (ok_markPrefixS xs[i].Gone (K) hxl.1 (by omega) (by omega)) ?_
      simp [h, hAl, hw1, hw3, hw4, hw5, hq0, hq1, hq2, hq3, hq4]
      refine Inv_intro (ok_markIntS xs[i].Attrs.Path (((mk_PrefixS xs[i].Gone K).2 + 1)) hxl.2.1.1 (by omega) (by omega)) ?_
      simp [h, hAl, hw1, hw3, hw4, hw5, hq0, hq1, hq2, hq3, hq4]
      refine Inv_intro (ok_markIntS xs[i].Attrs.Comms (((((mk_IntS xs[i].Attrs.Path ((mk_PrefixS xs[i].Gone K).2 + 1)).2 + 1) + 1) + 1)) hxl.2.1.2 (by omega) (by omega)) ?_
      simp [h, hAl, hw1, hw3, hw4, hw5, hq0, hq1, hq2, hq3, hq4]
      refine Inv_intro (ok_markPrefixS xs[i].Come ((mk_IntS xs[i].Attrs.Comms ((((mk_IntS xs[i].Attrs.Path ((mk_PrefixS xs[i].Gone K).2 + 1)).2 + 1) + 1) + 1)).2) hxl.2.2 (by omega) (by omega)) ?_
      simp [h, hAl, hw1, hw3, hw4, hw5, hq0, hq1, hq2, hq3, hq4]
      have e4 := mkR_take GUpdate.mark xs i h k
      rw [hK] at e4
      have e3 : ((mkR GUpdate.mark (xs.take (i + 1)) k).1.flatMap GUpdate.co) = A ++ GUpdate.co (GUpdate.mark xs[i] K).1 := by rw [e4, List.flatMap_append, hA, List.flatMap_cons, List.flatMap_nil, List.append_nil]
      subst hI
      refine Less_mk m (by omega) ⟨i + 1, by omega, ?_⟩
      rw [wrNext i (by omega), e3, e4, hC, List.append_assoc]
      all_goals first | rfl | simp [GUpdate.mark] | simp
    · simp at h
      have hx : xs.take i = xs := List.take_of_length_le (by omega)
      have hBn : B = [] := by rw [← hB, List.drop_of_length_le (by omega)]; rfl
      subst hBn
      rw [hx] at hA hK
      subst hK
      subst hA
      simp
theorem ok_szIntS (k : Nat) (xs : List Int) (left : Int) (h1 : 0 ≤ left) (h2 : left ≤ 1048576) (hf : fits_IntS xs) : CallOK Tryz.prog 133 [.c (rd k xs.length (xs.map pi)), .c (pi left)] (.c (pi (szr left (wt_IntS xs)))) [.c (rd k xs.length (xs.map pi)), .c (pi left)] := by
  obtain ⟨hl, hx⟩ := hf
  refine okS (fn := Tryz.f133) [] h0 Tryz.func133 (by kernel_rfl) rfl Tryz.ntmps133 Tryz.results133 (by simp) ?_
  have hw : IntKind.wrap .i64 (left - xs.length) = left - xs.length := wrap64 (by omega) (by omega)
  have hwl := len_wt_IntS xs
  simp [hw]
  refine brn_app (fun h => ?_) (fun h => ?_)
  · simp at h
    have e1 : szr left (wt_IntS xs) = -1 := szr_neg (by omega)
    simp [e1]
  · simp at h
    have e1 : szr left (wt_IntS xs) = left - xs.length := by unfold wt_IntS; exact szr_ge (by omega)
    simp [e1]
theorem ok_szAttrs (k : Nat) (x : GAttrs) (left : Int) (h1 : 0 ≤ left) (h2 : left ≤ 1048576) (hf : GAttrs.fits x) : CallOK Tryz.prog 83 [.agg (GAttrs.ci k x), .c (pi left)] (.c (pi (szr left (GAttrs.wt x)))) [.agg (GAttrs.ci k x), .c (pi left)] := by
  simp only [GAttrs.fits] at hf
  obtain ⟨hf0, hf1⟩ := hf
  refine okS (fn := Tryz.f83) [] h0 Tryz.func83 (by kernel_rfl) rfl Tryz.ntmps83 Tryz.results83 (by simp) ?_
  simp
  refine Inv_intro (ok_szIntS k x.Path (left) (by omega) (by omega) hf0) ?_
  simp
  refine brn_app (fun a0 => ?_) (fun a0 => ?_)
  · simp at a0
    have b0 := szr_lt0 a0 (by omega)
    have e : szr left (GAttrs.wt x) = -1 := szr_neg (by unfold GAttrs.wt; omega)
    simp [e]
  · simp at a0
    have b0 := szr_ge0 a0
    have e0 := szr_ge b0
    simp only [e0]
    simp
    refine Inv_intro (ok_szIntS k x.Comms (left - (wt_IntS x.Path : Nat)) (by omega) (by omega) hf1) ?_
    simp
    refine brn_app (fun a1 => ?_) (fun a1 => ?_)
    · simp at a1
      have b1 := szr_lt0 a1 (by omega)
      have e : szr left (GAttrs.wt x) = -1 := szr_neg (by unfold GAttrs.wt; omega)
      simp [e]
    · simp at a1
      have b1 := szr_ge0 a1
      have e1 := szr_ge b1
      simp only [e1]
      have e : szr left (GAttrs.wt x) = left - (wt_IntS x.Path : Nat) - (wt_IntS x.Comms : Nat) := by
        rw [szr_ge (by unfold GAttrs.wt; omega)]
        unfold GAttrs.wt
        omega
      simp [e]
theorem ok_szPrefixS (k : Nat) (xs : List GPrefix) (left : Int) (h1 : 0 ≤ left) (h2 : left ≤ 1048576) (hf : fits_PrefixS xs) : CallOK Tryz.prog 82 [.c (rd k xs.length (xs.flatMap GPrefix.c)), .c (pi left)] (.c (pi (szr left (wt_PrefixS xs)))) [.c (rd k xs.length (xs.flatMap GPrefix.c)), .c (pi left)] := by
  obtain ⟨hl, hx⟩ := hf
  refine okS (fn := Tryz.f82) [] h0 Tryz.func82 (by kernel_rfl) rfl Tryz.ntmps82 Tryz.results82 (by simp) ?_
  have hw : IntKind.wrap .i64 (left - xs.length) = left - xs.length := wrap64 (by omega) (by omega)
  have hwl := len_wt_PrefixS xs
  simp [hw]
  refine brn_app (fun h => ?_) (fun h => ?_)
  · simp at h
    have e1 : szr left (wt_PrefixS xs) = -1 := szr_neg (by omega)
    simp [e1]
  · simp at h
    have e1 : szr left (wt_PrefixS xs) = left - xs.length := by unfold wt_PrefixS; exact szr_ge (by omega)
    simp [e1]
theorem ok_szUpdate (k : Nat) (x : GUpdate) (left : Int) (h1 : 0 ≤ left) (h2 : left ≤ 1048576) (hf : GUpdate.fits x) : CallOK Tryz.prog 24 [.agg (GUpdate.ci k x), .c (pi left)] (.c (pi (szr left (GUpdate.wt x)))) [.agg (GUpdate.ci k x), .c (pi left)] := by
  simp only [GUpdate.fits] at hf
  obtain ⟨hf0, hf1, hf2⟩ := hf
  refine okS (fn := Tryz.f24) [] h0 Tryz.func24 (by kernel_rfl) rfl Tryz.ntmps24 Tryz.results24 (by simp) ?_
  simp
  refine Inv_intro (ok_szPrefixS k x.Gone (left) (by omega) (by omega) hf0) ?_
  simp
  refine brn_app (fun a0 => ?_) (fun a0 => ?_)
  · simp at a0
    have b0 := szr_lt0 a0 (by omega)
    have e : szr left (GUpdate.wt x) = -1 := szr_neg (by unfold GUpdate.wt; omega)
    simp [e]
  · simp at a0
    have b0 := szr_ge0 a0
    have e0 := szr_ge b0
    simp only [e0]
    simp
    refine Inv_intro (ok_szAttrs k x.Attrs (left - (wt_PrefixS x.Gone : Nat)) (by omega) (by omega) hf1) ?_
    simp
    refine brn_app (fun a1 => ?_) (fun a1 => ?_)
    · simp at a1
      have b1 := szr_lt0 a1 (by omega)
      have e : szr left (GUpdate.wt x) = -1 := szr_neg (by unfold GUpdate.wt; omega)
      simp [e]
    · simp at a1
      have b1 := szr_ge0 a1
      have e1 := szr_ge b1
      simp only [e1]
      simp
      refine Inv_intro (ok_szPrefixS k x.Come (left - (wt_PrefixS x.Gone : Nat) - (GAttrs.wt x.Attrs : Nat)) (by omega) (by omega) hf2) ?_
      simp
      refine brn_app (fun a2 => ?_) (fun a2 => ?_)
      · simp at a2
        have b2 := szr_lt0 a2 (by omega)
        have e : szr left (GUpdate.wt x) = -1 := szr_neg (by unfold GUpdate.wt; omega)
        simp [e]
      · simp at a2
        have b2 := szr_ge0 a2
        have e2 := szr_ge b2
        simp only [e2]
        have e : szr left (GUpdate.wt x) = left - (wt_PrefixS x.Gone : Nat) - (GAttrs.wt x.Attrs : Nat) - (wt_PrefixS x.Come : Nat) := by
          rw [szr_ge (by unfold GUpdate.wt; omega)]
          unfold GUpdate.wt
          omega
        simp [e]
theorem ok_szUpdateS (k : Nat) (xs : List GUpdate) (left : Int) (h1 : 0 ≤ left) (h2 : left ≤ 1048576) (hf : fits_UpdateS xs) : CallOK Tryz.prog 30 [.c (rd k xs.length (xs.flatMap (GUpdate.ci k))), .c (pi left)] (.c (pi (szr left (wt_UpdateS xs)))) [.c (rd k xs.length (xs.flatMap (GUpdate.ci k))), .c (pi left)] := by
  obtain ⟨hl, hx⟩ := hf
  refine okS (fn := Tryz.f30) [] h0 Tryz.func30 (by kernel_rfl) rfl Tryz.ntmps30 Tryz.results30 (by simp) ?_
  have hw : IntKind.wrap .i64 (left - xs.length) = left - xs.length := wrap64 (by omega) (by omega)
  have hwl := len_wt_UpdateS xs
  simp [hw]
  refine brn_app (fun h => ?_) (fun h => ?_)
  · simp at h
    have e1 : szr left (wt_UpdateS xs) = -1 := szr_neg (by omega)
    simp [e1]
  · simp at h
    simp
    refine loopS [0, 1, 5] [] (fun n st => ∃ (i : Nat) (m : Int), i + n = xs.length ∧ 0 ≤ m ∧ m ≤ 1048576 ∧ szr m (((xs.drop i).map GUpdate.wt).sum) = szr left (wt_UpdateS xs) ∧ st = ⟨slOf 27 [(0, .t (rd k xs.length (xs.flatMap (GUpdate.ci k)))), (1, .t (pi m)), (5, .t (pi i))], ofL []⟩) xs.length ?_ ?_
    · rintro Inv hI
      simp
      subst hI
      exact ⟨0, left - xs.length, by omega, by omega, by omega, by rw [List.drop_zero, wt_UpdateS, wtR, szr_add (by omega)], rfl⟩
    · rintro Inv hI n st ⟨i, m, hi, hm1, hm2, hg, rfl⟩
      refine ewr_sound (M := []) h0 ?_
      simp
      refine brn_app (fun h3 => ?_) (fun h3 => ?_)
      · simp at h3
        have hxi := hx xs[i] (List.getElem_mem h3)
        rw [drop_step xs i h3, List.map_cons, List.sum_cons] at hg
        have hd := fm_drop (GUpdate.ci k) 8 (fun _ => rfl) xs i h3
        have hlen := fm_len (GUpdate.ci k) 8 (fun _ => rfl) xs
        have hlt : i * 8 < xs.length * 8 := by omega
        simp [h3, hd, hlen, hlt]
        refine Inv_intro (ok_szUpdate k xs[i] m hm1 hm2 hxi) ?_
        simp
        refine brn_app (fun h4 => ?_) (fun h4 => ?_)
        · simp at h4
          have h5 := szr_lt0 h4 hm1
          rw [szr_add_neg h5] at hg
          simp [← hg]
        · simp at h4
          have h5 := szr_ge0 h4
          have e5 := szr_ge h5
          rw [szr_add h5, ← e5] at hg
          simp
          subst hI
          exact Less_mk (n - 1) (by omega) ⟨i + 1, szr m (GUpdate.wt xs[i]), by omega, by omega, by omega, hg, by rw [wrNext i (by omega)]⟩
      · simp at h3
        rw [List.drop_of_length_le (by omega), List.map_nil, List.sum_nil, szr_zero hm1] at hg
        simp [hg]
theorem ok_toIntS (k : Nat) (xs : List Int) (hwt : wt_IntS xs ≤ 1048576) : CallOK Tryz.prog 32 [.c (rd k xs.length (xs.map pi))] (.c (.sl 0 3 xs.length (xs.map pi))) [.c (rd k xs.length (xs.map pi))] := by
  have hl := len_wt_IntS xs
  refine okS (fn := Tryz.f32) [] h0 Tryz.func32 (by kernel_rfl) rfl Tryz.ntmps32 Tryz.results32 (by simp) ?_
  have hb1 : (xs.length : Int) ≤ 281474976710656 := by omega
  have hb2 : 8 * (xs.length : Int) ≤ 281474976710656 := by omega
  simp [hb1, hb2]
  refine loopS [0, 3, 4] [.op 1 2 0] (fun n st => ∃ (i : Nat), i + n = xs.length ∧ st = ⟨slOf 22 [(0, .t (rd k xs.length (xs.map pi))), (3, .ref ⟨.op 1 2 0, []⟩ 0 xs.length), (4, .t (pi i))], ofL [(.op 1 2 0, .sl 0 3 xs.length (((xs.take i).map pi) ++ List.replicate n (.raw (.int .i64 0))))]⟩) xs.length ?_ ?_
  · rintro Inv hI
    simp
    subst hI
    exact ⟨0, by omega, by simp⟩
  · rintro Inv hI n st ⟨i, hi, rfl⟩
    have hA := map_take_len pi xs i (by omega)
    generalize hAe : ((xs.take i).map pi) = A at hA ⊢
    refine ewr_sound (M := []) h0 ?_
    simp
    refine brn_app (fun h => ?_) (fun h => ?_)
    · simp at h
      obtain ⟨m, rfl⟩ : ∃ m, n = m + 1 := ⟨n - 1, by omega⟩
      simp [h, hA, List.replicate_succ]
      have e3 : ((xs.take (i + 1)).map pi) = A ++ [pi xs[i]] := by rw [take_step xs i h, List.map_append, hAe]; rfl
      subst hI
      refine Less_mk m (by omega) ⟨i + 1, by omega, ?_⟩
      rw [wrNext i (by omega), e3, List.append_assoc]
      all_goals rfl
    · simp at h
      have hn : n = 0 := by omega
      subst hn
      have ht : List.take i xs = xs := List.take_of_length_le (by omega)
      have ht2 : List.take (xs.length) (xs.map pi) = (xs.map pi) := List.take_of_length_le (by simp)
      rw [← hAe, ht]
      simp [ht2]
theorem ok_toAttrs (k : Nat) (x : GAttrs) (hwt : GAttrs.wt x ≤ 1048576) : CallOK Tryz.prog 87 [.agg (GAttrs.ci k x)] (.agg (GAttrs.co x)) [.agg (GAttrs.ci k x)] := by
  unfold GAttrs.wt at hwt
  refine okS (fn := Tryz.f87) [] h0 Tryz.func87 (by kernel_rfl) rfl Tryz.ntmps87 Tryz.results87 (by simp) ?_
  simp
  refine Inv_intro (ok_toIntS k x.Path (by omega)) ?_
  simp
  refine Inv_intro (ok_toIntS k x.Comms (by omega)) ?_
  simp
theorem ok_toPrefix (x : GPrefix) : CallOK Tryz.prog 139 [.agg (GPrefix.c x)] (.agg (GPrefix.c x)) [.agg (GPrefix.c x)] := by
  refine okS (fn := Tryz.f139) [] h0 Tryz.func139 (by kernel_rfl) rfl Tryz.ntmps139 Tryz.results139 (by simp) ?_
  simp
theorem ok_toPrefixS (k : Nat) (xs : List GPrefix) (hwt : wt_PrefixS xs ≤ 1048576) : CallOK Tryz.prog 86 [.c (rd k xs.length (xs.flatMap GPrefix.c))] (.c (.sl 0 77 xs.length (xs.flatMap GPrefix.c))) [.c (rd k xs.length (xs.flatMap GPrefix.c))] := by
  have hl := len_wt_PrefixS xs
  refine okS (fn := Tryz.f86) [] h0 Tryz.func86 (by kernel_rfl) rfl Tryz.ntmps86 Tryz.results86 (by simp) ?_
  have hb1 : (xs.length : Int) ≤ 281474976710656 := by omega
  have hb2 : 16 * (xs.length : Int) ≤ 281474976710656 := by omega
  simp [hb1, hb2]
  refine loopS [0, 3, 4] [.op 1 2 0] (fun n st => ∃ (i : Nat), i + n = xs.length ∧ st = ⟨slOf 23 [(0, .t (rd k xs.length (xs.flatMap GPrefix.c))), (3, .ref ⟨.op 1 2 0, []⟩ 0 xs.length), (4, .t (pi i))], ofL [(.op 1 2 0, .sl 0 77 xs.length (((xs.take i).flatMap GPrefix.c) ++ (List.replicate n [.raw (.int .i64 0), .raw (.int .i64 0)]).flatten))]⟩) xs.length ?_ ?_
  · rintro Inv hI
    simp
    subst hI
    exact ⟨0, by omega, by simp⟩
  · rintro Inv hI n st ⟨i, hi, rfl⟩
    have hA := fm_take_len GPrefix.c 2 (fun _ => rfl) xs i (by omega)
    generalize hAe : ((xs.take i).flatMap GPrefix.c) = A at hA ⊢
    refine ewr_sound (M := []) h0 ?_
    simp
    refine brn_app (fun h => ?_) (fun h => ?_)
    · simp at h
      obtain ⟨m, rfl⟩ : ∃ m, n = m + 1 := ⟨n - 1, by omega⟩
      have hd := fm_drop GPrefix.c 2 (fun _ => rfl) xs i h
      have hlen := fm_len GPrefix.c 2 (fun _ => rfl) xs
      have hlt : i * 2 < xs.length * 2 := by omega
      simp [h, hd, hlen, hlt]
      refine Inv_intro (ok_toPrefix xs[i]) ?_
      simp [h, hA, List.replicate_succ]
      have e3 : ((xs.take (i + 1)).flatMap GPrefix.c) = A ++ GPrefix.c xs[i] := by rw [take_step xs i h, List.flatMap_append, hAe, List.flatMap_cons, List.flatMap_nil, List.append_nil]
      subst hI
      refine Less_mk m (by omega) ⟨i + 1, by omega, ?_⟩
      rw [wrNext i (by omega), e3, List.append_assoc]
      all_goals rfl
    · simp at h
      have hn : n = 0 := by omega
      subst hn
      have ht : List.take i xs = xs := List.take_of_length_le (by omega)
      have ht2 : List.take (xs.length * 2) (xs.flatMap GPrefix.c) = (xs.flatMap GPrefix.c) := List.take_of_length_le (by rw [fm_len GPrefix.c 2 (fun _ => rfl)]; exact Nat.le_refl _)
      have hlo := fm_len GPrefix.c 2 (fun _ => rfl) xs
      rw [← hAe, ht]
      simp [ht2, hlo, -List.length_flatMap]
end Go.V
