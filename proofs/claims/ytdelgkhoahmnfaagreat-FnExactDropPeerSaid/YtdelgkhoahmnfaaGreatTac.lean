/- What functions of the seat's program do, each proved of its code, under the bounds that its theorem names. -/
import Derived.Test.YtdelgkhoahmnfaaGreatTab
set_option linter.all false
namespace Go.V
open Go.Proofs
set_option maxHeartbeats 1000000
set_option maxRecDepth 10000
set_option linter.unusedSimpArgs false
set_option linter.unusedVariables false
theorem ok_markOfferS (xs : List GOffer) (k : Int) (hls : lens_OfferS xs) (hk : 0 < k) (hk2 : k + cn_OfferS xs ≤ 2305843009213693952) : CallOK Tryz.prog 17 [.c (.sl 0 81 xs.length (xs.flatMap GOffer.co)), .c (pi k)] (.c (pi (mk_OfferS xs k).2)) [.c (.sl 0 81 xs.length ((mk_OfferS xs k).1.flatMap GOffer.co)), .c (pi k)] := by
  obtain ⟨hl0, hlx⟩ := hls
  unfold mk_OfferS
  unfold cn_OfferS at hk2
  refine okS (fn := Tryz.f17) [(37, [1,0])] h0 Tryz.func17 (by kernel_rfl) rfl Tryz.ntmps17 Tryz.results17 (by simp) ?_
  simp
  refine loopS [0, 1, 5] [] (fun n st => ∃ (i : Nat), i + n = xs.length ∧ st = ⟨slOf 68 [(0, .ref ⟨.arg 0 0, []⟩ 0 xs.length), (1, .t (pi (mkR GOffer.mark (xs.take i) k).2)), (5, .t (pi i))], ofL [(.arg 0 0, .sl 0 81 xs.length (((mkR GOffer.mark (xs.take i) k).1.flatMap GOffer.co) ++ ((xs.drop i).flatMap GOffer.co)))]⟩) xs.length ?_ ?_
  · rintro Inv hI
    simp
    subst hI
    exact ⟨0, by omega, rfl⟩
  · rintro Inv hI n st ⟨i, hi, rfl⟩
    have hAl : (((mkR GOffer.mark (xs.take i) k).1.flatMap GOffer.co)).length = i * 7 := by rw [fm_len GOffer.co 7 (fun _ => rfl), mkR_len, len_take xs i (by omega)]
    have hKb := mkR_snd (f := GOffer.mark) (g := GOffer.cn) (GOffer.mark_snd) (xs.take i) k
    generalize hA : ((mkR GOffer.mark (xs.take i) k).1.flatMap GOffer.co) = A at hAl ⊢
    generalize hK : (mkR GOffer.mark (xs.take i) k).2 = K at hKb ⊢
    generalize hB : ((xs.drop i).flatMap GOffer.co) = B
    refine ewr_sound (M := [(37, [1, 0])]) h0 ?_
    simp
    refine brn_app (fun h => ?_) (fun h => ?_)
    · simp at h
      obtain ⟨m, rfl⟩ : ∃ m, n = m + 1 := ⟨n - 1, by omega⟩
      have hcn := cnR_take GOffer.cn xs i h
      have hBe : B = [pi xs[i].Peer, pi xs[i].Attrs.Origin, .sl 0 3 xs[i].Attrs.Path.length (xs[i].Attrs.Path.map pi), pi xs[i].Attrs.Next, pi xs[i].Attrs.Med, pi xs[i].Attrs.Pref, .sl 0 3 xs[i].Attrs.Comms.length (xs[i].Attrs.Comms.map pi)] ++ ((xs.drop (i + 1)).flatMap GOffer.co) := by rw [← hB, drop_step xs i h]; rfl
      generalize hC : ((xs.drop (i + 1)).flatMap GOffer.co) = D at hBe
      subst hBe
      have hxl := hlx _ (List.getElem_mem h)
      simp only [GOffer.cn] at hcn
      have hw0 : IntKind.wrap .i64 (K + 1) = K + 1 := wrap64 (by omega) (by omega)
      have hw1 : IntKind.wrap .i64 ((K + 1) + 1) = (K + 1) + 1 := wrap64 (by omega) (by omega)
      have hs2 := mk_IntS_snd xs[i].Attrs.Path ((K + 1) + 1)
      have hw3 : IntKind.wrap .i64 ((mk_IntS xs[i].Attrs.Path ((K + 1) + 1)).2 + 1) = (mk_IntS xs[i].Attrs.Path ((K + 1) + 1)).2 + 1 := wrap64 (by omega) (by omega)
      have hw4 : IntKind.wrap .i64 (((mk_IntS xs[i].Attrs.Path ((K + 1) + 1)).2 + 1) + 1) = ((mk_IntS xs[i].Attrs.Path ((K + 1) + 1)).2 + 1) + 1 := wrap64 (by omega) (by omega)
      have hw5 : IntKind.wrap .i64 ((((mk_IntS xs[i].Attrs.Path ((K + 1) + 1)).2 + 1) + 1) + 1) = (((mk_IntS xs[i].Attrs.Path ((K + 1) + 1)).2 + 1) + 1) + 1 := wrap64 (by omega) (by omega)
      have hs6 := mk_IntS_snd xs[i].Attrs.Comms ((((mk_IntS xs[i].Attrs.Path ((K + 1) + 1)).2 + 1) + 1) + 1)
      have hq0 : i * 7 + 1 + 1 = i * 7 + 2 := by omega
      have hq1 : i * 7 + 1 + 2 = i * 7 + 3 := by omega
      have hq2 : i * 7 + 1 + 3 = i * 7 + 4 := by omega
      have hq3 : i * 7 + 1 + 4 = i * 7 + 5 := by omega
      have hq4 : i * 7 + 1 + 5 = i * 7 + 6 := by omega
      simp [h, hAl, hw0, hw1, hw3, hw4, hw5, hq0, hq1, hq2, hq3, hq4]
      refine Inv_intro (ok_markIntS xs[i].Attrs.Path (((K + 1) + 1)) hxl.1 (by omega) (by omega)) ?_
      simp [h, hAl, hw0, hw1, hw3, hw4, hw5, hq0, hq1, hq2, hq3, hq4]
      refine Inv_intro (ok_markIntS xs[i].Attrs.Comms (((((mk_IntS xs[i].Attrs.Path ((K + 1) + 1)).2 + 1) + 1) + 1)) hxl.2 (by omega) (by omega)) ?_
      simp [h, hAl, hw0, hw1, hw3, hw4, hw5, hq0, hq1, hq2, hq3, hq4]
      have e4 := mkR_take GOffer.mark xs i h k
      rw [hK] at e4
      have e3 : ((mkR GOffer.mark (xs.take (i + 1)) k).1.flatMap GOffer.co) = A ++ GOffer.co (GOffer.mark xs[i] K).1 := by rw [e4, List.flatMap_append, hA, List.flatMap_cons, List.flatMap_nil, List.append_nil]
      subst hI
      refine Less_mk m (by omega) ⟨i + 1, by omega, ?_⟩
      rw [wrNext i (by omega), e3, e4, hC, List.append_assoc]
      all_goals first | rfl | simp [GOffer.mark] | simp
    · simp at h
      have hx : xs.take i = xs := List.take_of_length_le (by omega)
      have hBn : B = [] := by rw [← hB, List.drop_of_length_le (by omega)]; rfl
      subst hBn
      rw [hx] at hA hK
      subst hK
      subst hA
      simp
theorem ok_markRowS (xs : List GRow) (k : Int) (hls : lens_RowS xs) (hk : 0 < k) (hk2 : k + cn_RowS xs ≤ 2305843009213693952) : CallOK Tryz.prog 71 [.c (.sl 0 79 xs.length (xs.flatMap GRow.co)), .c (pi k)] (.c (pi (mk_RowS xs k).2)) [.c (.sl 0 79 xs.length ((mk_RowS xs k).1.flatMap GRow.co)), .c (pi k)] := by
  obtain ⟨hl0, hlx⟩ := hls
  unfold mk_RowS
  unfold cn_RowS at hk2
  refine okS (fn := Tryz.f71) [(17, [1,0])] h0 Tryz.func71 (by kernel_rfl) rfl Tryz.ntmps71 Tryz.results71 (by simp) ?_
  simp
  refine loopS [0, 1, 5] [] (fun n st => ∃ (i : Nat), i + n = xs.length ∧ st = ⟨slOf 36 [(0, .ref ⟨.arg 0 0, []⟩ 0 xs.length), (1, .t (pi (mkR GRow.mark (xs.take i) k).2)), (5, .t (pi i))], ofL [(.arg 0 0, .sl 0 79 xs.length (((mkR GRow.mark (xs.take i) k).1.flatMap GRow.co) ++ ((xs.drop i).flatMap GRow.co)))]⟩) xs.length ?_ ?_
  · rintro Inv hI
    simp
    subst hI
    exact ⟨0, by omega, rfl⟩
  · rintro Inv hI n st ⟨i, hi, rfl⟩
    have hAl : (((mkR GRow.mark (xs.take i) k).1.flatMap GRow.co)).length = i * 3 := by rw [fm_len GRow.co 3 (fun _ => rfl), mkR_len, len_take xs i (by omega)]
    have hKb := mkR_snd (f := GRow.mark) (g := GRow.cn) (GRow.mark_snd) (xs.take i) k
    generalize hA : ((mkR GRow.mark (xs.take i) k).1.flatMap GRow.co) = A at hAl ⊢
    generalize hK : (mkR GRow.mark (xs.take i) k).2 = K at hKb ⊢
    generalize hB : ((xs.drop i).flatMap GRow.co) = B
    refine ewr_sound (M := [(17, [1, 0])]) h0 ?_
    simp
    refine brn_app (fun h => ?_) (fun h => ?_)
    · simp at h
      obtain ⟨m, rfl⟩ : ∃ m, n = m + 1 := ⟨n - 1, by omega⟩
      have hcn := cnR_take GRow.cn xs i h
      have hBe : B = [pi xs[i].Prefix.Addr, pi xs[i].Prefix.Len, .sl 0 81 xs[i].Offers.length (xs[i].Offers.flatMap GOffer.co)] ++ ((xs.drop (i + 1)).flatMap GRow.co) := by rw [← hB, drop_step xs i h]; rfl
      generalize hC : ((xs.drop (i + 1)).flatMap GRow.co) = D at hBe
      subst hBe
      have hxl := hlx _ (List.getElem_mem h)
      simp only [GRow.cn] at hcn
      have hw0 : IntKind.wrap .i64 (K + 1) = K + 1 := wrap64 (by omega) (by omega)
      have hw1 : IntKind.wrap .i64 ((K + 1) + 1) = (K + 1) + 1 := wrap64 (by omega) (by omega)
      have hs2 := mk_OfferS_snd xs[i].Offers ((K + 1) + 1)
      simp [h, hAl, hw0, hw1]
      refine Inv_intro (ok_markOfferS xs[i].Offers (((K + 1) + 1)) hxl (by omega) (by omega)) ?_
      simp [h, hAl, hw0, hw1]
      have e4 := mkR_take GRow.mark xs i h k
      rw [hK] at e4
      have e3 : ((mkR GRow.mark (xs.take (i + 1)) k).1.flatMap GRow.co) = A ++ GRow.co (GRow.mark xs[i] K).1 := by rw [e4, List.flatMap_append, hA, List.flatMap_cons, List.flatMap_nil, List.append_nil]
      subst hI
      refine Less_mk m (by omega) ⟨i + 1, by omega, ?_⟩
      rw [wrNext i (by omega), e3, e4, hC, List.append_assoc]
      all_goals first | rfl | simp [GRow.mark] | simp
    · simp at h
      have hx : xs.take i = xs := List.take_of_length_le (by omega)
      have hBn : B = [] := by rw [← hB, List.drop_of_length_le (by omega)]; rfl
      subst hBn
      rw [hx] at hA hK
      subst hK
      subst hA
      simp
theorem ok_markRib (x : GRib) (k : Int) (hls : GRib.lens x) (hk : 0 < k) (hk2 : k + GRib.cnT x ≤ 2305843009213693952) : CallOK Tryz.prog 16 [.agg (GRib.co x), .c (pi k)] (.c (pi (GRib.markT x k).2)) [.agg (GRib.co (GRib.markT x k).1), .c (pi k)] := by
  unfold GRib.cnT at hk2
  unfold GRib.markT
  have hs0 := mk_RowS_snd x.Rows k
  refine okA h0 Tryz.func16 (by kernel_rfl) rfl Tryz.ntmps16 Tryz.results16 (by simp) ?_
  intro A hA
  obtain ⟨v1, hv1⟩ := hA 0 1 rfl
  refine ewpA_ghost 0 (.agg [.t (pi x.Own), .t (.raw v1)]) (.inr ⟨_, _, rfl, rfl, (GhL.cons Gh.rfl' (GhL.cons (Gh.raw hv1 (by rfl)) GhL.nil))⟩) ?_
  refine ewpA_seq (ewpA_of (ewr_sound (M := [(71, [1, 0])]) h0 ?_))
  simp
  refine ewpA_seq (ewpA_region (runA_split (M := [(71, [1, 0])]) (r := 0) 2 h0 (hl_of rfl) ?_))
  simp
  refine runA_ghost 6 (.ref ⟨.arg 0 1, []⟩ 0 x.Rows.length) (.inl (Gh.ref hv1 (by rfl))) ?_
  refine runA_of (M := [(71, [1, 0])]) (r := 0) h0 (hl_of rfl) ?_
  simp
  refine Inv_intro (ok_markRowS x.Rows (k) (hls) (by omega) (by omega)) ?_
  simp
  refine ewpA_of (ewr_sound (M := [(71, [1, 0])]) h0 ?_)
  simp
theorem ok_szIntS (k : Nat) (xs : List Int) (left : Int) (h1 : 0 ≤ left) (h2 : left ≤ 1048576) (hf : fits_IntS xs) : CallOK Tryz.prog 133 [.c (rd k xs.length (xs.map pi)), .c (pi left)] (.c (pi (szr left (wt_IntS xs)))) [.c (rd k xs.length (xs.map pi)), .c (pi left)] := by
  obtain ⟨hl, hx⟩ := hf
  refine okS (fn := Tryz.f133) [] h0 Tryz.func133 (by kernel_rfl) rfl Tryz.ntmps133 Tryz.results133 (by simp) ?_
  have hw : IntKind.wrap .i64 (left - xs.length) = left - xs.length := wrap64 (by omega) (by omega)
  have hwl := len_wt_IntS xs
  simp [hw]
  refine brn_app (fun h => ?_) (fun h => ?_)
  · simp at h
    have e1 : szr left (wt_IntS xs) = -1 := szr_neg (by omega)
    simp [e1]
  · simp at h
    have e1 : szr left (wt_IntS xs) = left - xs.length := by unfold wt_IntS; exact szr_ge (by omega)
    simp [e1]
theorem ok_szAttrs (k : Nat) (x : GAttrs) (left : Int) (h1 : 0 ≤ left) (h2 : left ≤ 1048576) (hf : GAttrs.fits x) : CallOK Tryz.prog 83 [.agg (GAttrs.ci k x), .c (pi left)] (.c (pi (szr left (GAttrs.wt x)))) [.agg (GAttrs.ci k x), .c (pi left)] := by
  simp only [GAttrs.fits] at hf
  obtain ⟨hf0, hf1⟩ := hf
  refine okS (fn := Tryz.f83) [] h0 Tryz.func83 (by kernel_rfl) rfl Tryz.ntmps83 Tryz.results83 (by simp) ?_
  simp
  refine Inv_intro (ok_szIntS k x.Path (left) (by omega) (by omega) hf0) ?_
  simp
  refine brn_app (fun a0 => ?_) (fun a0 => ?_)
  · simp at a0
    have b0 := szr_lt0 a0 (by omega)
    have e : szr left (GAttrs.wt x) = -1 := szr_neg (by unfold GAttrs.wt; omega)
    simp [e]
  · simp at a0
    have b0 := szr_ge0 a0
    have e0 := szr_ge b0
    simp only [e0]
    simp
    refine Inv_intro (ok_szIntS k x.Comms (left - (wt_IntS x.Path : Nat)) (by omega) (by omega) hf1) ?_
    simp
    refine brn_app (fun a1 => ?_) (fun a1 => ?_)
    · simp at a1
      have b1 := szr_lt0 a1 (by omega)
      have e : szr left (GAttrs.wt x) = -1 := szr_neg (by unfold GAttrs.wt; omega)
      simp [e]
    · simp at a1
      have b1 := szr_ge0 a1
      have e1 := szr_ge b1
      simp only [e1]
      have e : szr left (GAttrs.wt x) = left - (wt_IntS x.Path : Nat) - (wt_IntS x.Comms : Nat) := by
        rw [szr_ge (by unfold GAttrs.wt; omega)]
        unfold GAttrs.wt
        omega
      simp [e]
theorem ok_szOffer (k : Nat) (x : GOffer) (left : Int) (h1 : 0 ≤ left) (h2 : left ≤ 1048576) (hf : GOffer.fits x) : CallOK Tryz.prog 185 [.agg (GOffer.ci k x), .c (pi left)] (.c (pi (szr left (GOffer.wt x)))) [.agg (GOffer.ci k x), .c (pi left)] := by
  simp only [GOffer.fits] at hf
  have hf0 := hf
  refine okS (fn := Tryz.f185) [] h0 Tryz.func185 (by kernel_rfl) rfl Tryz.ntmps185 Tryz.results185 (by simp) ?_
  simp
  refine Inv_intro (ok_szAttrs k x.Attrs (left) (by omega) (by omega) hf0) ?_
  simp
  refine brn_app (fun a0 => ?_) (fun a0 => ?_)
  · simp at a0
    have b0 := szr_lt0 a0 (by omega)
    have e : szr left (GOffer.wt x) = -1 := szr_neg (by unfold GOffer.wt; omega)
    simp [e]
  · simp at a0
    have b0 := szr_ge0 a0
    have e0 := szr_ge b0
    simp only [e0]
    have e : szr left (GOffer.wt x) = left - (GAttrs.wt x.Attrs : Nat) := by
      rw [szr_ge (by unfold GOffer.wt; omega)]
      unfold GOffer.wt
      omega
    simp [e]
theorem ok_szOfferS (k : Nat) (xs : List GOffer) (left : Int) (h1 : 0 ≤ left) (h2 : left ≤ 1048576) (hf : fits_OfferS xs) : CallOK Tryz.prog 161 [.c (rd k xs.length (xs.flatMap (GOffer.ci k))), .c (pi left)] (.c (pi (szr left (wt_OfferS xs)))) [.c (rd k xs.length (xs.flatMap (GOffer.ci k))), .c (pi left)] := by
  obtain ⟨hl, hx⟩ := hf
  refine okS (fn := Tryz.f161) [] h0 Tryz.func161 (by kernel_rfl) rfl Tryz.ntmps161 Tryz.results161 (by simp) ?_
  have hw : IntKind.wrap .i64 (left - xs.length) = left - xs.length := wrap64 (by omega) (by omega)
  have hwl := len_wt_OfferS xs
  simp [hw]
  refine brn_app (fun h => ?_) (fun h => ?_)
  · simp at h
    have e1 : szr left (wt_OfferS xs) = -1 := szr_neg (by omega)
    simp [e1]
  · simp at h
    simp
    refine loopS [0, 1, 5] [] (fun n st => ∃ (i : Nat) (m : Int), i + n = xs.length ∧ 0 ≤ m ∧ m ≤ 1048576 ∧ szr m (((xs.drop i).map GOffer.wt).sum) = szr left (wt_OfferS xs) ∧ st = ⟨slOf 27 [(0, .t (rd k xs.length (xs.flatMap (GOffer.ci k)))), (1, .t (pi m)), (5, .t (pi i))], ofL []⟩) xs.length ?_ ?_
    · rintro Inv hI
      simp
      subst hI
      exact ⟨0, left - xs.length, by omega, by omega, by omega, by rw [List.drop_zero, wt_OfferS, wtR, szr_add (by omega)], rfl⟩
    · rintro Inv hI n st ⟨i, m, hi, hm1, hm2, hg, rfl⟩
      refine ewr_sound (M := []) h0 ?_
      simp
      refine brn_app (fun h3 => ?_) (fun h3 => ?_)
      · simp at h3
        have hxi := hx xs[i] (List.getElem_mem h3)
        rw [drop_step xs i h3, List.map_cons, List.sum_cons] at hg
        have hd := fm_drop (GOffer.ci k) 7 (fun _ => rfl) xs i h3
        have hlen := fm_len (GOffer.ci k) 7 (fun _ => rfl) xs
        have hlt : i * 7 < xs.length * 7 := by omega
        simp [h3, hd, hlen, hlt]
        refine Inv_intro (ok_szOffer k xs[i] m hm1 hm2 hxi) ?_
        simp
        refine brn_app (fun h4 => ?_) (fun h4 => ?_)
        · simp at h4
          have h5 := szr_lt0 h4 hm1
          rw [szr_add_neg h5] at hg
          simp [← hg]
        · simp at h4
          have h5 := szr_ge0 h4
          have e5 := szr_ge h5
          rw [szr_add h5, ← e5] at hg
          simp
          subst hI
          exact Less_mk (n - 1) (by omega) ⟨i + 1, szr m (GOffer.wt xs[i]), by omega, by omega, by omega, hg, by rw [wrNext i (by omega)]⟩
      · simp at h3
        rw [List.drop_of_length_le (by omega), List.map_nil, List.sum_nil, szr_zero hm1] at hg
        simp [hg]
theorem ok_szRow (k : Nat) (x : GRow) (left : Int) (h1 : 0 ≤ left) (h2 : left ≤ 1048576) (hf : GRow.fits x) : CallOK Tryz.prog 113 [.agg (GRow.ci k x), .c (pi left)] (.c (pi (szr left (GRow.wt x)))) [.agg (GRow.ci k x), .c (pi left)] := by
  simp only [GRow.fits] at hf
  have hf0 := hf
  refine okS (fn := Tryz.f113) [] h0 Tryz.func113 (by kernel_rfl) rfl Tryz.ntmps113 Tryz.results113 (by simp) ?_
  simp
  refine Inv_intro (ok_szOfferS k x.Offers (left) (by omega) (by omega) hf0) ?_
  simp
  refine brn_app (fun a0 => ?_) (fun a0 => ?_)
  · simp at a0
    have b0 := szr_lt0 a0 (by omega)
    have e : szr left (GRow.wt x) = -1 := szr_neg (by unfold GRow.wt; omega)
    simp [e]
  · simp at a0
    have b0 := szr_ge0 a0
    have e0 := szr_ge b0
    simp only [e0]
    have e : szr left (GRow.wt x) = left - (wt_OfferS x.Offers : Nat) := by
      rw [szr_ge (by unfold GRow.wt; omega)]
      unfold GRow.wt
      omega
    simp [e]
theorem ok_szRowS (k : Nat) (xs : List GRow) (left : Int) (h1 : 0 ≤ left) (h2 : left ≤ 1048576) (hf : fits_RowS xs) : CallOK Tryz.prog 62 [.c (rd k xs.length (xs.flatMap (GRow.ci k))), .c (pi left)] (.c (pi (szr left (wt_RowS xs)))) [.c (rd k xs.length (xs.flatMap (GRow.ci k))), .c (pi left)] := by
  obtain ⟨hl, hx⟩ := hf
  refine okS (fn := Tryz.f62) [] h0 Tryz.func62 (by kernel_rfl) rfl Tryz.ntmps62 Tryz.results62 (by simp) ?_
  have hw : IntKind.wrap .i64 (left - xs.length) = left - xs.length := wrap64 (by omega) (by omega)
  have hwl := len_wt_RowS xs
  simp [hw]
  refine brn_app (fun h => ?_) (fun h => ?_)
  · simp at h
    have e1 : szr left (wt_RowS xs) = -1 := szr_neg (by omega)
    simp [e1]
  · simp at h
    simp
    refine loopS [0, 1, 5] [] (fun n st => ∃ (i : Nat) (m : Int), i + n = xs.length ∧ 0 ≤ m ∧ m ≤ 1048576 ∧ szr m (((xs.drop i).map GRow.wt).sum) = szr left (wt_RowS xs) ∧ st = ⟨slOf 27 [(0, .t (rd k xs.length (xs.flatMap (GRow.ci k)))), (1, .t (pi m)), (5, .t (pi i))], ofL []⟩) xs.length ?_ ?_
    · rintro Inv hI
      simp
      subst hI
      exact ⟨0, left - xs.length, by omega, by omega, by omega, by rw [List.drop_zero, wt_RowS, wtR, szr_add (by omega)], rfl⟩
    · rintro Inv hI n st ⟨i, m, hi, hm1, hm2, hg, rfl⟩
      refine ewr_sound (M := []) h0 ?_
      simp
      refine brn_app (fun h3 => ?_) (fun h3 => ?_)
      · simp at h3
        have hxi := hx xs[i] (List.getElem_mem h3)
        rw [drop_step xs i h3, List.map_cons, List.sum_cons] at hg
        have hd := fm_drop (GRow.ci k) 3 (fun _ => rfl) xs i h3
        have hlen := fm_len (GRow.ci k) 3 (fun _ => rfl) xs
        have hlt : i * 3 < xs.length * 3 := by omega
        simp [h3, hd, hlen, hlt]
        refine Inv_intro (ok_szRow k xs[i] m hm1 hm2 hxi) ?_
        simp
        refine brn_app (fun h4 => ?_) (fun h4 => ?_)
        · simp at h4
          have h5 := szr_lt0 h4 hm1
          rw [szr_add_neg h5] at hg
          simp [← hg]
        · simp at h4
          have h5 := szr_ge0 h4
          have e5 := szr_ge h5
          rw [szr_add h5, ← e5] at hg
          simp
          subst hI
          exact Less_mk (n - 1) (by omega) ⟨i + 1, szr m (GRow.wt xs[i]), by omega, by omega, by omega, hg, by rw [wrNext i (by omega)]⟩
      · simp at h3
        rw [List.drop_of_length_le (by omega), List.map_nil, List.sum_nil, szr_zero hm1] at hg
        simp [hg]
theorem ok_szRib (k : Nat) (x : GRib) (left : Int) (h1 : 0 ≤ left) (h2 : left ≤ 1048576) (hf : GRib.fits x) : CallOK Tryz.prog 9 [.agg (GRib.ci k x), .c (pi left)] (.c (pi (szr left (GRib.wt x)))) [.agg (GRib.ci k x), .c (pi left)] := by
  simp only [GRib.fits] at hf
  have hf0 := hf
  refine okS (fn := Tryz.f9) [] h0 Tryz.func9 (by kernel_rfl) rfl Tryz.ntmps9 Tryz.results9 (by simp) ?_
  simp
  refine Inv_intro (ok_szRowS k x.Rows (left) (by omega) (by omega) hf0) ?_
  simp
  refine brn_app (fun a0 => ?_) (fun a0 => ?_)
  · simp at a0
    have b0 := szr_lt0 a0 (by omega)
    have e : szr left (GRib.wt x) = -1 := szr_neg (by unfold GRib.wt; omega)
    simp [e]
  · simp at a0
    have b0 := szr_ge0 a0
    have e0 := szr_ge b0
    simp only [e0]
    have e : szr left (GRib.wt x) = left - (wt_RowS x.Rows : Nat) := by
      rw [szr_ge (by unfold GRib.wt; omega)]
      unfold GRib.wt
      omega
    simp [e]
theorem ok_toIntS (k : Nat) (xs : List Int) (hwt : wt_IntS xs ≤ 1048576) : CallOK Tryz.prog 32 [.c (rd k xs.length (xs.map pi))] (.c (.sl 0 3 xs.length (xs.map pi))) [.c (rd k xs.length (xs.map pi))] := by
  have hl := len_wt_IntS xs
  refine okS (fn := Tryz.f32) [] h0 Tryz.func32 (by kernel_rfl) rfl Tryz.ntmps32 Tryz.results32 (by simp) ?_
  have hb1 : (xs.length : Int) ≤ 281474976710656 := by omega
  have hb2 : 8 * (xs.length : Int) ≤ 281474976710656 := by omega
  simp [hb1, hb2]
  refine loopS [0, 3, 4] [.op 1 2 0] (fun n st => ∃ (i : Nat), i + n = xs.length ∧ st = ⟨slOf 22 [(0, .t (rd k xs.length (xs.map pi))), (3, .ref ⟨.op 1 2 0, []⟩ 0 xs.length), (4, .t (pi i))], ofL [(.op 1 2 0, .sl 0 3 xs.length (((xs.take i).map pi) ++ List.replicate n (.raw (.int .i64 0))))]⟩) xs.length ?_ ?_
  · rintro Inv hI
    simp
    subst hI
    exact ⟨0, by omega, by simp⟩
  · rintro Inv hI n st ⟨i, hi, rfl⟩
    have hA := map_take_len pi xs i (by omega)
    generalize hAe : ((xs.take i).map pi) = A at hA ⊢
    refine ewr_sound (M := []) h0 ?_
    simp
    refine brn_app (fun h => ?_) (fun h => ?_)
    · simp at h
      obtain ⟨m, rfl⟩ : ∃ m, n = m + 1 := ⟨n - 1, by omega⟩
      simp [h, hA, List.replicate_succ]
      have e3 : ((xs.take (i + 1)).map pi) = A ++ [pi xs[i]] := by rw [take_step xs i h, List.map_append, hAe]; rfl
      subst hI
      refine Less_mk m (by omega) ⟨i + 1, by omega, ?_⟩
      rw [wrNext i (by omega), e3, List.append_assoc]
      all_goals rfl
    · simp at h
      have hn : n = 0 := by omega
      subst hn
      have ht : List.take i xs = xs := List.take_of_length_le (by omega)
      have ht2 : List.take (xs.length) (xs.map pi) = (xs.map pi) := List.take_of_length_le (by simp)
      rw [← hAe, ht]
      simp [ht2]
theorem ok_toAttrs (k : Nat) (x : GAttrs) (hwt : GAttrs.wt x ≤ 1048576) : CallOK Tryz.prog 87 [.agg (GAttrs.ci k x)] (.agg (GAttrs.co x)) [.agg (GAttrs.ci k x)] := by
  unfold GAttrs.wt at hwt
  refine okS (fn := Tryz.f87) [] h0 Tryz.func87 (by kernel_rfl) rfl Tryz.ntmps87 Tryz.results87 (by simp) ?_
  simp
  refine Inv_intro (ok_toIntS k x.Path (by omega)) ?_
  simp
  refine Inv_intro (ok_toIntS k x.Comms (by omega)) ?_
  simp
theorem ok_toOffer (k : Nat) (x : GOffer) (hwt : GOffer.wt x ≤ 1048576) : CallOK Tryz.prog 187 [.agg (GOffer.ci k x)] (.agg (GOffer.co x)) [.agg (GOffer.ci k x)] := by
  unfold GOffer.wt at hwt
  refine okS (fn := Tryz.f187) [] h0 Tryz.func187 (by kernel_rfl) rfl Tryz.ntmps187 Tryz.results187 (by simp) ?_
  simp
  refine Inv_intro (ok_toAttrs k x.Attrs (by omega)) ?_
  simp
theorem ok_toOfferS (k : Nat) (xs : List GOffer) (hwt : wt_OfferS xs ≤ 1048576) : CallOK Tryz.prog 163 [.c (rd k xs.length (xs.flatMap (GOffer.ci k)))] (.c (.sl 0 81 xs.length (xs.flatMap GOffer.co))) [.c (rd k xs.length (xs.flatMap (GOffer.ci k)))] := by
  have hl := len_wt_OfferS xs
  refine okS (fn := Tryz.f163) [] h0 Tryz.func163 (by kernel_rfl) rfl Tryz.ntmps163 Tryz.results163 (by simp) ?_
  have hb1 : (xs.length : Int) ≤ 281474976710656 := by omega
  have hb2 : 88 * (xs.length : Int) ≤ 281474976710656 := by omega
  simp [hb1, hb2]
  refine loopS [0, 3, 4] [.op 1 2 0] (fun n st => ∃ (i : Nat), i + n = xs.length ∧ st = ⟨slOf 23 [(0, .t (rd k xs.length (xs.flatMap (GOffer.ci k)))), (3, .ref ⟨.op 1 2 0, []⟩ 0 xs.length), (4, .t (pi i))], ofL [(.op 1 2 0, .sl 0 81 xs.length (((xs.take i).flatMap GOffer.co) ++ (List.replicate n [.raw (.int .i64 0), .raw (.int .i64 0), .sl 0 nilE 0 [], .raw (.int .i64 0), .raw (.int .i64 0), .raw (.int .i64 0), .sl 0 nilE 0 []]).flatten))]⟩) xs.length ?_ ?_
  · rintro Inv hI
    simp
    subst hI
    exact ⟨0, by omega, by simp⟩
  · rintro Inv hI n st ⟨i, hi, rfl⟩
    have hA := fm_take_len GOffer.co 7 (fun _ => rfl) xs i (by omega)
    generalize hAe : ((xs.take i).flatMap GOffer.co) = A at hA ⊢
    refine ewr_sound (M := []) h0 ?_
    simp
    refine brn_app (fun h => ?_) (fun h => ?_)
    · simp at h
      obtain ⟨m, rfl⟩ : ∃ m, n = m + 1 := ⟨n - 1, by omega⟩
      have hd := fm_drop (GOffer.ci k) 7 (fun _ => rfl) xs i h
      have hlen := fm_len (GOffer.ci k) 7 (fun _ => rfl) xs
      have hlt : i * 7 < xs.length * 7 := by omega
      simp [h, hd, hlen, hlt]
      refine Inv_intro (ok_toOffer k xs[i] (by have := mem_wt_OfferS (List.getElem_mem h); omega)) ?_
      simp [h, hA, List.replicate_succ]
      have e3 : ((xs.take (i + 1)).flatMap GOffer.co) = A ++ GOffer.co xs[i] := by rw [take_step xs i h, List.flatMap_append, hAe, List.flatMap_cons, List.flatMap_nil, List.append_nil]
      subst hI
      refine Less_mk m (by omega) ⟨i + 1, by omega, ?_⟩
      rw [wrNext i (by omega), e3, List.append_assoc]
      all_goals rfl
    · simp at h
      have hn : n = 0 := by omega
      subst hn
      have ht : List.take i xs = xs := List.take_of_length_le (by omega)
      have ht2 : List.take (xs.length * 7) (xs.flatMap GOffer.co) = (xs.flatMap GOffer.co) := List.take_of_length_le (by rw [fm_len GOffer.co 7 (fun _ => rfl)]; exact Nat.le_refl _)
      have hlo := fm_len GOffer.co 7 (fun _ => rfl) xs
      rw [← hAe, ht]
      simp [ht2, hlo, -List.length_flatMap]
theorem ok_toPrefix (x : GPrefix) : CallOK Tryz.prog 139 [.agg (GPrefix.c x)] (.agg (GPrefix.c x)) [.agg (GPrefix.c x)] := by
  refine okS (fn := Tryz.f139) [] h0 Tryz.func139 (by kernel_rfl) rfl Tryz.ntmps139 Tryz.results139 (by simp) ?_
  simp
theorem ok_toRow (k : Nat) (x : GRow) (hwt : GRow.wt x ≤ 1048576) : CallOK Tryz.prog 116 [.agg (GRow.ci k x)] (.agg (GRow.co x)) [.agg (GRow.ci k x)] := by
  unfold GRow.wt at hwt
  refine okS (fn := Tryz.f116) [] h0 Tryz.func116 (by kernel_rfl) rfl Tryz.ntmps116 Tryz.results116 (by simp) ?_
  simp
  refine Inv_intro (ok_toPrefix x.Prefix) ?_
  simp
  refine Inv_intro (ok_toOfferS k x.Offers (by omega)) ?_
  simp
theorem ok_toRowS (k : Nat) (xs : List GRow) (hwt : wt_RowS xs ≤ 1048576) : CallOK Tryz.prog 65 [.c (rd k xs.length (xs.flatMap (GRow.ci k)))] (.c (.sl 0 79 xs.length (xs.flatMap GRow.co))) [.c (rd k xs.length (xs.flatMap (GRow.ci k)))] := by
  have hl := len_wt_RowS xs
  refine okS (fn := Tryz.f65) [] h0 Tryz.func65 (by kernel_rfl) rfl Tryz.ntmps65 Tryz.results65 (by simp) ?_
  have hb1 : (xs.length : Int) ≤ 281474976710656 := by omega
  have hb2 : 40 * (xs.length : Int) ≤ 281474976710656 := by omega
  simp [hb1, hb2]
  refine loopS [0, 3, 4] [.op 1 2 0] (fun n st => ∃ (i : Nat), i + n = xs.length ∧ st = ⟨slOf 23 [(0, .t (rd k xs.length (xs.flatMap (GRow.ci k)))), (3, .ref ⟨.op 1 2 0, []⟩ 0 xs.length), (4, .t (pi i))], ofL [(.op 1 2 0, .sl 0 79 xs.length (((xs.take i).flatMap GRow.co) ++ (List.replicate n [.raw (.int .i64 0), .raw (.int .i64 0), .sl 0 nilE 0 []]).flatten))]⟩) xs.length ?_ ?_
  · rintro Inv hI
    simp
    subst hI
    exact ⟨0, by omega, by simp⟩
  · rintro Inv hI n st ⟨i, hi, rfl⟩
    have hA := fm_take_len GRow.co 3 (fun _ => rfl) xs i (by omega)
    generalize hAe : ((xs.take i).flatMap GRow.co) = A at hA ⊢
    refine ewr_sound (M := []) h0 ?_
    simp
    refine brn_app (fun h => ?_) (fun h => ?_)
    · simp at h
      obtain ⟨m, rfl⟩ : ∃ m, n = m + 1 := ⟨n - 1, by omega⟩
      have hd := fm_drop (GRow.ci k) 3 (fun _ => rfl) xs i h
      have hlen := fm_len (GRow.ci k) 3 (fun _ => rfl) xs
      have hlt : i * 3 < xs.length * 3 := by omega
      simp [h, hd, hlen, hlt]
      refine Inv_intro (ok_toRow k xs[i] (by have := mem_wt_RowS (List.getElem_mem h); omega)) ?_
      simp [h, hA, List.replicate_succ]
      have e3 : ((xs.take (i + 1)).flatMap GRow.co) = A ++ GRow.co xs[i] := by rw [take_step xs i h, List.flatMap_append, hAe, List.flatMap_cons, List.flatMap_nil, List.append_nil]
      subst hI
      refine Less_mk m (by omega) ⟨i + 1, by omega, ?_⟩
      rw [wrNext i (by omega), e3, List.append_assoc]
      all_goals rfl
    · simp at h
      have hn : n = 0 := by omega
      subst hn
      have ht : List.take i xs = xs := List.take_of_length_le (by omega)
      have ht2 : List.take (xs.length * 3) (xs.flatMap GRow.co) = (xs.flatMap GRow.co) := List.take_of_length_le (by rw [fm_len GRow.co 3 (fun _ => rfl)]; exact Nat.le_refl _)
      have hlo := fm_len GRow.co 3 (fun _ => rfl) xs
      rw [← hAe, ht]
      simp [ht2, hlo, -List.length_flatMap]
theorem ok_toRib (k : Nat) (x : GRib) (hwt : GRib.wt x ≤ 1048576) : CallOK Tryz.prog 11 [.agg (GRib.ci k x)] (.agg (GRib.co x)) [.agg (GRib.ci k x)] := by
  unfold GRib.wt at hwt
  refine okS (fn := Tryz.f11) [] h0 Tryz.func11 (by kernel_rfl) rfl Tryz.ntmps11 Tryz.results11 (by simp) ?_
  simp
  refine Inv_intro (ok_toRowS k x.Rows (by omega)) ?_
  simp
structure GRoute where
  Prefix : GPrefix
  Attrs : GAttrs
  deriving DecidableEq
def GRoute.co (x : GRoute) : List PT := [pi x.Prefix.Addr, pi x.Prefix.Len, pi x.Attrs.Origin, .sl 0 3 x.Attrs.Path.length (x.Attrs.Path.map pi), pi x.Attrs.Next, pi x.Attrs.Med, pi x.Attrs.Pref, .sl 0 3 x.Attrs.Comms.length (x.Attrs.Comms.map pi)]
def GRoute.ci (k : Nat) (x : GRoute) : List PT := [pi x.Prefix.Addr, pi x.Prefix.Len, pi x.Attrs.Origin, rd k x.Attrs.Path.length (x.Attrs.Path.map pi), pi x.Attrs.Next, pi x.Attrs.Med, pi x.Attrs.Pref, rd k x.Attrs.Comms.length (x.Attrs.Comms.map pi)]
attribute [simp] GRoute.co GRoute.ci
theorem GRoute.len_o (x : GRoute) : x.co.length = 8 := rfl
theorem GRoute.len_i (k : Nat) (x : GRoute) : (x.ci k).length = 8 := rfl
theorem GRoute.un1 (x : GRoute) : PT.unownL x.co = x.ci 0 := by simp [rd]
theorem GRoute.uni1 (k : Nat) (x : GRoute) : PT.unownL (x.ci k) = x.ci 0 := by simp [rd]
theorem GRoute.un (xs : List GRoute) : PT.unownL (xs.flatMap GRoute.co) = xs.flatMap (GRoute.ci 0) := by
  rw [unownL_fm]
  congr 1
  funext x
  exact GRoute.un1 x
theorem GRoute.uni (k : Nat) (xs : List GRoute) : PT.unownL (xs.flatMap (GRoute.ci k)) = xs.flatMap (GRoute.ci 0) := by
  rw [unownL_fm]
  congr 1
  funext x
  exact GRoute.uni1 k x
theorem GRoute.nt (xs : List GRoute) : PT.noTmpL (xs.flatMap GRoute.co) = true := noTmpL_fm _ xs fun x => by simp
theorem GRoute.nti (k : Nat) (xs : List GRoute) : PT.noTmpL (xs.flatMap (GRoute.ci (k + 1))) = true := noTmpL_fm _ xs fun x => by simp [rd]
attribute [simp] GRoute.un GRoute.uni GRoute.nt GRoute.nti
theorem GRoute.lenR (xs : List GRoute) : (xs.flatMap GRoute.co).length = xs.length * 8 := fm_len _ 8 (fun _ => rfl) xs
theorem GRoute.lenRi (k : Nat) (xs : List GRoute) : (xs.flatMap (GRoute.ci k)).length = xs.length * 8 := fm_len _ 8 (fun _ => rfl) xs
theorem GRoute.tkR (xs : List GRoute) : (xs.flatMap GRoute.co).take (xs.length * 8) = xs.flatMap GRoute.co := List.take_of_length_le (by rw [GRoute.lenR]; exact Nat.le_refl _)
theorem GRoute.tkRi (k : Nat) (xs : List GRoute) : (xs.flatMap (GRoute.ci k)).take (xs.length * 8) = xs.flatMap (GRoute.ci k) := List.take_of_length_le (by rw [GRoute.lenRi]; exact Nat.le_refl _)
attribute [simp high] GRoute.lenR GRoute.tkR GRoute.lenRi GRoute.tkRi
def GRoute.wt (x : GRoute) : Nat := GAttrs.wt x.Attrs
def GRoute.fits (x : GRoute) : Prop := GAttrs.fits x.Attrs
def GRoute.lens (x : GRoute) : Prop := GAttrs.lens x.Attrs
def GRoute.mark (x : GRoute) (k : Int) : GRoute × Int := (⟨⟨k, (k + 1)⟩, ⟨((k + 1) + 1), (mk_IntS x.Attrs.Path (((k + 1) + 1) + 1)).1, (mk_IntS x.Attrs.Path (((k + 1) + 1) + 1)).2, ((mk_IntS x.Attrs.Path (((k + 1) + 1) + 1)).2 + 1), (((mk_IntS x.Attrs.Path (((k + 1) + 1) + 1)).2 + 1) + 1), (mk_IntS x.Attrs.Comms ((((mk_IntS x.Attrs.Path (((k + 1) + 1) + 1)).2 + 1) + 1) + 1)).1⟩⟩, (mk_IntS x.Attrs.Comms ((((mk_IntS x.Attrs.Path (((k + 1) + 1) + 1)).2 + 1) + 1) + 1)).2)
def GRoute.cn (x : GRoute) : Nat := 1 + 1 + 1 + cn_IntS x.Attrs.Path + 1 + 1 + 1 + cn_IntS x.Attrs.Comms
theorem GRoute.mark_snd (x : GRoute) (k : Int) : (GRoute.mark x k).2 = k + GRoute.cn x := by
  simp only [GRoute.mark, GRoute.cn, mk_IntS_snd] <;> omega
def GRoute.markT (x : GRoute) (k : Int) : GRoute × Int := (⟨⟨x.Prefix.Addr, x.Prefix.Len⟩, ⟨x.Attrs.Origin, (mk_IntS x.Attrs.Path k).1, x.Attrs.Next, x.Attrs.Med, x.Attrs.Pref, (mk_IntS x.Attrs.Comms (mk_IntS x.Attrs.Path k).2).1⟩⟩, (mk_IntS x.Attrs.Comms (mk_IntS x.Attrs.Path k).2).2)
def GRoute.cnT (x : GRoute) : Nat := cn_IntS x.Attrs.Path + cn_IntS x.Attrs.Comms
theorem GRoute.markT_snd (x : GRoute) (k : Int) : (GRoute.markT x k).2 = k + GRoute.cnT x := by
  simp only [GRoute.markT, GRoute.cnT, mk_IntS_snd] <;> omega
theorem lens_of_Route {x : GRoute} (h : GRoute.wt x ≤ 1048576) : GRoute.lens x := by
  unfold GRoute.wt at h
  exact lens_of_Attrs (by omega)
theorem cn_le_Route (x : GRoute) : GRoute.cnT x ≤ 32 * GRoute.wt x := by
  unfold GRoute.cnT GRoute.wt
  have := cn_le_IntS x.Attrs.Path
  have := cn_le_IntS x.Attrs.Comms
  simp only [GAttrs.wt]
  omega
theorem cnE_le_Route (x : GRoute) : GRoute.cn x ≤ 32 * GRoute.wt x + 16 := by
  unfold GRoute.cn GRoute.wt
  have := cn_le_IntS x.Attrs.Path
  have := cn_le_IntS x.Attrs.Comms
  simp only [GAttrs.wt]
  omega
end Go.V
