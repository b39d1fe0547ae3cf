/- What functions of the seat's program do, each proved of its code, under the bounds that its theorem names. -/
import Derived.Test.YtcdlflmppicdjaaTab
set_option linter.all false
namespace Go.V
open Go.Proofs
set_option maxHeartbeats 1000000
set_option maxRecDepth 10000
set_option linter.unusedSimpArgs false
set_option linter.unusedVariables false
theorem ok_markRib (x : GRib) (k : Int) (hls : GRib.lens x) (hk : 0 < k) (hk2 : k + GRib.cnT x ≤ 2305843009213693952) : CallOK Try.prog 14 [.agg (GRib.co x), .c (pi k)] (.c (pi (GRib.markT x k).2)) [.agg (GRib.co (GRib.markT x k).1), .c (pi k)] := by
  unfold GRib.cnT at hk2
  unfold GRib.markT
  have hs0 := mk_RowS_snd x.Rows k
  refine okA h0 Try.func14 (by kernel_rfl) rfl Try.ntmps14 Try.results14 (by simp) ?_
  intro A hA
  obtain ⟨v1, hv1⟩ := hA 0 1 rfl
  refine ewpA_ghost 0 (.agg [.t (pi x.Own), .t (.raw v1)]) (.inr ⟨_, _, rfl, rfl, (GhL.cons Gh.rfl' (GhL.cons (Gh.raw hv1 (by rfl)) GhL.nil))⟩) ?_
  refine ewpA_seq (ewpA_of (ewr_sound (M := [(48, [1, 0])]) h0 ?_))
  simp
  refine ewpA_seq (ewpA_region (runA_split (M := [(48, [1, 0])]) (r := 0) 2 h0 (hl_of rfl) ?_))
  simp
  refine runA_ghost 6 (.ref ⟨.arg 0 1, []⟩ 0 x.Rows.length) (.inl (Gh.ref hv1 (by rfl))) ?_
  refine runA_of (M := [(48, [1, 0])]) (r := 0) h0 (hl_of rfl) ?_
  simp
  refine Inv_intro (ok_markRowS x.Rows (k) (hls) (by omega) (by omega)) ?_
  simp
  refine ewpA_of (ewr_sound (M := [(48, [1, 0])]) h0 ?_)
  simp
theorem ok_markRouteS (xs : List GRoute) (k : Int) (hls : lens_RouteS xs) (hk : 0 < k) (hk2 : k + cn_RouteS xs ≤ 2305843009213693952) : CallOK Try.prog 30 [.c (.sl 0 80 xs.length (xs.flatMap GRoute.co)), .c (pi k)] (.c (pi (mk_RouteS xs k).2)) [.c (.sl 0 80 xs.length ((mk_RouteS xs k).1.flatMap GRoute.co)), .c (pi k)] := by
  obtain ⟨hl0, hlx⟩ := hls
  unfold mk_RouteS
  unfold cn_RouteS at hk2
  refine okS (fn := Try.f30) [(69, [1,0])] h0 Try.func30 (by kernel_rfl) rfl Try.ntmps30 Try.results30 (by simp) ?_
  simp
  refine loopS [0, 1, 5] [] (fun n st => ∃ (i : Nat), i + n = xs.length ∧ st = ⟨slOf 77 [(0, .ref ⟨.arg 0 0, []⟩ 0 xs.length), (1, .t (pi (mkR GRoute.mark (xs.take i) k).2)), (5, .t (pi i))], ofL [(.arg 0 0, .sl 0 80 xs.length (((mkR GRoute.mark (xs.take i) k).1.flatMap GRoute.co) ++ ((xs.drop i).flatMap GRoute.co)))]⟩) xs.length ?_ ?_
  · rintro Inv hI
    simp
    subst hI
    exact ⟨0, by omega, rfl⟩
  · rintro Inv hI n st ⟨i, hi, rfl⟩
    have hAl : (((mkR GRoute.mark (xs.take i) k).1.flatMap GRoute.co)).length = i * 8 := by rw [fm_len GRoute.co 8 (fun _ => rfl), mkR_len, len_take xs i (by omega)]
    have hKb := mkR_snd (f := GRoute.mark) (g := GRoute.cn) (GRoute.mark_snd) (xs.take i) k
    generalize hA : ((mkR GRoute.mark (xs.take i) k).1.flatMap GRoute.co) = A at hAl ⊢
    generalize hK : (mkR GRoute.mark (xs.take i) k).2 = K at hKb ⊢
    generalize hB : ((xs.drop i).flatMap GRoute.co) = B
    refine ewr_sound (M := [(69, [1, 0])]) h0 ?_
    simp
    refine brn_app (fun h => ?_) (fun h => ?_)
    · simp at h
      obtain ⟨m, rfl⟩ : ∃ m, n = m + 1 := ⟨n - 1, by omega⟩
      have hcn := cnR_take GRoute.cn xs i h
      have hBe : B = [pi xs[i].Prefix.Addr, pi xs[i].Prefix.Len, pi xs[i].Attrs.Origin, .sl 0 3 xs[i].Attrs.Path.length (xs[i].Attrs.Path.map pi), pi xs[i].Attrs.Next, pi xs[i].Attrs.Med, pi xs[i].Attrs.Pref, .sl 0 3 xs[i].Attrs.Comms.length (xs[i].Attrs.Comms.map pi)] ++ ((xs.drop (i + 1)).flatMap GRoute.co) := by rw [← hB, drop_step xs i h]; rfl
      generalize hC : ((xs.drop (i + 1)).flatMap GRoute.co) = D at hBe
      subst hBe
      have hxl := hlx _ (List.getElem_mem h)
      simp only [GRoute.cn] at hcn
      have hw0 : IntKind.wrap .i64 (K + 1) = K + 1 := wrap64 (by omega) (by omega)
      have hw1 : IntKind.wrap .i64 ((K + 1) + 1) = (K + 1) + 1 := wrap64 (by omega) (by omega)
      have hw2 : IntKind.wrap .i64 (((K + 1) + 1) + 1) = ((K + 1) + 1) + 1 := wrap64 (by omega) (by omega)
      have hs3 := mk_IntS_snd xs[i].Attrs.Path (((K + 1) + 1) + 1)
      have hw4 : IntKind.wrap .i64 ((mk_IntS xs[i].Attrs.Path (((K + 1) + 1) + 1)).2 + 1) = (mk_IntS xs[i].Attrs.Path (((K + 1) + 1) + 1)).2 + 1 := wrap64 (by omega) (by omega)
      have hw5 : IntKind.wrap .i64 (((mk_IntS xs[i].Attrs.Path (((K + 1) + 1) + 1)).2 + 1) + 1) = ((mk_IntS xs[i].Attrs.Path (((K + 1) + 1) + 1)).2 + 1) + 1 := wrap64 (by omega) (by omega)
      have hw6 : IntKind.wrap .i64 ((((mk_IntS xs[i].Attrs.Path (((K + 1) + 1) + 1)).2 + 1) + 1) + 1) = (((mk_IntS xs[i].Attrs.Path (((K + 1) + 1) + 1)).2 + 1) + 1) + 1 := wrap64 (by omega) (by omega)
      have hs7 := mk_IntS_snd xs[i].Attrs.Comms ((((mk_IntS xs[i].Attrs.Path (((K + 1) + 1) + 1)).2 + 1) + 1) + 1)
      have hq0 : i * 8 + 2 + 1 = i * 8 + 3 := by omega
      have hq1 : i * 8 + 2 + 2 = i * 8 + 4 := by omega
      have hq2 : i * 8 + 2 + 3 = i * 8 + 5 := by omega
      have hq3 : i * 8 + 2 + 4 = i * 8 + 6 := by omega
      have hq4 : i * 8 + 2 + 5 = i * 8 + 7 := by omega
      simp [h, hAl, hw0, hw1, hw2, hw4, hw5, hw6, hq0, hq1, hq2, hq3, hq4]
      refine Inv_intro (ok_markIntS xs[i].Attrs.Path ((((K + 1) + 1) + 1)) hxl.1 (by omega) (by omega)) ?_
      simp [h, hAl, hw0, hw1, hw2, hw4, hw5, hw6, hq0, hq1, hq2, hq3, hq4]
      refine Inv_intro (ok_markIntS xs[i].Attrs.Comms (((((mk_IntS xs[i].Attrs.Path (((K + 1) + 1) + 1)).2 + 1) + 1) + 1)) hxl.2 (by omega) (by omega)) ?_
      simp [h, hAl, hw0, hw1, hw2, hw4, hw5, hw6, hq0, hq1, hq2, hq3, hq4]
      have e4 := mkR_take GRoute.mark xs i h k
      rw [hK] at e4
      have e3 : ((mkR GRoute.mark (xs.take (i + 1)) k).1.flatMap GRoute.co) = A ++ GRoute.co (GRoute.mark xs[i] K).1 := by rw [e4, List.flatMap_append, hA, List.flatMap_cons, List.flatMap_nil, List.append_nil]
      subst hI
      refine Less_mk m (by omega) ⟨i + 1, by omega, ?_⟩
      rw [wrNext i (by omega), e3, e4, hC, List.append_assoc]
      all_goals first | rfl | simp [GRoute.mark] | simp
    · simp at h
      have hx : xs.take i = xs := List.take_of_length_le (by omega)
      have hBn : B = [] := by rw [← hB, List.drop_of_length_le (by omega)]; rfl
      subst hBn
      rw [hx] at hA hK
      subst hK
      subst hA
      simp
theorem ok_szIntS (k : Nat) (xs : List Int) (left : Int) (h1 : 0 ≤ left) (h2 : left ≤ 1048576) (hf : fits_IntS xs) : CallOK Try.prog 146 [.c (rd k xs.length (xs.map pi)), .c (pi left)] (.c (pi (szr left (wt_IntS xs)))) [.c (rd k xs.length (xs.map pi)), .c (pi left)] := by
  obtain ⟨hl, hx⟩ := hf
  refine okS (fn := Try.f146) [] h0 Try.func146 (by kernel_rfl) rfl Try.ntmps146 Try.results146 (by simp) ?_
  have hw : IntKind.wrap .i64 (left - xs.length) = left - xs.length := wrap64 (by omega) (by omega)
  have hwl := len_wt_IntS xs
  simp [hw]
  refine brn_app (fun h => ?_) (fun h => ?_)
  · simp at h
    have e1 : szr left (wt_IntS xs) = -1 := szr_neg (by omega)
    simp [e1]
  · simp at h
    have e1 : szr left (wt_IntS xs) = left - xs.length := by unfold wt_IntS; exact szr_ge (by omega)
    simp [e1]
theorem ok_szAttrs (k : Nat) (x : GAttrs) (left : Int) (h1 : 0 ≤ left) (h2 : left ≤ 1048576) (hf : GAttrs.fits x) : CallOK Try.prog 101 [.agg (GAttrs.ci k x), .c (pi left)] (.c (pi (szr left (GAttrs.wt x)))) [.agg (GAttrs.ci k x), .c (pi left)] := by
  simp only [GAttrs.fits] at hf
  obtain ⟨hf0, hf1⟩ := hf
  refine okS (fn := Try.f101) [] h0 Try.func101 (by kernel_rfl) rfl Try.ntmps101 Try.results101 (by simp) ?_
  simp
  refine Inv_intro (ok_szIntS k x.Path (left) (by omega) (by omega) hf0) ?_
  simp
  refine brn_app (fun a0 => ?_) (fun a0 => ?_)
  · simp at a0
    have b0 := szr_lt0 a0 (by omega)
    have e : szr left (GAttrs.wt x) = -1 := szr_neg (by unfold GAttrs.wt; omega)
    simp [e]
  · simp at a0
    have b0 := szr_ge0 a0
    have e0 := szr_ge b0
    simp only [e0]
    simp
    refine Inv_intro (ok_szIntS k x.Comms (left - (wt_IntS x.Path : Nat)) (by omega) (by omega) hf1) ?_
    simp
    refine brn_app (fun a1 => ?_) (fun a1 => ?_)
    · simp at a1
      have b1 := szr_lt0 a1 (by omega)
      have e : szr left (GAttrs.wt x) = -1 := szr_neg (by unfold GAttrs.wt; omega)
      simp [e]
    · simp at a1
      have b1 := szr_ge0 a1
      have e1 := szr_ge b1
      simp only [e1]
      have e : szr left (GAttrs.wt x) = left - (wt_IntS x.Path : Nat) - (wt_IntS x.Comms : Nat) := by
        rw [szr_ge (by unfold GAttrs.wt; omega)]
        unfold GAttrs.wt
        omega
      simp [e]
theorem ok_szOffer (k : Nat) (x : GOffer) (left : Int) (h1 : 0 ≤ left) (h2 : left ≤ 1048576) (hf : GOffer.fits x) : CallOK Try.prog 162 [.agg (GOffer.ci k x), .c (pi left)] (.c (pi (szr left (GOffer.wt x)))) [.agg (GOffer.ci k x), .c (pi left)] := by
  simp only [GOffer.fits] at hf
  have hf0 := hf
  refine okS (fn := Try.f162) [] h0 Try.func162 (by kernel_rfl) rfl Try.ntmps162 Try.results162 (by simp) ?_
  simp
  refine Inv_intro (ok_szAttrs k x.Attrs (left) (by omega) (by omega) hf0) ?_
  simp
  refine brn_app (fun a0 => ?_) (fun a0 => ?_)
  · simp at a0
    have b0 := szr_lt0 a0 (by omega)
    have e : szr left (GOffer.wt x) = -1 := szr_neg (by unfold GOffer.wt; omega)
    simp [e]
  · simp at a0
    have b0 := szr_ge0 a0
    have e0 := szr_ge b0
    simp only [e0]
    have e : szr left (GOffer.wt x) = left - (GAttrs.wt x.Attrs : Nat) := by
      rw [szr_ge (by unfold GOffer.wt; omega)]
      unfold GOffer.wt
      omega
    simp [e]
theorem ok_szOfferS (k : Nat) (xs : List GOffer) (left : Int) (h1 : 0 ≤ left) (h2 : left ≤ 1048576) (hf : fits_OfferS xs) : CallOK Try.prog 154 [.c (rd k xs.length (xs.flatMap (GOffer.ci k))), .c (pi left)] (.c (pi (szr left (wt_OfferS xs)))) [.c (rd k xs.length (xs.flatMap (GOffer.ci k))), .c (pi left)] := by
  obtain ⟨hl, hx⟩ := hf
  refine okS (fn := Try.f154) [] h0 Try.func154 (by kernel_rfl) rfl Try.ntmps154 Try.results154 (by simp) ?_
  have hw : IntKind.wrap .i64 (left - xs.length) = left - xs.length := wrap64 (by omega) (by omega)
  have hwl := len_wt_OfferS xs
  simp [hw]
  refine brn_app (fun h => ?_) (fun h => ?_)
  · simp at h
    have e1 : szr left (wt_OfferS xs) = -1 := szr_neg (by omega)
    simp [e1]
  · simp at h
    simp
    refine loopS [0, 1, 5] [] (fun n st => ∃ (i : Nat) (m : Int), i + n = xs.length ∧ 0 ≤ m ∧ m ≤ 1048576 ∧ szr m (((xs.drop i).map GOffer.wt).sum) = szr left (wt_OfferS xs) ∧ st = ⟨slOf 27 [(0, .t (rd k xs.length (xs.flatMap (GOffer.ci k)))), (1, .t (pi m)), (5, .t (pi i))], ofL []⟩) xs.length ?_ ?_
    · rintro Inv hI
      simp
      subst hI
      exact ⟨0, left - xs.length, by omega, by omega, by omega, by rw [List.drop_zero, wt_OfferS, wtR, szr_add (by omega)], rfl⟩
    · rintro Inv hI n st ⟨i, m, hi, hm1, hm2, hg, rfl⟩
      refine ewr_sound (M := []) h0 ?_
      simp
      refine brn_app (fun h3 => ?_) (fun h3 => ?_)
      · simp at h3
        have hxi := hx xs[i] (List.getElem_mem h3)
        rw [drop_step xs i h3, List.map_cons, List.sum_cons] at hg
        have hd := fm_drop (GOffer.ci k) 7 (fun _ => rfl) xs i h3
        have hlen := fm_len (GOffer.ci k) 7 (fun _ => rfl) xs
        have hlt : i * 7 < xs.length * 7 := by omega
        simp [h3, hd, hlen, hlt]
        refine Inv_intro (ok_szOffer k xs[i] m hm1 hm2 hxi) ?_
        simp
        refine brn_app (fun h4 => ?_) (fun h4 => ?_)
        · simp at h4
          have h5 := szr_lt0 h4 hm1
          rw [szr_add_neg h5] at hg
          simp [← hg]
        · simp at h4
          have h5 := szr_ge0 h4
          have e5 := szr_ge h5
          rw [szr_add h5, ← e5] at hg
          simp
          subst hI
          exact Less_mk (n - 1) (by omega) ⟨i + 1, szr m (GOffer.wt xs[i]), by omega, by omega, by omega, hg, by rw [wrNext i (by omega)]⟩
      · simp at h3
        rw [List.drop_of_length_le (by omega), List.map_nil, List.sum_nil, szr_zero hm1] at hg
        simp [hg]
theorem ok_szRow (k : Nat) (x : GRow) (left : Int) (h1 : 0 ≤ left) (h2 : left ≤ 1048576) (hf : GRow.fits x) : CallOK Try.prog 112 [.agg (GRow.ci k x), .c (pi left)] (.c (pi (szr left (GRow.wt x)))) [.agg (GRow.ci k x), .c (pi left)] := by
  simp only [GRow.fits] at hf
  have hf0 := hf
  refine okS (fn := Try.f112) [] h0 Try.func112 (by kernel_rfl) rfl Try.ntmps112 Try.results112 (by simp) ?_
  simp
  refine Inv_intro (ok_szOfferS k x.Offers (left) (by omega) (by omega) hf0) ?_
  simp
  refine brn_app (fun a0 => ?_) (fun a0 => ?_)
  · simp at a0
    have b0 := szr_lt0 a0 (by omega)
    have e : szr left (GRow.wt x) = -1 := szr_neg (by unfold GRow.wt; omega)
    simp [e]
  · simp at a0
    have b0 := szr_ge0 a0
    have e0 := szr_ge b0
    simp only [e0]
    have e : szr left (GRow.wt x) = left - (wt_OfferS x.Offers : Nat) := by
      rw [szr_ge (by unfold GRow.wt; omega)]
      unfold GRow.wt
      omega
    simp [e]
theorem ok_szRowS (k : Nat) (xs : List GRow) (left : Int) (h1 : 0 ≤ left) (h2 : left ≤ 1048576) (hf : fits_RowS xs) : CallOK Try.prog 60 [.c (rd k xs.length (xs.flatMap (GRow.ci k))), .c (pi left)] (.c (pi (szr left (wt_RowS xs)))) [.c (rd k xs.length (xs.flatMap (GRow.ci k))), .c (pi left)] := by
  obtain ⟨hl, hx⟩ := hf
  refine okS (fn := Try.f60) [] h0 Try.func60 (by kernel_rfl) rfl Try.ntmps60 Try.results60 (by simp) ?_
  have hw : IntKind.wrap .i64 (left - xs.length) = left - xs.length := wrap64 (by omega) (by omega)
  have hwl := len_wt_RowS xs
  simp [hw]
  refine brn_app (fun h => ?_) (fun h => ?_)
  · simp at h
    have e1 : szr left (wt_RowS xs) = -1 := szr_neg (by omega)
    simp [e1]
  · simp at h
    simp
    refine loopS [0, 1, 5] [] (fun n st => ∃ (i : Nat) (m : Int), i + n = xs.length ∧ 0 ≤ m ∧ m ≤ 1048576 ∧ szr m (((xs.drop i).map GRow.wt).sum) = szr left (wt_RowS xs) ∧ st = ⟨slOf 27 [(0, .t (rd k xs.length (xs.flatMap (GRow.ci k)))), (1, .t (pi m)), (5, .t (pi i))], ofL []⟩) xs.length ?_ ?_
    · rintro Inv hI
      simp
      subst hI
      exact ⟨0, left - xs.length, by omega, by omega, by omega, by rw [List.drop_zero, wt_RowS, wtR, szr_add (by omega)], rfl⟩
    · rintro Inv hI n st ⟨i, m, hi, hm1, hm2, hg, rfl⟩
      refine ewr_sound (M := []) h0 ?_
      simp
      refine brn_app (fun h3 => ?_) (fun h3 => ?_)
      · simp at h3
        have hxi := hx xs[i] (List.getElem_mem h3)
        rw [drop_step xs i h3, List.map_cons, List.sum_cons] at hg
        have hd := fm_drop (GRow.ci k) 3 (fun _ => rfl) xs i h3
        have hlen := fm_len (GRow.ci k) 3 (fun _ => rfl) xs
        have hlt : i * 3 < xs.length * 3 := by omega
        simp [h3, hd, hlen, hlt]
        refine Inv_intro (ok_szRow k xs[i] m hm1 hm2 hxi) ?_
        simp
        refine brn_app (fun h4 => ?_) (fun h4 => ?_)
        · simp at h4
          have h5 := szr_lt0 h4 hm1
          rw [szr_add_neg h5] at hg
          simp [← hg]
        · simp at h4
          have h5 := szr_ge0 h4
          have e5 := szr_ge h5
          rw [szr_add h5, ← e5] at hg
          simp
          subst hI
          exact Less_mk (n - 1) (by omega) ⟨i + 1, szr m (GRow.wt xs[i]), by omega, by omega, by omega, hg, by rw [wrNext i (by omega)]⟩
      · simp at h3
        rw [List.drop_of_length_le (by omega), List.map_nil, List.sum_nil, szr_zero hm1] at hg
        simp [hg]
theorem ok_szRib (k : Nat) (x : GRib) (left : Int) (h1 : 0 ≤ left) (h2 : left ≤ 1048576) (hf : GRib.fits x) : CallOK Try.prog 23 [.agg (GRib.ci k x), .c (pi left)] (.c (pi (szr left (GRib.wt x)))) [.agg (GRib.ci k x), .c (pi left)] := by
  simp only [GRib.fits] at hf
  have hf0 := hf
  refine okS (fn := Try.f23) [] h0 Try.func23 (by kernel_rfl) rfl Try.ntmps23 Try.results23 (by simp) ?_
  simp
  refine Inv_intro (ok_szRowS k x.Rows (left) (by omega) (by omega) hf0) ?_
  simp
  refine brn_app (fun a0 => ?_) (fun a0 => ?_)
  · simp at a0
    have b0 := szr_lt0 a0 (by omega)
    have e : szr left (GRib.wt x) = -1 := szr_neg (by unfold GRib.wt; omega)
    simp [e]
  · simp at a0
    have b0 := szr_ge0 a0
    have e0 := szr_ge b0
    simp only [e0]
    have e : szr left (GRib.wt x) = left - (wt_RowS x.Rows : Nat) := by
      rw [szr_ge (by unfold GRib.wt; omega)]
      unfold GRib.wt
      omega
    simp [e]
theorem ok_toIntS (k : Nat) (xs : List Int) (hwt : wt_IntS xs ≤ 1048576) : CallOK Try.prog 147 [.c (rd k xs.length (xs.map pi))] (.c (.sl 0 3 xs.length (xs.map pi))) [.c (rd k xs.length (xs.map pi))] := by
  have hl := len_wt_IntS xs
  refine okS (fn := Try.f147) [] h0 Try.func147 (by kernel_rfl) rfl Try.ntmps147 Try.results147 (by simp) ?_
  have hb1 : (xs.length : Int) ≤ 281474976710656 := by omega
  have hb2 : 8 * (xs.length : Int) ≤ 281474976710656 := by omega
  simp [hb1, hb2]
  refine loopS [0, 3, 4] [.op 1 2 0] (fun n st => ∃ (i : Nat), i + n = xs.length ∧ st = ⟨slOf 22 [(0, .t (rd k xs.length (xs.map pi))), (3, .ref ⟨.op 1 2 0, []⟩ 0 xs.length), (4, .t (pi i))], ofL [(.op 1 2 0, .sl 0 3 xs.length (((xs.take i).map pi) ++ List.replicate n (.raw (.int .i64 0))))]⟩) xs.length ?_ ?_
  · rintro Inv hI
    simp
    subst hI
    exact ⟨0, by omega, by simp⟩
  · rintro Inv hI n st ⟨i, hi, rfl⟩
    have hA := map_take_len pi xs i (by omega)
    generalize hAe : ((xs.take i).map pi) = A at hA ⊢
    refine ewr_sound (M := []) h0 ?_
    simp
    refine brn_app (fun h => ?_) (fun h => ?_)
    · simp at h
      obtain ⟨m, rfl⟩ : ∃ m, n = m + 1 := ⟨n - 1, by omega⟩
      simp [h, hA, List.replicate_succ]
      have e3 : ((xs.take (i + 1)).map pi) = A ++ [pi xs[i]] := by rw [take_step xs i h, List.map_append, hAe]; rfl
      subst hI
      refine Less_mk m (by omega) ⟨i + 1, by omega, ?_⟩
      rw [wrNext i (by omega), e3, List.append_assoc]
      all_goals rfl
    · simp at h
      have hn : n = 0 := by omega
      subst hn
      have ht : List.take i xs = xs := List.take_of_length_le (by omega)
      have ht2 : List.take (xs.length) (xs.map pi) = (xs.map pi) := List.take_of_length_le (by simp)
      rw [← hAe, ht]
      simp [ht2]
theorem ok_toAttrs (k : Nat) (x : GAttrs) (hwt : GAttrs.wt x ≤ 1048576) : CallOK Try.prog 104 [.agg (GAttrs.ci k x)] (.agg (GAttrs.co x)) [.agg (GAttrs.ci k x)] := by
  unfold GAttrs.wt at hwt
  refine okS (fn := Try.f104) [] h0 Try.func104 (by kernel_rfl) rfl Try.ntmps104 Try.results104 (by simp) ?_
  simp
  refine Inv_intro (ok_toIntS k x.Path (by omega)) ?_
  simp
  refine Inv_intro (ok_toIntS k x.Comms (by omega)) ?_
  simp
theorem ok_toOffer (k : Nat) (x : GOffer) (hwt : GOffer.wt x ≤ 1048576) : CallOK Try.prog 163 [.agg (GOffer.ci k x)] (.agg (GOffer.co x)) [.agg (GOffer.ci k x)] := by
  unfold GOffer.wt at hwt
  refine okS (fn := Try.f163) [] h0 Try.func163 (by kernel_rfl) rfl Try.ntmps163 Try.results163 (by simp) ?_
  simp
  refine Inv_intro (ok_toAttrs k x.Attrs (by omega)) ?_
  simp
theorem ok_toOfferS (k : Nat) (xs : List GOffer) (hwt : wt_OfferS xs ≤ 1048576) : CallOK Try.prog 155 [.c (rd k xs.length (xs.flatMap (GOffer.ci k)))] (.c (.sl 0 97 xs.length (xs.flatMap GOffer.co))) [.c (rd k xs.length (xs.flatMap (GOffer.ci k)))] := by
  have hl := len_wt_OfferS xs
  refine okS (fn := Try.f155) [] h0 Try.func155 (by kernel_rfl) rfl Try.ntmps155 Try.results155 (by simp) ?_
  have hb1 : (xs.length : Int) ≤ 281474976710656 := by omega
  have hb2 : 88 * (xs.length : Int) ≤ 281474976710656 := by omega
  simp [hb1, hb2]
  refine loopS [0, 3, 4] [.op 1 2 0] (fun n st => ∃ (i : Nat), i + n = xs.length ∧ st = ⟨slOf 23 [(0, .t (rd k xs.length (xs.flatMap (GOffer.ci k)))), (3, .ref ⟨.op 1 2 0, []⟩ 0 xs.length), (4, .t (pi i))], ofL [(.op 1 2 0, .sl 0 97 xs.length (((xs.take i).flatMap GOffer.co) ++ (List.replicate n [.raw (.int .i64 0), .raw (.int .i64 0), .sl 0 nilE 0 [], .raw (.int .i64 0), .raw (.int .i64 0), .raw (.int .i64 0), .sl 0 nilE 0 []]).flatten))]⟩) xs.length ?_ ?_
  · rintro Inv hI
    simp
    subst hI
    exact ⟨0, by omega, by simp⟩
  · rintro Inv hI n st ⟨i, hi, rfl⟩
    have hA := fm_take_len GOffer.co 7 (fun _ => rfl) xs i (by omega)
    generalize hAe : ((xs.take i).flatMap GOffer.co) = A at hA ⊢
    refine ewr_sound (M := []) h0 ?_
    simp
    refine brn_app (fun h => ?_) (fun h => ?_)
    · simp at h
      obtain ⟨m, rfl⟩ : ∃ m, n = m + 1 := ⟨n - 1, by omega⟩
      have hd := fm_drop (GOffer.ci k) 7 (fun _ => rfl) xs i h
      have hlen := fm_len (GOffer.ci k) 7 (fun _ => rfl) xs
      have hlt : i * 7 < xs.length * 7 := by omega
      simp [h, hd, hlen, hlt]
      refine Inv_intro (ok_toOffer k xs[i] (by have := mem_wt_OfferS (List.getElem_mem h); omega)) ?_
      simp [h, hA, List.replicate_succ]
      have e3 : ((xs.take (i + 1)).flatMap GOffer.co) = A ++ GOffer.co xs[i] := by rw [take_step xs i h, List.flatMap_append, hAe, List.flatMap_cons, List.flatMap_nil, List.append_nil]
      subst hI
      refine Less_mk m (by omega) ⟨i + 1, by omega, ?_⟩
      rw [wrNext i (by omega), e3, List.append_assoc]
      all_goals rfl
    · simp at h
      have hn : n = 0 := by omega
      subst hn
      have ht : List.take i xs = xs := List.take_of_length_le (by omega)
      have ht2 : List.take (xs.length * 7) (xs.flatMap GOffer.co) = (xs.flatMap GOffer.co) := List.take_of_length_le (by rw [fm_len GOffer.co 7 (fun _ => rfl)]; exact Nat.le_refl _)
      have hlo := fm_len GOffer.co 7 (fun _ => rfl) xs
      rw [← hAe, ht]
      simp [ht2, hlo, -List.length_flatMap]
theorem ok_toPrefix (x : GPrefix) : CallOK Try.prog 103 [.agg (GPrefix.c x)] (.agg (GPrefix.c x)) [.agg (GPrefix.c x)] := by
  refine okS (fn := Try.f103) [] h0 Try.func103 (by kernel_rfl) rfl Try.ntmps103 Try.results103 (by simp) ?_
  simp
theorem ok_toRow (k : Nat) (x : GRow) (hwt : GRow.wt x ≤ 1048576) : CallOK Try.prog 115 [.agg (GRow.ci k x)] (.agg (GRow.co x)) [.agg (GRow.ci k x)] := by
  unfold GRow.wt at hwt
  refine okS (fn := Try.f115) [] h0 Try.func115 (by kernel_rfl) rfl Try.ntmps115 Try.results115 (by simp) ?_
  simp
  refine Inv_intro (ok_toPrefix x.Prefix) ?_
  simp
  refine Inv_intro (ok_toOfferS k x.Offers (by omega)) ?_
  simp
theorem ok_toRowS (k : Nat) (xs : List GRow) (hwt : wt_RowS xs ≤ 1048576) : CallOK Try.prog 63 [.c (rd k xs.length (xs.flatMap (GRow.ci k)))] (.c (.sl 0 89 xs.length (xs.flatMap GRow.co))) [.c (rd k xs.length (xs.flatMap (GRow.ci k)))] := by
  have hl := len_wt_RowS xs
  refine okS (fn := Try.f63) [] h0 Try.func63 (by kernel_rfl) rfl Try.ntmps63 Try.results63 (by simp) ?_
  have hb1 : (xs.length : Int) ≤ 281474976710656 := by omega
  have hb2 : 40 * (xs.length : Int) ≤ 281474976710656 := by omega
  simp [hb1, hb2]
  refine loopS [0, 3, 4] [.op 1 2 0] (fun n st => ∃ (i : Nat), i + n = xs.length ∧ st = ⟨slOf 23 [(0, .t (rd k xs.length (xs.flatMap (GRow.ci k)))), (3, .ref ⟨.op 1 2 0, []⟩ 0 xs.length), (4, .t (pi i))], ofL [(.op 1 2 0, .sl 0 89 xs.length (((xs.take i).flatMap GRow.co) ++ (List.replicate n [.raw (.int .i64 0), .raw (.int .i64 0), .sl 0 nilE 0 []]).flatten))]⟩) xs.length ?_ ?_
  · rintro Inv hI
    simp
    subst hI
    exact ⟨0, by omega, by simp⟩
  · rintro Inv hI n st ⟨i, hi, rfl⟩
    have hA := fm_take_len GRow.co 3 (fun _ => rfl) xs i (by omega)
    generalize hAe : ((xs.take i).flatMap GRow.co) = A at hA ⊢
    refine ewr_sound (M := []) h0 ?_
    simp
    refine brn_app (fun h => ?_) (fun h => ?_)
    · simp at h
      obtain ⟨m, rfl⟩ : ∃ m, n = m + 1 := ⟨n - 1, by omega⟩
      have hd := fm_drop (GRow.ci k) 3 (fun _ => rfl) xs i h
      have hlen := fm_len (GRow.ci k) 3 (fun _ => rfl) xs
      have hlt : i * 3 < xs.length * 3 := by omega
      simp [h, hd, hlen, hlt]
      refine Inv_intro (ok_toRow k xs[i] (by have := mem_wt_RowS (List.getElem_mem h); omega)) ?_
      simp [h, hA, List.replicate_succ]
      have e3 : ((xs.take (i + 1)).flatMap GRow.co) = A ++ GRow.co xs[i] := by rw [take_step xs i h, List.flatMap_append, hAe, List.flatMap_cons, List.flatMap_nil, List.append_nil]
      subst hI
      refine Less_mk m (by omega) ⟨i + 1, by omega, ?_⟩
      rw [wrNext i (by omega), e3, List.append_assoc]
      all_goals rfl
    · simp at h
      have hn : n = 0 := by omega
      subst hn
      have ht : List.take i xs = xs := List.take_of_length_le (by omega)
      have ht2 : List.take (xs.length * 3) (xs.flatMap GRow.co) = (xs.flatMap GRow.co) := List.take_of_length_le (by rw [fm_len GRow.co 3 (fun _ => rfl)]; exact Nat.le_refl _)
      have hlo := fm_len GRow.co 3 (fun _ => rfl) xs
      rw [← hAe, ht]
      simp [ht2, hlo, -List.length_flatMap]
theorem ok_toRib (k : Nat) (x : GRib) (hwt : GRib.wt x ≤ 1048576) : CallOK Try.prog 25 [.agg (GRib.ci k x)] (.agg (GRib.co x)) [.agg (GRib.ci k x)] := by
  unfold GRib.wt at hwt
  refine okS (fn := Try.f25) [] h0 Try.func25 (by kernel_rfl) rfl Try.ntmps25 Try.results25 (by simp) ?_
  simp
  refine Inv_intro (ok_toRowS k x.Rows (by omega)) ?_
  simp
def inR (n lo hi : Int) : Bool := decide (lo ≤ n ∧ n ≤ hi)
def szP (n : Int) : Int := 2 ^ (32 - n).toNat
theorem shl_pow (m : Nat) (h : m ≤ 32) : IntKind.wrap .i64 (1 * 2 ^ min m IntKind.i64.bits) = 2 ^ m := by
  have : ∀ m : Fin 33, IntKind.wrap .i64 (1 * 2 ^ min m.1 IntKind.i64.bits) = 2 ^ m.1 := by decide
  exact this ⟨m, by omega⟩
theorem pow_ne (m : Nat) : ¬ (2 : Int) ^ m = 0 := by
  have : (0 : Int) < 2 ^ m := Int.pow_pos (by decide)
  omega
def goodPx (p : GPrefix) : Bool := inR p.Len 0 32 && (inR p.Addr 0 4294967295 && decide (p.Addr.tmod (szP p.Len) = 0))
def cmpI (a b : Int) : Int := if a < b then -1 else if b < a then 1 else 0
def cmpPx (p q : GPrefix) : Int := if cmpI p.Addr q.Addr = 0 then cmpI p.Len q.Len else cmpI p.Addr q.Addr
def orI : List Int → Int
  | [] => 0
  | x :: xs => if x = 0 then orI xs else x
def isAsnB (n : Int) : Bool := inR n 1 65535
def isValB (n : Int) : Bool := inR n 0 1000000
def adjI (q : Option Int) (x : Int) : Bool := match q with
  | none => true
  | some q => decide (q < x)
def commsG : Option Int → List Int → Bool
  | _, [] => true
  | q, x :: xs => isValB x && adjI q x && commsG (some x) xs
def goodCm (l : List Int) : Bool := commsG none l && decide (l.length ≤ 6)
def goodPa (l : List Int) : Bool := decide (l.length ≤ 10) && l.all isAsnB
def goodA (a : GAttrs) : Bool := inR a.Origin 0 2 && (goodPa a.Path && (inR a.Next 0 4294967295 && (isValB a.Med && (isValB a.Pref && goodCm a.Comms))))
def prevI (l : List Int) (i : Nat) : Option Int := if i = 0 then none else l[i - 1]?
theorem prevI_next (l : List Int) (i : Nat) (h : i < l.length) : prevI l (i + 1) = some l[i] := by simp [prevI, h]
def attrOK (a : GAttrs) : Prop := a.Path.length ≤ 140737488351232 ∧ a.Comms.length ≤ 140737488351232
def goodR (r : GRoute) : Bool := goodPx r.Prefix && goodA r.Attrs
def isPeerB (n : Int) : Bool := inR n 0 5
def goodO (o : GOffer) : Bool := isPeerB o.Peer && goodA o.Attrs
def adjO (q : Option GOffer) (x : GOffer) : Bool := match q with
  | none => true
  | some q => decide (q.Peer < x.Peer)
def offersG : Option GOffer → List GOffer → Bool
  | _, [] => true
  | q, x :: xs => goodO x && adjO q x && offersG (some x) xs
def goodOs (l : List GOffer) : Bool := offersG none l
def prevO (l : List GOffer) (i : Nat) : Option GOffer := if i = 0 then none else l[i - 1]?
theorem prevO_next (l : List GOffer) (i : Nat) (h : i < l.length) : prevO l (i + 1) = some l[i] := by simp [prevO, h]
def offersOK (l : List GOffer) : Prop := l.length ≤ 140737488351232 ∧ ∀ o ∈ l, attrOK o.Attrs
def goodRow (x : GRow) : Bool := goodPx x.Prefix && (decide (x.Offers.length ≠ 0) && goodOs x.Offers)
def adjW (q : Option GRow) (x : GRow) : Bool := match q with
  | none => true
  | some q => decide (cmpPx q.Prefix x.Prefix < 0)
def rowsG : Option GRow → List GRow → Bool
  | _, [] => true
  | q, x :: xs => goodRow x && adjW q x && rowsG (some x) xs
def prevW (l : List GRow) (i : Nat) : Option GRow := if i = 0 then none else l[i - 1]?
theorem prevW_next (l : List GRow) (i : Nat) (h : i < l.length) : prevW l (i + 1) = some l[i] := by simp [prevW, h]
def goodRib (r : GRib) : Bool := isAsnB r.Own && (decide (r.Rows.length ≤ 20) && rowsG none r.Rows)
def ribOK (r : GRib) : Prop := r.Rows.length ≤ 140737488351232 ∧ ∀ x ∈ r.Rows, offersOK x.Offers
theorem cmpI_lt (a n : Int) : cmpI a n < 0 ↔ a < n := by
  unfold cmpI
  by_cases h : a < n
  · simp [h]
  · by_cases h2 : n < a <;> simp [h, h2]
theorem cmpI_eq (a n : Int) : cmpI a n = 0 ↔ a = n := by
  unfold cmpI
  by_cases h : a < n
  · simp [h]; omega
  · by_cases h2 : n < a
    · simp [h, h2]; omega
    · simp [h, h2]; omega
theorem offersG_pw : ∀ (q : Option GOffer) (l : List GOffer), offersG q l = true → l.Pairwise (fun a b => a.Peer < b.Peer) ∧ ∀ x ∈ l, adjO q x = true ∧ goodO x = true
  | _, [], _ => by simp
  | q, x :: l, h => by
    simp only [offersG, Bool.and_eq_true] at h
    obtain ⟨⟨h1, h2⟩, h3⟩ := h
    obtain ⟨g1, g2⟩ := offersG_pw (some x) l h3
    refine ⟨List.pairwise_cons.2 ⟨fun y hy => by simpa [adjO] using (g2 y hy).1, g1⟩, fun y hy => ?_⟩
    rcases List.mem_cons.1 hy with rfl | hy
    · exact ⟨h2, h1⟩
    · refine ⟨?_, (g2 y hy).2⟩
      have h4 := (g2 y hy).1
      cases q with
      | none => rfl
      | some q =>
        simp only [adjO, decide_eq_true_eq] at h2 h4 ⊢
        omega
theorem pw_mono {l : List GOffer} (h : l.Pairwise (fun a b => a.Peer < b.Peer)) (n : Int) (i j : Nat) (hij : i < j) (hj : j < l.length) (hc : cmpI l[j].Peer n < 0) : cmpI l[i].Peer n < 0 := by
  have := List.pairwise_iff_getElem.1 h i j (by omega) hj hij
  rw [cmpI_lt] at hc ⊢
  omega
def ofPeer (n : Int) (l : List GOffer) : List GOffer := l.filter fun o => decide (o.Peer = n)
theorem ofPeer_none (n : Int) : ∀ (l : List GOffer), (∀ x ∈ l, n < x.Peer) → ofPeer n l = []
  | [], _ => rfl
  | x :: l, h => by
    have h1 := h x (by simp)
    have h2 := ofPeer_none n l fun y hy => h y (by simp [hy])
    unfold ofPeer at h2 ⊢
    rw [List.filter_cons, if_neg (by simp; omega), h2]
theorem ofPeer_bs (n : Int) : ∀ (l : List GOffer), l.Pairwise (fun a b => a.Peer < b.Peer) → ofPeer n l = (if bsF (fun o : GOffer => cmpI o.Peer n) l = true then (l[bsI (fun o : GOffer => cmpI o.Peer n) l]?).toList else [])
  | [], _ => by simp [ofPeer, bsF]
  | x :: l, h => by
    obtain ⟨h1, h2⟩ := List.pairwise_cons.1 h
    have ih := ofPeer_bs n l h2
    by_cases c : x.Peer < n
    · have e1 : bsI (fun o : GOffer => cmpI o.Peer n) (x :: l) = bsI (fun o : GOffer => cmpI o.Peer n) l + 1 := by
        simp [bsI, List.takeWhile_cons, (cmpI_lt x.Peer n).2 c]
      have e2 : bsF (fun o : GOffer => cmpI o.Peer n) (x :: l) = bsF (fun o : GOffer => cmpI o.Peer n) l := by simp only [bsF, e1, List.getElem?_cons_succ]
      rw [e1, e2, List.getElem?_cons_succ, ← ih]
      unfold ofPeer
      rw [List.filter_cons, if_neg (by simp; omega)]
    · have c' : ¬ cmpI x.Peer n < 0 := fun h' => c ((cmpI_lt _ _).1 h')
      have e1 : bsI (fun o : GOffer => cmpI o.Peer n) (x :: l) = 0 := by simp [bsI, List.takeWhile_cons, c']
      have e2 : bsF (fun o : GOffer => cmpI o.Peer n) (x :: l) = decide (x.Peer = n) := by
        simp only [bsF, e1, List.getElem?_cons_zero]
        exact decide_eq_decide.2 (cmpI_eq _ _)
      rw [e1, e2]
      by_cases d : x.Peer = n
      · have := ofPeer_none n l fun y hy => by have := h1 y hy; omega
        unfold ofPeer at this ⊢
        rw [List.filter_cons, if_pos (by simpa using d), this]
        simp [d]
      · have := ofPeer_none n (x :: l) fun y hy => by
          rcases List.mem_cons.1 hy with rfl | hy
          · omega
          · have := h1 y hy; omega
        rw [this]
        simp [d]
theorem ofPeer_len (n : Int) (l : List GOffer) (h : l.Pairwise (fun a b => a.Peer < b.Peer)) : (ofPeer n l).length ≤ 1 := by
  rw [ofPeer_bs n l h]
  split
  · cases l[bsI (fun o : GOffer => cmpI o.Peer n) l]? <;> simp
  · simp
def routeOf (x : GRow) (o : GOffer) : GRoute := ⟨x.Prefix, o.Attrs⟩
def heardR (n : Int) (x : GRow) : List GRoute := (ofPeer n x.Offers).map (routeOf x)
def heardL (n : Int) (l : List GRow) : List GRoute := l.flatMap (heardR n)
theorem heardL_snoc (n : Int) (l : List GRow) (i : Nat) (h : i < l.length) : heardL n (l.take (i + 1)) = heardL n (l.take i) ++ heardR n l[i] := by
  unfold heardL
  rw [take_step l i h, List.flatMap_append]
  simp
theorem rowsG_all : ∀ (q : Option GRow) (l : List GRow), rowsG q l = true → ∀ x ∈ l, goodRow x = true
  | _, [], _, _, hx => by simp at hx
  | q, y :: l, h, x, hx => by
    simp only [rowsG, Bool.and_eq_true] at h
    rcases List.mem_cons.1 hx with rfl | hx
    · exact h.1.1
    · exact rowsG_all _ l h.2 x hx
theorem goodRib_rows {r : GRib} (h : goodRib r = true) : r.Rows.length ≤ 20 ∧ ∀ x ∈ r.Rows, x.Offers.Pairwise (fun a b => a.Peer < b.Peer) ∧ ∀ o ∈ x.Offers, goodO o = true := by
  simp only [goodRib, Bool.and_eq_true, decide_eq_true_eq] at h
  refine ⟨h.2.1, fun x hx => ?_⟩
  have := rowsG_all _ _ h.2.2 x hx
  simp only [goodRow, goodOs, Bool.and_eq_true] at this
  obtain ⟨g1, g2⟩ := offersG_pw _ _ this.2.2
  exact ⟨g1, fun o ho => (g2 o ho).2⟩
theorem goodO_len {o : GOffer} (h : goodO o = true) : o.Attrs.Path.length ≤ 10 ∧ o.Attrs.Comms.length ≤ 6 := by
  simp only [goodO, goodA, goodPa, goodCm, Bool.and_eq_true, decide_eq_true_eq] at h
  omega
theorem heardL_len (n : Int) : ∀ (l : List GRow), (∀ x ∈ l, x.Offers.Pairwise (fun a b => a.Peer < b.Peer)) → (heardL n l).length ≤ l.length
  | [], _ => by simp [heardL]
  | x :: l, h => by
    have h1 := heardL_len n l fun y hy => h y (by simp [hy])
    have h2 := ofPeer_len n x.Offers (h x (by simp))
    simp only [heardL, List.flatMap_cons, List.length_append, heardR, List.length_map, List.length_cons] at h1 ⊢
    omega
def rHeardFrom (r : GRib) (n : Int) : List GRoute × Bool := if (goodRib r && isPeerB n) = true then (heardL n r.Rows, true) else ([], false)
end Go.V
