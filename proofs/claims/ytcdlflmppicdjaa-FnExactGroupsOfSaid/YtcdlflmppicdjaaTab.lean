/- What functions of the seat's program do, each proved of its code, under the bounds that its theorem names. -/
import Derived.Test.YtcdlflmppicdjaaTaa
set_option linter.all false
namespace Go.V
open Go.Proofs
set_option maxHeartbeats 1000000
set_option maxRecDepth 10000
set_option linter.unusedSimpArgs false
set_option linter.unusedVariables false
theorem ok_heldIntSS (q : Nat) (xs : List (List Int)) (k : Int) (hls : lens_IntSS xs) (hk : 0 < k) (hk2 : k + cn_IntSS xs ≤ 2305843009213693952) : CallOK Try.prog 32 [.c (rd q xs.length ((mk_IntSS xs k).1.map (cIntSi q))), .c (pi k)] (.c (pi (mk_IntSS xs k).2)) [.c (rd q xs.length ((mk_IntSS xs k).1.map (cIntSi q))), .c (pi k)] := by
  obtain ⟨hl0, hlx⟩ := hls
  unfold mk_IntSS
  unfold cn_IntSS at hk2
  have hyl := mkR_len mk_IntS xs k
  have hyi : ∀ (i : Nat) (h : i < xs.length) (h' : i < (mkR mk_IntS xs k).1.length), (mkR mk_IntS xs k).1[i] = (mk_IntS xs[i] (mkR mk_IntS (xs.take i) k).2).1 := fun i h _ => mkR_get mk_IntS xs i h k
  have hend : (mkR mk_IntS xs k).2 = k + cnR cn_IntS xs := mkR_snd (f := mk_IntS) (g := cn_IntS) (mk_IntS_snd) xs k
  generalize hY : (mkR mk_IntS xs k).1 = ys at hyl hyi ⊢
  refine okS (fn := Try.f32) [] h0 Try.func32 (by kernel_rfl) rfl Try.ntmps32 Try.results32 (by simp) ?_
  simp
  refine loopS [0, 1, 5] [] (fun n st => ∃ (i : Nat), i + n = xs.length ∧ st = ⟨slOf 21 [(0, .t (rd q xs.length (ys.map (cIntSi q)))), (1, .t (pi (mkR mk_IntS (xs.take i) k).2)), (5, .t (pi i))], ofL []⟩) xs.length ?_ ?_
  · rintro Inv hI
    simp
    subst hI
    exact ⟨0, by omega, rfl⟩
  · rintro Inv hI n st ⟨i, hi, rfl⟩
    have hKb := mkR_snd (f := mk_IntS) (g := cn_IntS) (mk_IntS_snd) (xs.take i) k
    have hyK : ∀ (h : i < xs.length), ys[i]'(by omega) = (mk_IntS xs[i] (mkR mk_IntS (xs.take i) k).2).1 := fun h => hyi i h (by omega)
    generalize hK : (mkR mk_IntS (xs.take i) k).2 = K at hKb hyK ⊢
    refine ewr_sound (M := []) h0 ?_
    simp
    refine brn_app (fun h => ?_) (fun h => ?_)
    · simp at h
      obtain ⟨m, rfl⟩ : ∃ m, n = m + 1 := ⟨n - 1, by omega⟩
      have hcn := cnR_take cn_IntS xs i h
      have hb : i < ys.length := by omega
      have ey := hyK h
      have hs0 := mk_IntS_snd xs[i] K
      have hn0 : ¬ (mk_IntS xs[i] K).2 < 0 := by omega
      simp [h, hb, ey, cIntSi, mk_IntS_len, hn0]
      refine Inv_intro (ok_heldIntS q xs[i] (K) (hlx _ (List.getElem_mem h)) (by omega) (by omega)) ?_
      simp [h, hb, ey, cIntSi, mk_IntS_len, hn0]
      have e4 := mkR_take mk_IntS xs i h k
      rw [hK] at e4
      subst hI
      refine Less_mk m (by omega) ⟨i + 1, by omega, ?_⟩
      rw [wrNext i (by omega), e4]
      all_goals rfl
    · simp at h
      have hx : xs.take i = xs := List.take_of_length_le (by omega)
      rw [hx] at hK
      simp [hK]
theorem ok_markIntS (xs : List Int) (k : Int) (hls : lens_IntS xs) (hk : 0 < k) (hk2 : k + cn_IntS xs ≤ 2305843009213693952) : CallOK Try.prog 69 [.c (.sl 0 3 xs.length (xs.map pi)), .c (pi k)] (.c (pi (mk_IntS xs k).2)) [.c (.sl 0 3 xs.length ((mk_IntS xs k).1.map pi)), .c (pi k)] := by
  obtain ⟨hl0, hlx⟩ := hls
  unfold mk_IntS
  unfold cn_IntS at hk2
  refine okS (fn := Try.f69) [] h0 Try.func69 (by kernel_rfl) rfl Try.ntmps69 Try.results69 (by simp) ?_
  simp
  refine loopS [0, 1, 5] [] (fun n st => ∃ (i : Nat), i + n = xs.length ∧ st = ⟨slOf 19 [(0, .ref ⟨.arg 0 0, []⟩ 0 xs.length), (1, .t (pi (mkR (fun (_ : Int) k => (k, k + 1)) (xs.take i) k).2)), (5, .t (pi i))], ofL [(.arg 0 0, .sl 0 3 xs.length (((mkR (fun (_ : Int) k => (k, k + 1)) (xs.take i) k).1.map pi) ++ ((xs.drop i).map pi)))]⟩) xs.length ?_ ?_
  · rintro Inv hI
    simp
    subst hI
    exact ⟨0, by omega, rfl⟩
  · rintro Inv hI n st ⟨i, hi, rfl⟩
    have hAl : (((mkR (fun (_ : Int) k => (k, k + 1)) (xs.take i) k).1.map pi)).length = i * 1 := by rw [List.length_map, mkR_len, len_take xs i (by omega), Nat.mul_one]
    have hKb := mkR_snd (f := (fun (_ : Int) k => (k, k + 1))) (g := (fun (_ : Int) => 1)) (fun _ _ => rfl) (xs.take i) k
    generalize hA : ((mkR (fun (_ : Int) k => (k, k + 1)) (xs.take i) k).1.map pi) = A at hAl ⊢
    generalize hK : (mkR (fun (_ : Int) k => (k, k + 1)) (xs.take i) k).2 = K at hKb ⊢
    generalize hB : ((xs.drop i).map pi) = B
    refine ewr_sound (M := []) h0 ?_
    simp
    refine brn_app (fun h => ?_) (fun h => ?_)
    · simp at h
      obtain ⟨m, rfl⟩ : ∃ m, n = m + 1 := ⟨n - 1, by omega⟩
      have hcn := cnR_take (fun (_ : Int) => 1) xs i h
      have hBe : B = [pi xs[i]] ++ ((xs.drop (i + 1)).map pi) := by rw [← hB, drop_step xs i h]; rfl
      generalize hC : ((xs.drop (i + 1)).map pi) = D at hBe
      subst hBe
      rw [Nat.mul_one] at hAl
      have hw0 : IntKind.wrap .i64 (K + 1) = K + 1 := wrap64 (by omega) (by omega)
      simp [h, hAl, hw0]
      have e4 := mkR_take (fun (_ : Int) k => (k, k + 1)) xs i h k
      rw [hK] at e4
      have e3 : ((mkR (fun (_ : Int) k => (k, k + 1)) (xs.take (i + 1)) k).1.map pi) = A ++ [pi ((fun (_ : Int) k => (k, k + 1)) xs[i] K).1] := by rw [e4, List.map_append, hA]; rfl
      subst hI
      refine Less_mk m (by omega) ⟨i + 1, by omega, ?_⟩
      rw [wrNext i (by omega), e3, e4, hC, List.append_assoc]
      all_goals rfl
    · simp at h
      have hx : xs.take i = xs := List.take_of_length_le (by omega)
      have hBn : B = [] := by rw [← hB, List.drop_of_length_le (by omega)]; rfl
      subst hBn
      rw [hx] at hA hK
      subst hK
      subst hA
      simp
theorem ok_markIntSS (xs : List (List Int)) (k : Int) (hls : lens_IntSS xs) (hk : 0 < k) (hk2 : k + cn_IntSS xs ≤ 2305843009213693952) : CallOK Try.prog 31 [.c (.sl 0 72 xs.length (xs.map (cIntSo))), .c (pi k)] (.c (pi (mk_IntSS xs k).2)) [.c (.sl 0 72 xs.length ((mk_IntSS xs k).1.map (cIntSo))), .c (pi k)] := by
  obtain ⟨hl0, hlx⟩ := hls
  unfold mk_IntSS
  unfold cn_IntSS at hk2
  refine okS (fn := Try.f31) [(69, [1,0])] h0 Try.func31 (by kernel_rfl) rfl Try.ntmps31 Try.results31 (by simp) ?_
  simp
  refine loopS [0, 1, 5] [] (fun n st => ∃ (i : Nat), i + n = xs.length ∧ st = ⟨slOf 19 [(0, .ref ⟨.arg 0 0, []⟩ 0 xs.length), (1, .t (pi (mkR mk_IntS (xs.take i) k).2)), (5, .t (pi i))], ofL [(.arg 0 0, .sl 0 72 xs.length (((mkR mk_IntS (xs.take i) k).1.map (cIntSo)) ++ ((xs.drop i).map (cIntSo))))]⟩) xs.length ?_ ?_
  · rintro Inv hI
    simp
    subst hI
    exact ⟨0, by omega, rfl⟩
  · rintro Inv hI n st ⟨i, hi, rfl⟩
    have hAl : (((mkR mk_IntS (xs.take i) k).1.map (cIntSo))).length = i * 1 := by rw [List.length_map, mkR_len, len_take xs i (by omega), Nat.mul_one]
    have hKb := mkR_snd (f := mk_IntS) (g := cn_IntS) (mk_IntS_snd) (xs.take i) k
    generalize hA : ((mkR mk_IntS (xs.take i) k).1.map (cIntSo)) = A at hAl ⊢
    generalize hK : (mkR mk_IntS (xs.take i) k).2 = K at hKb ⊢
    generalize hB : ((xs.drop i).map (cIntSo)) = B
    refine ewr_sound (M := [(69, [1, 0])]) h0 ?_
    simp
    refine brn_app (fun h => ?_) (fun h => ?_)
    · simp at h
      obtain ⟨m, rfl⟩ : ∃ m, n = m + 1 := ⟨n - 1, by omega⟩
      have hcn := cnR_take cn_IntS xs i h
      have hBe : B = [.sl 0 3 xs[i].length (xs[i].map pi)] ++ ((xs.drop (i + 1)).map (cIntSo)) := by rw [← hB, drop_step xs i h]; rfl
      generalize hC : ((xs.drop (i + 1)).map (cIntSo)) = D at hBe
      subst hBe
      rw [Nat.mul_one] at hAl
      have hs0 := mk_IntS_snd xs[i] K
      simp [h, hAl]
      refine Inv_intro (ok_markIntS xs[i] (K) (hlx _ (List.getElem_mem h)) (by omega) (by omega)) ?_
      simp [h, hAl]
      have e4 := mkR_take mk_IntS xs i h k
      rw [hK] at e4
      have e3 : ((mkR mk_IntS (xs.take (i + 1)) k).1.map (cIntSo)) = A ++ [cIntSo (mk_IntS xs[i] K).1] := by rw [e4, List.map_append, hA]; rfl
      subst hI
      refine Less_mk m (by omega) ⟨i + 1, by omega, ?_⟩
      rw [wrNext i (by omega), e3, e4, hC, List.append_assoc]
      all_goals first | rfl | simp [cIntSo]
    · simp at h
      have hx : xs.take i = xs := List.take_of_length_le (by omega)
      have hBn : B = [] := by rw [← hB, List.drop_of_length_le (by omega)]; rfl
      subst hBn
      rw [hx] at hA hK
      subst hK
      subst hA
      simp
theorem ok_markRouteS (xs : List GRoute) (k : Int) (hls : lens_RouteS xs) (hk : 0 < k) (hk2 : k + cn_RouteS xs ≤ 2305843009213693952) : CallOK Try.prog 30 [.c (.sl 0 80 xs.length (xs.flatMap GRoute.co)), .c (pi k)] (.c (pi (mk_RouteS xs k).2)) [.c (.sl 0 80 xs.length ((mk_RouteS xs k).1.flatMap GRoute.co)), .c (pi k)] := by
  obtain ⟨hl0, hlx⟩ := hls
  unfold mk_RouteS
  unfold cn_RouteS at hk2
  refine okS (fn := Try.f30) [(69, [1,0])] h0 Try.func30 (by kernel_rfl) rfl Try.ntmps30 Try.results30 (by simp) ?_
  simp
  refine loopS [0, 1, 5] [] (fun n st => ∃ (i : Nat), i + n = xs.length ∧ st = ⟨slOf 77 [(0, .ref ⟨.arg 0 0, []⟩ 0 xs.length), (1, .t (pi (mkR GRoute.mark (xs.take i) k).2)), (5, .t (pi i))], ofL [(.arg 0 0, .sl 0 80 xs.length (((mkR GRoute.mark (xs.take i) k).1.flatMap GRoute.co) ++ ((xs.drop i).flatMap GRoute.co)))]⟩) xs.length ?_ ?_
  · rintro Inv hI
    simp
    subst hI
    exact ⟨0, by omega, rfl⟩
  · rintro Inv hI n st ⟨i, hi, rfl⟩
    have hAl : (((mkR GRoute.mark (xs.take i) k).1.flatMap GRoute.co)).length = i * 8 := by rw [fm_len GRoute.co 8 (fun _ => rfl), mkR_len, len_take xs i (by omega)]
    have hKb := mkR_snd (f := GRoute.mark) (g := GRoute.cn) (GRoute.mark_snd) (xs.take i) k
    generalize hA : ((mkR GRoute.mark (xs.take i) k).1.flatMap GRoute.co) = A at hAl ⊢
    generalize hK : (mkR GRoute.mark (xs.take i) k).2 = K at hKb ⊢
    generalize hB : ((xs.drop i).flatMap GRoute.co) = B
    refine ewr_sound (M := [(69, [1, 0])]) h0 ?_
    simp
    refine brn_app (fun h => ?_) (fun h => ?_)
    · simp at h
      obtain ⟨m, rfl⟩ : ∃ m, n = m + 1 := ⟨n - 1, by omega⟩
      have hcn := cnR_take GRoute.cn xs i h
      have hBe : B = [pi xs[i].Prefix.Addr, pi xs[i].Prefix.Len, pi xs[i].Attrs.Origin, .sl 0 3 xs[i].Attrs.Path.length (xs[i].Attrs.Path.map pi), pi xs[i].Attrs.Next, pi xs[i].Attrs.Med, pi xs[i].Attrs.Pref, .sl 0 3 xs[i].Attrs.Comms.length (xs[i].Attrs.Comms.map pi)] ++ ((xs.drop (i + 1)).flatMap GRoute.co) := by rw [← hB, drop_step xs i h]; rfl
      generalize hC : ((xs.drop (i + 1)).flatMap GRoute.co) = D at hBe
      subst hBe
      have hxl := hlx _ (List.getElem_mem h)
      simp only [GRoute.cn] at hcn
      have hw0 : IntKind.wrap .i64 (K + 1) = K + 1 := wrap64 (by omega) (by omega)
      have hw1 : IntKind.wrap .i64 ((K + 1) + 1) = (K + 1) + 1 := wrap64 (by omega) (by omega)
      have hw2 : IntKind.wrap .i64 (((K + 1) + 1) + 1) = ((K + 1) + 1) + 1 := wrap64 (by omega) (by omega)
      have hs3 := mk_IntS_snd xs[i].Attrs.Path (((K + 1) + 1) + 1)
      have hw4 : IntKind.wrap .i64 ((mk_IntS xs[i].Attrs.Path (((K + 1) + 1) + 1)).2 + 1) = (mk_IntS xs[i].Attrs.Path (((K + 1) + 1) + 1)).2 + 1 := wrap64 (by omega) (by omega)
      have hw5 : IntKind.wrap .i64 (((mk_IntS xs[i].Attrs.Path (((K + 1) + 1) + 1)).2 + 1) + 1) = ((mk_IntS xs[i].Attrs.Path (((K + 1) + 1) + 1)).2 + 1) + 1 := wrap64 (by omega) (by omega)
      have hw6 : IntKind.wrap .i64 ((((mk_IntS xs[i].Attrs.Path (((K + 1) + 1) + 1)).2 + 1) + 1) + 1) = (((mk_IntS xs[i].Attrs.Path (((K + 1) + 1) + 1)).2 + 1) + 1) + 1 := wrap64 (by omega) (by omega)
      have hs7 := mk_IntS_snd xs[i].Attrs.Comms ((((mk_IntS xs[i].Attrs.Path (((K + 1) + 1) + 1)).2 + 1) + 1) + 1)
      have hq0 : i * 8 + 2 + 1 = i * 8 + 3 := by omega
      have hq1 : i * 8 + 2 + 2 = i * 8 + 4 := by omega
      have hq2 : i * 8 + 2 + 3 = i * 8 + 5 := by omega
      have hq3 : i * 8 + 2 + 4 = i * 8 + 6 := by omega
      have hq4 : i * 8 + 2 + 5 = i * 8 + 7 := by omega
      simp [h, hAl, hw0, hw1, hw2, hw4, hw5, hw6, hq0, hq1, hq2, hq3, hq4]
      refine Inv_intro (ok_markIntS xs[i].Attrs.Path ((((K + 1) + 1) + 1)) hxl.1 (by omega) (by omega)) ?_
      simp [h, hAl, hw0, hw1, hw2, hw4, hw5, hw6, hq0, hq1, hq2, hq3, hq4]
      refine Inv_intro (ok_markIntS xs[i].Attrs.Comms (((((mk_IntS xs[i].Attrs.Path (((K + 1) + 1) + 1)).2 + 1) + 1) + 1)) hxl.2 (by omega) (by omega)) ?_
      simp [h, hAl, hw0, hw1, hw2, hw4, hw5, hw6, hq0, hq1, hq2, hq3, hq4]
      have e4 := mkR_take GRoute.mark xs i h k
      rw [hK] at e4
      have e3 : ((mkR GRoute.mark (xs.take (i + 1)) k).1.flatMap GRoute.co) = A ++ GRoute.co (GRoute.mark xs[i] K).1 := by rw [e4, List.flatMap_append, hA, List.flatMap_cons, List.flatMap_nil, List.append_nil]
      subst hI
      refine Less_mk m (by omega) ⟨i + 1, by omega, ?_⟩
      rw [wrNext i (by omega), e3, e4, hC, List.append_assoc]
      all_goals first | rfl | simp [GRoute.mark] | simp
    · simp at h
      have hx : xs.take i = xs := List.take_of_length_le (by omega)
      have hBn : B = [] := by rw [← hB, List.drop_of_length_le (by omega)]; rfl
      subst hBn
      rw [hx] at hA hK
      subst hK
      subst hA
      simp
theorem ok_szIntS (k : Nat) (xs : List Int) (left : Int) (h1 : 0 ≤ left) (h2 : left ≤ 1048576) (hf : fits_IntS xs) : CallOK Try.prog 146 [.c (rd k xs.length (xs.map pi)), .c (pi left)] (.c (pi (szr left (wt_IntS xs)))) [.c (rd k xs.length (xs.map pi)), .c (pi left)] := by
  obtain ⟨hl, hx⟩ := hf
  refine okS (fn := Try.f146) [] h0 Try.func146 (by kernel_rfl) rfl Try.ntmps146 Try.results146 (by simp) ?_
  have hw : IntKind.wrap .i64 (left - xs.length) = left - xs.length := wrap64 (by omega) (by omega)
  have hwl := len_wt_IntS xs
  simp [hw]
  refine brn_app (fun h => ?_) (fun h => ?_)
  · simp at h
    have e1 : szr left (wt_IntS xs) = -1 := szr_neg (by omega)
    simp [e1]
  · simp at h
    have e1 : szr left (wt_IntS xs) = left - xs.length := by unfold wt_IntS; exact szr_ge (by omega)
    simp [e1]
theorem ok_szAttrs (k : Nat) (x : GAttrs) (left : Int) (h1 : 0 ≤ left) (h2 : left ≤ 1048576) (hf : GAttrs.fits x) : CallOK Try.prog 101 [.agg (GAttrs.ci k x), .c (pi left)] (.c (pi (szr left (GAttrs.wt x)))) [.agg (GAttrs.ci k x), .c (pi left)] := by
  simp only [GAttrs.fits] at hf
  obtain ⟨hf0, hf1⟩ := hf
  refine okS (fn := Try.f101) [] h0 Try.func101 (by kernel_rfl) rfl Try.ntmps101 Try.results101 (by simp) ?_
  simp
  refine Inv_intro (ok_szIntS k x.Path (left) (by omega) (by omega) hf0) ?_
  simp
  refine brn_app (fun a0 => ?_) (fun a0 => ?_)
  · simp at a0
    have b0 := szr_lt0 a0 (by omega)
    have e : szr left (GAttrs.wt x) = -1 := szr_neg (by unfold GAttrs.wt; omega)
    simp [e]
  · simp at a0
    have b0 := szr_ge0 a0
    have e0 := szr_ge b0
    simp only [e0]
    simp
    refine Inv_intro (ok_szIntS k x.Comms (left - (wt_IntS x.Path : Nat)) (by omega) (by omega) hf1) ?_
    simp
    refine brn_app (fun a1 => ?_) (fun a1 => ?_)
    · simp at a1
      have b1 := szr_lt0 a1 (by omega)
      have e : szr left (GAttrs.wt x) = -1 := szr_neg (by unfold GAttrs.wt; omega)
      simp [e]
    · simp at a1
      have b1 := szr_ge0 a1
      have e1 := szr_ge b1
      simp only [e1]
      have e : szr left (GAttrs.wt x) = left - (wt_IntS x.Path : Nat) - (wt_IntS x.Comms : Nat) := by
        rw [szr_ge (by unfold GAttrs.wt; omega)]
        unfold GAttrs.wt
        omega
      simp [e]
theorem ok_szRoute (k : Nat) (x : GRoute) (left : Int) (h1 : 0 ≤ left) (h2 : left ≤ 1048576) (hf : GRoute.fits x) : CallOK Try.prog 50 [.agg (GRoute.ci k x), .c (pi left)] (.c (pi (szr left (GRoute.wt x)))) [.agg (GRoute.ci k x), .c (pi left)] := by
  simp only [GRoute.fits] at hf
  have hf0 := hf
  refine okS (fn := Try.f50) [] h0 Try.func50 (by kernel_rfl) rfl Try.ntmps50 Try.results50 (by simp) ?_
  simp
  refine Inv_intro (ok_szAttrs k x.Attrs (left) (by omega) (by omega) hf0) ?_
  simp
  refine brn_app (fun a0 => ?_) (fun a0 => ?_)
  · simp at a0
    have b0 := szr_lt0 a0 (by omega)
    have e : szr left (GRoute.wt x) = -1 := szr_neg (by unfold GRoute.wt; omega)
    simp [e]
  · simp at a0
    have b0 := szr_ge0 a0
    have e0 := szr_ge b0
    simp only [e0]
    have e : szr left (GRoute.wt x) = left - (GAttrs.wt x.Attrs : Nat) := by
      rw [szr_ge (by unfold GRoute.wt; omega)]
      unfold GRoute.wt
      omega
    simp [e]
theorem ok_szRouteS (k : Nat) (xs : List GRoute) (left : Int) (h1 : 0 ≤ left) (h2 : left ≤ 1048576) (hf : fits_RouteS xs) : CallOK Try.prog 16 [.c (rd k xs.length (xs.flatMap (GRoute.ci k))), .c (pi left)] (.c (pi (szr left (wt_RouteS xs)))) [.c (rd k xs.length (xs.flatMap (GRoute.ci k))), .c (pi left)] := by
  obtain ⟨hl, hx⟩ := hf
  refine okS (fn := Try.f16) [] h0 Try.func16 (by kernel_rfl) rfl Try.ntmps16 Try.results16 (by simp) ?_
  have hw : IntKind.wrap .i64 (left - xs.length) = left - xs.length := wrap64 (by omega) (by omega)
  have hwl := len_wt_RouteS xs
  simp [hw]
  refine brn_app (fun h => ?_) (fun h => ?_)
  · simp at h
    have e1 : szr left (wt_RouteS xs) = -1 := szr_neg (by omega)
    simp [e1]
  · simp at h
    simp
    refine loopS [0, 1, 5] [] (fun n st => ∃ (i : Nat) (m : Int), i + n = xs.length ∧ 0 ≤ m ∧ m ≤ 1048576 ∧ szr m (((xs.drop i).map GRoute.wt).sum) = szr left (wt_RouteS xs) ∧ st = ⟨slOf 27 [(0, .t (rd k xs.length (xs.flatMap (GRoute.ci k)))), (1, .t (pi m)), (5, .t (pi i))], ofL []⟩) xs.length ?_ ?_
    · rintro Inv hI
      simp
      subst hI
      exact ⟨0, left - xs.length, by omega, by omega, by omega, by rw [List.drop_zero, wt_RouteS, wtR, szr_add (by omega)], rfl⟩
    · rintro Inv hI n st ⟨i, m, hi, hm1, hm2, hg, rfl⟩
      refine ewr_sound (M := []) h0 ?_
      simp
      refine brn_app (fun h3 => ?_) (fun h3 => ?_)
      · simp at h3
        have hxi := hx xs[i] (List.getElem_mem h3)
        rw [drop_step xs i h3, List.map_cons, List.sum_cons] at hg
        have hd := fm_drop (GRoute.ci k) 8 (fun _ => rfl) xs i h3
        have hlen := fm_len (GRoute.ci k) 8 (fun _ => rfl) xs
        have hlt : i * 8 < xs.length * 8 := by omega
        simp [h3, hd, hlen, hlt]
        refine Inv_intro (ok_szRoute k xs[i] m hm1 hm2 hxi) ?_
        simp
        refine brn_app (fun h4 => ?_) (fun h4 => ?_)
        · simp at h4
          have h5 := szr_lt0 h4 hm1
          rw [szr_add_neg h5] at hg
          simp [← hg]
        · simp at h4
          have h5 := szr_ge0 h4
          have e5 := szr_ge h5
          rw [szr_add h5, ← e5] at hg
          simp
          subst hI
          exact Less_mk (n - 1) (by omega) ⟨i + 1, szr m (GRoute.wt xs[i]), by omega, by omega, by omega, hg, by rw [wrNext i (by omega)]⟩
      · simp at h3
        rw [List.drop_of_length_le (by omega), List.map_nil, List.sum_nil, szr_zero hm1] at hg
        simp [hg]
theorem ok_toIntS (k : Nat) (xs : List Int) (hwt : wt_IntS xs ≤ 1048576) : CallOK Try.prog 147 [.c (rd k xs.length (xs.map pi))] (.c (.sl 0 3 xs.length (xs.map pi))) [.c (rd k xs.length (xs.map pi))] := by
  have hl := len_wt_IntS xs
  refine okS (fn := Try.f147) [] h0 Try.func147 (by kernel_rfl) rfl Try.ntmps147 Try.results147 (by simp) ?_
  have hb1 : (xs.length : Int) ≤ 281474976710656 := by omega
  have hb2 : 8 * (xs.length : Int) ≤ 281474976710656 := by omega
  simp [hb1, hb2]
  refine loopS [0, 3, 4] [.op 1 2 0] (fun n st => ∃ (i : Nat), i + n = xs.length ∧ st = ⟨slOf 22 [(0, .t (rd k xs.length (xs.map pi))), (3, .ref ⟨.op 1 2 0, []⟩ 0 xs.length), (4, .t (pi i))], ofL [(.op 1 2 0, .sl 0 3 xs.length (((xs.take i).map pi) ++ List.replicate n (.raw (.int .i64 0))))]⟩) xs.length ?_ ?_
  · rintro Inv hI
    simp
    subst hI
    exact ⟨0, by omega, by simp⟩
  · rintro Inv hI n st ⟨i, hi, rfl⟩
    have hA := map_take_len pi xs i (by omega)
    generalize hAe : ((xs.take i).map pi) = A at hA ⊢
    refine ewr_sound (M := []) h0 ?_
    simp
    refine brn_app (fun h => ?_) (fun h => ?_)
    · simp at h
      obtain ⟨m, rfl⟩ : ∃ m, n = m + 1 := ⟨n - 1, by omega⟩
      simp [h, hA, List.replicate_succ]
      have e3 : ((xs.take (i + 1)).map pi) = A ++ [pi xs[i]] := by rw [take_step xs i h, List.map_append, hAe]; rfl
      subst hI
      refine Less_mk m (by omega) ⟨i + 1, by omega, ?_⟩
      rw [wrNext i (by omega), e3, List.append_assoc]
      all_goals rfl
    · simp at h
      have hn : n = 0 := by omega
      subst hn
      have ht : List.take i xs = xs := List.take_of_length_le (by omega)
      have ht2 : List.take (xs.length) (xs.map pi) = (xs.map pi) := List.take_of_length_le (by simp)
      rw [← hAe, ht]
      simp [ht2]
theorem ok_toAttrs (k : Nat) (x : GAttrs) (hwt : GAttrs.wt x ≤ 1048576) : CallOK Try.prog 104 [.agg (GAttrs.ci k x)] (.agg (GAttrs.co x)) [.agg (GAttrs.ci k x)] := by
  unfold GAttrs.wt at hwt
  refine okS (fn := Try.f104) [] h0 Try.func104 (by kernel_rfl) rfl Try.ntmps104 Try.results104 (by simp) ?_
  simp
  refine Inv_intro (ok_toIntS k x.Path (by omega)) ?_
  simp
  refine Inv_intro (ok_toIntS k x.Comms (by omega)) ?_
  simp
theorem ok_toPrefix (x : GPrefix) : CallOK Try.prog 103 [.agg (GPrefix.c x)] (.agg (GPrefix.c x)) [.agg (GPrefix.c x)] := by
  refine okS (fn := Try.f103) [] h0 Try.func103 (by kernel_rfl) rfl Try.ntmps103 Try.results103 (by simp) ?_
  simp
theorem ok_toRoute (k : Nat) (x : GRoute) (hwt : GRoute.wt x ≤ 1048576) : CallOK Try.prog 53 [.agg (GRoute.ci k x)] (.agg (GRoute.co x)) [.agg (GRoute.ci k x)] := by
  unfold GRoute.wt at hwt
  refine okS (fn := Try.f53) [] h0 Try.func53 (by kernel_rfl) rfl Try.ntmps53 Try.results53 (by simp) ?_
  simp
  refine Inv_intro (ok_toPrefix x.Prefix) ?_
  simp
  refine Inv_intro (ok_toAttrs k x.Attrs (by omega)) ?_
  simp
theorem ok_toRouteS (k : Nat) (xs : List GRoute) (hwt : wt_RouteS xs ≤ 1048576) : CallOK Try.prog 18 [.c (rd k xs.length (xs.flatMap (GRoute.ci k)))] (.c (.sl 0 80 xs.length (xs.flatMap GRoute.co))) [.c (rd k xs.length (xs.flatMap (GRoute.ci k)))] := by
  have hl := len_wt_RouteS xs
  refine okS (fn := Try.f18) [] h0 Try.func18 (by kernel_rfl) rfl Try.ntmps18 Try.results18 (by simp) ?_
  have hb1 : (xs.length : Int) ≤ 281474976710656 := by omega
  have hb2 : 96 * (xs.length : Int) ≤ 281474976710656 := by omega
  simp [hb1, hb2]
  refine loopS [0, 3, 4] [.op 1 2 0] (fun n st => ∃ (i : Nat), i + n = xs.length ∧ st = ⟨slOf 23 [(0, .t (rd k xs.length (xs.flatMap (GRoute.ci k)))), (3, .ref ⟨.op 1 2 0, []⟩ 0 xs.length), (4, .t (pi i))], ofL [(.op 1 2 0, .sl 0 80 xs.length (((xs.take i).flatMap GRoute.co) ++ (List.replicate n [.raw (.int .i64 0), .raw (.int .i64 0), .raw (.int .i64 0), .sl 0 nilE 0 [], .raw (.int .i64 0), .raw (.int .i64 0), .raw (.int .i64 0), .sl 0 nilE 0 []]).flatten))]⟩) xs.length ?_ ?_
  · rintro Inv hI
    simp
    subst hI
    exact ⟨0, by omega, by simp⟩
  · rintro Inv hI n st ⟨i, hi, rfl⟩
    have hA := fm_take_len GRoute.co 8 (fun _ => rfl) xs i (by omega)
    generalize hAe : ((xs.take i).flatMap GRoute.co) = A at hA ⊢
    refine ewr_sound (M := []) h0 ?_
    simp
    refine brn_app (fun h => ?_) (fun h => ?_)
    · simp at h
      obtain ⟨m, rfl⟩ : ∃ m, n = m + 1 := ⟨n - 1, by omega⟩
      have hd := fm_drop (GRoute.ci k) 8 (fun _ => rfl) xs i h
      have hlen := fm_len (GRoute.ci k) 8 (fun _ => rfl) xs
      have hlt : i * 8 < xs.length * 8 := by omega
      simp [h, hd, hlen, hlt]
      refine Inv_intro (ok_toRoute k xs[i] (by have := mem_wt_RouteS (List.getElem_mem h); omega)) ?_
      simp [h, hA, List.replicate_succ]
      have e3 : ((xs.take (i + 1)).flatMap GRoute.co) = A ++ GRoute.co xs[i] := by rw [take_step xs i h, List.flatMap_append, hAe, List.flatMap_cons, List.flatMap_nil, List.append_nil]
      subst hI
      refine Less_mk m (by omega) ⟨i + 1, by omega, ?_⟩
      rw [wrNext i (by omega), e3, List.append_assoc]
      all_goals rfl
    · simp at h
      have hn : n = 0 := by omega
      subst hn
      have ht : List.take i xs = xs := List.take_of_length_le (by omega)
      have ht2 : List.take (xs.length * 8) (xs.flatMap GRoute.co) = (xs.flatMap GRoute.co) := List.take_of_length_le (by rw [fm_len GRoute.co 8 (fun _ => rfl)]; exact Nat.le_refl _)
      have hlo := fm_len GRoute.co 8 (fun _ => rfl) xs
      rw [← hAe, ht]
      simp [ht2, hlo, -List.length_flatMap]
def inR (n lo hi : Int) : Bool := decide (lo ≤ n ∧ n ≤ hi)
def szP (n : Int) : Int := 2 ^ (32 - n).toNat
theorem shl_pow (m : Nat) (h : m ≤ 32) : IntKind.wrap .i64 (1 * 2 ^ min m IntKind.i64.bits) = 2 ^ m := by
  have : ∀ m : Fin 33, IntKind.wrap .i64 (1 * 2 ^ min m.1 IntKind.i64.bits) = 2 ^ m.1 := by decide
  exact this ⟨m, by omega⟩
theorem pow_ne (m : Nat) : ¬ (2 : Int) ^ m = 0 := by
  have : (0 : Int) < 2 ^ m := Int.pow_pos (by decide)
  omega
def goodPx (p : GPrefix) : Bool := inR p.Len 0 32 && (inR p.Addr 0 4294967295 && decide (p.Addr.tmod (szP p.Len) = 0))
def cmpI (a b : Int) : Int := if a < b then -1 else if b < a then 1 else 0
def cmpPx (p q : GPrefix) : Int := if cmpI p.Addr q.Addr = 0 then cmpI p.Len q.Len else cmpI p.Addr q.Addr
def orI : List Int → Int
  | [] => 0
  | x :: xs => if x = 0 then orI xs else x
def isAsnB (n : Int) : Bool := inR n 1 65535
def isValB (n : Int) : Bool := inR n 0 1000000
def adjI (q : Option Int) (x : Int) : Bool := match q with
  | none => true
  | some q => decide (q < x)
def commsG : Option Int → List Int → Bool
  | _, [] => true
  | q, x :: xs => isValB x && adjI q x && commsG (some x) xs
def goodCm (l : List Int) : Bool := commsG none l && decide (l.length ≤ 6)
def goodPa (l : List Int) : Bool := decide (l.length ≤ 10) && l.all isAsnB
def goodA (a : GAttrs) : Bool := inR a.Origin 0 2 && (goodPa a.Path && (inR a.Next 0 4294967295 && (isValB a.Med && (isValB a.Pref && goodCm a.Comms))))
def prevI (l : List Int) (i : Nat) : Option Int := if i = 0 then none else l[i - 1]?
theorem prevI_next (l : List Int) (i : Nat) (h : i < l.length) : prevI l (i + 1) = some l[i] := by simp [prevI, h]
def attrOK (a : GAttrs) : Prop := a.Path.length ≤ 140737488351232 ∧ a.Comms.length ≤ 140737488351232
def goodR (r : GRoute) : Bool := goodPx r.Prefix && goodA r.Attrs
def adjR (q : Option GRoute) (x : GRoute) : Bool := match q with
  | none => true
  | some q => decide (cmpPx q.Prefix x.Prefix < 0)
def routesG : Option GRoute → List GRoute → Bool
  | _, [] => true
  | q, x :: xs => goodR x && adjR q x && routesG (some x) xs
def goodRs (l : List GRoute) : Bool := routesG none l && decide (l.length ≤ 20)
def prevR (l : List GRoute) (i : Nat) : Option GRoute := if i = 0 then none else l[i - 1]?
theorem prevR_next (l : List GRoute) (i : Nat) (h : i < l.length) : prevR l (i + 1) = some l[i] := by simp [prevR, h]
def routesOK (l : List GRoute) : Prop := l.length ≤ 140737488351232 ∧ ∀ r ∈ l, attrOK r.Attrs
theorem ok_EqualI (k k' : Nat) (xs ys : List Int) (ha : xs.length ≤ 140737488351232) (hb : ys.length ≤ 140737488351232) : CallOK Try.prog 153 [.c (rd k xs.length (xs.map pi)), .c (rd k' ys.length (ys.map pi))] (.c (pb (decide (xs = ys)))) [.c (rd k xs.length (xs.map pi)), .c (rd k' ys.length (ys.map pi))] := by
  refine okS (fn := Try.f153) [] h0 Try.func153 (by kernel_rfl) rfl Try.ntmps153 Try.results153 (by simp) ?_
  simp
  refine brn_app (fun h => ?_) (fun h => ?_)
  · simp at h
    simp
    rintro rfl
    exact h rfl
  · simp at h
    have hl : ys.length = xs.length := by omega
    simp
    refine loopS [0, 1, 12, 13] [] (fun n st => ∃ (i : Nat), i + n = xs.length ∧ (xs.drop i = ys.drop i ↔ xs = ys) ∧ st = ⟨slOf 26 [(0, .t (rd k xs.length (xs.map pi))), (1, .t (rd k' ys.length (ys.map pi))), (12, .t (pi xs.length)), (13, .t (pi i))], ofL []⟩) xs.length ?_ ?_
    · rintro Inv hI
      simp
      subst hI
      exact ⟨0, by omega, by simp, rfl⟩
    · rintro Inv hI n st ⟨i, hi, htk, rfl⟩
      refine ewr_sound (M := []) h0 ?_
      simp
      refine brn_app (fun h => ?_) (fun h => ?_)
      · simp at h
        have hib : i < ys.length := by omega
        rw [drop_step xs i h, drop_step ys i hib, List.cons.injEq] at htk
        simp
        refine drawP E0 [⟨[], allD 26, true⟩, ⟨[], allD 26, true⟩, ⟨[], allD 26, true⟩, ⟨[], allD 26, true⟩, ⟨[], allD 26, true⟩, ⟨[], allD 26, true⟩, ⟨[], allD 26, true⟩, ⟨[], allD 26, true⟩, ⟨[], allD 26, true⟩] h0 hm (E0_ok _) (by kernel_rfl) (by kernel_rfl) ?_
        simp [h, hib]
        refine brn_app (fun h2 => ?_) (fun h2 => ?_)
        · simp at h2
          simp
          intro he
          exact h2 (htk.2 he).1
        · simp at h2
          simp
          subst hI
          exact Less_mk (n - 1) (by omega) ⟨i + 1, by omega, ⟨fun h4 => htk.1 ⟨h2, h4⟩, fun h4 => (htk.2 h4).2⟩, by rw [wrNext i (by omega)]⟩
      · simp at h
        rw [List.drop_of_length_le (by omega), List.drop_of_length_le (by omega)] at htk
        simp
        exact htk.1 rfl
theorem attrs_ext (a b : GAttrs) : decide (a = b) = (decide (a.Origin = b.Origin) && (decide (a.Path = b.Path) && (decide (a.Next = b.Next) && (decide (a.Med = b.Med) && (decide (a.Pref = b.Pref) && decide (a.Comms = b.Comms)))))) := by
  cases a
  cases b
  simp
theorem ok_sameAttrs (k k' : Nat) (a b : GAttrs) (ha : attrOK a) (hb : attrOK b) : CallOK Try.prog 111 [.agg (GAttrs.ci k a), .agg (GAttrs.ci k' b)] (.c (pb (decide (a = b)))) [.agg (GAttrs.ci k a), .agg (GAttrs.ci k' b)] := by
  refine okS (fn := Try.f111) [] h0 Try.func111 (by kernel_rfl) rfl Try.ntmps111 Try.results111 (by simp) ?_
  rw [attrs_ext]
  by_cases c1 : a.Origin = b.Origin
  · simp [c1]
    refine Inv_intro (ok_EqualI k k' a.Path b.Path ha.1 hb.1) ?_
    by_cases c2 : a.Path = b.Path
    · by_cases c3 : a.Next = b.Next
      · by_cases c4 : a.Med = b.Med
        · by_cases c5 : a.Pref = b.Pref
          · simp [c2, c3, c4, c5]
            refine Inv_intro (ok_EqualI k k' a.Comms b.Comms ha.2 hb.2) ?_
            simp
          · simp [c2, c3, c4, c5]
        · simp [c2, c3, c4]
      · simp [c2, c3]
    · simp [c2]
  · simp [c1]
theorem ok_sameRoute (k k' : Nat) (a b : GRoute) (ha : attrOK a.Attrs) (hb : attrOK b.Attrs) : CallOK Try.prog 59 [.agg (GRoute.ci k a), .agg (GRoute.ci k' b)] (.c (pb (decide (a = b)))) [.agg (GRoute.ci k a), .agg (GRoute.ci k' b)] := by
  refine okS (fn := Try.f59) [] h0 Try.func59 (by kernel_rfl) rfl Try.ntmps59 Try.results59 (by simp) ?_
  have e : decide (a = b) = (decide (a.Prefix = b.Prefix) && decide (a.Attrs = b.Attrs)) := by
    cases a
    cases b
    simp
  have e2 : decide (a.Prefix = b.Prefix) = (decide (a.Prefix.Addr = b.Prefix.Addr) && decide (a.Prefix.Len = b.Prefix.Len)) := by
    cases a.Prefix
    cases b.Prefix
    simp
  rw [e, e2]
  by_cases c1 : a.Prefix.Addr = b.Prefix.Addr
  · by_cases c2 : a.Prefix.Len = b.Prefix.Len
    · simp [c1, c2]
      refine Inv_intro (ok_sameAttrs k k' a.Attrs b.Attrs ha hb) ?_
      simp
    · simp [c1, c2]
  · simp [c1]
end Go.V
