/- What functions of the seat's program do, each proved of its code, under the bounds that its theorem names. -/
import Derived.Test.YtcdlflmppicdjaaTaa
set_option linter.all false
namespace Go.V
open Go.Proofs
set_option maxHeartbeats 1000000
set_option maxRecDepth 10000
set_option linter.unusedSimpArgs false
set_option linter.unusedVariables false
theorem ok_eqRib (k k' : Nat) (x y : GRib) (ha : GRib.lens x) (hb : GRib.lens y) : CallOK Try.prog 13 [.agg (GRib.ci k x), .agg (GRib.ci k' y)] (.c (pb (decide (x = y)))) [.agg (GRib.ci k x), .agg (GRib.ci k' y)] := by
  simp only [GRib.lens] at ha hb
  refine okS (fn := Try.f13) [] h0 Try.func13 (by kernel_rfl) rfl Try.ntmps13 Try.results13 (by simp) ?_
  simp
  refine brn_app (fun a0 => ?_) (fun a0 => ?_)
  · simp at a0
    simp
    rintro rfl
    exact a0 rfl
  · simp at a0
    simp
    refine Inv_intro (ok_eqRowS k k' x.Rows y.Rows (ha) (hb)) ?_
    simp
    refine brn_app (fun a1 => ?_) (fun a1 => ?_)
    · simp at a1
      simp
      rintro rfl
      exact a1 rfl
    · simp at a1
      simp
      cases x
      cases y
      simp_all
theorem ok_heldIntS (q : Nat) (xs : List Int) (k : Int) (hls : lens_IntS xs) (hk : 0 < k) (hk2 : k + cn_IntS xs ≤ 2305843009213693952) : CallOK Try.prog 70 [.c (rd q xs.length ((mk_IntS xs k).1.map pi)), .c (pi k)] (.c (pi (mk_IntS xs k).2)) [.c (rd q xs.length ((mk_IntS xs k).1.map pi)), .c (pi k)] := by
  obtain ⟨hl0, hlx⟩ := hls
  unfold mk_IntS
  unfold cn_IntS at hk2
  have hyl := mkR_len (fun (_ : Int) k => (k, k + 1)) xs k
  have hyi : ∀ (i : Nat) (h : i < xs.length) (h' : i < (mkR (fun (_ : Int) k => (k, k + 1)) xs k).1.length), (mkR (fun (_ : Int) k => (k, k + 1)) xs k).1[i] = ((fun (_ : Int) k => (k, k + 1)) xs[i] (mkR (fun (_ : Int) k => (k, k + 1)) (xs.take i) k).2).1 := fun i h _ => mkR_get (fun (_ : Int) k => (k, k + 1)) xs i h k
  have hend : (mkR (fun (_ : Int) k => (k, k + 1)) xs k).2 = k + cnR (fun (_ : Int) => 1) xs := mkR_snd (f := (fun (_ : Int) k => (k, k + 1))) (g := (fun (_ : Int) => 1)) (fun _ _ => rfl) xs k
  generalize hY : (mkR (fun (_ : Int) k => (k, k + 1)) xs k).1 = ys at hyl hyi ⊢
  refine okS (fn := Try.f70) [] h0 Try.func70 (by kernel_rfl) rfl Try.ntmps70 Try.results70 (by simp) ?_
  simp
  refine loopS [0, 1, 5] [] (fun n st => ∃ (i : Nat), i + n = xs.length ∧ st = ⟨slOf 21 [(0, .t (rd q xs.length (ys.map pi))), (1, .t (pi (mkR (fun (_ : Int) k => (k, k + 1)) (xs.take i) k).2)), (5, .t (pi i))], ofL []⟩) xs.length ?_ ?_
  · rintro Inv hI
    simp
    subst hI
    exact ⟨0, by omega, rfl⟩
  · rintro Inv hI n st ⟨i, hi, rfl⟩
    have hKb := mkR_snd (f := (fun (_ : Int) k => (k, k + 1))) (g := (fun (_ : Int) => 1)) (fun _ _ => rfl) (xs.take i) k
    have hyK : ∀ (h : i < xs.length), ys[i]'(by omega) = ((fun (_ : Int) k => (k, k + 1)) xs[i] (mkR (fun (_ : Int) k => (k, k + 1)) (xs.take i) k).2).1 := fun h => hyi i h (by omega)
    generalize hK : (mkR (fun (_ : Int) k => (k, k + 1)) (xs.take i) k).2 = K at hKb hyK ⊢
    refine ewr_sound (M := []) h0 ?_
    simp
    refine brn_app (fun h => ?_) (fun h => ?_)
    · simp at h
      obtain ⟨m, rfl⟩ : ∃ m, n = m + 1 := ⟨n - 1, by omega⟩
      have hcn := cnR_take (fun (_ : Int) => 1) xs i h
      have hb : i < ys.length := by omega
      have ey := hyK h
      have hw0 : IntKind.wrap .i64 (K + 1) = K + 1 := wrap64 (by omega) (by omega)
      simp [h, hb, ey, hw0]
      have e4 := mkR_take (fun (_ : Int) k => (k, k + 1)) xs i h k
      rw [hK] at e4
      subst hI
      refine Less_mk m (by omega) ⟨i + 1, by omega, ?_⟩
      rw [wrNext i (by omega), e4]
      all_goals rfl
    · simp at h
      have hx : xs.take i = xs := List.take_of_length_le (by omega)
      rw [hx] at hK
      simp [hK]
theorem ok_heldOfferS (q : Nat) (xs : List GOffer) (k : Int) (hls : lens_OfferS xs) (hk : 0 < k) (hk2 : k + cn_OfferS xs ≤ 2305843009213693952) : CallOK Try.prog 100 [.c (rd q xs.length ((mk_OfferS xs k).1.flatMap (GOffer.ci q))), .c (pi k)] (.c (pi (mk_OfferS xs k).2)) [.c (rd q xs.length ((mk_OfferS xs k).1.flatMap (GOffer.ci q))), .c (pi k)] := by
  obtain ⟨hl0, hlx⟩ := hls
  unfold mk_OfferS
  unfold cn_OfferS at hk2
  have hyl := mkR_len GOffer.mark xs k
  have hyi : ∀ (i : Nat) (h : i < xs.length) (h' : i < (mkR GOffer.mark xs k).1.length), (mkR GOffer.mark xs k).1[i] = (GOffer.mark xs[i] (mkR GOffer.mark (xs.take i) k).2).1 := fun i h _ => mkR_get GOffer.mark xs i h k
  have hend : (mkR GOffer.mark xs k).2 = k + cnR GOffer.cn xs := mkR_snd (f := GOffer.mark) (g := GOffer.cn) (GOffer.mark_snd) xs k
  generalize hY : (mkR GOffer.mark xs k).1 = ys at hyl hyi ⊢
  refine okS (fn := Try.f100) [] h0 Try.func100 (by kernel_rfl) rfl Try.ntmps100 Try.results100 (by simp) ?_
  simp
  refine loopS [0, 1, 5] [] (fun n st => ∃ (i : Nat), i + n = xs.length ∧ st = ⟨slOf 82 [(0, .t (rd q xs.length (ys.flatMap (GOffer.ci q)))), (1, .t (pi (mkR GOffer.mark (xs.take i) k).2)), (5, .t (pi i))], ofL []⟩) xs.length ?_ ?_
  · rintro Inv hI
    simp
    subst hI
    exact ⟨0, by omega, rfl⟩
  · rintro Inv hI n st ⟨i, hi, rfl⟩
    have hKb := mkR_snd (f := GOffer.mark) (g := GOffer.cn) (GOffer.mark_snd) (xs.take i) k
    have hyK : ∀ (h : i < xs.length), ys[i]'(by omega) = (GOffer.mark xs[i] (mkR GOffer.mark (xs.take i) k).2).1 := fun h => hyi i h (by omega)
    generalize hK : (mkR GOffer.mark (xs.take i) k).2 = K at hKb hyK ⊢
    refine ewr_sound (M := []) h0 ?_
    simp
    refine brn_app (fun h => ?_) (fun h => ?_)
    · simp at h
      obtain ⟨m, rfl⟩ : ∃ m, n = m + 1 := ⟨n - 1, by omega⟩
      have hcn := cnR_take GOffer.cn xs i h
      have hb : i < ys.length := by omega
      have ey := hyK h
      have hd := fm_drop (GOffer.ci q) 7 (fun _ => rfl) ys i hb
      have hlen := fm_len (GOffer.ci q) 7 (fun _ => rfl) ys
      have hlt : i * 7 < ys.length * 7 := by omega
      rw [ey] at hd
      simp only [GOffer.cn] at hcn
      have hxl := hlx _ (List.getElem_mem h)
      have hw0 : IntKind.wrap .i64 (K + 1) = K + 1 := wrap64 (by omega) (by omega)
      have hw1 : IntKind.wrap .i64 ((K + 1) + 1) = (K + 1) + 1 := wrap64 (by omega) (by omega)
      have hs2 := mk_IntS_snd xs[i].Attrs.Path ((K + 1) + 1)
      have hn2 : ¬ (mk_IntS xs[i].Attrs.Path ((K + 1) + 1)).2 < 0 := by omega
      have hw3 : IntKind.wrap .i64 ((mk_IntS xs[i].Attrs.Path ((K + 1) + 1)).2 + 1) = (mk_IntS xs[i].Attrs.Path ((K + 1) + 1)).2 + 1 := wrap64 (by omega) (by omega)
      have hw4 : IntKind.wrap .i64 (((mk_IntS xs[i].Attrs.Path ((K + 1) + 1)).2 + 1) + 1) = ((mk_IntS xs[i].Attrs.Path ((K + 1) + 1)).2 + 1) + 1 := wrap64 (by omega) (by omega)
      have hw5 : IntKind.wrap .i64 ((((mk_IntS xs[i].Attrs.Path ((K + 1) + 1)).2 + 1) + 1) + 1) = (((mk_IntS xs[i].Attrs.Path ((K + 1) + 1)).2 + 1) + 1) + 1 := wrap64 (by omega) (by omega)
      have hs6 := mk_IntS_snd xs[i].Attrs.Comms ((((mk_IntS xs[i].Attrs.Path ((K + 1) + 1)).2 + 1) + 1) + 1)
      have hn6 : ¬ (mk_IntS xs[i].Attrs.Comms ((((mk_IntS xs[i].Attrs.Path ((K + 1) + 1)).2 + 1) + 1) + 1)).2 < 0 := by omega
      simp [h, hb, hd, hlen, hlt, GOffer.mark, hw0, hw1, hn2, hw3, hw4, hw5, hn6]
      refine Inv_intro (ok_heldIntS q xs[i].Attrs.Path (((K + 1) + 1)) hxl.1 (by omega) (by omega)) ?_
      simp [h, hb, hd, hlen, hlt, GOffer.mark, hw0, hw1, hn2, hw3, hw4, hw5, hn6]
      refine Inv_intro (ok_heldIntS q xs[i].Attrs.Comms (((((mk_IntS xs[i].Attrs.Path ((K + 1) + 1)).2 + 1) + 1) + 1)) hxl.2 (by omega) (by omega)) ?_
      simp [h, hb, hd, hlen, hlt, GOffer.mark, hw0, hw1, hn2, hw3, hw4, hw5, hn6]
      have e4 := mkR_take GOffer.mark xs i h k
      rw [hK] at e4
      subst hI
      refine Less_mk m (by omega) ⟨i + 1, by omega, ?_⟩
      rw [wrNext i (by omega), e4]
      all_goals rfl
    · simp at h
      have hx : xs.take i = xs := List.take_of_length_le (by omega)
      rw [hx] at hK
      simp [hK]
theorem ok_heldRowS (q : Nat) (xs : List GRow) (k : Int) (hls : lens_RowS xs) (hk : 0 < k) (hk2 : k + cn_RowS xs ≤ 2305843009213693952) : CallOK Try.prog 49 [.c (rd q xs.length ((mk_RowS xs k).1.flatMap (GRow.ci q))), .c (pi k)] (.c (pi (mk_RowS xs k).2)) [.c (rd q xs.length ((mk_RowS xs k).1.flatMap (GRow.ci q))), .c (pi k)] := by
  obtain ⟨hl0, hlx⟩ := hls
  unfold mk_RowS
  unfold cn_RowS at hk2
  have hyl := mkR_len GRow.mark xs k
  have hyi : ∀ (i : Nat) (h : i < xs.length) (h' : i < (mkR GRow.mark xs k).1.length), (mkR GRow.mark xs k).1[i] = (GRow.mark xs[i] (mkR GRow.mark (xs.take i) k).2).1 := fun i h _ => mkR_get GRow.mark xs i h k
  have hend : (mkR GRow.mark xs k).2 = k + cnR GRow.cn xs := mkR_snd (f := GRow.mark) (g := GRow.cn) (GRow.mark_snd) xs k
  generalize hY : (mkR GRow.mark xs k).1 = ys at hyl hyi ⊢
  refine okS (fn := Try.f49) [] h0 Try.func49 (by kernel_rfl) rfl Try.ntmps49 Try.results49 (by simp) ?_
  simp
  refine loopS [0, 1, 5] [] (fun n st => ∃ (i : Nat), i + n = xs.length ∧ st = ⟨slOf 42 [(0, .t (rd q xs.length (ys.flatMap (GRow.ci q)))), (1, .t (pi (mkR GRow.mark (xs.take i) k).2)), (5, .t (pi i))], ofL []⟩) xs.length ?_ ?_
  · rintro Inv hI
    simp
    subst hI
    exact ⟨0, by omega, rfl⟩
  · rintro Inv hI n st ⟨i, hi, rfl⟩
    have hKb := mkR_snd (f := GRow.mark) (g := GRow.cn) (GRow.mark_snd) (xs.take i) k
    have hyK : ∀ (h : i < xs.length), ys[i]'(by omega) = (GRow.mark xs[i] (mkR GRow.mark (xs.take i) k).2).1 := fun h => hyi i h (by omega)
    generalize hK : (mkR GRow.mark (xs.take i) k).2 = K at hKb hyK ⊢
    refine ewr_sound (M := []) h0 ?_
    simp
    refine brn_app (fun h => ?_) (fun h => ?_)
    · simp at h
      obtain ⟨m, rfl⟩ : ∃ m, n = m + 1 := ⟨n - 1, by omega⟩
      have hcn := cnR_take GRow.cn xs i h
      have hb : i < ys.length := by omega
      have ey := hyK h
      have hd := fm_drop (GRow.ci q) 3 (fun _ => rfl) ys i hb
      have hlen := fm_len (GRow.ci q) 3 (fun _ => rfl) ys
      have hlt : i * 3 < ys.length * 3 := by omega
      rw [ey] at hd
      simp only [GRow.cn] at hcn
      have hxl := hlx _ (List.getElem_mem h)
      have hw0 : IntKind.wrap .i64 (K + 1) = K + 1 := wrap64 (by omega) (by omega)
      have hw1 : IntKind.wrap .i64 ((K + 1) + 1) = (K + 1) + 1 := wrap64 (by omega) (by omega)
      have hs2 := mk_OfferS_snd xs[i].Offers ((K + 1) + 1)
      have hn2 : ¬ (mk_OfferS xs[i].Offers ((K + 1) + 1)).2 < 0 := by omega
      simp [h, hb, hd, hlen, hlt, GRow.mark, hw0, hw1, hn2]
      refine Inv_intro (ok_heldOfferS q xs[i].Offers (((K + 1) + 1)) hxl (by omega) (by omega)) ?_
      simp [h, hb, hd, hlen, hlt, GRow.mark, hw0, hw1, hn2]
      have e4 := mkR_take GRow.mark xs i h k
      rw [hK] at e4
      subst hI
      refine Less_mk m (by omega) ⟨i + 1, by omega, ?_⟩
      rw [wrNext i (by omega), e4]
      all_goals rfl
    · simp at h
      have hx : xs.take i = xs := List.take_of_length_le (by omega)
      rw [hx] at hK
      simp [hK]
theorem ok_heldRib (q : Nat) (x : GRib) (k : Int) (hls : GRib.lens x) (hk : 0 < k) (hk2 : k + GRib.cnT x ≤ 2305843009213693952) : CallOK Try.prog 15 [.agg (GRib.ci q (GRib.markT x k).1), .c (pi k)] (.c (pi (GRib.markT x k).2)) [.agg (GRib.ci q (GRib.markT x k).1), .c (pi k)] := by
  unfold GRib.cnT at hk2
  unfold GRib.markT
  have hs0 := mk_RowS_snd x.Rows k
  have hn0 : ¬ (mk_RowS x.Rows k).2 < 0 := by omega
  refine okS (fn := Try.f15) [] h0 Try.func15 (by kernel_rfl) rfl Try.ntmps15 Try.results15 (by simp) ?_
  simp
  refine Inv_intro (ok_heldRowS q x.Rows (k) (hls) (by omega) (by omega)) ?_
  simp [hn0]
theorem ok_markIntS (xs : List Int) (k : Int) (hls : lens_IntS xs) (hk : 0 < k) (hk2 : k + cn_IntS xs ≤ 2305843009213693952) : CallOK Try.prog 69 [.c (.sl 0 3 xs.length (xs.map pi)), .c (pi k)] (.c (pi (mk_IntS xs k).2)) [.c (.sl 0 3 xs.length ((mk_IntS xs k).1.map pi)), .c (pi k)] := by
  obtain ⟨hl0, hlx⟩ := hls
  unfold mk_IntS
  unfold cn_IntS at hk2
  refine okS (fn := Try.f69) [] h0 Try.func69 (by kernel_rfl) rfl Try.ntmps69 Try.results69 (by simp) ?_
  simp
  refine loopS [0, 1, 5] [] (fun n st => ∃ (i : Nat), i + n = xs.length ∧ st = ⟨slOf 19 [(0, .ref ⟨.arg 0 0, []⟩ 0 xs.length), (1, .t (pi (mkR (fun (_ : Int) k => (k, k + 1)) (xs.take i) k).2)), (5, .t (pi i))], ofL [(.arg 0 0, .sl 0 3 xs.length (((mkR (fun (_ : Int) k => (k, k + 1)) (xs.take i) k).1.map pi) ++ ((xs.drop i).map pi)))]⟩) xs.length ?_ ?_
  · rintro Inv hI
    simp
    subst hI
    exact ⟨0, by omega, rfl⟩
  · rintro Inv hI n st ⟨i, hi, rfl⟩
    have hAl : (((mkR (fun (_ : Int) k => (k, k + 1)) (xs.take i) k).1.map pi)).length = i * 1 := by rw [List.length_map, mkR_len, len_take xs i (by omega), Nat.mul_one]
    have hKb := mkR_snd (f := (fun (_ : Int) k => (k, k + 1))) (g := (fun (_ : Int) => 1)) (fun _ _ => rfl) (xs.take i) k
    generalize hA : ((mkR (fun (_ : Int) k => (k, k + 1)) (xs.take i) k).1.map pi) = A at hAl ⊢
    generalize hK : (mkR (fun (_ : Int) k => (k, k + 1)) (xs.take i) k).2 = K at hKb ⊢
    generalize hB : ((xs.drop i).map pi) = B
    refine ewr_sound (M := []) h0 ?_
    simp
    refine brn_app (fun h => ?_) (fun h => ?_)
    · simp at h
      obtain ⟨m, rfl⟩ : ∃ m, n = m + 1 := ⟨n - 1, by omega⟩
      have hcn := cnR_take (fun (_ : Int) => 1) xs i h
      have hBe : B = [pi xs[i]] ++ ((xs.drop (i + 1)).map pi) := by rw [← hB, drop_step xs i h]; rfl
      generalize hC : ((xs.drop (i + 1)).map pi) = D at hBe
      subst hBe
      rw [Nat.mul_one] at hAl
      have hw0 : IntKind.wrap .i64 (K + 1) = K + 1 := wrap64 (by omega) (by omega)
      simp [h, hAl, hw0]
      have e4 := mkR_take (fun (_ : Int) k => (k, k + 1)) xs i h k
      rw [hK] at e4
      have e3 : ((mkR (fun (_ : Int) k => (k, k + 1)) (xs.take (i + 1)) k).1.map pi) = A ++ [pi ((fun (_ : Int) k => (k, k + 1)) xs[i] K).1] := by rw [e4, List.map_append, hA]; rfl
      subst hI
      refine Less_mk m (by omega) ⟨i + 1, by omega, ?_⟩
      rw [wrNext i (by omega), e3, e4, hC, List.append_assoc]
      all_goals rfl
    · simp at h
      have hx : xs.take i = xs := List.take_of_length_le (by omega)
      have hBn : B = [] := by rw [← hB, List.drop_of_length_le (by omega)]; rfl
      subst hBn
      rw [hx] at hA hK
      subst hK
      subst hA
      simp
theorem ok_markOfferS (xs : List GOffer) (k : Int) (hls : lens_OfferS xs) (hk : 0 < k) (hk2 : k + cn_OfferS xs ≤ 2305843009213693952) : CallOK Try.prog 99 [.c (.sl 0 97 xs.length (xs.flatMap GOffer.co)), .c (pi k)] (.c (pi (mk_OfferS xs k).2)) [.c (.sl 0 97 xs.length ((mk_OfferS xs k).1.flatMap GOffer.co)), .c (pi k)] := by
  obtain ⟨hl0, hlx⟩ := hls
  unfold mk_OfferS
  unfold cn_OfferS at hk2
  refine okS (fn := Try.f99) [(69, [1,0])] h0 Try.func99 (by kernel_rfl) rfl Try.ntmps99 Try.results99 (by simp) ?_
  simp
  refine loopS [0, 1, 5] [] (fun n st => ∃ (i : Nat), i + n = xs.length ∧ st = ⟨slOf 68 [(0, .ref ⟨.arg 0 0, []⟩ 0 xs.length), (1, .t (pi (mkR GOffer.mark (xs.take i) k).2)), (5, .t (pi i))], ofL [(.arg 0 0, .sl 0 97 xs.length (((mkR GOffer.mark (xs.take i) k).1.flatMap GOffer.co) ++ ((xs.drop i).flatMap GOffer.co)))]⟩) xs.length ?_ ?_
  · rintro Inv hI
    simp
    subst hI
    exact ⟨0, by omega, rfl⟩
  · rintro Inv hI n st ⟨i, hi, rfl⟩
    have hAl : (((mkR GOffer.mark (xs.take i) k).1.flatMap GOffer.co)).length = i * 7 := by rw [fm_len GOffer.co 7 (fun _ => rfl), mkR_len, len_take xs i (by omega)]
    have hKb := mkR_snd (f := GOffer.mark) (g := GOffer.cn) (GOffer.mark_snd) (xs.take i) k
    generalize hA : ((mkR GOffer.mark (xs.take i) k).1.flatMap GOffer.co) = A at hAl ⊢
    generalize hK : (mkR GOffer.mark (xs.take i) k).2 = K at hKb ⊢
    generalize hB : ((xs.drop i).flatMap GOffer.co) = B
    refine ewr_sound (M := [(69, [1, 0])]) h0 ?_
    simp
    refine brn_app (fun h => ?_) (fun h => ?_)
    · simp at h
      obtain ⟨m, rfl⟩ : ∃ m, n = m + 1 := ⟨n - 1, by omega⟩
      have hcn := cnR_take GOffer.cn xs i h
      have hBe : B = [pi xs[i].Peer, pi xs[i].Attrs.Origin, .sl 0 3 xs[i].Attrs.Path.length (xs[i].Attrs.Path.map pi), pi xs[i].Attrs.Next, pi xs[i].Attrs.Med, pi xs[i].Attrs.Pref, .sl 0 3 xs[i].Attrs.Comms.length (xs[i].Attrs.Comms.map pi)] ++ ((xs.drop (i + 1)).flatMap GOffer.co) := by rw [← hB, drop_step xs i h]; rfl
      generalize hC : ((xs.drop (i + 1)).flatMap GOffer.co) = D at hBe
      subst hBe
      have hxl := hlx _ (List.getElem_mem h)
      simp only [GOffer.cn] at hcn
      have hw0 : IntKind.wrap .i64 (K + 1) = K + 1 := wrap64 (by omega) (by omega)
      have hw1 : IntKind.wrap .i64 ((K + 1) + 1) = (K + 1) + 1 := wrap64 (by omega) (by omega)
      have hs2 := mk_IntS_snd xs[i].Attrs.Path ((K + 1) + 1)
      have hw3 : IntKind.wrap .i64 ((mk_IntS xs[i].Attrs.Path ((K + 1) + 1)).2 + 1) = (mk_IntS xs[i].Attrs.Path ((K + 1) + 1)).2 + 1 := wrap64 (by omega) (by omega)
      have hw4 : IntKind.wrap .i64 (((mk_IntS xs[i].Attrs.Path ((K + 1) + 1)).2 + 1) + 1) = ((mk_IntS xs[i].Attrs.Path ((K + 1) + 1)).2 + 1) + 1 := wrap64 (by omega) (by omega)
      have hw5 : IntKind.wrap .i64 ((((mk_IntS xs[i].Attrs.Path ((K + 1) + 1)).2 + 1) + 1) + 1) = (((mk_IntS xs[i].Attrs.Path ((K + 1) + 1)).2 + 1) + 1) + 1 := wrap64 (by omega) (by omega)
      have hs6 := mk_IntS_snd xs[i].Attrs.Comms ((((mk_IntS xs[i].Attrs.Path ((K + 1) + 1)).2 + 1) + 1) + 1)
      have hq0 : i * 7 + 1 + 1 = i * 7 + 2 := by omega
      have hq1 : i * 7 + 1 + 2 = i * 7 + 3 := by omega
      have hq2 : i * 7 + 1 + 3 = i * 7 + 4 := by omega
      have hq3 : i * 7 + 1 + 4 = i * 7 + 5 := by omega
      have hq4 : i * 7 + 1 + 5 = i * 7 + 6 := by omega
      simp [h, hAl, hw0, hw1, hw3, hw4, hw5, hq0, hq1, hq2, hq3, hq4]
      refine Inv_intro (ok_markIntS xs[i].Attrs.Path (((K + 1) + 1)) hxl.1 (by omega) (by omega)) ?_
      simp [h, hAl, hw0, hw1, hw3, hw4, hw5, hq0, hq1, hq2, hq3, hq4]
      refine Inv_intro (ok_markIntS xs[i].Attrs.Comms (((((mk_IntS xs[i].Attrs.Path ((K + 1) + 1)).2 + 1) + 1) + 1)) hxl.2 (by omega) (by omega)) ?_
      simp [h, hAl, hw0, hw1, hw3, hw4, hw5, hq0, hq1, hq2, hq3, hq4]
      have e4 := mkR_take GOffer.mark xs i h k
      rw [hK] at e4
      have e3 : ((mkR GOffer.mark (xs.take (i + 1)) k).1.flatMap GOffer.co) = A ++ GOffer.co (GOffer.mark xs[i] K).1 := by rw [e4, List.flatMap_append, hA, List.flatMap_cons, List.flatMap_nil, List.append_nil]
      subst hI
      refine Less_mk m (by omega) ⟨i + 1, by omega, ?_⟩
      rw [wrNext i (by omega), e3, e4, hC, List.append_assoc]
      all_goals first | rfl | simp [GOffer.mark] | simp
    · simp at h
      have hx : xs.take i = xs := List.take_of_length_le (by omega)
      have hBn : B = [] := by rw [← hB, List.drop_of_length_le (by omega)]; rfl
      subst hBn
      rw [hx] at hA hK
      subst hK
      subst hA
      simp
theorem ok_markRowS (xs : List GRow) (k : Int) (hls : lens_RowS xs) (hk : 0 < k) (hk2 : k + cn_RowS xs ≤ 2305843009213693952) : CallOK Try.prog 48 [.c (.sl 0 89 xs.length (xs.flatMap GRow.co)), .c (pi k)] (.c (pi (mk_RowS xs k).2)) [.c (.sl 0 89 xs.length ((mk_RowS xs k).1.flatMap GRow.co)), .c (pi k)] := by
  obtain ⟨hl0, hlx⟩ := hls
  unfold mk_RowS
  unfold cn_RowS at hk2
  refine okS (fn := Try.f48) [(99, [1,0])] h0 Try.func48 (by kernel_rfl) rfl Try.ntmps48 Try.results48 (by simp) ?_
  simp
  refine loopS [0, 1, 5] [] (fun n st => ∃ (i : Nat), i + n = xs.length ∧ st = ⟨slOf 36 [(0, .ref ⟨.arg 0 0, []⟩ 0 xs.length), (1, .t (pi (mkR GRow.mark (xs.take i) k).2)), (5, .t (pi i))], ofL [(.arg 0 0, .sl 0 89 xs.length (((mkR GRow.mark (xs.take i) k).1.flatMap GRow.co) ++ ((xs.drop i).flatMap GRow.co)))]⟩) xs.length ?_ ?_
  · rintro Inv hI
    simp
    subst hI
    exact ⟨0, by omega, rfl⟩
  · rintro Inv hI n st ⟨i, hi, rfl⟩
    have hAl : (((mkR GRow.mark (xs.take i) k).1.flatMap GRow.co)).length = i * 3 := by rw [fm_len GRow.co 3 (fun _ => rfl), mkR_len, len_take xs i (by omega)]
    have hKb := mkR_snd (f := GRow.mark) (g := GRow.cn) (GRow.mark_snd) (xs.take i) k
    generalize hA : ((mkR GRow.mark (xs.take i) k).1.flatMap GRow.co) = A at hAl ⊢
    generalize hK : (mkR GRow.mark (xs.take i) k).2 = K at hKb ⊢
    generalize hB : ((xs.drop i).flatMap GRow.co) = B
    refine ewr_sound (M := [(99, [1, 0])]) h0 ?_
    simp
    refine brn_app (fun h => ?_) (fun h => ?_)
    · simp at h
      obtain ⟨m, rfl⟩ : ∃ m, n = m + 1 := ⟨n - 1, by omega⟩
      have hcn := cnR_take GRow.cn xs i h
      have hBe : B = [pi xs[i].Prefix.Addr, pi xs[i].Prefix.Len, .sl 0 97 xs[i].Offers.length (xs[i].Offers.flatMap GOffer.co)] ++ ((xs.drop (i + 1)).flatMap GRow.co) := by rw [← hB, drop_step xs i h]; rfl
      generalize hC : ((xs.drop (i + 1)).flatMap GRow.co) = D at hBe
      subst hBe
      have hxl := hlx _ (List.getElem_mem h)
      simp only [GRow.cn] at hcn
      have hw0 : IntKind.wrap .i64 (K + 1) = K + 1 := wrap64 (by omega) (by omega)
      have hw1 : IntKind.wrap .i64 ((K + 1) + 1) = (K + 1) + 1 := wrap64 (by omega) (by omega)
      have hs2 := mk_OfferS_snd xs[i].Offers ((K + 1) + 1)
      simp [h, hAl, hw0, hw1]
      refine Inv_intro (ok_markOfferS xs[i].Offers (((K + 1) + 1)) hxl (by omega) (by omega)) ?_
      simp [h, hAl, hw0, hw1]
      have e4 := mkR_take GRow.mark xs i h k
      rw [hK] at e4
      have e3 : ((mkR GRow.mark (xs.take (i + 1)) k).1.flatMap GRow.co) = A ++ GRow.co (GRow.mark xs[i] K).1 := by rw [e4, List.flatMap_append, hA, List.flatMap_cons, List.flatMap_nil, List.append_nil]
      subst hI
      refine Less_mk m (by omega) ⟨i + 1, by omega, ?_⟩
      rw [wrNext i (by omega), e3, e4, hC, List.append_assoc]
      all_goals first | rfl | simp [GRow.mark] | simp
    · simp at h
      have hx : xs.take i = xs := List.take_of_length_le (by omega)
      have hBn : B = [] := by rw [← hB, List.drop_of_length_le (by omega)]; rfl
      subst hBn
      rw [hx] at hA hK
      subst hK
      subst hA
      simp
theorem ok_markRib (x : GRib) (k : Int) (hls : GRib.lens x) (hk : 0 < k) (hk2 : k + GRib.cnT x ≤ 2305843009213693952) : CallOK Try.prog 14 [.agg (GRib.co x), .c (pi k)] (.c (pi (GRib.markT x k).2)) [.agg (GRib.co (GRib.markT x k).1), .c (pi k)] := by
  unfold GRib.cnT at hk2
  unfold GRib.markT
  have hs0 := mk_RowS_snd x.Rows k
  refine okA h0 Try.func14 (by kernel_rfl) rfl Try.ntmps14 Try.results14 (by simp) ?_
  intro A hA
  obtain ⟨v1, hv1⟩ := hA 0 1 rfl
  refine ewpA_ghost 0 (.agg [.t (pi x.Own), .t (.raw v1)]) (.inr ⟨_, _, rfl, rfl, (GhL.cons Gh.rfl' (GhL.cons (Gh.raw hv1 (by rfl)) GhL.nil))⟩) ?_
  refine ewpA_seq (ewpA_of (ewr_sound (M := [(48, [1, 0])]) h0 ?_))
  simp
  refine ewpA_seq (ewpA_region (runA_split (M := [(48, [1, 0])]) (r := 0) 2 h0 (hl_of rfl) ?_))
  simp
  refine runA_ghost 6 (.ref ⟨.arg 0 1, []⟩ 0 x.Rows.length) (.inl (Gh.ref hv1 (by rfl))) ?_
  refine runA_of (M := [(48, [1, 0])]) (r := 0) h0 (hl_of rfl) ?_
  simp
  refine Inv_intro (ok_markRowS x.Rows (k) (hls) (by omega) (by omega)) ?_
  simp
  refine ewpA_of (ewr_sound (M := [(48, [1, 0])]) h0 ?_)
  simp
structure GRoute where
  Prefix : GPrefix
  Attrs : GAttrs
  deriving DecidableEq
def GRoute.co (x : GRoute) : List PT := [pi x.Prefix.Addr, pi x.Prefix.Len, pi x.Attrs.Origin, .sl 0 3 x.Attrs.Path.length (x.Attrs.Path.map pi), pi x.Attrs.Next, pi x.Attrs.Med, pi x.Attrs.Pref, .sl 0 3 x.Attrs.Comms.length (x.Attrs.Comms.map pi)]
def GRoute.ci (k : Nat) (x : GRoute) : List PT := [pi x.Prefix.Addr, pi x.Prefix.Len, pi x.Attrs.Origin, rd k x.Attrs.Path.length (x.Attrs.Path.map pi), pi x.Attrs.Next, pi x.Attrs.Med, pi x.Attrs.Pref, rd k x.Attrs.Comms.length (x.Attrs.Comms.map pi)]
attribute [simp] GRoute.co GRoute.ci
theorem GRoute.len_o (x : GRoute) : x.co.length = 8 := rfl
theorem GRoute.len_i (k : Nat) (x : GRoute) : (x.ci k).length = 8 := rfl
theorem GRoute.un1 (x : GRoute) : PT.unownL x.co = x.ci 0 := by simp [rd]
theorem GRoute.uni1 (k : Nat) (x : GRoute) : PT.unownL (x.ci k) = x.ci 0 := by simp [rd]
theorem GRoute.un (xs : List GRoute) : PT.unownL (xs.flatMap GRoute.co) = xs.flatMap (GRoute.ci 0) := by
  rw [unownL_fm]
  congr 1
  funext x
  exact GRoute.un1 x
theorem GRoute.uni (k : Nat) (xs : List GRoute) : PT.unownL (xs.flatMap (GRoute.ci k)) = xs.flatMap (GRoute.ci 0) := by
  rw [unownL_fm]
  congr 1
  funext x
  exact GRoute.uni1 k x
theorem GRoute.nt (xs : List GRoute) : PT.noTmpL (xs.flatMap GRoute.co) = true := noTmpL_fm _ xs fun x => by simp
theorem GRoute.nti (k : Nat) (xs : List GRoute) : PT.noTmpL (xs.flatMap (GRoute.ci (k + 1))) = true := noTmpL_fm _ xs fun x => by simp [rd]
attribute [simp] GRoute.un GRoute.uni GRoute.nt GRoute.nti
theorem GRoute.lenR (xs : List GRoute) : (xs.flatMap GRoute.co).length = xs.length * 8 := fm_len _ 8 (fun _ => rfl) xs
theorem GRoute.lenRi (k : Nat) (xs : List GRoute) : (xs.flatMap (GRoute.ci k)).length = xs.length * 8 := fm_len _ 8 (fun _ => rfl) xs
theorem GRoute.tkR (xs : List GRoute) : (xs.flatMap GRoute.co).take (xs.length * 8) = xs.flatMap GRoute.co := List.take_of_length_le (by rw [GRoute.lenR]; exact Nat.le_refl _)
theorem GRoute.tkRi (k : Nat) (xs : List GRoute) : (xs.flatMap (GRoute.ci k)).take (xs.length * 8) = xs.flatMap (GRoute.ci k) := List.take_of_length_le (by rw [GRoute.lenRi]; exact Nat.le_refl _)
attribute [simp high] GRoute.lenR GRoute.tkR GRoute.lenRi GRoute.tkRi
def GRoute.wt (x : GRoute) : Nat := GAttrs.wt x.Attrs
def GRoute.fits (x : GRoute) : Prop := GAttrs.fits x.Attrs
def GRoute.lens (x : GRoute) : Prop := GAttrs.lens x.Attrs
def GRoute.mark (x : GRoute) (k : Int) : GRoute × Int := (⟨⟨k, (k + 1)⟩, ⟨((k + 1) + 1), (mk_IntS x.Attrs.Path (((k + 1) + 1) + 1)).1, (mk_IntS x.Attrs.Path (((k + 1) + 1) + 1)).2, ((mk_IntS x.Attrs.Path (((k + 1) + 1) + 1)).2 + 1), (((mk_IntS x.Attrs.Path (((k + 1) + 1) + 1)).2 + 1) + 1), (mk_IntS x.Attrs.Comms ((((mk_IntS x.Attrs.Path (((k + 1) + 1) + 1)).2 + 1) + 1) + 1)).1⟩⟩, (mk_IntS x.Attrs.Comms ((((mk_IntS x.Attrs.Path (((k + 1) + 1) + 1)).2 + 1) + 1) + 1)).2)
def GRoute.cn (x : GRoute) : Nat := 1 + 1 + 1 + cn_IntS x.Attrs.Path + 1 + 1 + 1 + cn_IntS x.Attrs.Comms
theorem GRoute.mark_snd (x : GRoute) (k : Int) : (GRoute.mark x k).2 = k + GRoute.cn x := by
  simp only [GRoute.mark, GRoute.cn, mk_IntS_snd] <;> omega
def GRoute.markT (x : GRoute) (k : Int) : GRoute × Int := (⟨⟨x.Prefix.Addr, x.Prefix.Len⟩, ⟨x.Attrs.Origin, (mk_IntS x.Attrs.Path k).1, x.Attrs.Next, x.Attrs.Med, x.Attrs.Pref, (mk_IntS x.Attrs.Comms (mk_IntS x.Attrs.Path k).2).1⟩⟩, (mk_IntS x.Attrs.Comms (mk_IntS x.Attrs.Path k).2).2)
def GRoute.cnT (x : GRoute) : Nat := cn_IntS x.Attrs.Path + cn_IntS x.Attrs.Comms
theorem GRoute.markT_snd (x : GRoute) (k : Int) : (GRoute.markT x k).2 = k + GRoute.cnT x := by
  simp only [GRoute.markT, GRoute.cnT, mk_IntS_snd] <;> omega
theorem lens_of_Route {x : GRoute} (h : GRoute.wt x ≤ 1048576) : GRoute.lens x := by
  unfold GRoute.wt at h
  exact lens_of_Attrs (by omega)
theorem cn_le_Route (x : GRoute) : GRoute.cnT x ≤ 32 * GRoute.wt x := by
  unfold GRoute.cnT GRoute.wt
  have := cn_le_IntS x.Attrs.Path
  have := cn_le_IntS x.Attrs.Comms
  simp only [GAttrs.wt]
  omega
theorem cnE_le_Route (x : GRoute) : GRoute.cn x ≤ 32 * GRoute.wt x + 16 := by
  unfold GRoute.cn GRoute.wt
  have := cn_le_IntS x.Attrs.Path
  have := cn_le_IntS x.Attrs.Comms
  simp only [GAttrs.wt]
  omega
def inR (n lo hi : Int) : Bool := decide (lo ≤ n ∧ n ≤ hi)
def szP (n : Int) : Int := 2 ^ (32 - n).toNat
theorem shl_pow (m : Nat) (h : m ≤ 32) : IntKind.wrap .i64 (1 * 2 ^ min m IntKind.i64.bits) = 2 ^ m := by
  have : ∀ m : Fin 33, IntKind.wrap .i64 (1 * 2 ^ min m.1 IntKind.i64.bits) = 2 ^ m.1 := by decide
  exact this ⟨m, by omega⟩
theorem pow_ne (m : Nat) : ¬ (2 : Int) ^ m = 0 := by
  have : (0 : Int) < 2 ^ m := Int.pow_pos (by decide)
  omega
def goodPx (p : GPrefix) : Bool := inR p.Len 0 32 && (inR p.Addr 0 4294967295 && decide (p.Addr.tmod (szP p.Len) = 0))
def cmpI (a b : Int) : Int := if a < b then -1 else if b < a then 1 else 0
def cmpPx (p q : GPrefix) : Int := if cmpI p.Addr q.Addr = 0 then cmpI p.Len q.Len else cmpI p.Addr q.Addr
def orI : List Int → Int
  | [] => 0
  | x :: xs => if x = 0 then orI xs else x
def isAsnB (n : Int) : Bool := inR n 1 65535
def isValB (n : Int) : Bool := inR n 0 1000000
def adjI (q : Option Int) (x : Int) : Bool := match q with
  | none => true
  | some q => decide (q < x)
def commsG : Option Int → List Int → Bool
  | _, [] => true
  | q, x :: xs => isValB x && adjI q x && commsG (some x) xs
def goodCm (l : List Int) : Bool := commsG none l && decide (l.length ≤ 6)
def goodPa (l : List Int) : Bool := decide (l.length ≤ 10) && l.all isAsnB
def goodA (a : GAttrs) : Bool := inR a.Origin 0 2 && (goodPa a.Path && (inR a.Next 0 4294967295 && (isValB a.Med && (isValB a.Pref && goodCm a.Comms))))
def prevI (l : List Int) (i : Nat) : Option Int := if i = 0 then none else l[i - 1]?
theorem prevI_next (l : List Int) (i : Nat) (h : i < l.length) : prevI l (i + 1) = some l[i] := by simp [prevI, h]
def attrOK (a : GAttrs) : Prop := a.Path.length ≤ 140737488351232 ∧ a.Comms.length ≤ 140737488351232
def goodR (r : GRoute) : Bool := goodPx r.Prefix && goodA r.Attrs
theorem ok_within (n lo hi : Int) : CallOK Try.prog 97 [.c (pi n), .c (pi lo), .c (pi hi)] (.c (pb (decide (lo ≤ n ∧ n ≤ hi)))) [.c (pi n), .c (pi lo), .c (pi hi)] := by
  refine okS (fn := Try.f97) [] h0 Try.func97 (by kernel_rfl) rfl Try.ntmps97 Try.results97 (by simp) ?_
  simp
  refine gT (fun h => ?_) (fun h => ?_) <;> simp [h]
theorem ok_l1In (n lo hi : Int) : CallOK Try.prog 45 [.c (pi n), .c (pi lo), .c (pi hi)] (.c (pb (decide (lo ≤ n ∧ n ≤ hi)))) [.c (pi n), .c (pi lo), .c (pi hi)] := by
  refine okS (fn := Try.f45) [] h0 Try.func45 (by kernel_rfl) rfl Try.ntmps45 Try.results45 (by simp) ?_
  simp
  refine gT (fun h => ?_) (fun h => ?_) <;> simp [h]
theorem inR_t {n lo hi : Int} (h : lo ≤ n ∧ n ≤ hi) : inR n lo hi = true := by simp [inR, h]
theorem ok_isAsn (n : Int) : CallOK Try.prog 46 [.c (pi n)] (.c (pb (isAsnB n))) [.c (pi n)] := by
  refine okS (fn := Try.f46) [] h0 Try.func46 (by kernel_rfl) rfl Try.ntmps46 Try.results46 (by simp) ?_
  simp
  refine Inv_intro (ok_within _ _ _) ?_
  simp [isAsnB, inR]
theorem ok_isAddr (n : Int) : CallOK Try.prog 116 [.c (pi n)] (.c (pb (inR n 0 4294967295))) [.c (pi n)] := by
  refine okS (fn := Try.f116) [] h0 Try.func116 (by kernel_rfl) rfl Try.ntmps116 Try.results116 (by simp) ?_
  simp
  refine Inv_intro (ok_within _ _ _) ?_
  simp [inR]
theorem ok_l1Addr (n : Int) : CallOK Try.prog 113 [.c (pi n)] (.c (pb (inR n 0 4294967295))) [.c (pi n)] := by
  refine okS (fn := Try.f113) [] h0 Try.func113 (by kernel_rfl) rfl Try.ntmps113 Try.results113 (by simp) ?_
  simp
  refine Inv_intro (ok_l1In _ _ _) ?_
  simp [inR]
theorem ok_sizeOf (n : Int) (h1 : 0 ≤ n) (h2 : n ≤ 32) : CallOK Try.prog 117 [.c (pi n)] (.c (pi (szP n))) [.c (pi n)] := by
  refine okS (fn := Try.f117) [] h0 Try.func117 (by kernel_rfl) rfl Try.ntmps117 Try.results117 (by simp) ?_
  have hw : IntKind.wrap .i64 (32 - n) = 32 - n := wrap64 (by omega) (by omega)
  have hs := shl_pow (32 - n).toNat (by omega)
  have hn : 0 ≤ 32 - n := by omega
  simp [hw, h2]
  simpa [szP] using hs
theorem ok_l1Size (p : GPrefix) (h1 : 0 ≤ p.Len) (h2 : p.Len ≤ 32) : CallOK Try.prog 114 [.agg p.c] (.c (pi (szP p.Len))) [.agg p.c] := by
  refine okS (fn := Try.f114) [] h0 Try.func114 (by kernel_rfl) rfl Try.ntmps114 Try.results114 (by simp) ?_
  have hw : IntKind.wrap .i64 (32 - p.Len) = 32 - p.Len := wrap64 (by omega) (by omega)
  have hw2 : IntKind.wrap .u64 (32 - p.Len) = 32 - p.Len := by
    show (32 - p.Len) % 18446744073709551616 = _
    omega
  have hs := shl_pow (32 - p.Len).toNat (by omega)
  have hn : 0 ≤ 32 - p.Len := by omega
  simp [hw, hw2, h2]
  simpa [szP] using hs
theorem ok_iGoodPrefix (p : GPrefix) : CallOK Try.prog 64 [.agg p.c] (.c (pb (goodPx p))) [.agg p.c] := by
  refine okS (fn := Try.f64) [] h0 Try.func64 (by kernel_rfl) rfl Try.ntmps64 Try.results64 (by simp) ?_
  simp
  have hz := pow_ne (32 - p.Len).toNat
  by_cases c1 : 0 ≤ p.Len ∧ p.Len ≤ 32
  · refine drawP (tabEnv [] _) [⟨[.op 0 0 0], allD 20, true⟩, ⟨[.op 0 0 0], allD 20, true⟩, ⟨[], allD 20, false⟩, ⟨[], allD 20, true⟩, ⟨[.op 0 0 0], allD 20, true⟩, ⟨[.op 0 0 0], allD 20, true⟩, ⟨[], allD 20, false⟩, ⟨[], allD 20, true⟩, ⟨[], allD 20, true⟩, ⟨[.op 0 0 0], allD 20, true⟩, ⟨[.op 0 0 0], allD 20, true⟩, ⟨[.op 0 0 0], allD 20, true⟩, ⟨[.op 0 0 0], allD 20, true⟩, ⟨[], allD 20, false⟩, ⟨[], allD 20, true⟩, ⟨[], allD 20, true⟩, ⟨[], allD 20, true⟩, ⟨[], allD 20, true⟩] h0 hm (tabEnv_ok (tab_cons (ok_within p.Len 0 32) (tab_cons (ok_isAddr p.Addr) (tab_cons (ok_sizeOf p.Len c1.1 c1.2) tab_nil)))) (by kernel_rfl) (by kernel_rfl) ?_
    cases c2 : inR p.Addr 0 4294967295 with
    | false => simp [c1, c2, goodPx, inR_t c1]
    | true =>
      simp [c1, c2, goodPx, inR_t c1, szP, hz]
      try exact decide_eq_decide.2 Iff.rfl
  · refine drawP (tabEnv [] _) [⟨[.op 0 0 0], allD 20, true⟩, ⟨[.op 0 0 0], allD 20, true⟩, ⟨[], allD 20, false⟩, ⟨[], allD 20, true⟩, ⟨[.op 0 0 0], allD 20, true⟩, ⟨[.op 0 0 0], allD 20, true⟩, ⟨[], allD 20, false⟩, ⟨[], allD 20, true⟩, ⟨[], allD 20, true⟩, ⟨[.op 0 0 0], allD 20, true⟩, ⟨[.op 0 0 0], allD 20, true⟩, ⟨[.op 0 0 0], allD 20, true⟩, ⟨[.op 0 0 0], allD 20, true⟩, ⟨[], allD 20, false⟩, ⟨[], allD 20, true⟩, ⟨[], allD 20, true⟩, ⟨[], allD 20, true⟩, ⟨[], allD 20, true⟩] h0 hm (tabEnv_ok (tab_cons (ok_within p.Len 0 32) tab_nil)) (by kernel_rfl) (by kernel_rfl) ?_
    simp [c1, goodPx, inR]
theorem ok_sGoodPrefix (p : GPrefix) : CallOK Try.prog 61 [.agg p.c] (.c (pb (goodPx p))) [.agg p.c] := by
  refine okS (fn := Try.f61) [] h0 Try.func61 (by kernel_rfl) rfl Try.ntmps61 Try.results61 (by simp) ?_
  simp
  have hz := pow_ne (32 - p.Len).toNat
  by_cases c1 : 0 ≤ p.Len ∧ p.Len ≤ 32
  · refine drawP (tabEnv [] _) [⟨[.op 0 0 0], allD 19, true⟩, ⟨[.op 0 0 0], allD 19, true⟩, ⟨[], allD 19, false⟩, ⟨[], allD 19, true⟩, ⟨[.op 0 0 0], allD 19, true⟩, ⟨[.op 0 0 0], allD 19, true⟩, ⟨[], allD 19, false⟩, ⟨[], allD 19, true⟩, ⟨[], allD 19, true⟩, ⟨[.op 0 0 0], allD 19, true⟩, ⟨[.op 0 0 0], allD 19, true⟩, ⟨[.op 0 0 0], allD 19, true⟩, ⟨[], allD 19, false⟩, ⟨[], allD 19, true⟩, ⟨[], allD 19, true⟩, ⟨[], allD 19, true⟩, ⟨[], allD 19, true⟩] h0 hm (tabEnv_ok (tab_cons (ok_l1In p.Len 0 32) (tab_cons (ok_l1Addr p.Addr) (tab_cons (ok_l1Size p c1.1 c1.2) tab_nil)))) (by kernel_rfl) (by kernel_rfl) ?_
    cases c2 : inR p.Addr 0 4294967295 with
    | false => simp [c1, c2, goodPx, inR_t c1]
    | true =>
      simp [c1, c2, goodPx, inR_t c1, szP, hz]
      try exact decide_eq_decide.2 Iff.rfl
  · refine drawP (tabEnv [] _) [⟨[.op 0 0 0], allD 19, true⟩, ⟨[.op 0 0 0], allD 19, true⟩, ⟨[], allD 19, false⟩, ⟨[], allD 19, true⟩, ⟨[.op 0 0 0], allD 19, true⟩, ⟨[.op 0 0 0], allD 19, true⟩, ⟨[], allD 19, false⟩, ⟨[], allD 19, true⟩, ⟨[], allD 19, true⟩, ⟨[.op 0 0 0], allD 19, true⟩, ⟨[.op 0 0 0], allD 19, true⟩, ⟨[.op 0 0 0], allD 19, true⟩, ⟨[], allD 19, false⟩, ⟨[], allD 19, true⟩, ⟨[], allD 19, true⟩, ⟨[], allD 19, true⟩, ⟨[], allD 19, true⟩] h0 hm (tabEnv_ok (tab_cons (ok_l1In p.Len 0 32) tab_nil)) (by kernel_rfl) (by kernel_rfl) ?_
    simp [c1, goodPx, inR]
theorem ok_isNaNI (s : Int) : CallOK Try.prog 151 [.c (pi s)] (.c (pb false)) [.c (pi s)] := by
  refine okS (fn := Try.f151) [] h0 Try.func151 (by kernel_rfl) rfl Try.ntmps151 Try.results151 (by simp) ?_
  simp
theorem ok_cmpI (u v : Int) : CallOK Try.prog 107 [.c (pi u), .c (pi v)] (.c (pi (cmpI u v))) [.c (pi u), .c (pi v)] := by
  refine okS (fn := Try.f107) [] h0 Try.func107 (by kernel_rfl) rfl Try.ntmps107 Try.results107 (by simp) ?_
  simp
  refine Inv_intro (ok_isNaNI u) ?_
  simp
  refine Inv_intro (ok_isNaNI v) ?_
  simp
  refine brn_app (fun a => ?_) (fun a => ?_)
  · simp at a
    simp [cmpI, a]
  · simp at a
    have a' : ¬ u < v := by omega
    simp
    refine brn_app (fun b => ?_) (fun b => ?_)
    · simp at b
      simp [cmpI, a', b]
    · simp at b
      have b' : ¬ v < u := by omega
      simp [cmpI, a', b']
theorem ok_orI (k : Nat) (xs : List Int) (hx : xs.length ≤ 140737488351232) : CallOK Try.prog 106 [.c (rd k xs.length (xs.map pi))] (.c (pi (orI xs))) [.c (rd k xs.length (xs.map pi))] := by
  refine okS (fn := Try.f106) [] h0 Try.func106 (by kernel_rfl) rfl Try.ntmps106 Try.results106 (by simp) ?_
  simp
  refine loopS [3, 6, 7, 8] [] (fun n st => ∃ (i : Nat), i + n = xs.length ∧ orI (xs.drop i) = orI xs ∧ st = ⟨slOf 18 [(3, .t (pi 0)), (6, .t (rd k xs.length (xs.map pi))), (7, .t (pi xs.length)), (8, .t (pi i))], ofL []⟩) xs.length ?_ ?_
  · rintro Inv hI
    simp
    subst hI
    exact ⟨0, by omega, rfl, rfl⟩
  · rintro Inv hI n st ⟨i, hi, hf, rfl⟩
    refine ewr_sound (M := []) h0 ?_
    simp
    refine brn_app (fun a => ?_) (fun a => ?_)
    · simp at a
      rw [drop_step _ i a, orI] at hf
      simp [a]
      refine brn_app (fun b => ?_) (fun b => ?_)
      · simp at b
        rw [if_neg b] at hf
        simp [hf]
      · simp at b
        rw [if_pos b] at hf
        simp
        subst hI
        exact Less_mk (n - 1) (by omega) ⟨i + 1, by omega, hf, by rw [wrNext i (by omega)]⟩
    · simp at a
      rw [List.drop_of_length_le (by omega), orI] at hf
      simp [← hf]
theorem ok_compare (p q : GPrefix) : CallOK Try.prog 55 [.agg p.c, .agg q.c] (.c (pi (cmpPx p q))) [.agg p.c, .agg q.c] := by
  refine okS (fn := Try.f55) [] h0 Try.func55 (by kernel_rfl) rfl Try.ntmps55 Try.results55 (by simp) ?_
  simp
  have ho := ok_orI 0 [cmpI p.Addr q.Addr, cmpI p.Len q.Len] (by simp)
  simp at ho
  refine drawP (fnEnv 107 (fI2 fun a b => pi (cmpI a b)) (tabEnv [] _)) [⟨[.op 0 0 0], allD 17, true⟩, ⟨[.op 0 0 0], allD 17, true⟩, ⟨[.op 0 1 0], allD 17, true⟩, ⟨[.op 0 1 0], allD 17, true⟩, ⟨[], allD 17, false⟩, ⟨[.op 0 0 0], allD 17, true⟩, ⟨[.op 0 0 0], allD 17, true⟩, ⟨[.op 0 1 0], allD 17, true⟩, ⟨[.op 0 1 0], allD 17, true⟩, ⟨[], allD 17, false⟩, ⟨[], allD 17, false⟩, ⟨[.op 1 10 0], [5, 6, 7, 8, 9, 10, 11, 12, 13, 14, 15, 16, 4], false⟩, ⟨[], allD 17, true⟩] h0 hm (fnEnv_ok (tabEnv_ok (tab_cons ho tab_nil)) (fI2_ok ok_cmpI)) (by kernel_rfl) (by kernel_rfl) ?_
  simp
  by_cases c : cmpI p.Addr q.Addr = 0
  · by_cases d : cmpI p.Len q.Len = 0 <;> simp [orI, cmpPx, c, d]
  · simp [orI, cmpPx, c]
theorem ok_l1Compare (p q : GPrefix) : CallOK Try.prog 52 [.agg p.c, .agg q.c] (.c (pi (cmpPx p q))) [.agg p.c, .agg q.c] := by
  refine okS (fn := Try.f52) [] h0 Try.func52 (by kernel_rfl) rfl Try.ntmps52 Try.results52 (by simp) ?_
  by_cases a1 : p.Addr < q.Addr
  · simp [a1, cmpPx, cmpI]
  · by_cases a2 : p.Addr = q.Addr
    · by_cases b1 : p.Len < q.Len
      · simp [a1, a2, b1, cmpPx, cmpI]
      · by_cases b2 : p.Len = q.Len
        · simp [a2, b2, cmpPx, cmpI]
        · have b3 : q.Len < p.Len := by omega
          simp [a2, b1, b2, b3, cmpPx, cmpI]
    · have a3 : q.Addr < p.Addr := by omega
      simp [a1, a2, a3, cmpPx, cmpI]
end Go.V
