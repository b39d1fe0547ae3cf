/- What functions of the seat's program do, each proved of its code, under the bounds that its theorem names. -/
import Derived.Test.YtnmpnjehehhjaaaGreatTab
set_option linter.all false
namespace Go.V
open Go.Proofs
set_option maxHeartbeats 1000000
set_option maxRecDepth 10000
set_option linter.unusedSimpArgs false
set_option linter.unusedVariables false
theorem ok_szRow (k : Nat) (x : GRow) (left : Int) (h1 : 0 ≤ left) (h2 : left ≤ 1048576) (hf : GRow.fits x) : CallOK Tryz.prog 43 [.agg (GRow.ci k x), .c (pi left)] (.c (pi (szr left (GRow.wt x)))) [.agg (GRow.ci k x), .c (pi left)] := by
  simp only [GRow.fits] at hf
  have hf0 := hf
  refine okS (fn := Tryz.f43) [] h0 Tryz.func43 (by kernel_rfl) rfl Tryz.ntmps43 Tryz.results43 (by simp) ?_
  simp
  refine Inv_intro (ok_szOfferS k x.Offers (left) (by omega) (by omega) hf0) ?_
  simp
  refine brn_app (fun a0 => ?_) (fun a0 => ?_)
  · simp at a0
    have b0 := szr_lt0 a0 (by omega)
    have e : szr left (GRow.wt x) = -1 := szr_neg (by unfold GRow.wt; omega)
    simp [e]
  · simp at a0
    have b0 := szr_ge0 a0
    have e0 := szr_ge b0
    simp only [e0]
    have e : szr left (GRow.wt x) = left - (wt_OfferS x.Offers : Nat) := by
      rw [szr_ge (by unfold GRow.wt; omega)]
      unfold GRow.wt
      omega
    simp [e]
theorem ok_szRowS (k : Nat) (xs : List GRow) (left : Int) (h1 : 0 ≤ left) (h2 : left ≤ 1048576) (hf : fits_RowS xs) : CallOK Tryz.prog 23 [.c (rd k xs.length (xs.flatMap (GRow.ci k))), .c (pi left)] (.c (pi (szr left (wt_RowS xs)))) [.c (rd k xs.length (xs.flatMap (GRow.ci k))), .c (pi left)] := by
  obtain ⟨hl, hx⟩ := hf
  refine okS (fn := Tryz.f23) [] h0 Tryz.func23 (by kernel_rfl) rfl Tryz.ntmps23 Tryz.results23 (by simp) ?_
  have hw : IntKind.wrap .i64 (left - xs.length) = left - xs.length := wrap64 (by omega) (by omega)
  have hwl := len_wt_RowS xs
  simp [hw]
  refine brn_app (fun h => ?_) (fun h => ?_)
  · simp at h
    have e1 : szr left (wt_RowS xs) = -1 := szr_neg (by omega)
    simp [e1]
  · simp at h
    simp
    refine loopS [0, 1, 5] [] (fun n st => ∃ (i : Nat) (m : Int), i + n = xs.length ∧ 0 ≤ m ∧ m ≤ 1048576 ∧ szr m (((xs.drop i).map GRow.wt).sum) = szr left (wt_RowS xs) ∧ st = ⟨slOf 27 [(0, .t (rd k xs.length (xs.flatMap (GRow.ci k)))), (1, .t (pi m)), (5, .t (pi i))], ofL []⟩) xs.length ?_ ?_
    · rintro Inv hI
      simp
      subst hI
      exact ⟨0, left - xs.length, by omega, by omega, by omega, by rw [List.drop_zero, wt_RowS, wtR, szr_add (by omega)], rfl⟩
    · rintro Inv hI n st ⟨i, m, hi, hm1, hm2, hg, rfl⟩
      refine ewr_sound (M := []) h0 ?_
      simp
      refine brn_app (fun h3 => ?_) (fun h3 => ?_)
      · simp at h3
        have hxi := hx xs[i] (List.getElem_mem h3)
        rw [drop_step xs i h3, List.map_cons, List.sum_cons] at hg
        have hd := fm_drop (GRow.ci k) 3 (fun _ => rfl) xs i h3
        have hlen := fm_len (GRow.ci k) 3 (fun _ => rfl) xs
        have hlt : i * 3 < xs.length * 3 := by omega
        simp [h3, hd, hlen, hlt]
        refine Inv_intro (ok_szRow k xs[i] m hm1 hm2 hxi) ?_
        simp
        refine brn_app (fun h4 => ?_) (fun h4 => ?_)
        · simp at h4
          have h5 := szr_lt0 h4 hm1
          rw [szr_add_neg h5] at hg
          simp [← hg]
        · simp at h4
          have h5 := szr_ge0 h4
          have e5 := szr_ge h5
          rw [szr_add h5, ← e5] at hg
          simp
          subst hI
          exact Less_mk (n - 1) (by omega) ⟨i + 1, szr m (GRow.wt xs[i]), by omega, by omega, by omega, hg, by rw [wrNext i (by omega)]⟩
      · simp at h3
        rw [List.drop_of_length_le (by omega), List.map_nil, List.sum_nil, szr_zero hm1] at hg
        simp [hg]
theorem ok_szRib (k : Nat) (x : GRib) (left : Int) (h1 : 0 ≤ left) (h2 : left ≤ 1048576) (hf : GRib.fits x) : CallOK Tryz.prog 5 [.agg (GRib.ci k x), .c (pi left)] (.c (pi (szr left (GRib.wt x)))) [.agg (GRib.ci k x), .c (pi left)] := by
  simp only [GRib.fits] at hf
  have hf0 := hf
  refine okS (fn := Tryz.f5) [] h0 Tryz.func5 (by kernel_rfl) rfl Tryz.ntmps5 Tryz.results5 (by simp) ?_
  simp
  refine Inv_intro (ok_szRowS k x.Rows (left) (by omega) (by omega) hf0) ?_
  simp
  refine brn_app (fun a0 => ?_) (fun a0 => ?_)
  · simp at a0
    have b0 := szr_lt0 a0 (by omega)
    have e : szr left (GRib.wt x) = -1 := szr_neg (by unfold GRib.wt; omega)
    simp [e]
  · simp at a0
    have b0 := szr_ge0 a0
    have e0 := szr_ge b0
    simp only [e0]
    have e : szr left (GRib.wt x) = left - (wt_RowS x.Rows : Nat) := by
      rw [szr_ge (by unfold GRib.wt; omega)]
      unfold GRib.wt
      omega
    simp [e]
theorem ok_toPrefix (x : GPrefix) : CallOK Tryz.prog 8 [.agg (GPrefix.c x)] (.agg (GPrefix.c x)) [.agg (GPrefix.c x)] := by
  refine okS (fn := Tryz.f8) [] h0 Tryz.func8 (by kernel_rfl) rfl Tryz.ntmps8 Tryz.results8 (by simp) ?_
  simp
theorem ok_toIntS (k : Nat) (xs : List Int) (hwt : wt_IntS xs ≤ 1048576) : CallOK Tryz.prog 99 [.c (rd k xs.length (xs.map pi))] (.c (.sl 0 3 xs.length (xs.map pi))) [.c (rd k xs.length (xs.map pi))] := by
  have hl := len_wt_IntS xs
  refine okS (fn := Tryz.f99) [] h0 Tryz.func99 (by kernel_rfl) rfl Tryz.ntmps99 Tryz.results99 (by simp) ?_
  have hb1 : (xs.length : Int) ≤ 281474976710656 := by omega
  have hb2 : 8 * (xs.length : Int) ≤ 281474976710656 := by omega
  simp [hb1, hb2]
  refine loopS [0, 3, 4] [.op 1 2 0] (fun n st => ∃ (i : Nat), i + n = xs.length ∧ st = ⟨slOf 22 [(0, .t (rd k xs.length (xs.map pi))), (3, .ref ⟨.op 1 2 0, []⟩ 0 xs.length), (4, .t (pi i))], ofL [(.op 1 2 0, .sl 0 3 xs.length (((xs.take i).map pi) ++ List.replicate n (.raw (.int .i64 0))))]⟩) xs.length ?_ ?_
  · rintro Inv hI
    simp
    subst hI
    exact ⟨0, by omega, by simp⟩
  · rintro Inv hI n st ⟨i, hi, rfl⟩
    have hA := map_take_len pi xs i (by omega)
    generalize hAe : ((xs.take i).map pi) = A at hA ⊢
    refine ewr_sound (M := []) h0 ?_
    simp
    refine brn_app (fun h => ?_) (fun h => ?_)
    · simp at h
      obtain ⟨m, rfl⟩ : ∃ m, n = m + 1 := ⟨n - 1, by omega⟩
      simp [h, hA, List.replicate_succ]
      have e3 : ((xs.take (i + 1)).map pi) = A ++ [pi xs[i]] := by rw [take_step xs i h, List.map_append, hAe]; rfl
      subst hI
      refine Less_mk m (by omega) ⟨i + 1, by omega, ?_⟩
      rw [wrNext i (by omega), e3, List.append_assoc]
      all_goals rfl
    · simp at h
      have hn : n = 0 := by omega
      subst hn
      have ht : List.take i xs = xs := List.take_of_length_le (by omega)
      have ht2 : List.take (xs.length) (xs.map pi) = (xs.map pi) := List.take_of_length_le (by simp)
      rw [← hAe, ht]
      simp [ht2]
theorem ok_toAttrs (k : Nat) (x : GAttrs) (hwt : GAttrs.wt x ≤ 1048576) : CallOK Tryz.prog 91 [.agg (GAttrs.ci k x)] (.agg (GAttrs.co x)) [.agg (GAttrs.ci k x)] := by
  unfold GAttrs.wt at hwt
  refine okS (fn := Tryz.f91) [] h0 Tryz.func91 (by kernel_rfl) rfl Tryz.ntmps91 Tryz.results91 (by simp) ?_
  simp
  refine Inv_intro (ok_toIntS k x.Path (by omega)) ?_
  simp
  refine Inv_intro (ok_toIntS k x.Comms (by omega)) ?_
  simp
theorem ok_toOffer (k : Nat) (x : GOffer) (hwt : GOffer.wt x ≤ 1048576) : CallOK Tryz.prog 82 [.agg (GOffer.ci k x)] (.agg (GOffer.co x)) [.agg (GOffer.ci k x)] := by
  unfold GOffer.wt at hwt
  refine okS (fn := Tryz.f82) [] h0 Tryz.func82 (by kernel_rfl) rfl Tryz.ntmps82 Tryz.results82 (by simp) ?_
  simp
  refine Inv_intro (ok_toAttrs k x.Attrs (by omega)) ?_
  simp
theorem ok_toOfferS (k : Nat) (xs : List GOffer) (hwt : wt_OfferS xs ≤ 1048576) : CallOK Tryz.prog 67 [.c (rd k xs.length (xs.flatMap (GOffer.ci k)))] (.c (.sl 0 32 xs.length (xs.flatMap GOffer.co))) [.c (rd k xs.length (xs.flatMap (GOffer.ci k)))] := by
  have hl := len_wt_OfferS xs
  refine okS (fn := Tryz.f67) [] h0 Tryz.func67 (by kernel_rfl) rfl Tryz.ntmps67 Tryz.results67 (by simp) ?_
  have hb1 : (xs.length : Int) ≤ 281474976710656 := by omega
  have hb2 : 88 * (xs.length : Int) ≤ 281474976710656 := by omega
  simp [hb1, hb2]
  refine loopS [0, 3, 4] [.op 1 2 0] (fun n st => ∃ (i : Nat), i + n = xs.length ∧ st = ⟨slOf 23 [(0, .t (rd k xs.length (xs.flatMap (GOffer.ci k)))), (3, .ref ⟨.op 1 2 0, []⟩ 0 xs.length), (4, .t (pi i))], ofL [(.op 1 2 0, .sl 0 32 xs.length (((xs.take i).flatMap GOffer.co) ++ (List.replicate n [.raw (.int .i64 0), .raw (.int .i64 0), .sl 0 nilE 0 [], .raw (.int .i64 0), .raw (.int .i64 0), .raw (.int .i64 0), .sl 0 nilE 0 []]).flatten))]⟩) xs.length ?_ ?_
  · rintro Inv hI
    simp
    subst hI
    exact ⟨0, by omega, by simp⟩
  · rintro Inv hI n st ⟨i, hi, rfl⟩
    have hA := fm_take_len GOffer.co 7 (fun _ => rfl) xs i (by omega)
    generalize hAe : ((xs.take i).flatMap GOffer.co) = A at hA ⊢
    refine ewr_sound (M := []) h0 ?_
    simp
    refine brn_app (fun h => ?_) (fun h => ?_)
    · simp at h
      obtain ⟨m, rfl⟩ : ∃ m, n = m + 1 := ⟨n - 1, by omega⟩
      have hd := fm_drop (GOffer.ci k) 7 (fun _ => rfl) xs i h
      have hlen := fm_len (GOffer.ci k) 7 (fun _ => rfl) xs
      have hlt : i * 7 < xs.length * 7 := by omega
      simp [h, hd, hlen, hlt]
      refine Inv_intro (ok_toOffer k xs[i] (by have := mem_wt_OfferS (List.getElem_mem h); omega)) ?_
      simp [h, hA, List.replicate_succ]
      have e3 : ((xs.take (i + 1)).flatMap GOffer.co) = A ++ GOffer.co xs[i] := by rw [take_step xs i h, List.flatMap_append, hAe, List.flatMap_cons, List.flatMap_nil, List.append_nil]
      subst hI
      refine Less_mk m (by omega) ⟨i + 1, by omega, ?_⟩
      rw [wrNext i (by omega), e3, List.append_assoc]
      all_goals rfl
    · simp at h
      have hn : n = 0 := by omega
      subst hn
      have ht : List.take i xs = xs := List.take_of_length_le (by omega)
      have ht2 : List.take (xs.length * 7) (xs.flatMap GOffer.co) = (xs.flatMap GOffer.co) := List.take_of_length_le (by rw [fm_len GOffer.co 7 (fun _ => rfl)]; exact Nat.le_refl _)
      have hlo := fm_len GOffer.co 7 (fun _ => rfl) xs
      rw [← hAe, ht]
      simp [ht2, hlo, -List.length_flatMap]
theorem ok_toRow (k : Nat) (x : GRow) (hwt : GRow.wt x ≤ 1048576) : CallOK Tryz.prog 50 [.agg (GRow.ci k x)] (.agg (GRow.co x)) [.agg (GRow.ci k x)] := by
  unfold GRow.wt at hwt
  refine okS (fn := Tryz.f50) [] h0 Tryz.func50 (by kernel_rfl) rfl Tryz.ntmps50 Tryz.results50 (by simp) ?_
  simp
  refine Inv_intro (ok_toPrefix x.Prefix) ?_
  simp
  refine Inv_intro (ok_toOfferS k x.Offers (by omega)) ?_
  simp
theorem ok_toRowS (k : Nat) (xs : List GRow) (hwt : wt_RowS xs ≤ 1048576) : CallOK Tryz.prog 28 [.c (rd k xs.length (xs.flatMap (GRow.ci k)))] (.c (.sl 0 66 xs.length (xs.flatMap GRow.co))) [.c (rd k xs.length (xs.flatMap (GRow.ci k)))] := by
  have hl := len_wt_RowS xs
  refine okS (fn := Tryz.f28) [] h0 Tryz.func28 (by kernel_rfl) rfl Tryz.ntmps28 Tryz.results28 (by simp) ?_
  have hb1 : (xs.length : Int) ≤ 281474976710656 := by omega
  have hb2 : 40 * (xs.length : Int) ≤ 281474976710656 := by omega
  simp [hb1, hb2]
  refine loopS [0, 3, 4] [.op 1 2 0] (fun n st => ∃ (i : Nat), i + n = xs.length ∧ st = ⟨slOf 23 [(0, .t (rd k xs.length (xs.flatMap (GRow.ci k)))), (3, .ref ⟨.op 1 2 0, []⟩ 0 xs.length), (4, .t (pi i))], ofL [(.op 1 2 0, .sl 0 66 xs.length (((xs.take i).flatMap GRow.co) ++ (List.replicate n [.raw (.int .i64 0), .raw (.int .i64 0), .sl 0 nilE 0 []]).flatten))]⟩) xs.length ?_ ?_
  · rintro Inv hI
    simp
    subst hI
    exact ⟨0, by omega, by simp⟩
  · rintro Inv hI n st ⟨i, hi, rfl⟩
    have hA := fm_take_len GRow.co 3 (fun _ => rfl) xs i (by omega)
    generalize hAe : ((xs.take i).flatMap GRow.co) = A at hA ⊢
    refine ewr_sound (M := []) h0 ?_
    simp
    refine brn_app (fun h => ?_) (fun h => ?_)
    · simp at h
      obtain ⟨m, rfl⟩ : ∃ m, n = m + 1 := ⟨n - 1, by omega⟩
      have hd := fm_drop (GRow.ci k) 3 (fun _ => rfl) xs i h
      have hlen := fm_len (GRow.ci k) 3 (fun _ => rfl) xs
      have hlt : i * 3 < xs.length * 3 := by omega
      simp [h, hd, hlen, hlt]
      refine Inv_intro (ok_toRow k xs[i] (by have := mem_wt_RowS (List.getElem_mem h); omega)) ?_
      simp [h, hA, List.replicate_succ]
      have e3 : ((xs.take (i + 1)).flatMap GRow.co) = A ++ GRow.co xs[i] := by rw [take_step xs i h, List.flatMap_append, hAe, List.flatMap_cons, List.flatMap_nil, List.append_nil]
      subst hI
      refine Less_mk m (by omega) ⟨i + 1, by omega, ?_⟩
      rw [wrNext i (by omega), e3, List.append_assoc]
      all_goals rfl
    · simp at h
      have hn : n = 0 := by omega
      subst hn
      have ht : List.take i xs = xs := List.take_of_length_le (by omega)
      have ht2 : List.take (xs.length * 3) (xs.flatMap GRow.co) = (xs.flatMap GRow.co) := List.take_of_length_le (by rw [fm_len GRow.co 3 (fun _ => rfl)]; exact Nat.le_refl _)
      have hlo := fm_len GRow.co 3 (fun _ => rfl) xs
      rw [← hAe, ht]
      simp [ht2, hlo, -List.length_flatMap]
theorem ok_toRib (k : Nat) (x : GRib) (hwt : GRib.wt x ≤ 1048576) : CallOK Tryz.prog 7 [.agg (GRib.ci k x)] (.agg (GRib.co x)) [.agg (GRib.ci k x)] := by
  unfold GRib.wt at hwt
  refine okS (fn := Tryz.f7) [] h0 Tryz.func7 (by kernel_rfl) rfl Tryz.ntmps7 Tryz.results7 (by simp) ?_
  simp
  refine Inv_intro (ok_toRowS k x.Rows (by omega)) ?_
  simp
structure GRoute where
  Prefix : GPrefix
  Attrs : GAttrs
  deriving DecidableEq
def GRoute.co (x : GRoute) : List PT := [pi x.Prefix.Addr, pi x.Prefix.Len, pi x.Attrs.Origin, .sl 0 3 x.Attrs.Path.length (x.Attrs.Path.map pi), pi x.Attrs.Next, pi x.Attrs.Med, pi x.Attrs.Pref, .sl 0 3 x.Attrs.Comms.length (x.Attrs.Comms.map pi)]
def GRoute.ci (k : Nat) (x : GRoute) : List PT := [pi x.Prefix.Addr, pi x.Prefix.Len, pi x.Attrs.Origin, rd k x.Attrs.Path.length (x.Attrs.Path.map pi), pi x.Attrs.Next, pi x.Attrs.Med, pi x.Attrs.Pref, rd k x.Attrs.Comms.length (x.Attrs.Comms.map pi)]
attribute [simp] GRoute.co GRoute.ci
theorem GRoute.len_o (x : GRoute) : x.co.length = 8 := rfl
theorem GRoute.len_i (k : Nat) (x : GRoute) : (x.ci k).length = 8 := rfl
theorem GRoute.un1 (x : GRoute) : PT.unownL x.co = x.ci 0 := by simp [rd]
theorem GRoute.uni1 (k : Nat) (x : GRoute) : PT.unownL (x.ci k) = x.ci 0 := by simp [rd]
theorem GRoute.un (xs : List GRoute) : PT.unownL (xs.flatMap GRoute.co) = xs.flatMap (GRoute.ci 0) := by
  rw [unownL_fm]
  congr 1
  funext x
  exact GRoute.un1 x
theorem GRoute.uni (k : Nat) (xs : List GRoute) : PT.unownL (xs.flatMap (GRoute.ci k)) = xs.flatMap (GRoute.ci 0) := by
  rw [unownL_fm]
  congr 1
  funext x
  exact GRoute.uni1 k x
theorem GRoute.nt (xs : List GRoute) : PT.noTmpL (xs.flatMap GRoute.co) = true := noTmpL_fm _ xs fun x => by simp
theorem GRoute.nti (k : Nat) (xs : List GRoute) : PT.noTmpL (xs.flatMap (GRoute.ci (k + 1))) = true := noTmpL_fm _ xs fun x => by simp [rd]
attribute [simp] GRoute.un GRoute.uni GRoute.nt GRoute.nti
theorem GRoute.lenR (xs : List GRoute) : (xs.flatMap GRoute.co).length = xs.length * 8 := fm_len _ 8 (fun _ => rfl) xs
theorem GRoute.lenRi (k : Nat) (xs : List GRoute) : (xs.flatMap (GRoute.ci k)).length = xs.length * 8 := fm_len _ 8 (fun _ => rfl) xs
theorem GRoute.tkR (xs : List GRoute) : (xs.flatMap GRoute.co).take (xs.length * 8) = xs.flatMap GRoute.co := List.take_of_length_le (by rw [GRoute.lenR]; exact Nat.le_refl _)
theorem GRoute.tkRi (k : Nat) (xs : List GRoute) : (xs.flatMap (GRoute.ci k)).take (xs.length * 8) = xs.flatMap (GRoute.ci k) := List.take_of_length_le (by rw [GRoute.lenRi]; exact Nat.le_refl _)
attribute [simp high] GRoute.lenR GRoute.tkR GRoute.lenRi GRoute.tkRi
def GRoute.wt (x : GRoute) : Nat := GAttrs.wt x.Attrs
def GRoute.fits (x : GRoute) : Prop := GAttrs.fits x.Attrs
def GRoute.lens (x : GRoute) : Prop := GAttrs.lens x.Attrs
def GRoute.mark (x : GRoute) (k : Int) : GRoute × Int := (⟨⟨k, (k + 1)⟩, ⟨((k + 1) + 1), (mk_IntS x.Attrs.Path (((k + 1) + 1) + 1)).1, (mk_IntS x.Attrs.Path (((k + 1) + 1) + 1)).2, ((mk_IntS x.Attrs.Path (((k + 1) + 1) + 1)).2 + 1), (((mk_IntS x.Attrs.Path (((k + 1) + 1) + 1)).2 + 1) + 1), (mk_IntS x.Attrs.Comms ((((mk_IntS x.Attrs.Path (((k + 1) + 1) + 1)).2 + 1) + 1) + 1)).1⟩⟩, (mk_IntS x.Attrs.Comms ((((mk_IntS x.Attrs.Path (((k + 1) + 1) + 1)).2 + 1) + 1) + 1)).2)
def GRoute.cn (x : GRoute) : Nat := 1 + 1 + 1 + cn_IntS x.Attrs.Path + 1 + 1 + 1 + cn_IntS x.Attrs.Comms
theorem GRoute.mark_snd (x : GRoute) (k : Int) : (GRoute.mark x k).2 = k + GRoute.cn x := by
  simp only [GRoute.mark, GRoute.cn, mk_IntS_snd] <;> omega
def GRoute.markT (x : GRoute) (k : Int) : GRoute × Int := (⟨⟨x.Prefix.Addr, x.Prefix.Len⟩, ⟨x.Attrs.Origin, (mk_IntS x.Attrs.Path k).1, x.Attrs.Next, x.Attrs.Med, x.Attrs.Pref, (mk_IntS x.Attrs.Comms (mk_IntS x.Attrs.Path k).2).1⟩⟩, (mk_IntS x.Attrs.Comms (mk_IntS x.Attrs.Path k).2).2)
def GRoute.cnT (x : GRoute) : Nat := cn_IntS x.Attrs.Path + cn_IntS x.Attrs.Comms
theorem GRoute.markT_snd (x : GRoute) (k : Int) : (GRoute.markT x k).2 = k + GRoute.cnT x := by
  simp only [GRoute.markT, GRoute.cnT, mk_IntS_snd] <;> omega
theorem lens_of_Route {x : GRoute} (h : GRoute.wt x ≤ 1048576) : GRoute.lens x := by
  unfold GRoute.wt at h
  exact lens_of_Attrs (by omega)
theorem cn_le_Route (x : GRoute) : GRoute.cnT x ≤ 32 * GRoute.wt x := by
  unfold GRoute.cnT GRoute.wt
  have := cn_le_IntS x.Attrs.Path
  have := cn_le_IntS x.Attrs.Comms
  simp only [GAttrs.wt]
  omega
theorem cnE_le_Route (x : GRoute) : GRoute.cn x ≤ 32 * GRoute.wt x + 16 := by
  unfold GRoute.cn GRoute.wt
  have := cn_le_IntS x.Attrs.Path
  have := cn_le_IntS x.Attrs.Comms
  simp only [GAttrs.wt]
  omega
def inR (n lo hi : Int) : Bool := decide (lo ≤ n ∧ n ≤ hi)
def szP (n : Int) : Int := 2 ^ (32 - n).toNat
theorem shl_pow (m : Nat) (h : m ≤ 32) : IntKind.wrap .i64 (1 * 2 ^ min m IntKind.i64.bits) = 2 ^ m := by
  have : ∀ m : Fin 33, IntKind.wrap .i64 (1 * 2 ^ min m.1 IntKind.i64.bits) = 2 ^ m.1 := by decide
  exact this ⟨m, by omega⟩
theorem pow_ne (m : Nat) : ¬ (2 : Int) ^ m = 0 := by
  have : (0 : Int) < 2 ^ m := Int.pow_pos (by decide)
  omega
def goodPx (p : GPrefix) : Bool := inR p.Len 0 32 && (inR p.Addr 0 4294967295 && decide (p.Addr.tmod (szP p.Len) = 0))
def cmpI (a b : Int) : Int := if a < b then -1 else if b < a then 1 else 0
def cmpPx (p q : GPrefix) : Int := if cmpI p.Addr q.Addr = 0 then cmpI p.Len q.Len else cmpI p.Addr q.Addr
def orI : List Int → Int
  | [] => 0
  | x :: xs => if x = 0 then orI xs else x
def isAsnB (n : Int) : Bool := inR n 1 65535
def isValB (n : Int) : Bool := inR n 0 1000000
def adjI (q : Option Int) (x : Int) : Bool := match q with
  | none => true
  | some q => decide (q < x)
def commsG : Option Int → List Int → Bool
  | _, [] => true
  | q, x :: xs => isValB x && adjI q x && commsG (some x) xs
def goodCm (l : List Int) : Bool := commsG none l && decide (l.length ≤ 6)
def goodPa (l : List Int) : Bool := decide (l.length ≤ 10) && l.all isAsnB
def goodA (a : GAttrs) : Bool := inR a.Origin 0 2 && (goodPa a.Path && (inR a.Next 0 4294967295 && (isValB a.Med && (isValB a.Pref && goodCm a.Comms))))
def prevI (l : List Int) (i : Nat) : Option Int := if i = 0 then none else l[i - 1]?
theorem prevI_next (l : List Int) (i : Nat) (h : i < l.length) : prevI l (i + 1) = some l[i] := by simp [prevI, h]
def attrOK (a : GAttrs) : Prop := a.Path.length ≤ 140737488351232 ∧ a.Comms.length ≤ 140737488351232
def goodR (r : GRoute) : Bool := goodPx r.Prefix && goodA r.Attrs
/-- Where a condition holds first, or -1. -/
def idxOf {α : Type} (p : α → Bool) (xs : List α) : Int := match xs.findIdx? p with | some i => i | none => -1
theorem idxOf_hit {α : Type} (p : α → Bool) (xs : List α) (i : Nat) (h : i < xs.length) (hp : p xs[i] = true) (hall : ∀ (j : Nat) (hj : j < i), p (xs[j]'(by omega)) = false) : idxOf p xs = i := by
  unfold idxOf
  rw [(List.findIdx?_eq_some_iff_getElem (i := i)).2 ⟨h, hp, fun j hj => by simp [hall j hj]⟩]
theorem idxOf_no {α : Type} (p : α → Bool) (xs : List α) (hall : ∀ (j : Nat) (hj : j < xs.length), p xs[j] = false) : idxOf p xs = -1 := by
  unfold idxOf
  rw [List.findIdx?_eq_none_iff.2 (fun s hs => by
    obtain ⟨j, hj, rfl⟩ := List.getElem_of_mem hs
    simp [hall j hj])]
theorem idxOf_any {α : Type} (p : α → Bool) (xs : List α) : decide (0 ≤ idxOf p xs) = xs.any p := by
  unfold idxOf
  cases h : xs.findIdx? p with
  | none =>
    rw [List.findIdx?_eq_none_iff] at h
    simp
    exact fun x hx => by simpa using h x hx
  | some i =>
    rw [List.findIdx?_eq_some_iff_getElem] at h
    obtain ⟨h1, h2, _⟩ := h
    simp
    exact ⟨_, List.getElem_mem h1, h2⟩
def hasI (l : List Int) (n : Int) : Bool := l.any fun x => decide (x = n)
theorem ok_Index_Int (k : Nat) (xs : List Int) (v : Int) (ha : xs.length ≤ 140737488351232) : CallOK Tryz.prog 88 [.c (rd k xs.length (xs.map pi)), .c (pi v)] (.c (pi (idxOf (fun x => decide (x = v)) xs))) [.c (rd k xs.length (xs.map pi)), .c (pi v)] := by
  refine okS (fn := Tryz.f88) [] h0 Tryz.func88 (by kernel_rfl) rfl Tryz.ntmps88 Tryz.results88 (by simp) ?_
  simp
  refine loopS [0, 1, 6, 7, 8] [] (fun n st => ∃ (i : Nat), i + n = xs.length ∧ (∀ (j : Nat) (hj : j < i) (hj' : j < xs.length), decide (xs[j] = v) = false) ∧ st = ⟨slOf 19 [(0, .t (rd k xs.length (xs.map pi))), (1, .t (pi v)), (6, .t (rd k xs.length (xs.map pi))), (7, .t (pi xs.length)), (8, .t (pi i))], ofL []⟩) xs.length ?_ ?_
  · rintro Inv hI
    simp
    subst hI
    exact ⟨0, by omega, by intro j hj; omega, rfl⟩
  · rintro Inv hI n st ⟨i, hi, hall, rfl⟩
    refine ewr_sound (M := []) h0 ?_
    simp
    refine brn_app (fun h => ?_) (fun h => ?_)
    · simp at h
      simp [h]
      refine brn_app (fun h2 => ?_) (fun h2 => ?_)
      · simp at h2
        simp
        exact (idxOf_hit (fun x => decide (x = v)) xs i h (by simp [h2]) fun j hj => hall j hj (by omega)).symm
      · simp at h2
        simp
        subst hI
        refine Less_mk (n - 1) (by omega) ⟨i + 1, by omega, ?_, by rw [wrNext i (by omega)]⟩
        intro j hj hj'
        by_cases hji : j = i
        · subst hji; simp; exact fun e => h2 e.symm
        · exact hall j (by omega) hj'
    · simp at h
      simp
      exact (idxOf_no (fun x => decide (x = v)) xs fun j hj => hall j (by omega) hj).symm
theorem ok_Contains_Int (k : Nat) (xs : List Int) (v : Int) (ha : xs.length ≤ 140737488351232) : CallOK Tryz.prog 77 [.c (rd k xs.length (xs.map pi)), .c (pi v)] (.c (pb (hasI xs v))) [.c (rd k xs.length (xs.map pi)), .c (pi v)] := by
  refine okS (fn := Tryz.f77) [] h0 Tryz.func77 (by kernel_rfl) rfl Tryz.ntmps77 Tryz.results77 (by simp) ?_
  simp
  refine Inv_intro (ok_Index_Int k xs v ha) ?_
  simp [idxOf_any, hasI]
theorem hasI_drop {l : List Int} {n : Int} {i : Nat} (h : i < l.length) : hasI (l.drop i) n = (decide (l[i] = n) || hasI (l.drop (i + 1)) n) := by
  unfold hasI
  rw [List.drop_eq_getElem_cons h, List.any_cons]
theorem ok_l1Has (k : Nat) (xs : List Int) (v : Int) (ha : xs.length ≤ 140737488351232) : CallOK Tryz.prog 63 [.c (rd k xs.length (xs.map pi)), .c (pi v)] (.c (pb (hasI xs v))) [.c (rd k xs.length (xs.map pi)), .c (pi v)] := by
  refine okS (fn := Tryz.f63) [] h0 Tryz.func63 (by kernel_rfl) rfl Tryz.ntmps63 Tryz.results63 (by simp) ?_
  simp
  refine loopS [1, 7, 8, 9] [] (fun n st => ∃ (i : Nat), i + n = xs.length ∧ hasI (xs.drop i) v = hasI xs v ∧ st = ⟨slOf 17 [(1, .t (pi v)), (7, .t (rd k xs.length (xs.map pi))), (8, .t (pi xs.length)), (9, .t (pi i))], ofL []⟩) xs.length ?_ ?_
  · rintro Inv hI
    simp
    subst hI
    exact ⟨0, by omega, rfl, rfl⟩
  · rintro Inv hI n st ⟨i, hi, hall, rfl⟩
    refine ewr_sound (M := []) h0 ?_
    simp
    refine brn_app (fun h => ?_) (fun h => ?_)
    · simp at h
      rw [hasI_drop h] at hall
      simp [h]
      refine brn_app (fun h2 => ?_) (fun h2 => ?_)
      · simp at h2
        rw [decide_eq_true h2, Bool.true_or] at hall
        simp [← hall]
      · simp at h2
        rw [decide_eq_false h2, Bool.false_or] at hall
        simp
        subst hI
        exact Less_mk (n - 1) (by omega) ⟨i + 1, by omega, hall, by rw [wrNext i (by omega)]⟩
    · simp at h
      rw [List.drop_eq_nil_of_le (by omega)] at hall
      have h2 : hasI xs v = false := by rw [← hall]; rfl
      simp [h2]
def ordO (a b : GOffer) : Int := if a.Peer = b.Peer then 0 else orI [cmpI b.Attrs.Pref a.Attrs.Pref, cmpI a.Attrs.Path.length b.Attrs.Path.length, cmpI a.Attrs.Origin b.Attrs.Origin, cmpI a.Attrs.Med b.Attrs.Med, cmpI a.Attrs.Next b.Attrs.Next, cmpI a.Peer b.Peer]
theorem or_cons (u v : Int) (r : List Int) : orI (cmpI u v :: r) < 0 ↔ u < v ∨ (u = v ∧ orI r < 0) := by
  have e : orI (cmpI u v :: r) = if cmpI u v = 0 then orI r else cmpI u v := rfl
  rw [e]
  unfold cmpI
  by_cases h1 : u < v
  · simp [h1]
  · by_cases h2 : v < u
    · simp [h1, h2]
      omega
    · have : u = v := by omega
      subst this
      simp
theorem ord_neg {a b : GOffer} (h : a.Peer ≠ b.Peer) : ordO a b < 0 ↔ b.Attrs.Pref < a.Attrs.Pref ∨ (b.Attrs.Pref = a.Attrs.Pref ∧ ((a.Attrs.Path.length : Int) < b.Attrs.Path.length ∨ ((a.Attrs.Path.length : Int) = b.Attrs.Path.length ∧ (a.Attrs.Origin < b.Attrs.Origin ∨ (a.Attrs.Origin = b.Attrs.Origin ∧ (a.Attrs.Med < b.Attrs.Med ∨ (a.Attrs.Med = b.Attrs.Med ∧ (a.Attrs.Next < b.Attrs.Next ∨ (a.Attrs.Next = b.Attrs.Next ∧ a.Peer < b.Peer))))))))) := by
  unfold ordO
  rw [if_neg h]
  simp only [or_cons]
  have : ¬ orI [] < 0 := by simp [orI]
  simp only [this, and_false, or_false]
theorem ord_trans {a b c : GOffer} (h1 : a.Peer ≠ b.Peer) (h2 : b.Peer ≠ c.Peer) (h3 : a.Peer ≠ c.Peer) (hab : ordO a b < 0) (hbc : ordO b c < 0) : ordO a c < 0 := by
  rw [ord_neg h1] at hab
  rw [ord_neg h2] at hbc
  rw [ord_neg h3]
  omega
theorem ord_total {a b : GOffer} (h : a.Peer ≠ b.Peer) (hab : ¬ ordO a b < 0) : ordO b a < 0 := by
  rw [ord_neg h] at hab
  rw [ord_neg (Ne.symm h)]
  omega
def insRv (x : GOffer) : List GOffer → List GOffer
  | [] => [x]
  | y :: r => if ordO x y < 0 then y :: insRv x r else x :: y :: r
def sortRv (l : List GOffer) : List GOffer := l.foldl (fun acc x => insRv x acc) []
def bestO (l : List GOffer) : Option GOffer := l.foldl (fun b x => match b with
  | none => some x
  | some y => if ordO x y < 0 then some x else some y) none
theorem insRv_mem {x : GOffer} : ∀ {r : List GOffer} {y : GOffer}, y ∈ insRv x r ↔ y = x ∨ y ∈ r
  | [], y => by simp [insRv]
  | z :: r, y => by
    unfold insRv
    split
    · simp only [List.mem_cons, insRv_mem (r := r)]
      exact or_left_comm
    · simp only [List.mem_cons]
theorem insRv_len (x : GOffer) : ∀ r : List GOffer, (insRv x r).length = r.length + 1
  | [] => rfl
  | z :: r => by
    unfold insRv
    split
    · simp only [List.length_cons, insRv_len x r]
    · simp only [List.length_cons]
theorem insRv_last {x : GOffer} : ∀ {r : List GOffer}, (insRv x r).getLast? = if ∀ y ∈ r, ordO x y < 0 then some x else r.getLast?
  | [] => by simp [insRv]
  | z :: r => by
    unfold insRv
    by_cases h : ordO x z < 0
    · rw [if_pos h]
      have hne : insRv x r ≠ [] := fun e => by have := insRv_len x r; rw [e] at this; simp at this
      rw [List.getLast?_cons, insRv_last (r := r)]
      by_cases h2 : ∀ y ∈ r, ordO x y < 0
      · rw [if_pos h2, if_pos (by intro y hy; rcases List.mem_cons.1 hy with rfl | hy; exact h; exact h2 y hy)]
        rfl
      · rw [if_neg h2, if_neg (fun hh => h2 fun y hy => hh y (List.mem_cons_of_mem _ hy)), List.getLast?_cons]
    · rw [if_neg h, if_neg (fun hh => h (hh z List.mem_cons_self))]
      rfl
def distO (l : List GOffer) : Prop := l.Pairwise fun a b => a.Peer ≠ b.Peer
theorem best_fold : ∀ (l acc : List GOffer) (m : Option GOffer), distO l → (∀ x ∈ l, ∀ y ∈ acc, x.Peer ≠ y.Peer) → acc.getLast? = m → (∀ z, m = some z → z ∈ acc ∧ ∀ y ∈ acc, y = z ∨ (y.Peer ≠ z.Peer ∧ ordO z y < 0)) →
    (l.foldl (fun acc x => insRv x acc) acc).getLast? = l.foldl (fun b x => match b with
      | none => some x
      | some y => if ordO x y < 0 then some x else some y) m
  | [], acc, m, _, _, h, _ => h
  | x :: l, acc, m, hd, hx, hl, hm => by
    obtain ⟨hd1, hd2⟩ := List.pairwise_cons.1 hd
    simp only [List.foldl_cons]
    have hxa : ∀ y ∈ acc, x.Peer ≠ y.Peer := hx x List.mem_cons_self
    refine best_fold l (insRv x acc) _ hd2 ?_ ?_ ?_
    · intro y hy z hz
      rcases insRv_mem.1 hz with rfl | hz
      · exact Ne.symm (hd1 y hy)
      · exact hx y (List.mem_cons_of_mem _ hy) z hz
    · rw [insRv_last]
      cases m with
      | none =>
        have : acc = [] := by
          cases acc with
          | nil => rfl
          | cons a b => simp [List.getLast?_cons] at hl
        subst this
        simp
      | some z =>
        obtain ⟨hz, hall⟩ := hm z rfl
        simp only
        by_cases h : ordO x z < 0
        · rw [if_pos h, if_pos]
          intro y hy
          rcases hall y hy with rfl | ⟨hne, hzy⟩
          · exact h
          · exact ord_trans (hxa z hz) (Ne.symm hne) (hxa y hy) h hzy
        · rw [if_neg h, if_neg (fun hh => h (hh z hz))]
          exact hl
    · intro z hz
      cases m with
      | none =>
        have : acc = [] := by
          cases acc with
          | nil => rfl
          | cons a b => simp [List.getLast?_cons] at hl
        subst this
        simp only [Option.some.injEq] at hz
        subst hz
        refine ⟨by simp [insRv], fun y hy => .inl (by simpa [insRv] using hy)⟩
      | some w =>
        obtain ⟨hw, hall⟩ := hm w rfl
        simp only at hz
        by_cases h : ordO x w < 0
        · rw [if_pos h] at hz
          cases hz
          refine ⟨insRv_mem.2 (.inl rfl), fun y hy => ?_⟩
          rcases insRv_mem.1 hy with rfl | hy
          · exact .inl rfl
          · right
            refine ⟨Ne.symm (hxa y hy), ?_⟩
            rcases hall y hy with rfl | ⟨hne, hzy⟩
            · exact h
            · exact ord_trans (hxa w hw) (Ne.symm hne) (hxa y hy) h hzy
        · rw [if_neg h] at hz
          cases hz
          refine ⟨insRv_mem.2 (.inr hw), fun y hy => ?_⟩
          rcases insRv_mem.1 hy with rfl | hy
          · exact .inr ⟨hxa _ hw, ord_total (hxa _ hw) h⟩
          · exact hall y hy
theorem best_sort {l : List GOffer} (h : distO l) : (sortRv l).getLast? = bestO l := best_fold l [] none h (by simp) rfl (by simp)
end Go.V
