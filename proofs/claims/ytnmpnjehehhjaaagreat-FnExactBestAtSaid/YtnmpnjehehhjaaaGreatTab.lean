/- What functions of the seat's program do, each proved of its code, under the bounds that its theorem names. -/
import Derived.Test.YtnmpnjehehhjaaaGreatTaa
set_option linter.all false
namespace Go.V
open Go.Proofs
set_option maxHeartbeats 1000000
set_option maxRecDepth 10000
set_option linter.unusedSimpArgs false
set_option linter.unusedVariables false
theorem ok_eqPrefix (x y : GPrefix) : CallOK Tryz.prog 40 [.agg (GPrefix.c x), .agg (GPrefix.c y)] (.c (pb (decide (x = y)))) [.agg (GPrefix.c x), .agg (GPrefix.c y)] := by
  refine okS (fn := Tryz.f40) [] h0 Tryz.func40 (by kernel_rfl) rfl Tryz.ntmps40 Tryz.results40 (by simp) ?_
  simp
  refine brn_app (fun a0 => ?_) (fun a0 => ?_)
  · simp at a0
    simp
    rintro rfl
    exact a0 rfl
  · simp at a0
    simp
    refine brn_app (fun a1 => ?_) (fun a1 => ?_)
    · simp at a1
      simp
      rintro rfl
      exact a1 rfl
    · simp at a1
      simp
      cases x
      cases y
      simp_all
theorem ok_eqRow (k k' : Nat) (x y : GRow) (ha : GRow.lens x) (hb : GRow.lens y) : CallOK Tryz.prog 62 [.agg (GRow.ci k x), .agg (GRow.ci k' y)] (.c (pb (decide (x = y)))) [.agg (GRow.ci k x), .agg (GRow.ci k' y)] := by
  simp only [GRow.lens] at ha hb
  refine okS (fn := Tryz.f62) [] h0 Tryz.func62 (by kernel_rfl) rfl Tryz.ntmps62 Tryz.results62 (by simp) ?_
  simp
  refine Inv_intro (ok_eqPrefix x.Prefix y.Prefix) ?_
  simp
  refine brn_app (fun a0 => ?_) (fun a0 => ?_)
  · simp at a0
    simp
    rintro rfl
    exact a0 rfl
  · simp at a0
    simp
    refine Inv_intro (ok_eqOfferS k k' x.Offers y.Offers (ha) (hb)) ?_
    simp
    refine brn_app (fun a1 => ?_) (fun a1 => ?_)
    · simp at a1
      simp
      rintro rfl
      exact a1 rfl
    · simp at a1
      simp
      cases x
      cases y
      simp_all
theorem ok_eqRowS (k k' : Nat) (xs ys : List GRow) (ha : lens_RowS xs) (hb : lens_RowS ys) : CallOK Tryz.prog 34 [.c (rd k xs.length (xs.flatMap (GRow.ci k))), .c (rd k' ys.length (ys.flatMap (GRow.ci k')))] (.c (pb (decide (xs = ys)))) [.c (rd k xs.length (xs.flatMap (GRow.ci k))), .c (rd k' ys.length (ys.flatMap (GRow.ci k')))] := by
  obtain ⟨ha, hax⟩ := ha
  obtain ⟨hb, hbx⟩ := hb
  refine okS (fn := Tryz.f34) [] h0 Tryz.func34 (by kernel_rfl) rfl Tryz.ntmps34 Tryz.results34 (by simp) ?_
  simp
  refine brn_app (fun h => ?_) (fun h => ?_)
  · simp at h
    simp
    rintro rfl
    exact h rfl
  · simp at h
    have hl : ys.length = xs.length := by omega
    simp
    refine loopS [0, 1, 5] [] (fun n st => ∃ (i : Nat), i + n = xs.length ∧ (xs.drop i = ys.drop i ↔ xs = ys) ∧ st = ⟨slOf 27 [(0, .t (rd k xs.length (xs.flatMap (GRow.ci k)))), (1, .t (rd k' ys.length (ys.flatMap (GRow.ci k')))), (5, .t (pi i))], ofL []⟩) xs.length ?_ ?_
    · rintro Inv hI
      simp
      subst hI
      exact ⟨0, by omega, by simp, rfl⟩
    · rintro Inv hI n st ⟨i, hi, htk, rfl⟩
      refine ewr_sound (M := []) h0 ?_
      simp
      refine brn_app (fun h => ?_) (fun h => ?_)
      · simp at h
        have hib : i < ys.length := by omega
        rw [drop_step xs i h, drop_step ys i hib, List.cons.injEq] at htk
        simp
        have hd := fm_drop (GRow.ci k) 3 (fun _ => rfl) xs i h
        have hd' := fm_drop (GRow.ci k') 3 (fun _ => rfl) ys i hib
        have hlen := fm_len (GRow.ci k) 3 (fun _ => rfl) xs
        have hlen' := fm_len (GRow.ci k') 3 (fun _ => rfl) ys
        have hlt : i * 3 < xs.length * 3 := by omega
        have hlt' : i * 3 < ys.length * 3 := by omega
        have hE := ok_eqRow k k' xs[i] ys[i] (hax _ (List.getElem_mem h)) (hbx _ (List.getElem_mem hib))
        refine drawP (tabEnv [] [(62, [.agg (GRow.ci k xs[i]), .agg (GRow.ci k' ys[i])], .c (pb (decide (xs[i] = ys[i]))), [.agg (GRow.ci k xs[i]), .agg (GRow.ci k' ys[i])])]) [⟨[], allD 27, true⟩, ⟨[], allD 27, true⟩, ⟨[], allD 27, true⟩, ⟨[], allD 27, true⟩, ⟨[], allD 27, true⟩, ⟨[], allD 27, true⟩, ⟨[], allD 27, true⟩, ⟨[], allD 27, true⟩, ⟨[], allD 27, false⟩, ⟨[], allD 27, true⟩] h0 hm (tabEnv_ok (by intro x hx; simp only [List.mem_singleton] at hx; subst hx; exact hE)) (by kernel_rfl) (by kernel_rfl) ?_
        simp [h, hib, hd, hd', hlen, hlen', hlt, hlt']
        refine brn_app (fun h2 => ?_) (fun h2 => ?_)
        · simp at h2
          simp
          intro he
          exact h2 (htk.2 he).1
        · simp at h2
          simp
          subst hI
          exact Less_mk (n - 1) (by omega) ⟨i + 1, by omega, ⟨fun h4 => htk.1 ⟨h2, h4⟩, fun h4 => (htk.2 h4).2⟩, by rw [wrNext i (by omega)]⟩
      · simp at h
        rw [List.drop_of_length_le (by omega), List.drop_of_length_le (by omega)] at htk
        simp
        exact htk.1 rfl
theorem ok_eqRib (k k' : Nat) (x y : GRib) (ha : GRib.lens x) (hb : GRib.lens y) : CallOK Tryz.prog 11 [.agg (GRib.ci k x), .agg (GRib.ci k' y)] (.c (pb (decide (x = y)))) [.agg (GRib.ci k x), .agg (GRib.ci k' y)] := by
  simp only [GRib.lens] at ha hb
  refine okS (fn := Tryz.f11) [] h0 Tryz.func11 (by kernel_rfl) rfl Tryz.ntmps11 Tryz.results11 (by simp) ?_
  simp
  refine brn_app (fun a0 => ?_) (fun a0 => ?_)
  · simp at a0
    simp
    rintro rfl
    exact a0 rfl
  · simp at a0
    simp
    refine Inv_intro (ok_eqRowS k k' x.Rows y.Rows (ha) (hb)) ?_
    simp
    refine brn_app (fun a1 => ?_) (fun a1 => ?_)
    · simp at a1
      simp
      rintro rfl
      exact a1 rfl
    · simp at a1
      simp
      cases x
      cases y
      simp_all
theorem ok_heldIntS (q : Nat) (xs : List Int) (k : Int) (hls : lens_IntS xs) (hk : 0 < k) (hk2 : k + cn_IntS xs ≤ 2305843009213693952) : CallOK Tryz.prog 42 [.c (rd q xs.length ((mk_IntS xs k).1.map pi)), .c (pi k)] (.c (pi (mk_IntS xs k).2)) [.c (rd q xs.length ((mk_IntS xs k).1.map pi)), .c (pi k)] := by
  obtain ⟨hl0, hlx⟩ := hls
  unfold mk_IntS
  unfold cn_IntS at hk2
  have hyl := mkR_len (fun (_ : Int) k => (k, k + 1)) xs k
  have hyi : ∀ (i : Nat) (h : i < xs.length) (h' : i < (mkR (fun (_ : Int) k => (k, k + 1)) xs k).1.length), (mkR (fun (_ : Int) k => (k, k + 1)) xs k).1[i] = ((fun (_ : Int) k => (k, k + 1)) xs[i] (mkR (fun (_ : Int) k => (k, k + 1)) (xs.take i) k).2).1 := fun i h _ => mkR_get (fun (_ : Int) k => (k, k + 1)) xs i h k
  have hend : (mkR (fun (_ : Int) k => (k, k + 1)) xs k).2 = k + cnR (fun (_ : Int) => 1) xs := mkR_snd (f := (fun (_ : Int) k => (k, k + 1))) (g := (fun (_ : Int) => 1)) (fun _ _ => rfl) xs k
  generalize hY : (mkR (fun (_ : Int) k => (k, k + 1)) xs k).1 = ys at hyl hyi ⊢
  refine okS (fn := Tryz.f42) [] h0 Tryz.func42 (by kernel_rfl) rfl Tryz.ntmps42 Tryz.results42 (by simp) ?_
  simp
  refine loopS [0, 1, 5] [] (fun n st => ∃ (i : Nat), i + n = xs.length ∧ st = ⟨slOf 21 [(0, .t (rd q xs.length (ys.map pi))), (1, .t (pi (mkR (fun (_ : Int) k => (k, k + 1)) (xs.take i) k).2)), (5, .t (pi i))], ofL []⟩) xs.length ?_ ?_
  · rintro Inv hI
    simp
    subst hI
    exact ⟨0, by omega, rfl⟩
  · rintro Inv hI n st ⟨i, hi, rfl⟩
    have hKb := mkR_snd (f := (fun (_ : Int) k => (k, k + 1))) (g := (fun (_ : Int) => 1)) (fun _ _ => rfl) (xs.take i) k
    have hyK : ∀ (h : i < xs.length), ys[i]'(by omega) = ((fun (_ : Int) k => (k, k + 1)) xs[i] (mkR (fun (_ : Int) k => (k, k + 1)) (xs.take i) k).2).1 := fun h => hyi i h (by omega)
    generalize hK : (mkR (fun (_ : Int) k => (k, k + 1)) (xs.take i) k).2 = K at hKb hyK ⊢
    refine ewr_sound (M := []) h0 ?_
    simp
    refine brn_app (fun h => ?_) (fun h => ?_)
    · simp at h
      obtain ⟨m, rfl⟩ : ∃ m, n = m + 1 := ⟨n - 1, by omega⟩
      have hcn := cnR_take (fun (_ : Int) => 1) xs i h
      have hb : i < ys.length := by omega
      have ey := hyK h
      have hw0 : IntKind.wrap .i64 (K + 1) = K + 1 := wrap64 (by omega) (by omega)
      simp [h, hb, ey, hw0]
      have e4 := mkR_take (fun (_ : Int) k => (k, k + 1)) xs i h k
      rw [hK] at e4
      subst hI
      refine Less_mk m (by omega) ⟨i + 1, by omega, ?_⟩
      rw [wrNext i (by omega), e4]
      all_goals rfl
    · simp at h
      have hx : xs.take i = xs := List.take_of_length_le (by omega)
      rw [hx] at hK
      simp [hK]
theorem ok_heldAttrs (q : Nat) (x : GAttrs) (k : Int) (hls : GAttrs.lens x) (hk : 0 < k) (hk2 : k + GAttrs.cnT x ≤ 2305843009213693952) : CallOK Tryz.prog 37 [.agg (GAttrs.ci q (GAttrs.markT x k).1), .c (pi k)] (.c (pi (GAttrs.markT x k).2)) [.agg (GAttrs.ci q (GAttrs.markT x k).1), .c (pi k)] := by
  unfold GAttrs.cnT at hk2
  unfold GAttrs.markT
  have hs0 := mk_IntS_snd x.Path k
  have hn0 : ¬ (mk_IntS x.Path k).2 < 0 := by omega
  have hs1 := mk_IntS_snd x.Comms (mk_IntS x.Path k).2
  have hn1 : ¬ (mk_IntS x.Comms (mk_IntS x.Path k).2).2 < 0 := by omega
  refine okS (fn := Tryz.f37) [] h0 Tryz.func37 (by kernel_rfl) rfl Tryz.ntmps37 Tryz.results37 (by simp) ?_
  simp
  refine Inv_intro (ok_heldIntS q x.Path (k) (hls.1) (by omega) (by omega)) ?_
  simp [hn0, hn1]
  refine Inv_intro (ok_heldIntS q x.Comms ((mk_IntS x.Path k).2) (hls.2) (by omega) (by omega)) ?_
  simp [hn0, hn1]
theorem ok_heldOffer (q : Nat) (x : GOffer) (k : Int) (hls : GOffer.lens x) (hk : 0 < k) (hk2 : k + GOffer.cnT x ≤ 2305843009213693952) : CallOK Tryz.prog 14 [.agg (GOffer.ci q (GOffer.markT x k).1), .c (pi k)] (.c (pi (GOffer.markT x k).2)) [.agg (GOffer.ci q (GOffer.markT x k).1), .c (pi k)] := by
  unfold GOffer.cnT at hk2
  unfold GOffer.markT
  have hs0 := GAttrs.markT_snd x.Attrs k
  have hc0 : x.Attrs.cnT = cn_IntS x.Attrs.Path + cn_IntS x.Attrs.Comms := rfl
  have hn0 : ¬ (GAttrs.markT x.Attrs k).2 < 0 := by omega
  refine okS (fn := Tryz.f14) [] h0 Tryz.func14 (by kernel_rfl) rfl Tryz.ntmps14 Tryz.results14 (by simp) ?_
  have hh := ok_heldAttrs q x.Attrs (k) (hls) (by omega) (by omega)
  have hn1 : ¬ (mk_IntS x.Attrs.Comms (mk_IntS x.Attrs.Path k).2).2 < 0 := hn0
  simp [GAttrs.markT] at hh ⊢
  refine Inv_intro hh ?_
  simp [hn1]
theorem ok_markIntS (xs : List Int) (k : Int) (hls : lens_IntS xs) (hk : 0 < k) (hk2 : k + cn_IntS xs ≤ 2305843009213693952) : CallOK Tryz.prog 41 [.c (.sl 0 3 xs.length (xs.map pi)), .c (pi k)] (.c (pi (mk_IntS xs k).2)) [.c (.sl 0 3 xs.length ((mk_IntS xs k).1.map pi)), .c (pi k)] := by
  obtain ⟨hl0, hlx⟩ := hls
  unfold mk_IntS
  unfold cn_IntS at hk2
  refine okS (fn := Tryz.f41) [] h0 Tryz.func41 (by kernel_rfl) rfl Tryz.ntmps41 Tryz.results41 (by simp) ?_
  simp
  refine loopS [0, 1, 5] [] (fun n st => ∃ (i : Nat), i + n = xs.length ∧ st = ⟨slOf 19 [(0, .ref ⟨.arg 0 0, []⟩ 0 xs.length), (1, .t (pi (mkR (fun (_ : Int) k => (k, k + 1)) (xs.take i) k).2)), (5, .t (pi i))], ofL [(.arg 0 0, .sl 0 3 xs.length (((mkR (fun (_ : Int) k => (k, k + 1)) (xs.take i) k).1.map pi) ++ ((xs.drop i).map pi)))]⟩) xs.length ?_ ?_
  · rintro Inv hI
    simp
    subst hI
    exact ⟨0, by omega, rfl⟩
  · rintro Inv hI n st ⟨i, hi, rfl⟩
    have hAl : (((mkR (fun (_ : Int) k => (k, k + 1)) (xs.take i) k).1.map pi)).length = i * 1 := by rw [List.length_map, mkR_len, len_take xs i (by omega), Nat.mul_one]
    have hKb := mkR_snd (f := (fun (_ : Int) k => (k, k + 1))) (g := (fun (_ : Int) => 1)) (fun _ _ => rfl) (xs.take i) k
    generalize hA : ((mkR (fun (_ : Int) k => (k, k + 1)) (xs.take i) k).1.map pi) = A at hAl ⊢
    generalize hK : (mkR (fun (_ : Int) k => (k, k + 1)) (xs.take i) k).2 = K at hKb ⊢
    generalize hB : ((xs.drop i).map pi) = B
    refine ewr_sound (M := []) h0 ?_
    simp
    refine brn_app (fun h => ?_) (fun h => ?_)
    · simp at h
      obtain ⟨m, rfl⟩ : ∃ m, n = m + 1 := ⟨n - 1, by omega⟩
      have hcn := cnR_take (fun (_ : Int) => 1) xs i h
      have hBe : B = [pi xs[i]] ++ ((xs.drop (i + 1)).map pi) := by rw [← hB, drop_step xs i h]; rfl
      generalize hC : ((xs.drop (i + 1)).map pi) = D at hBe
      subst hBe
      rw [Nat.mul_one] at hAl
      have hw0 : IntKind.wrap .i64 (K + 1) = K + 1 := wrap64 (by omega) (by omega)
      simp [h, hAl, hw0]
      have e4 := mkR_take (fun (_ : Int) k => (k, k + 1)) xs i h k
      rw [hK] at e4
      have e3 : ((mkR (fun (_ : Int) k => (k, k + 1)) (xs.take (i + 1)) k).1.map pi) = A ++ [pi ((fun (_ : Int) k => (k, k + 1)) xs[i] K).1] := by rw [e4, List.map_append, hA]; rfl
      subst hI
      refine Less_mk m (by omega) ⟨i + 1, by omega, ?_⟩
      rw [wrNext i (by omega), e3, e4, hC, List.append_assoc]
      all_goals rfl
    · simp at h
      have hx : xs.take i = xs := List.take_of_length_le (by omega)
      have hBn : B = [] := by rw [← hB, List.drop_of_length_le (by omega)]; rfl
      subst hBn
      rw [hx] at hA hK
      subst hK
      subst hA
      simp
theorem ok_markAttrs (x : GAttrs) (k : Int) (hls : GAttrs.lens x) (hk : 0 < k) (hk2 : k + GAttrs.cnT x ≤ 2305843009213693952) : CallOK Tryz.prog 36 [.agg (GAttrs.co x), .c (pi k)] (.c (pi (GAttrs.markT x k).2)) [.agg (GAttrs.co (GAttrs.markT x k).1), .c (pi k)] := by
  unfold GAttrs.cnT at hk2
  unfold GAttrs.markT
  have hs0 := mk_IntS_snd x.Path k
  have hs1 := mk_IntS_snd x.Comms (mk_IntS x.Path k).2
  refine okA h0 Tryz.func36 (by kernel_rfl) rfl Tryz.ntmps36 Tryz.results36 (by simp) ?_
  intro A hA
  obtain ⟨v1, hv1⟩ := hA 0 1 rfl
  obtain ⟨v5, hv5⟩ := hA 0 5 rfl
  refine ewpA_ghost 0 (.agg [.t (pi x.Origin), .t (.raw v1), .t (pi x.Next), .t (pi x.Med), .t (pi x.Pref), .t (.raw v5)]) (.inr ⟨_, _, rfl, rfl, (GhL.cons Gh.rfl' (GhL.cons (Gh.raw hv1 (by rfl)) (GhL.cons Gh.rfl' (GhL.cons Gh.rfl' (GhL.cons Gh.rfl' (GhL.cons (Gh.raw hv5 (by rfl)) GhL.nil))))))⟩) ?_
  refine ewpA_seq (ewpA_of (ewr_sound (M := [(41, [1, 0])]) h0 ?_))
  simp
  refine ewpA_seq (ewpA_region (runA_split (M := [(41, [1, 0])]) (r := 0) 2 h0 (hl_of rfl) ?_))
  simp
  refine runA_ghost 6 (.ref ⟨.arg 0 1, []⟩ 0 x.Path.length) (.inl (Gh.ref hv1 (by rfl))) ?_
  refine runA_of (M := [(41, [1, 0])]) (r := 0) h0 (hl_of rfl) ?_
  simp
  refine Inv_intro (ok_markIntS x.Path (k) (hls.1) (by omega) (by omega)) ?_
  simp
  refine ewpA_seq (ewpA_region (runA_split (M := [(41, [1, 0])]) (r := 0) 2 h0 (hl_of rfl) ?_))
  simp
  refine runA_ghost 10 (.ref ⟨.arg 0 5, []⟩ 0 x.Comms.length) (.inl (Gh.ref hv5 (by rfl))) ?_
  refine runA_of (M := [(41, [1, 0])]) (r := 0) h0 (hl_of rfl) ?_
  simp
  refine Inv_intro (ok_markIntS x.Comms ((mk_IntS x.Path k).2) (hls.2) (by omega) (by omega)) ?_
  simp
  refine ewpA_of (ewr_sound (M := [(41, [1, 0])]) h0 ?_)
  simp
theorem ok_markOffer (x : GOffer) (k : Int) (hls : GOffer.lens x) (hk : 0 < k) (hk2 : k + GOffer.cnT x ≤ 2305843009213693952) : CallOK Tryz.prog 13 [.agg (GOffer.co x), .c (pi k)] (.c (pi (GOffer.markT x k).2)) [.agg (GOffer.co (GOffer.markT x k).1), .c (pi k)] := by
  unfold GOffer.cnT at hk2
  unfold GOffer.markT
  have hs0 := GAttrs.markT_snd x.Attrs k
  have hc0 : x.Attrs.cnT = cn_IntS x.Attrs.Path + cn_IntS x.Attrs.Comms := rfl
  refine okA h0 Tryz.func13 (by kernel_rfl) rfl Tryz.ntmps13 Tryz.results13 (by simp) ?_
  intro A hA
  obtain ⟨v2, hv2⟩ := hA 0 2 rfl
  obtain ⟨v6, hv6⟩ := hA 0 6 rfl
  refine ewpA_ghost 0 (.agg [.t (pi x.Peer), .t (pi x.Attrs.Origin), .t (.raw v2), .t (pi x.Attrs.Next), .t (pi x.Attrs.Med), .t (pi x.Attrs.Pref), .t (.raw v6)]) (.inr ⟨_, _, rfl, rfl, (GhL.cons Gh.rfl' (GhL.cons Gh.rfl' (GhL.cons (Gh.raw hv2 (by rfl)) (GhL.cons Gh.rfl' (GhL.cons Gh.rfl' (GhL.cons Gh.rfl' (GhL.cons (Gh.raw hv6 (by rfl)) GhL.nil)))))))⟩) ?_
  refine ewpA_seq (ewpA_of (ewr_sound (M := [(36, [1, 0])]) h0 ?_))
  simp
  refine ewpA_seq (ewpA_region (runA_split (M := [(36, [1, 0])]) (r := 0) 2 h0 (hl_of rfl) ?_))
  simp
  refine runA_ghost 6 (.agg [.t (pi x.Attrs.Origin), .ref ⟨.arg 0 2, []⟩ 0 x.Attrs.Path.length, .t (pi x.Attrs.Next), .t (pi x.Attrs.Med), .t (pi x.Attrs.Pref), .ref ⟨.arg 0 6, []⟩ 0 x.Attrs.Comms.length]) (.inr ⟨_, _, rfl, rfl, (GhL.cons Gh.rfl' (GhL.cons (Gh.ref hv2 (by rfl)) (GhL.cons Gh.rfl' (GhL.cons Gh.rfl' (GhL.cons Gh.rfl' (GhL.cons (Gh.ref hv6 (by rfl)) GhL.nil))))))⟩) ?_
  refine runA_of (M := [(36, [1, 0])]) (r := 0) h0 (hl_of rfl) ?_
  simp
  refine Inv_intro (ok_markAttrs x.Attrs (k) (hls) (by omega) (by omega)) ?_
  simp
  refine ewpA_of (ewr_sound (M := [(36, [1, 0])]) h0 ?_)
  simp [GAttrs.markT]
theorem ok_markOfferS (xs : List GOffer) (k : Int) (hls : lens_OfferS xs) (hk : 0 < k) (hk2 : k + cn_OfferS xs ≤ 2305843009213693952) : CallOK Tryz.prog 19 [.c (.sl 0 32 xs.length (xs.flatMap GOffer.co)), .c (pi k)] (.c (pi (mk_OfferS xs k).2)) [.c (.sl 0 32 xs.length ((mk_OfferS xs k).1.flatMap GOffer.co)), .c (pi k)] := by
  obtain ⟨hl0, hlx⟩ := hls
  unfold mk_OfferS
  unfold cn_OfferS at hk2
  refine okS (fn := Tryz.f19) [(41, [1,0])] h0 Tryz.func19 (by kernel_rfl) rfl Tryz.ntmps19 Tryz.results19 (by simp) ?_
  simp
  refine loopS [0, 1, 5] [] (fun n st => ∃ (i : Nat), i + n = xs.length ∧ st = ⟨slOf 68 [(0, .ref ⟨.arg 0 0, []⟩ 0 xs.length), (1, .t (pi (mkR GOffer.mark (xs.take i) k).2)), (5, .t (pi i))], ofL [(.arg 0 0, .sl 0 32 xs.length (((mkR GOffer.mark (xs.take i) k).1.flatMap GOffer.co) ++ ((xs.drop i).flatMap GOffer.co)))]⟩) xs.length ?_ ?_
  · rintro Inv hI
    simp
    subst hI
    exact ⟨0, by omega, rfl⟩
  · rintro Inv hI n st ⟨i, hi, rfl⟩
    have hAl : (((mkR GOffer.mark (xs.take i) k).1.flatMap GOffer.co)).length = i * 7 := by rw [fm_len GOffer.co 7 (fun _ => rfl), mkR_len, len_take xs i (by omega)]
    have hKb := mkR_snd (f := GOffer.mark) (g := GOffer.cn) (GOffer.mark_snd) (xs.take i) k
    generalize hA : ((mkR GOffer.mark (xs.take i) k).1.flatMap GOffer.co) = A at hAl ⊢
    generalize hK : (mkR GOffer.mark (xs.take i) k).2 = K at hKb ⊢
    generalize hB : ((xs.drop i).flatMap GOffer.co) = B
    refine ewr_sound (M := [(41, [1, 0])]) h0 ?_
    simp
    refine brn_app (fun h => ?_) (fun h => ?_)
    · simp at h
      obtain ⟨m, rfl⟩ : ∃ m, n = m + 1 := ⟨n - 1, by omega⟩
      have hcn := cnR_take GOffer.cn xs i h
      have hBe : B = [pi xs[i].Peer, pi xs[i].Attrs.Origin, .sl 0 3 xs[i].Attrs.Path.length (xs[i].Attrs.Path.map pi), pi xs[i].Attrs.Next, pi xs[i].Attrs.Med, pi xs[i].Attrs.Pref, .sl 0 3 xs[i].Attrs.Comms.length (xs[i].Attrs.Comms.map pi)] ++ ((xs.drop (i + 1)).flatMap GOffer.co) := by rw [← hB, drop_step xs i h]; rfl
      generalize hC : ((xs.drop (i + 1)).flatMap GOffer.co) = D at hBe
      subst hBe
      have hxl := hlx _ (List.getElem_mem h)
      simp only [GOffer.cn] at hcn
      have hw0 : IntKind.wrap .i64 (K + 1) = K + 1 := wrap64 (by omega) (by omega)
      have hw1 : IntKind.wrap .i64 ((K + 1) + 1) = (K + 1) + 1 := wrap64 (by omega) (by omega)
      have hs2 := mk_IntS_snd xs[i].Attrs.Path ((K + 1) + 1)
      have hw3 : IntKind.wrap .i64 ((mk_IntS xs[i].Attrs.Path ((K + 1) + 1)).2 + 1) = (mk_IntS xs[i].Attrs.Path ((K + 1) + 1)).2 + 1 := wrap64 (by omega) (by omega)
      have hw4 : IntKind.wrap .i64 (((mk_IntS xs[i].Attrs.Path ((K + 1) + 1)).2 + 1) + 1) = ((mk_IntS xs[i].Attrs.Path ((K + 1) + 1)).2 + 1) + 1 := wrap64 (by omega) (by omega)
      have hw5 : IntKind.wrap .i64 ((((mk_IntS xs[i].Attrs.Path ((K + 1) + 1)).2 + 1) + 1) + 1) = (((mk_IntS xs[i].Attrs.Path ((K + 1) + 1)).2 + 1) + 1) + 1 := wrap64 (by omega) (by omega)
      have hs6 := mk_IntS_snd xs[i].Attrs.Comms ((((mk_IntS xs[i].Attrs.Path ((K + 1) + 1)).2 + 1) + 1) + 1)
      have hq0 : i * 7 + 1 + 1 = i * 7 + 2 := by omega
      have hq1 : i * 7 + 1 + 2 = i * 7 + 3 := by omega
      have hq2 : i * 7 + 1 + 3 = i * 7 + 4 := by omega
      have hq3 : i * 7 + 1 + 4 = i * 7 + 5 := by omega
      have hq4 : i * 7 + 1 + 5 = i * 7 + 6 := by omega
      simp [h, hAl, hw0, hw1, hw3, hw4, hw5, hq0, hq1, hq2, hq3, hq4]
      refine Inv_intro (ok_markIntS xs[i].Attrs.Path (((K + 1) + 1)) hxl.1 (by omega) (by omega)) ?_
      simp [h, hAl, hw0, hw1, hw3, hw4, hw5, hq0, hq1, hq2, hq3, hq4]
      refine Inv_intro (ok_markIntS xs[i].Attrs.Comms (((((mk_IntS xs[i].Attrs.Path ((K + 1) + 1)).2 + 1) + 1) + 1)) hxl.2 (by omega) (by omega)) ?_
      simp [h, hAl, hw0, hw1, hw3, hw4, hw5, hq0, hq1, hq2, hq3, hq4]
      have e4 := mkR_take GOffer.mark xs i h k
      rw [hK] at e4
      have e3 : ((mkR GOffer.mark (xs.take (i + 1)) k).1.flatMap GOffer.co) = A ++ GOffer.co (GOffer.mark xs[i] K).1 := by rw [e4, List.flatMap_append, hA, List.flatMap_cons, List.flatMap_nil, List.append_nil]
      subst hI
      refine Less_mk m (by omega) ⟨i + 1, by omega, ?_⟩
      rw [wrNext i (by omega), e3, e4, hC, List.append_assoc]
      all_goals first | rfl | simp [GOffer.mark] | simp
    · simp at h
      have hx : xs.take i = xs := List.take_of_length_le (by omega)
      have hBn : B = [] := by rw [← hB, List.drop_of_length_le (by omega)]; rfl
      subst hBn
      rw [hx] at hA hK
      subst hK
      subst hA
      simp
theorem ok_markRowS (xs : List GRow) (k : Int) (hls : lens_RowS xs) (hk : 0 < k) (hk2 : k + cn_RowS xs ≤ 2305843009213693952) : CallOK Tryz.prog 35 [.c (.sl 0 66 xs.length (xs.flatMap GRow.co)), .c (pi k)] (.c (pi (mk_RowS xs k).2)) [.c (.sl 0 66 xs.length ((mk_RowS xs k).1.flatMap GRow.co)), .c (pi k)] := by
  obtain ⟨hl0, hlx⟩ := hls
  unfold mk_RowS
  unfold cn_RowS at hk2
  refine okS (fn := Tryz.f35) [(19, [1,0])] h0 Tryz.func35 (by kernel_rfl) rfl Tryz.ntmps35 Tryz.results35 (by simp) ?_
  simp
  refine loopS [0, 1, 5] [] (fun n st => ∃ (i : Nat), i + n = xs.length ∧ st = ⟨slOf 36 [(0, .ref ⟨.arg 0 0, []⟩ 0 xs.length), (1, .t (pi (mkR GRow.mark (xs.take i) k).2)), (5, .t (pi i))], ofL [(.arg 0 0, .sl 0 66 xs.length (((mkR GRow.mark (xs.take i) k).1.flatMap GRow.co) ++ ((xs.drop i).flatMap GRow.co)))]⟩) xs.length ?_ ?_
  · rintro Inv hI
    simp
    subst hI
    exact ⟨0, by omega, rfl⟩
  · rintro Inv hI n st ⟨i, hi, rfl⟩
    have hAl : (((mkR GRow.mark (xs.take i) k).1.flatMap GRow.co)).length = i * 3 := by rw [fm_len GRow.co 3 (fun _ => rfl), mkR_len, len_take xs i (by omega)]
    have hKb := mkR_snd (f := GRow.mark) (g := GRow.cn) (GRow.mark_snd) (xs.take i) k
    generalize hA : ((mkR GRow.mark (xs.take i) k).1.flatMap GRow.co) = A at hAl ⊢
    generalize hK : (mkR GRow.mark (xs.take i) k).2 = K at hKb ⊢
    generalize hB : ((xs.drop i).flatMap GRow.co) = B
    refine ewr_sound (M := [(19, [1, 0])]) h0 ?_
    simp
    refine brn_app (fun h => ?_) (fun h => ?_)
    · simp at h
      obtain ⟨m, rfl⟩ : ∃ m, n = m + 1 := ⟨n - 1, by omega⟩
      have hcn := cnR_take GRow.cn xs i h
      have hBe : B = [pi xs[i].Prefix.Addr, pi xs[i].Prefix.Len, .sl 0 32 xs[i].Offers.length (xs[i].Offers.flatMap GOffer.co)] ++ ((xs.drop (i + 1)).flatMap GRow.co) := by rw [← hB, drop_step xs i h]; rfl
      generalize hC : ((xs.drop (i + 1)).flatMap GRow.co) = D at hBe
      subst hBe
      have hxl := hlx _ (List.getElem_mem h)
      simp only [GRow.cn] at hcn
      have hw0 : IntKind.wrap .i64 (K + 1) = K + 1 := wrap64 (by omega) (by omega)
      have hw1 : IntKind.wrap .i64 ((K + 1) + 1) = (K + 1) + 1 := wrap64 (by omega) (by omega)
      have hs2 := mk_OfferS_snd xs[i].Offers ((K + 1) + 1)
      simp [h, hAl, hw0, hw1]
      refine Inv_intro (ok_markOfferS xs[i].Offers (((K + 1) + 1)) hxl (by omega) (by omega)) ?_
      simp [h, hAl, hw0, hw1]
      have e4 := mkR_take GRow.mark xs i h k
      rw [hK] at e4
      have e3 : ((mkR GRow.mark (xs.take (i + 1)) k).1.flatMap GRow.co) = A ++ GRow.co (GRow.mark xs[i] K).1 := by rw [e4, List.flatMap_append, hA, List.flatMap_cons, List.flatMap_nil, List.append_nil]
      subst hI
      refine Less_mk m (by omega) ⟨i + 1, by omega, ?_⟩
      rw [wrNext i (by omega), e3, e4, hC, List.append_assoc]
      all_goals first | rfl | simp [GRow.mark] | simp
    · simp at h
      have hx : xs.take i = xs := List.take_of_length_le (by omega)
      have hBn : B = [] := by rw [← hB, List.drop_of_length_le (by omega)]; rfl
      subst hBn
      rw [hx] at hA hK
      subst hK
      subst hA
      simp
theorem ok_markRib (x : GRib) (k : Int) (hls : GRib.lens x) (hk : 0 < k) (hk2 : k + GRib.cnT x ≤ 2305843009213693952) : CallOK Tryz.prog 12 [.agg (GRib.co x), .c (pi k)] (.c (pi (GRib.markT x k).2)) [.agg (GRib.co (GRib.markT x k).1), .c (pi k)] := by
  unfold GRib.cnT at hk2
  unfold GRib.markT
  have hs0 := mk_RowS_snd x.Rows k
  refine okA h0 Tryz.func12 (by kernel_rfl) rfl Tryz.ntmps12 Tryz.results12 (by simp) ?_
  intro A hA
  obtain ⟨v1, hv1⟩ := hA 0 1 rfl
  refine ewpA_ghost 0 (.agg [.t (pi x.Own), .t (.raw v1)]) (.inr ⟨_, _, rfl, rfl, (GhL.cons Gh.rfl' (GhL.cons (Gh.raw hv1 (by rfl)) GhL.nil))⟩) ?_
  refine ewpA_seq (ewpA_of (ewr_sound (M := [(35, [1, 0])]) h0 ?_))
  simp
  refine ewpA_seq (ewpA_region (runA_split (M := [(35, [1, 0])]) (r := 0) 2 h0 (hl_of rfl) ?_))
  simp
  refine runA_ghost 6 (.ref ⟨.arg 0 1, []⟩ 0 x.Rows.length) (.inl (Gh.ref hv1 (by rfl))) ?_
  refine runA_of (M := [(35, [1, 0])]) (r := 0) h0 (hl_of rfl) ?_
  simp
  refine Inv_intro (ok_markRowS x.Rows (k) (hls) (by omega) (by omega)) ?_
  simp
  refine ewpA_of (ewr_sound (M := [(35, [1, 0])]) h0 ?_)
  simp
theorem ok_szIntS (k : Nat) (xs : List Int) (left : Int) (h1 : 0 ≤ left) (h2 : left ≤ 1048576) (hf : fits_IntS xs) : CallOK Tryz.prog 98 [.c (rd k xs.length (xs.map pi)), .c (pi left)] (.c (pi (szr left (wt_IntS xs)))) [.c (rd k xs.length (xs.map pi)), .c (pi left)] := by
  obtain ⟨hl, hx⟩ := hf
  refine okS (fn := Tryz.f98) [] h0 Tryz.func98 (by kernel_rfl) rfl Tryz.ntmps98 Tryz.results98 (by simp) ?_
  have hw : IntKind.wrap .i64 (left - xs.length) = left - xs.length := wrap64 (by omega) (by omega)
  have hwl := len_wt_IntS xs
  simp [hw]
  refine brn_app (fun h => ?_) (fun h => ?_)
  · simp at h
    have e1 : szr left (wt_IntS xs) = -1 := szr_neg (by omega)
    simp [e1]
  · simp at h
    have e1 : szr left (wt_IntS xs) = left - xs.length := by unfold wt_IntS; exact szr_ge (by omega)
    simp [e1]
theorem ok_szAttrs (k : Nat) (x : GAttrs) (left : Int) (h1 : 0 ≤ left) (h2 : left ≤ 1048576) (hf : GAttrs.fits x) : CallOK Tryz.prog 90 [.agg (GAttrs.ci k x), .c (pi left)] (.c (pi (szr left (GAttrs.wt x)))) [.agg (GAttrs.ci k x), .c (pi left)] := by
  simp only [GAttrs.fits] at hf
  obtain ⟨hf0, hf1⟩ := hf
  refine okS (fn := Tryz.f90) [] h0 Tryz.func90 (by kernel_rfl) rfl Tryz.ntmps90 Tryz.results90 (by simp) ?_
  simp
  refine Inv_intro (ok_szIntS k x.Path (left) (by omega) (by omega) hf0) ?_
  simp
  refine brn_app (fun a0 => ?_) (fun a0 => ?_)
  · simp at a0
    have b0 := szr_lt0 a0 (by omega)
    have e : szr left (GAttrs.wt x) = -1 := szr_neg (by unfold GAttrs.wt; omega)
    simp [e]
  · simp at a0
    have b0 := szr_ge0 a0
    have e0 := szr_ge b0
    simp only [e0]
    simp
    refine Inv_intro (ok_szIntS k x.Comms (left - (wt_IntS x.Path : Nat)) (by omega) (by omega) hf1) ?_
    simp
    refine brn_app (fun a1 => ?_) (fun a1 => ?_)
    · simp at a1
      have b1 := szr_lt0 a1 (by omega)
      have e : szr left (GAttrs.wt x) = -1 := szr_neg (by unfold GAttrs.wt; omega)
      simp [e]
    · simp at a1
      have b1 := szr_ge0 a1
      have e1 := szr_ge b1
      simp only [e1]
      have e : szr left (GAttrs.wt x) = left - (wt_IntS x.Path : Nat) - (wt_IntS x.Comms : Nat) := by
        rw [szr_ge (by unfold GAttrs.wt; omega)]
        unfold GAttrs.wt
        omega
      simp [e]
theorem ok_szOffer (k : Nat) (x : GOffer) (left : Int) (h1 : 0 ≤ left) (h2 : left ≤ 1048576) (hf : GOffer.fits x) : CallOK Tryz.prog 81 [.agg (GOffer.ci k x), .c (pi left)] (.c (pi (szr left (GOffer.wt x)))) [.agg (GOffer.ci k x), .c (pi left)] := by
  simp only [GOffer.fits] at hf
  have hf0 := hf
  refine okS (fn := Tryz.f81) [] h0 Tryz.func81 (by kernel_rfl) rfl Tryz.ntmps81 Tryz.results81 (by simp) ?_
  simp
  refine Inv_intro (ok_szAttrs k x.Attrs (left) (by omega) (by omega) hf0) ?_
  simp
  refine brn_app (fun a0 => ?_) (fun a0 => ?_)
  · simp at a0
    have b0 := szr_lt0 a0 (by omega)
    have e : szr left (GOffer.wt x) = -1 := szr_neg (by unfold GOffer.wt; omega)
    simp [e]
  · simp at a0
    have b0 := szr_ge0 a0
    have e0 := szr_ge b0
    simp only [e0]
    have e : szr left (GOffer.wt x) = left - (GAttrs.wt x.Attrs : Nat) := by
      rw [szr_ge (by unfold GOffer.wt; omega)]
      unfold GOffer.wt
      omega
    simp [e]
theorem ok_szOfferS (k : Nat) (xs : List GOffer) (left : Int) (h1 : 0 ≤ left) (h2 : left ≤ 1048576) (hf : fits_OfferS xs) : CallOK Tryz.prog 65 [.c (rd k xs.length (xs.flatMap (GOffer.ci k))), .c (pi left)] (.c (pi (szr left (wt_OfferS xs)))) [.c (rd k xs.length (xs.flatMap (GOffer.ci k))), .c (pi left)] := by
  obtain ⟨hl, hx⟩ := hf
  refine okS (fn := Tryz.f65) [] h0 Tryz.func65 (by kernel_rfl) rfl Tryz.ntmps65 Tryz.results65 (by simp) ?_
  have hw : IntKind.wrap .i64 (left - xs.length) = left - xs.length := wrap64 (by omega) (by omega)
  have hwl := len_wt_OfferS xs
  simp [hw]
  refine brn_app (fun h => ?_) (fun h => ?_)
  · simp at h
    have e1 : szr left (wt_OfferS xs) = -1 := szr_neg (by omega)
    simp [e1]
  · simp at h
    simp
    refine loopS [0, 1, 5] [] (fun n st => ∃ (i : Nat) (m : Int), i + n = xs.length ∧ 0 ≤ m ∧ m ≤ 1048576 ∧ szr m (((xs.drop i).map GOffer.wt).sum) = szr left (wt_OfferS xs) ∧ st = ⟨slOf 27 [(0, .t (rd k xs.length (xs.flatMap (GOffer.ci k)))), (1, .t (pi m)), (5, .t (pi i))], ofL []⟩) xs.length ?_ ?_
    · rintro Inv hI
      simp
      subst hI
      exact ⟨0, left - xs.length, by omega, by omega, by omega, by rw [List.drop_zero, wt_OfferS, wtR, szr_add (by omega)], rfl⟩
    · rintro Inv hI n st ⟨i, m, hi, hm1, hm2, hg, rfl⟩
      refine ewr_sound (M := []) h0 ?_
      simp
      refine brn_app (fun h3 => ?_) (fun h3 => ?_)
      · simp at h3
        have hxi := hx xs[i] (List.getElem_mem h3)
        rw [drop_step xs i h3, List.map_cons, List.sum_cons] at hg
        have hd := fm_drop (GOffer.ci k) 7 (fun _ => rfl) xs i h3
        have hlen := fm_len (GOffer.ci k) 7 (fun _ => rfl) xs
        have hlt : i * 7 < xs.length * 7 := by omega
        simp [h3, hd, hlen, hlt]
        refine Inv_intro (ok_szOffer k xs[i] m hm1 hm2 hxi) ?_
        simp
        refine brn_app (fun h4 => ?_) (fun h4 => ?_)
        · simp at h4
          have h5 := szr_lt0 h4 hm1
          rw [szr_add_neg h5] at hg
          simp [← hg]
        · simp at h4
          have h5 := szr_ge0 h4
          have e5 := szr_ge h5
          rw [szr_add h5, ← e5] at hg
          simp
          subst hI
          exact Less_mk (n - 1) (by omega) ⟨i + 1, szr m (GOffer.wt xs[i]), by omega, by omega, by omega, hg, by rw [wrNext i (by omega)]⟩
      · simp at h3
        rw [List.drop_of_length_le (by omega), List.map_nil, List.sum_nil, szr_zero hm1] at hg
        simp [hg]
end Go.V
