/- What functions of the seat's program do, each proved of its code, under the bounds that its theorem names. -/
import Derived.Test.YtcdlflmppicdjaaTaa
set_option linter.all false
namespace Go.V
open Go.Proofs
set_option maxHeartbeats 1000000
set_option maxRecDepth 10000
set_option linter.unusedSimpArgs false
set_option linter.unusedVariables false
theorem ok_eqPrefix (x y : GPrefix) : CallOK Try.prog 108 [.agg (GPrefix.c x), .agg (GPrefix.c y)] (.c (pb (decide (x = y)))) [.agg (GPrefix.c x), .agg (GPrefix.c y)] := by
  refine okS (fn := Try.f108) [] h0 Try.func108 (by kernel_rfl) rfl Try.ntmps108 Try.results108 (by simp) ?_
  simp
  refine brn_app (fun a0 => ?_) (fun a0 => ?_)
  · simp at a0
    simp
    rintro rfl
    exact a0 rfl
  · simp at a0
    simp
    refine brn_app (fun a1 => ?_) (fun a1 => ?_)
    · simp at a1
      simp
      rintro rfl
      exact a1 rfl
    · simp at a1
      simp
      cases x
      cases y
      simp_all
theorem ok_eqRow (k k' : Nat) (x y : GRow) (ha : GRow.lens x) (hb : GRow.lens y) : CallOK Try.prog 98 [.agg (GRow.ci k x), .agg (GRow.ci k' y)] (.c (pb (decide (x = y)))) [.agg (GRow.ci k x), .agg (GRow.ci k' y)] := by
  simp only [GRow.lens] at ha hb
  refine okS (fn := Try.f98) [] h0 Try.func98 (by kernel_rfl) rfl Try.ntmps98 Try.results98 (by simp) ?_
  simp
  refine Inv_intro (ok_eqPrefix x.Prefix y.Prefix) ?_
  simp
  refine brn_app (fun a0 => ?_) (fun a0 => ?_)
  · simp at a0
    simp
    rintro rfl
    exact a0 rfl
  · simp at a0
    simp
    refine Inv_intro (ok_eqOfferS k k' x.Offers y.Offers (ha) (hb)) ?_
    simp
    refine brn_app (fun a1 => ?_) (fun a1 => ?_)
    · simp at a1
      simp
      rintro rfl
      exact a1 rfl
    · simp at a1
      simp
      cases x
      cases y
      simp_all
theorem ok_eqRowS (k k' : Nat) (xs ys : List GRow) (ha : lens_RowS xs) (hb : lens_RowS ys) : CallOK Try.prog 47 [.c (rd k xs.length (xs.flatMap (GRow.ci k))), .c (rd k' ys.length (ys.flatMap (GRow.ci k')))] (.c (pb (decide (xs = ys)))) [.c (rd k xs.length (xs.flatMap (GRow.ci k))), .c (rd k' ys.length (ys.flatMap (GRow.ci k')))] := by
  obtain ⟨ha, hax⟩ := ha
  obtain ⟨hb, hbx⟩ := hb
  refine okS (fn := Try.f47) [] h0 Try.func47 (by kernel_rfl) rfl Try.ntmps47 Try.results47 (by simp) ?_
  simp
  refine brn_app (fun h => ?_) (fun h => ?_)
  · simp at h
    simp
    rintro rfl
    exact h rfl
  · simp at h
    have hl : ys.length = xs.length := by omega
    simp
    refine loopS [0, 1, 5] [] (fun n st => ∃ (i : Nat), i + n = xs.length ∧ (xs.drop i = ys.drop i ↔ xs = ys) ∧ st = ⟨slOf 27 [(0, .t (rd k xs.length (xs.flatMap (GRow.ci k)))), (1, .t (rd k' ys.length (ys.flatMap (GRow.ci k')))), (5, .t (pi i))], ofL []⟩) xs.length ?_ ?_
    · rintro Inv hI
      simp
      subst hI
      exact ⟨0, by omega, by simp, rfl⟩
    · rintro Inv hI n st ⟨i, hi, htk, rfl⟩
      refine ewr_sound (M := []) h0 ?_
      simp
      refine brn_app (fun h => ?_) (fun h => ?_)
      · simp at h
        have hib : i < ys.length := by omega
        rw [drop_step xs i h, drop_step ys i hib, List.cons.injEq] at htk
        simp
        have hd := fm_drop (GRow.ci k) 3 (fun _ => rfl) xs i h
        have hd' := fm_drop (GRow.ci k') 3 (fun _ => rfl) ys i hib
        have hlen := fm_len (GRow.ci k) 3 (fun _ => rfl) xs
        have hlen' := fm_len (GRow.ci k') 3 (fun _ => rfl) ys
        have hlt : i * 3 < xs.length * 3 := by omega
        have hlt' : i * 3 < ys.length * 3 := by omega
        have hE := ok_eqRow k k' xs[i] ys[i] (hax _ (List.getElem_mem h)) (hbx _ (List.getElem_mem hib))
        refine drawP (tabEnv [] [(98, [.agg (GRow.ci k xs[i]), .agg (GRow.ci k' ys[i])], .c (pb (decide (xs[i] = ys[i]))), [.agg (GRow.ci k xs[i]), .agg (GRow.ci k' ys[i])])]) [⟨[], allD 27, true⟩, ⟨[], allD 27, true⟩, ⟨[], allD 27, true⟩, ⟨[], allD 27, true⟩, ⟨[], allD 27, true⟩, ⟨[], allD 27, true⟩, ⟨[], allD 27, true⟩, ⟨[], allD 27, true⟩, ⟨[], allD 27, false⟩, ⟨[], allD 27, true⟩] h0 hm (tabEnv_ok (by intro x hx; simp only [List.mem_singleton] at hx; subst hx; exact hE)) (by kernel_rfl) (by kernel_rfl) ?_
        simp [h, hib, hd, hd', hlen, hlen', hlt, hlt']
        refine brn_app (fun h2 => ?_) (fun h2 => ?_)
        · simp at h2
          simp
          intro he
          exact h2 (htk.2 he).1
        · simp at h2
          simp
          subst hI
          exact Less_mk (n - 1) (by omega) ⟨i + 1, by omega, ⟨fun h4 => htk.1 ⟨h2, h4⟩, fun h4 => (htk.2 h4).2⟩, by rw [wrNext i (by omega)]⟩
      · simp at h
        rw [List.drop_of_length_le (by omega), List.drop_of_length_le (by omega)] at htk
        simp
        exact htk.1 rfl
theorem ok_eqRib (k k' : Nat) (x y : GRib) (ha : GRib.lens x) (hb : GRib.lens y) : CallOK Try.prog 13 [.agg (GRib.ci k x), .agg (GRib.ci k' y)] (.c (pb (decide (x = y)))) [.agg (GRib.ci k x), .agg (GRib.ci k' y)] := by
  simp only [GRib.lens] at ha hb
  refine okS (fn := Try.f13) [] h0 Try.func13 (by kernel_rfl) rfl Try.ntmps13 Try.results13 (by simp) ?_
  simp
  refine brn_app (fun a0 => ?_) (fun a0 => ?_)
  · simp at a0
    simp
    rintro rfl
    exact a0 rfl
  · simp at a0
    simp
    refine Inv_intro (ok_eqRowS k k' x.Rows y.Rows (ha) (hb)) ?_
    simp
    refine brn_app (fun a1 => ?_) (fun a1 => ?_)
    · simp at a1
      simp
      rintro rfl
      exact a1 rfl
    · simp at a1
      simp
      cases x
      cases y
      simp_all
structure GRoute where
  Prefix : GPrefix
  Attrs : GAttrs
  deriving DecidableEq
def GRoute.co (x : GRoute) : List PT := [pi x.Prefix.Addr, pi x.Prefix.Len, pi x.Attrs.Origin, .sl 0 3 x.Attrs.Path.length (x.Attrs.Path.map pi), pi x.Attrs.Next, pi x.Attrs.Med, pi x.Attrs.Pref, .sl 0 3 x.Attrs.Comms.length (x.Attrs.Comms.map pi)]
def GRoute.ci (k : Nat) (x : GRoute) : List PT := [pi x.Prefix.Addr, pi x.Prefix.Len, pi x.Attrs.Origin, rd k x.Attrs.Path.length (x.Attrs.Path.map pi), pi x.Attrs.Next, pi x.Attrs.Med, pi x.Attrs.Pref, rd k x.Attrs.Comms.length (x.Attrs.Comms.map pi)]
attribute [simp] GRoute.co GRoute.ci
theorem GRoute.len_o (x : GRoute) : x.co.length = 8 := rfl
theorem GRoute.len_i (k : Nat) (x : GRoute) : (x.ci k).length = 8 := rfl
theorem GRoute.un1 (x : GRoute) : PT.unownL x.co = x.ci 0 := by simp [rd]
theorem GRoute.uni1 (k : Nat) (x : GRoute) : PT.unownL (x.ci k) = x.ci 0 := by simp [rd]
theorem GRoute.un (xs : List GRoute) : PT.unownL (xs.flatMap GRoute.co) = xs.flatMap (GRoute.ci 0) := by
  rw [unownL_fm]
  congr 1
  funext x
  exact GRoute.un1 x
theorem GRoute.uni (k : Nat) (xs : List GRoute) : PT.unownL (xs.flatMap (GRoute.ci k)) = xs.flatMap (GRoute.ci 0) := by
  rw [unownL_fm]
  congr 1
  funext x
  exact GRoute.uni1 k x
theorem GRoute.nt (xs : List GRoute) : PT.noTmpL (xs.flatMap GRoute.co) = true := noTmpL_fm _ xs fun x => by simp
theorem GRoute.nti (k : Nat) (xs : List GRoute) : PT.noTmpL (xs.flatMap (GRoute.ci (k + 1))) = true := noTmpL_fm _ xs fun x => by simp [rd]
attribute [simp] GRoute.un GRoute.uni GRoute.nt GRoute.nti
theorem GRoute.lenR (xs : List GRoute) : (xs.flatMap GRoute.co).length = xs.length * 8 := fm_len _ 8 (fun _ => rfl) xs
theorem GRoute.lenRi (k : Nat) (xs : List GRoute) : (xs.flatMap (GRoute.ci k)).length = xs.length * 8 := fm_len _ 8 (fun _ => rfl) xs
theorem GRoute.tkR (xs : List GRoute) : (xs.flatMap GRoute.co).take (xs.length * 8) = xs.flatMap GRoute.co := List.take_of_length_le (by rw [GRoute.lenR]; exact Nat.le_refl _)
theorem GRoute.tkRi (k : Nat) (xs : List GRoute) : (xs.flatMap (GRoute.ci k)).take (xs.length * 8) = xs.flatMap (GRoute.ci k) := List.take_of_length_le (by rw [GRoute.lenRi]; exact Nat.le_refl _)
attribute [simp high] GRoute.lenR GRoute.tkR GRoute.lenRi GRoute.tkRi
def GRoute.wt (x : GRoute) : Nat := GAttrs.wt x.Attrs
def GRoute.fits (x : GRoute) : Prop := GAttrs.fits x.Attrs
def GRoute.lens (x : GRoute) : Prop := GAttrs.lens x.Attrs
def GRoute.mark (x : GRoute) (k : Int) : GRoute × Int := (⟨⟨k, (k + 1)⟩, ⟨((k + 1) + 1), (mk_IntS x.Attrs.Path (((k + 1) + 1) + 1)).1, (mk_IntS x.Attrs.Path (((k + 1) + 1) + 1)).2, ((mk_IntS x.Attrs.Path (((k + 1) + 1) + 1)).2 + 1), (((mk_IntS x.Attrs.Path (((k + 1) + 1) + 1)).2 + 1) + 1), (mk_IntS x.Attrs.Comms ((((mk_IntS x.Attrs.Path (((k + 1) + 1) + 1)).2 + 1) + 1) + 1)).1⟩⟩, (mk_IntS x.Attrs.Comms ((((mk_IntS x.Attrs.Path (((k + 1) + 1) + 1)).2 + 1) + 1) + 1)).2)
def GRoute.cn (x : GRoute) : Nat := 1 + 1 + 1 + cn_IntS x.Attrs.Path + 1 + 1 + 1 + cn_IntS x.Attrs.Comms
theorem GRoute.mark_snd (x : GRoute) (k : Int) : (GRoute.mark x k).2 = k + GRoute.cn x := by
  simp only [GRoute.mark, GRoute.cn, mk_IntS_snd] <;> omega
def GRoute.markT (x : GRoute) (k : Int) : GRoute × Int := (⟨⟨x.Prefix.Addr, x.Prefix.Len⟩, ⟨x.Attrs.Origin, (mk_IntS x.Attrs.Path k).1, x.Attrs.Next, x.Attrs.Med, x.Attrs.Pref, (mk_IntS x.Attrs.Comms (mk_IntS x.Attrs.Path k).2).1⟩⟩, (mk_IntS x.Attrs.Comms (mk_IntS x.Attrs.Path k).2).2)
def GRoute.cnT (x : GRoute) : Nat := cn_IntS x.Attrs.Path + cn_IntS x.Attrs.Comms
theorem GRoute.markT_snd (x : GRoute) (k : Int) : (GRoute.markT x k).2 = k + GRoute.cnT x := by
  simp only [GRoute.markT, GRoute.cnT, mk_IntS_snd] <;> omega
theorem lens_of_Route {x : GRoute} (h : GRoute.wt x ≤ 1048576) : GRoute.lens x := by
  unfold GRoute.wt at h
  exact lens_of_Attrs (by omega)
theorem cn_le_Route (x : GRoute) : GRoute.cnT x ≤ 32 * GRoute.wt x := by
  unfold GRoute.cnT GRoute.wt
  have := cn_le_IntS x.Attrs.Path
  have := cn_le_IntS x.Attrs.Comms
  simp only [GAttrs.wt]
  omega
theorem cnE_le_Route (x : GRoute) : GRoute.cn x ≤ 32 * GRoute.wt x + 16 := by
  unfold GRoute.cn GRoute.wt
  have := cn_le_IntS x.Attrs.Path
  have := cn_le_IntS x.Attrs.Comms
  simp only [GAttrs.wt]
  omega
theorem ok_eqRoute (k k' : Nat) (x y : GRoute) (ha : GRoute.lens x) (hb : GRoute.lens y) : CallOK Try.prog 56 [.agg (GRoute.ci k x), .agg (GRoute.ci k' y)] (.c (pb (decide (x = y)))) [.agg (GRoute.ci k x), .agg (GRoute.ci k' y)] := by
  simp only [GRoute.lens] at ha hb
  refine okS (fn := Try.f56) [] h0 Try.func56 (by kernel_rfl) rfl Try.ntmps56 Try.results56 (by simp) ?_
  simp
  refine Inv_intro (ok_eqPrefix x.Prefix y.Prefix) ?_
  simp
  refine brn_app (fun a0 => ?_) (fun a0 => ?_)
  · simp at a0
    simp
    rintro rfl
    exact a0 rfl
  · simp at a0
    simp
    refine Inv_intro (ok_eqAttrs k k' x.Attrs y.Attrs (ha) (hb)) ?_
    simp
    refine brn_app (fun a1 => ?_) (fun a1 => ?_)
    · simp at a1
      simp
      rintro rfl
      exact a1 rfl
    · simp at a1
      simp
      cases x
      cases y
      simp_all
abbrev cRouteSo (xs : List GRoute) : PT := .sl 0 80 xs.length (xs.flatMap GRoute.co)
abbrev cRouteSi (k : Nat) (xs : List GRoute) : PT := rd k xs.length (xs.flatMap (GRoute.ci k))
def wt_RouteS (xs : List GRoute) : Nat := wtR GRoute.wt xs
theorem len_wt_RouteS (xs : List GRoute) : xs.length ≤ wt_RouteS xs := by unfold wt_RouteS wtR; omega
theorem mem_wt_RouteS {xs : List GRoute} {x : GRoute} (h : x ∈ xs) : GRoute.wt x ≤ wt_RouteS xs := by
  have := wt_mem GRoute.wt h
  unfold wt_RouteS wtR
  omega
def fits_RouteS (xs : List GRoute) : Prop := xs.length ≤ 140737488351232 ∧ ∀ x ∈ xs, GRoute.fits x
def lens_RouteS (xs : List GRoute) : Prop := xs.length ≤ 140737488351232 ∧ ∀ x ∈ xs, GRoute.lens x
def mk_RouteS (xs : List GRoute) (k : Int) : List GRoute × Int := mkR GRoute.mark xs k
def cn_RouteS (xs : List GRoute) : Nat := cnR GRoute.cn xs
theorem mk_RouteS_len (xs : List GRoute) (k : Int) : (mk_RouteS xs k).1.length = xs.length := mkR_len _ xs k
attribute [simp] mk_RouteS_len
theorem mk_RouteS_snd (xs : List GRoute) (k : Int) : (mk_RouteS xs k).2 = k + cn_RouteS xs := mkR_snd (GRoute.mark_snd) xs k
theorem lens_of_RouteS {xs : List GRoute} (h : wt_RouteS xs ≤ 1048576) : lens_RouteS xs := by
  have hl := len_wt_RouteS xs
  exact ⟨by omega, fun x hx => lens_of_Route (by have := mem_wt_RouteS hx; omega)⟩
theorem cn_le_RouteS (xs : List GRoute) : cn_RouteS xs ≤ 32 * wt_RouteS xs := cnR_le (fun x => by have := cnE_le_Route x; omega) xs
theorem ok_eqRouteS (k k' : Nat) (xs ys : List GRoute) (ha : lens_RouteS xs) (hb : lens_RouteS ys) : CallOK Try.prog 20 [.c (rd k xs.length (xs.flatMap (GRoute.ci k))), .c (rd k' ys.length (ys.flatMap (GRoute.ci k')))] (.c (pb (decide (xs = ys)))) [.c (rd k xs.length (xs.flatMap (GRoute.ci k))), .c (rd k' ys.length (ys.flatMap (GRoute.ci k')))] := by
  obtain ⟨ha, hax⟩ := ha
  obtain ⟨hb, hbx⟩ := hb
  refine okS (fn := Try.f20) [] h0 Try.func20 (by kernel_rfl) rfl Try.ntmps20 Try.results20 (by simp) ?_
  simp
  refine brn_app (fun h => ?_) (fun h => ?_)
  · simp at h
    simp
    rintro rfl
    exact h rfl
  · simp at h
    have hl : ys.length = xs.length := by omega
    simp
    refine loopS [0, 1, 5] [] (fun n st => ∃ (i : Nat), i + n = xs.length ∧ (xs.drop i = ys.drop i ↔ xs = ys) ∧ st = ⟨slOf 27 [(0, .t (rd k xs.length (xs.flatMap (GRoute.ci k)))), (1, .t (rd k' ys.length (ys.flatMap (GRoute.ci k')))), (5, .t (pi i))], ofL []⟩) xs.length ?_ ?_
    · rintro Inv hI
      simp
      subst hI
      exact ⟨0, by omega, by simp, rfl⟩
    · rintro Inv hI n st ⟨i, hi, htk, rfl⟩
      refine ewr_sound (M := []) h0 ?_
      simp
      refine brn_app (fun h => ?_) (fun h => ?_)
      · simp at h
        have hib : i < ys.length := by omega
        rw [drop_step xs i h, drop_step ys i hib, List.cons.injEq] at htk
        simp
        have hd := fm_drop (GRoute.ci k) 8 (fun _ => rfl) xs i h
        have hd' := fm_drop (GRoute.ci k') 8 (fun _ => rfl) ys i hib
        have hlen := fm_len (GRoute.ci k) 8 (fun _ => rfl) xs
        have hlen' := fm_len (GRoute.ci k') 8 (fun _ => rfl) ys
        have hlt : i * 8 < xs.length * 8 := by omega
        have hlt' : i * 8 < ys.length * 8 := by omega
        have hE := ok_eqRoute k k' xs[i] ys[i] (hax _ (List.getElem_mem h)) (hbx _ (List.getElem_mem hib))
        refine drawP (tabEnv [] [(56, [.agg (GRoute.ci k xs[i]), .agg (GRoute.ci k' ys[i])], .c (pb (decide (xs[i] = ys[i]))), [.agg (GRoute.ci k xs[i]), .agg (GRoute.ci k' ys[i])])]) [⟨[], allD 27, true⟩, ⟨[], allD 27, true⟩, ⟨[], allD 27, true⟩, ⟨[], allD 27, true⟩, ⟨[], allD 27, true⟩, ⟨[], allD 27, true⟩, ⟨[], allD 27, true⟩, ⟨[], allD 27, true⟩, ⟨[], allD 27, false⟩, ⟨[], allD 27, true⟩] h0 hm (tabEnv_ok (by intro x hx; simp only [List.mem_singleton] at hx; subst hx; exact hE)) (by kernel_rfl) (by kernel_rfl) ?_
        simp [h, hib, hd, hd', hlen, hlen', hlt, hlt']
        refine brn_app (fun h2 => ?_) (fun h2 => ?_)
        · simp at h2
          simp
          intro he
          exact h2 (htk.2 he).1
        · simp at h2
          simp
          subst hI
          exact Less_mk (n - 1) (by omega) ⟨i + 1, by omega, ⟨fun h4 => htk.1 ⟨h2, h4⟩, fun h4 => (htk.2 h4).2⟩, by rw [wrNext i (by omega)]⟩
      · simp at h
        rw [List.drop_of_length_le (by omega), List.drop_of_length_le (by omega)] at htk
        simp
        exact htk.1 rfl
theorem ok_heldIntS (q : Nat) (xs : List Int) (k : Int) (hls : lens_IntS xs) (hk : 0 < k) (hk2 : k + cn_IntS xs ≤ 2305843009213693952) : CallOK Try.prog 70 [.c (rd q xs.length ((mk_IntS xs k).1.map pi)), .c (pi k)] (.c (pi (mk_IntS xs k).2)) [.c (rd q xs.length ((mk_IntS xs k).1.map pi)), .c (pi k)] := by
  obtain ⟨hl0, hlx⟩ := hls
  unfold mk_IntS
  unfold cn_IntS at hk2
  have hyl := mkR_len (fun (_ : Int) k => (k, k + 1)) xs k
  have hyi : ∀ (i : Nat) (h : i < xs.length) (h' : i < (mkR (fun (_ : Int) k => (k, k + 1)) xs k).1.length), (mkR (fun (_ : Int) k => (k, k + 1)) xs k).1[i] = ((fun (_ : Int) k => (k, k + 1)) xs[i] (mkR (fun (_ : Int) k => (k, k + 1)) (xs.take i) k).2).1 := fun i h _ => mkR_get (fun (_ : Int) k => (k, k + 1)) xs i h k
  have hend : (mkR (fun (_ : Int) k => (k, k + 1)) xs k).2 = k + cnR (fun (_ : Int) => 1) xs := mkR_snd (f := (fun (_ : Int) k => (k, k + 1))) (g := (fun (_ : Int) => 1)) (fun _ _ => rfl) xs k
  generalize hY : (mkR (fun (_ : Int) k => (k, k + 1)) xs k).1 = ys at hyl hyi ⊢
  refine okS (fn := Try.f70) [] h0 Try.func70 (by kernel_rfl) rfl Try.ntmps70 Try.results70 (by simp) ?_
  simp
  refine loopS [0, 1, 5] [] (fun n st => ∃ (i : Nat), i + n = xs.length ∧ st = ⟨slOf 21 [(0, .t (rd q xs.length (ys.map pi))), (1, .t (pi (mkR (fun (_ : Int) k => (k, k + 1)) (xs.take i) k).2)), (5, .t (pi i))], ofL []⟩) xs.length ?_ ?_
  · rintro Inv hI
    simp
    subst hI
    exact ⟨0, by omega, rfl⟩
  · rintro Inv hI n st ⟨i, hi, rfl⟩
    have hKb := mkR_snd (f := (fun (_ : Int) k => (k, k + 1))) (g := (fun (_ : Int) => 1)) (fun _ _ => rfl) (xs.take i) k
    have hyK : ∀ (h : i < xs.length), ys[i]'(by omega) = ((fun (_ : Int) k => (k, k + 1)) xs[i] (mkR (fun (_ : Int) k => (k, k + 1)) (xs.take i) k).2).1 := fun h => hyi i h (by omega)
    generalize hK : (mkR (fun (_ : Int) k => (k, k + 1)) (xs.take i) k).2 = K at hKb hyK ⊢
    refine ewr_sound (M := []) h0 ?_
    simp
    refine brn_app (fun h => ?_) (fun h => ?_)
    · simp at h
      obtain ⟨m, rfl⟩ : ∃ m, n = m + 1 := ⟨n - 1, by omega⟩
      have hcn := cnR_take (fun (_ : Int) => 1) xs i h
      have hb : i < ys.length := by omega
      have ey := hyK h
      have hw0 : IntKind.wrap .i64 (K + 1) = K + 1 := wrap64 (by omega) (by omega)
      simp [h, hb, ey, hw0]
      have e4 := mkR_take (fun (_ : Int) k => (k, k + 1)) xs i h k
      rw [hK] at e4
      subst hI
      refine Less_mk m (by omega) ⟨i + 1, by omega, ?_⟩
      rw [wrNext i (by omega), e4]
      all_goals rfl
    · simp at h
      have hx : xs.take i = xs := List.take_of_length_le (by omega)
      rw [hx] at hK
      simp [hK]
theorem ok_heldRouteS (q : Nat) (xs : List GRoute) (k : Int) (hls : lens_RouteS xs) (hk : 0 < k) (hk2 : k + cn_RouteS xs ≤ 2305843009213693952) : CallOK Try.prog 35 [.c (rd q xs.length ((mk_RouteS xs k).1.flatMap (GRoute.ci q))), .c (pi k)] (.c (pi (mk_RouteS xs k).2)) [.c (rd q xs.length ((mk_RouteS xs k).1.flatMap (GRoute.ci q))), .c (pi k)] := by
  obtain ⟨hl0, hlx⟩ := hls
  unfold mk_RouteS
  unfold cn_RouteS at hk2
  have hyl := mkR_len GRoute.mark xs k
  have hyi : ∀ (i : Nat) (h : i < xs.length) (h' : i < (mkR GRoute.mark xs k).1.length), (mkR GRoute.mark xs k).1[i] = (GRoute.mark xs[i] (mkR GRoute.mark (xs.take i) k).2).1 := fun i h _ => mkR_get GRoute.mark xs i h k
  have hend : (mkR GRoute.mark xs k).2 = k + cnR GRoute.cn xs := mkR_snd (f := GRoute.mark) (g := GRoute.cn) (GRoute.mark_snd) xs k
  generalize hY : (mkR GRoute.mark xs k).1 = ys at hyl hyi ⊢
  refine okS (fn := Try.f35) [] h0 Try.func35 (by kernel_rfl) rfl Try.ntmps35 Try.results35 (by simp) ?_
  simp
  refine loopS [0, 1, 5] [] (fun n st => ∃ (i : Nat), i + n = xs.length ∧ st = ⟨slOf 93 [(0, .t (rd q xs.length (ys.flatMap (GRoute.ci q)))), (1, .t (pi (mkR GRoute.mark (xs.take i) k).2)), (5, .t (pi i))], ofL []⟩) xs.length ?_ ?_
  · rintro Inv hI
    simp
    subst hI
    exact ⟨0, by omega, rfl⟩
  · rintro Inv hI n st ⟨i, hi, rfl⟩
    have hKb := mkR_snd (f := GRoute.mark) (g := GRoute.cn) (GRoute.mark_snd) (xs.take i) k
    have hyK : ∀ (h : i < xs.length), ys[i]'(by omega) = (GRoute.mark xs[i] (mkR GRoute.mark (xs.take i) k).2).1 := fun h => hyi i h (by omega)
    generalize hK : (mkR GRoute.mark (xs.take i) k).2 = K at hKb hyK ⊢
    refine ewr_sound (M := []) h0 ?_
    simp
    refine brn_app (fun h => ?_) (fun h => ?_)
    · simp at h
      obtain ⟨m, rfl⟩ : ∃ m, n = m + 1 := ⟨n - 1, by omega⟩
      have hcn := cnR_take GRoute.cn xs i h
      have hb : i < ys.length := by omega
      have ey := hyK h
      have hd := fm_drop (GRoute.ci q) 8 (fun _ => rfl) ys i hb
      have hlen := fm_len (GRoute.ci q) 8 (fun _ => rfl) ys
      have hlt : i * 8 < ys.length * 8 := by omega
      rw [ey] at hd
      simp only [GRoute.cn] at hcn
      have hxl := hlx _ (List.getElem_mem h)
      have hw0 : IntKind.wrap .i64 (K + 1) = K + 1 := wrap64 (by omega) (by omega)
      have hw1 : IntKind.wrap .i64 ((K + 1) + 1) = (K + 1) + 1 := wrap64 (by omega) (by omega)
      have hw2 : IntKind.wrap .i64 (((K + 1) + 1) + 1) = ((K + 1) + 1) + 1 := wrap64 (by omega) (by omega)
      have hs3 := mk_IntS_snd xs[i].Attrs.Path (((K + 1) + 1) + 1)
      have hn3 : ¬ (mk_IntS xs[i].Attrs.Path (((K + 1) + 1) + 1)).2 < 0 := by omega
      have hw4 : IntKind.wrap .i64 ((mk_IntS xs[i].Attrs.Path (((K + 1) + 1) + 1)).2 + 1) = (mk_IntS xs[i].Attrs.Path (((K + 1) + 1) + 1)).2 + 1 := wrap64 (by omega) (by omega)
      have hw5 : IntKind.wrap .i64 (((mk_IntS xs[i].Attrs.Path (((K + 1) + 1) + 1)).2 + 1) + 1) = ((mk_IntS xs[i].Attrs.Path (((K + 1) + 1) + 1)).2 + 1) + 1 := wrap64 (by omega) (by omega)
      have hw6 : IntKind.wrap .i64 ((((mk_IntS xs[i].Attrs.Path (((K + 1) + 1) + 1)).2 + 1) + 1) + 1) = (((mk_IntS xs[i].Attrs.Path (((K + 1) + 1) + 1)).2 + 1) + 1) + 1 := wrap64 (by omega) (by omega)
      have hs7 := mk_IntS_snd xs[i].Attrs.Comms ((((mk_IntS xs[i].Attrs.Path (((K + 1) + 1) + 1)).2 + 1) + 1) + 1)
      have hn7 : ¬ (mk_IntS xs[i].Attrs.Comms ((((mk_IntS xs[i].Attrs.Path (((K + 1) + 1) + 1)).2 + 1) + 1) + 1)).2 < 0 := by omega
      simp [h, hb, hd, hlen, hlt, GRoute.mark, hw0, hw1, hw2, hn3, hw4, hw5, hw6, hn7]
      refine Inv_intro (ok_heldIntS q xs[i].Attrs.Path ((((K + 1) + 1) + 1)) hxl.1 (by omega) (by omega)) ?_
      simp [h, hb, hd, hlen, hlt, GRoute.mark, hw0, hw1, hw2, hn3, hw4, hw5, hw6, hn7]
      refine Inv_intro (ok_heldIntS q xs[i].Attrs.Comms (((((mk_IntS xs[i].Attrs.Path (((K + 1) + 1) + 1)).2 + 1) + 1) + 1)) hxl.2 (by omega) (by omega)) ?_
      simp [h, hb, hd, hlen, hlt, GRoute.mark, hw0, hw1, hw2, hn3, hw4, hw5, hw6, hn7]
      have e4 := mkR_take GRoute.mark xs i h k
      rw [hK] at e4
      subst hI
      refine Less_mk m (by omega) ⟨i + 1, by omega, ?_⟩
      rw [wrNext i (by omega), e4]
      all_goals rfl
    · simp at h
      have hx : xs.take i = xs := List.take_of_length_le (by omega)
      rw [hx] at hK
      simp [hK]
theorem ok_markIntS (xs : List Int) (k : Int) (hls : lens_IntS xs) (hk : 0 < k) (hk2 : k + cn_IntS xs ≤ 2305843009213693952) : CallOK Try.prog 69 [.c (.sl 0 3 xs.length (xs.map pi)), .c (pi k)] (.c (pi (mk_IntS xs k).2)) [.c (.sl 0 3 xs.length ((mk_IntS xs k).1.map pi)), .c (pi k)] := by
  obtain ⟨hl0, hlx⟩ := hls
  unfold mk_IntS
  unfold cn_IntS at hk2
  refine okS (fn := Try.f69) [] h0 Try.func69 (by kernel_rfl) rfl Try.ntmps69 Try.results69 (by simp) ?_
  simp
  refine loopS [0, 1, 5] [] (fun n st => ∃ (i : Nat), i + n = xs.length ∧ st = ⟨slOf 19 [(0, .ref ⟨.arg 0 0, []⟩ 0 xs.length), (1, .t (pi (mkR (fun (_ : Int) k => (k, k + 1)) (xs.take i) k).2)), (5, .t (pi i))], ofL [(.arg 0 0, .sl 0 3 xs.length (((mkR (fun (_ : Int) k => (k, k + 1)) (xs.take i) k).1.map pi) ++ ((xs.drop i).map pi)))]⟩) xs.length ?_ ?_
  · rintro Inv hI
    simp
    subst hI
    exact ⟨0, by omega, rfl⟩
  · rintro Inv hI n st ⟨i, hi, rfl⟩
    have hAl : (((mkR (fun (_ : Int) k => (k, k + 1)) (xs.take i) k).1.map pi)).length = i * 1 := by rw [List.length_map, mkR_len, len_take xs i (by omega), Nat.mul_one]
    have hKb := mkR_snd (f := (fun (_ : Int) k => (k, k + 1))) (g := (fun (_ : Int) => 1)) (fun _ _ => rfl) (xs.take i) k
    generalize hA : ((mkR (fun (_ : Int) k => (k, k + 1)) (xs.take i) k).1.map pi) = A at hAl ⊢
    generalize hK : (mkR (fun (_ : Int) k => (k, k + 1)) (xs.take i) k).2 = K at hKb ⊢
    generalize hB : ((xs.drop i).map pi) = B
    refine ewr_sound (M := []) h0 ?_
    simp
    refine brn_app (fun h => ?_) (fun h => ?_)
    · simp at h
      obtain ⟨m, rfl⟩ : ∃ m, n = m + 1 := ⟨n - 1, by omega⟩
      have hcn := cnR_take (fun (_ : Int) => 1) xs i h
      have hBe : B = [pi xs[i]] ++ ((xs.drop (i + 1)).map pi) := by rw [← hB, drop_step xs i h]; rfl
      generalize hC : ((xs.drop (i + 1)).map pi) = D at hBe
      subst hBe
      rw [Nat.mul_one] at hAl
      have hw0 : IntKind.wrap .i64 (K + 1) = K + 1 := wrap64 (by omega) (by omega)
      simp [h, hAl, hw0]
      have e4 := mkR_take (fun (_ : Int) k => (k, k + 1)) xs i h k
      rw [hK] at e4
      have e3 : ((mkR (fun (_ : Int) k => (k, k + 1)) (xs.take (i + 1)) k).1.map pi) = A ++ [pi ((fun (_ : Int) k => (k, k + 1)) xs[i] K).1] := by rw [e4, List.map_append, hA]; rfl
      subst hI
      refine Less_mk m (by omega) ⟨i + 1, by omega, ?_⟩
      rw [wrNext i (by omega), e3, e4, hC, List.append_assoc]
      all_goals rfl
    · simp at h
      have hx : xs.take i = xs := List.take_of_length_le (by omega)
      have hBn : B = [] := by rw [← hB, List.drop_of_length_le (by omega)]; rfl
      subst hBn
      rw [hx] at hA hK
      subst hK
      subst hA
      simp
theorem ok_markOfferS (xs : List GOffer) (k : Int) (hls : lens_OfferS xs) (hk : 0 < k) (hk2 : k + cn_OfferS xs ≤ 2305843009213693952) : CallOK Try.prog 99 [.c (.sl 0 97 xs.length (xs.flatMap GOffer.co)), .c (pi k)] (.c (pi (mk_OfferS xs k).2)) [.c (.sl 0 97 xs.length ((mk_OfferS xs k).1.flatMap GOffer.co)), .c (pi k)] := by
  obtain ⟨hl0, hlx⟩ := hls
  unfold mk_OfferS
  unfold cn_OfferS at hk2
  refine okS (fn := Try.f99) [(69, [1,0])] h0 Try.func99 (by kernel_rfl) rfl Try.ntmps99 Try.results99 (by simp) ?_
  simp
  refine loopS [0, 1, 5] [] (fun n st => ∃ (i : Nat), i + n = xs.length ∧ st = ⟨slOf 68 [(0, .ref ⟨.arg 0 0, []⟩ 0 xs.length), (1, .t (pi (mkR GOffer.mark (xs.take i) k).2)), (5, .t (pi i))], ofL [(.arg 0 0, .sl 0 97 xs.length (((mkR GOffer.mark (xs.take i) k).1.flatMap GOffer.co) ++ ((xs.drop i).flatMap GOffer.co)))]⟩) xs.length ?_ ?_
  · rintro Inv hI
    simp
    subst hI
    exact ⟨0, by omega, rfl⟩
  · rintro Inv hI n st ⟨i, hi, rfl⟩
    have hAl : (((mkR GOffer.mark (xs.take i) k).1.flatMap GOffer.co)).length = i * 7 := by rw [fm_len GOffer.co 7 (fun _ => rfl), mkR_len, len_take xs i (by omega)]
    have hKb := mkR_snd (f := GOffer.mark) (g := GOffer.cn) (GOffer.mark_snd) (xs.take i) k
    generalize hA : ((mkR GOffer.mark (xs.take i) k).1.flatMap GOffer.co) = A at hAl ⊢
    generalize hK : (mkR GOffer.mark (xs.take i) k).2 = K at hKb ⊢
    generalize hB : ((xs.drop i).flatMap GOffer.co) = B
    refine ewr_sound (M := [(69, [1, 0])]) h0 ?_
    simp
    refine brn_app (fun h => ?_) (fun h => ?_)
    · simp at h
      obtain ⟨m, rfl⟩ : ∃ m, n = m + 1 := ⟨n - 1, by omega⟩
      have hcn := cnR_take GOffer.cn xs i h
      have hBe : B = [pi xs[i].Peer, pi xs[i].Attrs.Origin, .sl 0 3 xs[i].Attrs.Path.length (xs[i].Attrs.Path.map pi), pi xs[i].Attrs.Next, pi xs[i].Attrs.Med, pi xs[i].Attrs.Pref, .sl 0 3 xs[i].Attrs.Comms.length (xs[i].Attrs.Comms.map pi)] ++ ((xs.drop (i + 1)).flatMap GOffer.co) := by rw [← hB, drop_step xs i h]; rfl
      generalize hC : ((xs.drop (i + 1)).flatMap GOffer.co) = D at hBe
      subst hBe
      have hxl := hlx _ (List.getElem_mem h)
      simp only [GOffer.cn] at hcn
      have hw0 : IntKind.wrap .i64 (K + 1) = K + 1 := wrap64 (by omega) (by omega)
      have hw1 : IntKind.wrap .i64 ((K + 1) + 1) = (K + 1) + 1 := wrap64 (by omega) (by omega)
      have hs2 := mk_IntS_snd xs[i].Attrs.Path ((K + 1) + 1)
      have hw3 : IntKind.wrap .i64 ((mk_IntS xs[i].Attrs.Path ((K + 1) + 1)).2 + 1) = (mk_IntS xs[i].Attrs.Path ((K + 1) + 1)).2 + 1 := wrap64 (by omega) (by omega)
      have hw4 : IntKind.wrap .i64 (((mk_IntS xs[i].Attrs.Path ((K + 1) + 1)).2 + 1) + 1) = ((mk_IntS xs[i].Attrs.Path ((K + 1) + 1)).2 + 1) + 1 := wrap64 (by omega) (by omega)
      have hw5 : IntKind.wrap .i64 ((((mk_IntS xs[i].Attrs.Path ((K + 1) + 1)).2 + 1) + 1) + 1) = (((mk_IntS xs[i].Attrs.Path ((K + 1) + 1)).2 + 1) + 1) + 1 := wrap64 (by omega) (by omega)
      have hs6 := mk_IntS_snd xs[i].Attrs.Comms ((((mk_IntS xs[i].Attrs.Path ((K + 1) + 1)).2 + 1) + 1) + 1)
      have hq0 : i * 7 + 1 + 1 = i * 7 + 2 := by omega
      have hq1 : i * 7 + 1 + 2 = i * 7 + 3 := by omega
      have hq2 : i * 7 + 1 + 3 = i * 7 + 4 := by omega
      have hq3 : i * 7 + 1 + 4 = i * 7 + 5 := by omega
      have hq4 : i * 7 + 1 + 5 = i * 7 + 6 := by omega
      simp [h, hAl, hw0, hw1, hw3, hw4, hw5, hq0, hq1, hq2, hq3, hq4]
      refine Inv_intro (ok_markIntS xs[i].Attrs.Path (((K + 1) + 1)) hxl.1 (by omega) (by omega)) ?_
      simp [h, hAl, hw0, hw1, hw3, hw4, hw5, hq0, hq1, hq2, hq3, hq4]
      refine Inv_intro (ok_markIntS xs[i].Attrs.Comms (((((mk_IntS xs[i].Attrs.Path ((K + 1) + 1)).2 + 1) + 1) + 1)) hxl.2 (by omega) (by omega)) ?_
      simp [h, hAl, hw0, hw1, hw3, hw4, hw5, hq0, hq1, hq2, hq3, hq4]
      have e4 := mkR_take GOffer.mark xs i h k
      rw [hK] at e4
      have e3 : ((mkR GOffer.mark (xs.take (i + 1)) k).1.flatMap GOffer.co) = A ++ GOffer.co (GOffer.mark xs[i] K).1 := by rw [e4, List.flatMap_append, hA, List.flatMap_cons, List.flatMap_nil, List.append_nil]
      subst hI
      refine Less_mk m (by omega) ⟨i + 1, by omega, ?_⟩
      rw [wrNext i (by omega), e3, e4, hC, List.append_assoc]
      all_goals first | rfl | simp [GOffer.mark] | simp
    · simp at h
      have hx : xs.take i = xs := List.take_of_length_le (by omega)
      have hBn : B = [] := by rw [← hB, List.drop_of_length_le (by omega)]; rfl
      subst hBn
      rw [hx] at hA hK
      subst hK
      subst hA
      simp
theorem ok_markRowS (xs : List GRow) (k : Int) (hls : lens_RowS xs) (hk : 0 < k) (hk2 : k + cn_RowS xs ≤ 2305843009213693952) : CallOK Try.prog 48 [.c (.sl 0 89 xs.length (xs.flatMap GRow.co)), .c (pi k)] (.c (pi (mk_RowS xs k).2)) [.c (.sl 0 89 xs.length ((mk_RowS xs k).1.flatMap GRow.co)), .c (pi k)] := by
  obtain ⟨hl0, hlx⟩ := hls
  unfold mk_RowS
  unfold cn_RowS at hk2
  refine okS (fn := Try.f48) [(99, [1,0])] h0 Try.func48 (by kernel_rfl) rfl Try.ntmps48 Try.results48 (by simp) ?_
  simp
  refine loopS [0, 1, 5] [] (fun n st => ∃ (i : Nat), i + n = xs.length ∧ st = ⟨slOf 36 [(0, .ref ⟨.arg 0 0, []⟩ 0 xs.length), (1, .t (pi (mkR GRow.mark (xs.take i) k).2)), (5, .t (pi i))], ofL [(.arg 0 0, .sl 0 89 xs.length (((mkR GRow.mark (xs.take i) k).1.flatMap GRow.co) ++ ((xs.drop i).flatMap GRow.co)))]⟩) xs.length ?_ ?_
  · rintro Inv hI
    simp
    subst hI
    exact ⟨0, by omega, rfl⟩
  · rintro Inv hI n st ⟨i, hi, rfl⟩
    have hAl : (((mkR GRow.mark (xs.take i) k).1.flatMap GRow.co)).length = i * 3 := by rw [fm_len GRow.co 3 (fun _ => rfl), mkR_len, len_take xs i (by omega)]
    have hKb := mkR_snd (f := GRow.mark) (g := GRow.cn) (GRow.mark_snd) (xs.take i) k
    generalize hA : ((mkR GRow.mark (xs.take i) k).1.flatMap GRow.co) = A at hAl ⊢
    generalize hK : (mkR GRow.mark (xs.take i) k).2 = K at hKb ⊢
    generalize hB : ((xs.drop i).flatMap GRow.co) = B
    refine ewr_sound (M := [(99, [1, 0])]) h0 ?_
    simp
    refine brn_app (fun h => ?_) (fun h => ?_)
    · simp at h
      obtain ⟨m, rfl⟩ : ∃ m, n = m + 1 := ⟨n - 1, by omega⟩
      have hcn := cnR_take GRow.cn xs i h
      have hBe : B = [pi xs[i].Prefix.Addr, pi xs[i].Prefix.Len, .sl 0 97 xs[i].Offers.length (xs[i].Offers.flatMap GOffer.co)] ++ ((xs.drop (i + 1)).flatMap GRow.co) := by rw [← hB, drop_step xs i h]; rfl
      generalize hC : ((xs.drop (i + 1)).flatMap GRow.co) = D at hBe
      subst hBe
      have hxl := hlx _ (List.getElem_mem h)
      simp only [GRow.cn] at hcn
      have hw0 : IntKind.wrap .i64 (K + 1) = K + 1 := wrap64 (by omega) (by omega)
      have hw1 : IntKind.wrap .i64 ((K + 1) + 1) = (K + 1) + 1 := wrap64 (by omega) (by omega)
      have hs2 := mk_OfferS_snd xs[i].Offers ((K + 1) + 1)
      simp [h, hAl, hw0, hw1]
      refine Inv_intro (ok_markOfferS xs[i].Offers (((K + 1) + 1)) hxl (by omega) (by omega)) ?_
      simp [h, hAl, hw0, hw1]
      have e4 := mkR_take GRow.mark xs i h k
      rw [hK] at e4
      have e3 : ((mkR GRow.mark (xs.take (i + 1)) k).1.flatMap GRow.co) = A ++ GRow.co (GRow.mark xs[i] K).1 := by rw [e4, List.flatMap_append, hA, List.flatMap_cons, List.flatMap_nil, List.append_nil]
      subst hI
      refine Less_mk m (by omega) ⟨i + 1, by omega, ?_⟩
      rw [wrNext i (by omega), e3, e4, hC, List.append_assoc]
      all_goals first | rfl | simp [GRow.mark] | simp
    · simp at h
      have hx : xs.take i = xs := List.take_of_length_le (by omega)
      have hBn : B = [] := by rw [← hB, List.drop_of_length_le (by omega)]; rfl
      subst hBn
      rw [hx] at hA hK
      subst hK
      subst hA
      simp
end Go.V
