/- What functions of the seat's program do, each proved of its code, under the bounds that its theorem names. -/
import Derived.Test.YtmodclnblmoeoaaTaa
set_option linter.all false
namespace Go.V
open Go.Proofs
set_option maxHeartbeats 1000000
set_option maxRecDepth 10000
set_option linter.unusedSimpArgs false
set_option linter.unusedVariables false
theorem open_Store {n : Nat} {qs : List PT} (h : TyC Try.prog (n + 6) 52 qs) : ∃ x : GStore, qs = GStore.ci 1 x ∧ GStore.fits x := by
  unfold TyC at h
  rw [Try.underlying52] at h
  simp only [TyFs] at h
  obtain ⟨p0, q0, rfl, h0, ⟨p1, q1, rfl, h1, ⟨p2, q2, rfl, h2, ⟨p3, q3, rfl, h3, rfl⟩⟩⟩⟩ := h
  obtain ⟨x0, rfl, y0⟩ := open_LeafS (n := n + 1) h0
  obtain ⟨x1, rfl, y1⟩ := open_LeafS (n := n + 1) h1
  obtain ⟨x2, rfl, y2⟩ := open_LeafSS (n := n + 0) h2
  obtain ⟨x3, rfl, y3⟩ := open_Int (n := n + 4) h3
  exact ⟨⟨x0, x1, x2, x3⟩, rfl, ⟨y0, y1, y2⟩⟩
theorem ok_eqStringS (k k' : Nat) (xs ys : List ByteArray) (ha : lens_StringS xs) (hb : lens_StringS ys) : CallOK Try.prog 27 [.c (rd k xs.length (xs.map ps)), .c (rd k' ys.length (ys.map ps))] (.c (pb (decide (xs = ys)))) [.c (rd k xs.length (xs.map ps)), .c (rd k' ys.length (ys.map ps))] := by
  obtain ⟨ha, hax⟩ := ha
  obtain ⟨hb, hbx⟩ := hb
  refine okS (fn := Try.f27) [] h0 Try.func27 (by kernel_rfl) rfl Try.ntmps27 Try.results27 (by simp) ?_
  simp
  refine brn_app (fun h => ?_) (fun h => ?_)
  · simp at h
    simp
    rintro rfl
    exact h rfl
  · simp at h
    have hl : ys.length = xs.length := by omega
    simp
    refine loopS [0, 1, 5] [] (fun n st => ∃ (i : Nat), i + n = xs.length ∧ (xs.drop i = ys.drop i ↔ xs = ys) ∧ st = ⟨slOf 26 [(0, .t (rd k xs.length (xs.map ps))), (1, .t (rd k' ys.length (ys.map ps))), (5, .t (pi i))], ofL []⟩) xs.length ?_ ?_
    · rintro Inv hI
      simp
      subst hI
      exact ⟨0, by omega, by simp, rfl⟩
    · rintro Inv hI n st ⟨i, hi, htk, rfl⟩
      refine ewr_sound (M := []) h0 ?_
      simp
      refine brn_app (fun h => ?_) (fun h => ?_)
      · simp at h
        have hib : i < ys.length := by omega
        rw [drop_step xs i h, drop_step ys i hib, List.cons.injEq] at htk
        simp
        refine drawP E0 [⟨[], allD 26, true⟩, ⟨[], allD 26, true⟩, ⟨[], allD 26, true⟩, ⟨[], allD 26, true⟩, ⟨[], allD 26, true⟩, ⟨[], allD 26, true⟩, ⟨[], allD 26, true⟩, ⟨[], allD 26, true⟩, ⟨[], allD 26, true⟩] h0 hm (E0_ok _) (by kernel_rfl) (by kernel_rfl) ?_
        simp [h, hib]
        refine brn_app (fun h2 => ?_) (fun h2 => ?_)
        · simp at h2
          simp
          intro he
          exact h2 (htk.2 he).1
        · simp at h2
          simp
          subst hI
          exact Less_mk (n - 1) (by omega) ⟨i + 1, by omega, ⟨fun h4 => htk.1 ⟨h2, h4⟩, fun h4 => (htk.2 h4).2⟩, by rw [wrNext i (by omega)]⟩
      · simp at h
        rw [List.drop_of_length_le (by omega), List.drop_of_length_le (by omega)] at htk
        simp
        exact htk.1 rfl
structure GCommand where
  Set : Bool
  Path : (List ByteArray)
  Value : ByteArray
  deriving DecidableEq
def GCommand.co (x : GCommand) : List PT := [pb x.Set, .sl 0 9 x.Path.length (x.Path.map ps), ps x.Value]
def GCommand.ci (k : Nat) (x : GCommand) : List PT := [pb x.Set, rd k x.Path.length (x.Path.map ps), ps x.Value]
attribute [simp] GCommand.co GCommand.ci
theorem GCommand.len_o (x : GCommand) : x.co.length = 3 := rfl
theorem GCommand.len_i (k : Nat) (x : GCommand) : (x.ci k).length = 3 := rfl
theorem GCommand.un1 (x : GCommand) : PT.unownL x.co = x.ci 0 := by simp [rd]
theorem GCommand.uni1 (k : Nat) (x : GCommand) : PT.unownL (x.ci k) = x.ci 0 := by simp [rd]
theorem GCommand.un (xs : List GCommand) : PT.unownL (xs.flatMap GCommand.co) = xs.flatMap (GCommand.ci 0) := by
  rw [unownL_fm]
  congr 1
  funext x
  exact GCommand.un1 x
theorem GCommand.uni (k : Nat) (xs : List GCommand) : PT.unownL (xs.flatMap (GCommand.ci k)) = xs.flatMap (GCommand.ci 0) := by
  rw [unownL_fm]
  congr 1
  funext x
  exact GCommand.uni1 k x
theorem GCommand.nt (xs : List GCommand) : PT.noTmpL (xs.flatMap GCommand.co) = true := noTmpL_fm _ xs fun x => by simp
theorem GCommand.nti (k : Nat) (xs : List GCommand) : PT.noTmpL (xs.flatMap (GCommand.ci (k + 1))) = true := noTmpL_fm _ xs fun x => by simp [rd]
attribute [simp] GCommand.un GCommand.uni GCommand.nt GCommand.nti
theorem GCommand.lenR (xs : List GCommand) : (xs.flatMap GCommand.co).length = xs.length * 3 := fm_len _ 3 (fun _ => rfl) xs
theorem GCommand.lenRi (k : Nat) (xs : List GCommand) : (xs.flatMap (GCommand.ci k)).length = xs.length * 3 := fm_len _ 3 (fun _ => rfl) xs
theorem GCommand.tkR (xs : List GCommand) : (xs.flatMap GCommand.co).take (xs.length * 3) = xs.flatMap GCommand.co := List.take_of_length_le (by rw [GCommand.lenR]; exact Nat.le_refl _)
theorem GCommand.tkRi (k : Nat) (xs : List GCommand) : (xs.flatMap (GCommand.ci k)).take (xs.length * 3) = xs.flatMap (GCommand.ci k) := List.take_of_length_le (by rw [GCommand.lenRi]; exact Nat.le_refl _)
attribute [simp high] GCommand.lenR GCommand.tkR GCommand.lenRi GCommand.tkRi
def GCommand.wt (x : GCommand) : Nat := wt_StringS x.Path + x.Value.size
def GCommand.fits (x : GCommand) : Prop := fits_StringS x.Path ∧ x.Value.size ≤ 140737488351232
def GCommand.lens (x : GCommand) : Prop := lens_StringS x.Path
def GCommand.mark (x : GCommand) (k : Int) : GCommand × Int := (⟨decide (Int.tmod k 3 = 0), (mk_StringS x.Path (k + 1)).1, mtext (mk_StringS x.Path (k + 1)).2⟩, ((mk_StringS x.Path (k + 1)).2 + 1))
def GCommand.cn (x : GCommand) : Nat := 1 + cn_StringS x.Path + 1
theorem GCommand.mark_snd (x : GCommand) (k : Int) : (GCommand.mark x k).2 = k + GCommand.cn x := by
  simp only [GCommand.mark, GCommand.cn, mk_StringS_snd] <;> omega
def GCommand.markT (x : GCommand) (k : Int) : GCommand × Int := (⟨x.Set, (mk_StringS x.Path k).1, x.Value⟩, (mk_StringS x.Path k).2)
def GCommand.cnT (x : GCommand) : Nat := cn_StringS x.Path
theorem GCommand.markT_snd (x : GCommand) (k : Int) : (GCommand.markT x k).2 = k + GCommand.cnT x := by
  simp only [GCommand.markT, GCommand.cnT, mk_StringS_snd] <;> omega
theorem lens_of_Command {x : GCommand} (h : GCommand.wt x ≤ 1048576) : GCommand.lens x := by
  unfold GCommand.wt at h
  exact lens_of_StringS (by omega)
theorem cn_le_Command (x : GCommand) : GCommand.cnT x ≤ 32 * GCommand.wt x := by
  unfold GCommand.cnT GCommand.wt
  have := cn_le_StringS x.Path
  omega
theorem cnE_le_Command (x : GCommand) : GCommand.cn x ≤ 32 * GCommand.wt x + 16 := by
  unfold GCommand.cn GCommand.wt
  have := cn_le_StringS x.Path
  omega
theorem ok_eqCommand (k k' : Nat) (x y : GCommand) (ha : GCommand.lens x) (hb : GCommand.lens y) : CallOK Try.prog 19 [.agg (GCommand.ci k x), .agg (GCommand.ci k' y)] (.c (pb (decide (x = y)))) [.agg (GCommand.ci k x), .agg (GCommand.ci k' y)] := by
  simp only [GCommand.lens] at ha hb
  refine okS (fn := Try.f19) [] h0 Try.func19 (by kernel_rfl) rfl Try.ntmps19 Try.results19 (by simp) ?_
  simp
  refine brn_app (fun a0 => ?_) (fun a0 => ?_)
  · simp at a0
    simp
    rintro rfl
    exact a0 rfl
  · simp at a0
    simp
    refine Inv_intro (ok_eqStringS k k' x.Path y.Path (ha) (hb)) ?_
    simp
    refine brn_app (fun a1 => ?_) (fun a1 => ?_)
    · simp at a1
      simp
      rintro rfl
      exact a1 rfl
    · simp at a1
      simp
      refine brn_app (fun a2 => ?_) (fun a2 => ?_)
      · simp at a2
        simp
        rintro rfl
        exact a2 rfl
      · simp at a2
        simp
        cases x
        cases y
        simp_all
abbrev cCommandSo (xs : List GCommand) : PT := .sl 0 28 xs.length (xs.flatMap GCommand.co)
abbrev cCommandSi (k : Nat) (xs : List GCommand) : PT := rd k xs.length (xs.flatMap (GCommand.ci k))
def wt_CommandS (xs : List GCommand) : Nat := wtR GCommand.wt xs
theorem len_wt_CommandS (xs : List GCommand) : xs.length ≤ wt_CommandS xs := by unfold wt_CommandS wtR; omega
theorem mem_wt_CommandS {xs : List GCommand} {x : GCommand} (h : x ∈ xs) : GCommand.wt x ≤ wt_CommandS xs := by
  have := wt_mem GCommand.wt h
  unfold wt_CommandS wtR
  omega
def fits_CommandS (xs : List GCommand) : Prop := xs.length ≤ 140737488351232 ∧ ∀ x ∈ xs, GCommand.fits x
def lens_CommandS (xs : List GCommand) : Prop := xs.length ≤ 140737488351232 ∧ ∀ x ∈ xs, GCommand.lens x
def mk_CommandS (xs : List GCommand) (k : Int) : List GCommand × Int := mkR GCommand.mark xs k
def cn_CommandS (xs : List GCommand) : Nat := cnR GCommand.cn xs
theorem mk_CommandS_len (xs : List GCommand) (k : Int) : (mk_CommandS xs k).1.length = xs.length := mkR_len _ xs k
attribute [simp] mk_CommandS_len
theorem mk_CommandS_snd (xs : List GCommand) (k : Int) : (mk_CommandS xs k).2 = k + cn_CommandS xs := mkR_snd (GCommand.mark_snd) xs k
theorem lens_of_CommandS {xs : List GCommand} (h : wt_CommandS xs ≤ 1048576) : lens_CommandS xs := by
  have hl := len_wt_CommandS xs
  exact ⟨by omega, fun x hx => lens_of_Command (by have := mem_wt_CommandS hx; omega)⟩
theorem cn_le_CommandS (xs : List GCommand) : cn_CommandS xs ≤ 32 * wt_CommandS xs := cnR_le (fun x => by have := cnE_le_Command x; omega) xs
theorem ok_eqCommandS (k k' : Nat) (xs ys : List GCommand) (ha : lens_CommandS xs) (hb : lens_CommandS ys) : CallOK Try.prog 35 [.c (rd k xs.length (xs.flatMap (GCommand.ci k))), .c (rd k' ys.length (ys.flatMap (GCommand.ci k')))] (.c (pb (decide (xs = ys)))) [.c (rd k xs.length (xs.flatMap (GCommand.ci k))), .c (rd k' ys.length (ys.flatMap (GCommand.ci k')))] := by
  obtain ⟨ha, hax⟩ := ha
  obtain ⟨hb, hbx⟩ := hb
  refine okS (fn := Try.f35) [] h0 Try.func35 (by kernel_rfl) rfl Try.ntmps35 Try.results35 (by simp) ?_
  simp
  refine brn_app (fun h => ?_) (fun h => ?_)
  · simp at h
    simp
    rintro rfl
    exact h rfl
  · simp at h
    have hl : ys.length = xs.length := by omega
    simp
    refine loopS [0, 1, 5] [] (fun n st => ∃ (i : Nat), i + n = xs.length ∧ (xs.drop i = ys.drop i ↔ xs = ys) ∧ st = ⟨slOf 27 [(0, .t (rd k xs.length (xs.flatMap (GCommand.ci k)))), (1, .t (rd k' ys.length (ys.flatMap (GCommand.ci k')))), (5, .t (pi i))], ofL []⟩) xs.length ?_ ?_
    · rintro Inv hI
      simp
      subst hI
      exact ⟨0, by omega, by simp, rfl⟩
    · rintro Inv hI n st ⟨i, hi, htk, rfl⟩
      refine ewr_sound (M := []) h0 ?_
      simp
      refine brn_app (fun h => ?_) (fun h => ?_)
      · simp at h
        have hib : i < ys.length := by omega
        rw [drop_step xs i h, drop_step ys i hib, List.cons.injEq] at htk
        simp
        have hd := fm_drop (GCommand.ci k) 3 (fun _ => rfl) xs i h
        have hd' := fm_drop (GCommand.ci k') 3 (fun _ => rfl) ys i hib
        have hlen := fm_len (GCommand.ci k) 3 (fun _ => rfl) xs
        have hlen' := fm_len (GCommand.ci k') 3 (fun _ => rfl) ys
        have hlt : i * 3 < xs.length * 3 := by omega
        have hlt' : i * 3 < ys.length * 3 := by omega
        have hE := ok_eqCommand k k' xs[i] ys[i] (hax _ (List.getElem_mem h)) (hbx _ (List.getElem_mem hib))
        refine drawP (tabEnv [] [(19, [.agg (GCommand.ci k xs[i]), .agg (GCommand.ci k' ys[i])], .c (pb (decide (xs[i] = ys[i]))), [.agg (GCommand.ci k xs[i]), .agg (GCommand.ci k' ys[i])])]) [⟨[], allD 27, true⟩, ⟨[], allD 27, true⟩, ⟨[], allD 27, true⟩, ⟨[], allD 27, true⟩, ⟨[], allD 27, true⟩, ⟨[], allD 27, true⟩, ⟨[], allD 27, true⟩, ⟨[], allD 27, true⟩, ⟨[], allD 27, false⟩, ⟨[], allD 27, true⟩] h0 hm (tabEnv_ok (by intro x hx; simp only [List.mem_singleton] at hx; subst hx; exact hE)) (by kernel_rfl) (by kernel_rfl) ?_
        simp [h, hib, hd, hd', hlen, hlen', hlt, hlt']
        refine brn_app (fun h2 => ?_) (fun h2 => ?_)
        · simp at h2
          simp
          intro he
          exact h2 (htk.2 he).1
        · simp at h2
          simp
          subst hI
          exact Less_mk (n - 1) (by omega) ⟨i + 1, by omega, ⟨fun h4 => htk.1 ⟨h2, h4⟩, fun h4 => (htk.2 h4).2⟩, by rw [wrNext i (by omega)]⟩
      · simp at h
        rw [List.drop_of_length_le (by omega), List.drop_of_length_le (by omega)] at htk
        simp
        exact htk.1 rfl
theorem ok_eqLeaf (k k' : Nat) (x y : GLeaf) (ha : GLeaf.lens x) (hb : GLeaf.lens y) : CallOK Try.prog 84 [.agg (GLeaf.ci k x), .agg (GLeaf.ci k' y)] (.c (pb (decide (x = y)))) [.agg (GLeaf.ci k x), .agg (GLeaf.ci k' y)] := by
  simp only [GLeaf.lens] at ha hb
  refine okS (fn := Try.f84) [] h0 Try.func84 (by kernel_rfl) rfl Try.ntmps84 Try.results84 (by simp) ?_
  simp
  refine Inv_intro (ok_eqStringS k k' x.Path y.Path (ha) (hb)) ?_
  simp
  refine brn_app (fun a0 => ?_) (fun a0 => ?_)
  · simp at a0
    simp
    rintro rfl
    exact a0 rfl
  · simp at a0
    simp
    refine brn_app (fun a1 => ?_) (fun a1 => ?_)
    · simp at a1
      simp
      rintro rfl
      exact a1 rfl
    · simp at a1
      simp
      cases x
      cases y
      simp_all
theorem ok_eqLeafS (k k' : Nat) (xs ys : List GLeaf) (ha : lens_LeafS xs) (hb : lens_LeafS ys) : CallOK Try.prog 26 [.c (rd k xs.length (xs.flatMap (GLeaf.ci k))), .c (rd k' ys.length (ys.flatMap (GLeaf.ci k')))] (.c (pb (decide (xs = ys)))) [.c (rd k xs.length (xs.flatMap (GLeaf.ci k))), .c (rd k' ys.length (ys.flatMap (GLeaf.ci k')))] := by
  obtain ⟨ha, hax⟩ := ha
  obtain ⟨hb, hbx⟩ := hb
  refine okS (fn := Try.f26) [] h0 Try.func26 (by kernel_rfl) rfl Try.ntmps26 Try.results26 (by simp) ?_
  simp
  refine brn_app (fun h => ?_) (fun h => ?_)
  · simp at h
    simp
    rintro rfl
    exact h rfl
  · simp at h
    have hl : ys.length = xs.length := by omega
    simp
    refine loopS [0, 1, 5] [] (fun n st => ∃ (i : Nat), i + n = xs.length ∧ (xs.drop i = ys.drop i ↔ xs = ys) ∧ st = ⟨slOf 27 [(0, .t (rd k xs.length (xs.flatMap (GLeaf.ci k)))), (1, .t (rd k' ys.length (ys.flatMap (GLeaf.ci k')))), (5, .t (pi i))], ofL []⟩) xs.length ?_ ?_
    · rintro Inv hI
      simp
      subst hI
      exact ⟨0, by omega, by simp, rfl⟩
    · rintro Inv hI n st ⟨i, hi, htk, rfl⟩
      refine ewr_sound (M := []) h0 ?_
      simp
      refine brn_app (fun h => ?_) (fun h => ?_)
      · simp at h
        have hib : i < ys.length := by omega
        rw [drop_step xs i h, drop_step ys i hib, List.cons.injEq] at htk
        simp
        have hd := fm_drop (GLeaf.ci k) 2 (fun _ => rfl) xs i h
        have hd' := fm_drop (GLeaf.ci k') 2 (fun _ => rfl) ys i hib
        have hlen := fm_len (GLeaf.ci k) 2 (fun _ => rfl) xs
        have hlen' := fm_len (GLeaf.ci k') 2 (fun _ => rfl) ys
        have hlt : i * 2 < xs.length * 2 := by omega
        have hlt' : i * 2 < ys.length * 2 := by omega
        have hE := ok_eqLeaf k k' xs[i] ys[i] (hax _ (List.getElem_mem h)) (hbx _ (List.getElem_mem hib))
        refine drawP (tabEnv [] [(84, [.agg (GLeaf.ci k xs[i]), .agg (GLeaf.ci k' ys[i])], .c (pb (decide (xs[i] = ys[i]))), [.agg (GLeaf.ci k xs[i]), .agg (GLeaf.ci k' ys[i])])]) [⟨[], allD 27, true⟩, ⟨[], allD 27, true⟩, ⟨[], allD 27, true⟩, ⟨[], allD 27, true⟩, ⟨[], allD 27, true⟩, ⟨[], allD 27, true⟩, ⟨[], allD 27, true⟩, ⟨[], allD 27, true⟩, ⟨[], allD 27, false⟩, ⟨[], allD 27, true⟩] h0 hm (tabEnv_ok (by intro x hx; simp only [List.mem_singleton] at hx; subst hx; exact hE)) (by kernel_rfl) (by kernel_rfl) ?_
        simp [h, hib, hd, hd', hlen, hlen', hlt, hlt']
        refine brn_app (fun h2 => ?_) (fun h2 => ?_)
        · simp at h2
          simp
          intro he
          exact h2 (htk.2 he).1
        · simp at h2
          simp
          subst hI
          exact Less_mk (n - 1) (by omega) ⟨i + 1, by omega, ⟨fun h4 => htk.1 ⟨h2, h4⟩, fun h4 => (htk.2 h4).2⟩, by rw [wrNext i (by omega)]⟩
      · simp at h
        rw [List.drop_of_length_le (by omega), List.drop_of_length_le (by omega)] at htk
        simp
        exact htk.1 rfl
theorem ok_eqLeafSS (k k' : Nat) (xs ys : List (List GLeaf)) (ha : lens_LeafSS xs) (hb : lens_LeafSS ys) : CallOK Try.prog 97 [.c (rd k xs.length (xs.map (cLeafSi k))), .c (rd k' ys.length (ys.map (cLeafSi k')))] (.c (pb (decide (xs = ys)))) [.c (rd k xs.length (xs.map (cLeafSi k))), .c (rd k' ys.length (ys.map (cLeafSi k')))] := by
  obtain ⟨ha, hax⟩ := ha
  obtain ⟨hb, hbx⟩ := hb
  refine okS (fn := Try.f97) [] h0 Try.func97 (by kernel_rfl) rfl Try.ntmps97 Try.results97 (by simp) ?_
  simp
  refine brn_app (fun h => ?_) (fun h => ?_)
  · simp at h
    simp
    rintro rfl
    exact h rfl
  · simp at h
    have hl : ys.length = xs.length := by omega
    simp
    refine loopS [0, 1, 5] [] (fun n st => ∃ (i : Nat), i + n = xs.length ∧ (xs.drop i = ys.drop i ↔ xs = ys) ∧ st = ⟨slOf 27 [(0, .t (rd k xs.length (xs.map (cLeafSi k)))), (1, .t (rd k' ys.length (ys.map (cLeafSi k')))), (5, .t (pi i))], ofL []⟩) xs.length ?_ ?_
    · rintro Inv hI
      simp
      subst hI
      exact ⟨0, by omega, by simp, rfl⟩
    · rintro Inv hI n st ⟨i, hi, htk, rfl⟩
      refine ewr_sound (M := []) h0 ?_
      simp
      refine brn_app (fun h => ?_) (fun h => ?_)
      · simp at h
        have hib : i < ys.length := by omega
        rw [drop_step xs i h, drop_step ys i hib, List.cons.injEq] at htk
        simp
        have hE := ok_eqLeafS k k' xs[i] ys[i] (hax _ (List.getElem_mem h)) (hbx _ (List.getElem_mem hib))
        refine drawP (tabEnv [] [(26, [.c (rd k xs[i].length (xs[i].flatMap (GLeaf.ci k))), .c (rd k' ys[i].length (ys[i].flatMap (GLeaf.ci k')))], .c (pb (decide (xs[i] = ys[i]))), [.c (rd k xs[i].length (xs[i].flatMap (GLeaf.ci k))), .c (rd k' ys[i].length (ys[i].flatMap (GLeaf.ci k')))])]) [⟨[], allD 27, true⟩, ⟨[], allD 27, true⟩, ⟨[], allD 27, true⟩, ⟨[], allD 27, true⟩, ⟨[], allD 27, true⟩, ⟨[], allD 27, true⟩, ⟨[], allD 27, true⟩, ⟨[], allD 27, true⟩, ⟨[], allD 27, false⟩, ⟨[], allD 27, true⟩] h0 hm (tabEnv_ok (by intro x hx; simp only [List.mem_singleton] at hx; subst hx; exact hE)) (by kernel_rfl) (by kernel_rfl) ?_
        simp [h, hib]
        refine brn_app (fun h2 => ?_) (fun h2 => ?_)
        · simp at h2
          simp
          intro he
          exact h2 (htk.2 he).1
        · simp at h2
          simp
          subst hI
          exact Less_mk (n - 1) (by omega) ⟨i + 1, by omega, ⟨fun h4 => htk.1 ⟨h2, h4⟩, fun h4 => (htk.2 h4).2⟩, by rw [wrNext i (by omega)]⟩
      · simp at h
        rw [List.drop_of_length_le (by omega), List.drop_of_length_le (by omega)] at htk
        simp
        exact htk.1 rfl
theorem ok_eqStore (k k' : Nat) (x y : GStore) (ha : GStore.lens x) (hb : GStore.lens y) : CallOK Try.prog 42 [.agg (GStore.ci k x), .agg (GStore.ci k' y)] (.c (pb (decide (x = y)))) [.agg (GStore.ci k x), .agg (GStore.ci k' y)] := by
  simp only [GStore.lens] at ha hb
  refine okS (fn := Try.f42) [] h0 Try.func42 (by kernel_rfl) rfl Try.ntmps42 Try.results42 (by simp) ?_
  simp
  refine Inv_intro (ok_eqLeafS k k' x.Candidate y.Candidate (ha.1) (hb.1)) ?_
  simp
  refine brn_app (fun a0 => ?_) (fun a0 => ?_)
  · simp at a0
    simp
    rintro rfl
    exact a0 rfl
  · simp at a0
    simp
    refine Inv_intro (ok_eqLeafS k k' x.Running y.Running (ha.2.1) (hb.2.1)) ?_
    simp
    refine brn_app (fun a1 => ?_) (fun a1 => ?_)
    · simp at a1
      simp
      rintro rfl
      exact a1 rfl
    · simp at a1
      simp
      refine Inv_intro (ok_eqLeafSS k k' x.History y.History (ha.2.2) (hb.2.2)) ?_
      simp
      refine brn_app (fun a2 => ?_) (fun a2 => ?_)
      · simp at a2
        simp
        rintro rfl
        exact a2 rfl
      · simp at a2
        simp
        refine brn_app (fun a3 => ?_) (fun a3 => ?_)
        · simp at a3
          simp
          rintro rfl
          exact a3 rfl
        · simp at a3
          simp
          cases x
          cases y
          simp_all
theorem ok_heldStringS (q : Nat) (xs : List ByteArray) (k : Int) (hls : lens_StringS xs) (hk : 0 < k) (hk2 : k + cn_StringS xs ≤ 2305843009213693952) : CallOK Try.prog 86 [.c (rd q xs.length ((mk_StringS xs k).1.map ps)), .c (pi k)] (.c (pi (mk_StringS xs k).2)) [.c (rd q xs.length ((mk_StringS xs k).1.map ps)), .c (pi k)] := by
  obtain ⟨hl0, hlx⟩ := hls
  unfold mk_StringS
  unfold cn_StringS at hk2
  have hyl := mkR_len (fun (_ : ByteArray) k => (mtext k, k + 1)) xs k
  have hyi : ∀ (i : Nat) (h : i < xs.length) (h' : i < (mkR (fun (_ : ByteArray) k => (mtext k, k + 1)) xs k).1.length), (mkR (fun (_ : ByteArray) k => (mtext k, k + 1)) xs k).1[i] = ((fun (_ : ByteArray) k => (mtext k, k + 1)) xs[i] (mkR (fun (_ : ByteArray) k => (mtext k, k + 1)) (xs.take i) k).2).1 := fun i h _ => mkR_get (fun (_ : ByteArray) k => (mtext k, k + 1)) xs i h k
  have hend : (mkR (fun (_ : ByteArray) k => (mtext k, k + 1)) xs k).2 = k + cnR (fun (_ : ByteArray) => 1) xs := mkR_snd (f := (fun (_ : ByteArray) k => (mtext k, k + 1))) (g := (fun (_ : ByteArray) => 1)) (fun _ _ => rfl) xs k
  generalize hY : (mkR (fun (_ : ByteArray) k => (mtext k, k + 1)) xs k).1 = ys at hyl hyi ⊢
  refine okS (fn := Try.f86) [] h0 Try.func86 (by kernel_rfl) rfl Try.ntmps86 Try.results86 (by simp) ?_
  simp
  refine loopS [0, 1, 5] [] (fun n st => ∃ (i : Nat), i + n = xs.length ∧ st = ⟨slOf 22 [(0, .t (rd q xs.length (ys.map ps))), (1, .t (pi (mkR (fun (_ : ByteArray) k => (mtext k, k + 1)) (xs.take i) k).2)), (5, .t (pi i))], ofL []⟩) xs.length ?_ ?_
  · rintro Inv hI
    simp
    subst hI
    exact ⟨0, by omega, rfl⟩
  · rintro Inv hI n st ⟨i, hi, rfl⟩
    have hKb := mkR_snd (f := (fun (_ : ByteArray) k => (mtext k, k + 1))) (g := (fun (_ : ByteArray) => 1)) (fun _ _ => rfl) (xs.take i) k
    have hyK : ∀ (h : i < xs.length), ys[i]'(by omega) = ((fun (_ : ByteArray) k => (mtext k, k + 1)) xs[i] (mkR (fun (_ : ByteArray) k => (mtext k, k + 1)) (xs.take i) k).2).1 := fun h => hyi i h (by omega)
    generalize hK : (mkR (fun (_ : ByteArray) k => (mtext k, k + 1)) (xs.take i) k).2 = K at hKb hyK ⊢
    refine ewr_sound (M := []) h0 ?_
    simp
    refine brn_app (fun h => ?_) (fun h => ?_)
    · simp at h
      obtain ⟨m, rfl⟩ : ∃ m, n = m + 1 := ⟨n - 1, by omega⟩
      have hcn := cnR_take (fun (_ : ByteArray) => 1) xs i h
      have hb : i < ys.length := by omega
      have ey := hyK h
      have hw0 : IntKind.wrap .i64 (K + 1) = K + 1 := wrap64 (by omega) (by omega)
      simp [h, hb, ey, hw0]
      refine drawP (tabEnv [] _) [⟨[], allD 22, true⟩, ⟨[], allD 22, true⟩, ⟨[], allD 22, true⟩, ⟨[], allD 22, true⟩, ⟨[], allD 22, true⟩, ⟨[], allD 22, false⟩, ⟨[], allD 22, true⟩] h0 hm (tabEnv_ok (tab_cons (ok_markText (K) (by omega)) tab_nil)) (by kernel_rfl) (by kernel_rfl) ?_
      simp [h, hb, ey, hw0]
      have e4 := mkR_take (fun (_ : ByteArray) k => (mtext k, k + 1)) xs i h k
      rw [hK] at e4
      subst hI
      refine Less_mk m (by omega) ⟨i + 1, by omega, ?_⟩
      rw [wrNext i (by omega), e4]
      all_goals rfl
    · simp at h
      have hx : xs.take i = xs := List.take_of_length_le (by omega)
      rw [hx] at hK
      simp [hK]
theorem ok_heldCommandS (q : Nat) (xs : List GCommand) (k : Int) (hls : lens_CommandS xs) (hk : 0 < k) (hk2 : k + cn_CommandS xs ≤ 2305843009213693952) : CallOK Try.prog 37 [.c (rd q xs.length ((mk_CommandS xs k).1.flatMap (GCommand.ci q))), .c (pi k)] (.c (pi (mk_CommandS xs k).2)) [.c (rd q xs.length ((mk_CommandS xs k).1.flatMap (GCommand.ci q))), .c (pi k)] := by
  obtain ⟨hl0, hlx⟩ := hls
  unfold mk_CommandS
  unfold cn_CommandS at hk2
  have hyl := mkR_len GCommand.mark xs k
  have hyi : ∀ (i : Nat) (h : i < xs.length) (h' : i < (mkR GCommand.mark xs k).1.length), (mkR GCommand.mark xs k).1[i] = (GCommand.mark xs[i] (mkR GCommand.mark (xs.take i) k).2).1 := fun i h _ => mkR_get GCommand.mark xs i h k
  have hend : (mkR GCommand.mark xs k).2 = k + cnR GCommand.cn xs := mkR_snd (f := GCommand.mark) (g := GCommand.cn) (GCommand.mark_snd) xs k
  generalize hY : (mkR GCommand.mark xs k).1 = ys at hyl hyi ⊢
  refine okS (fn := Try.f37) [] h0 Try.func37 (by kernel_rfl) rfl Try.ntmps37 Try.results37 (by simp) ?_
  simp
  refine loopS [0, 1, 5] [] (fun n st => ∃ (i : Nat), i + n = xs.length ∧ st = ⟨slOf 43 [(0, .t (rd q xs.length (ys.flatMap (GCommand.ci q)))), (1, .t (pi (mkR GCommand.mark (xs.take i) k).2)), (5, .t (pi i))], ofL []⟩) xs.length ?_ ?_
  · rintro Inv hI
    simp
    subst hI
    exact ⟨0, by omega, rfl⟩
  · rintro Inv hI n st ⟨i, hi, rfl⟩
    have hKb := mkR_snd (f := GCommand.mark) (g := GCommand.cn) (GCommand.mark_snd) (xs.take i) k
    have hyK : ∀ (h : i < xs.length), ys[i]'(by omega) = (GCommand.mark xs[i] (mkR GCommand.mark (xs.take i) k).2).1 := fun h => hyi i h (by omega)
    generalize hK : (mkR GCommand.mark (xs.take i) k).2 = K at hKb hyK ⊢
    refine ewr_sound (M := []) h0 ?_
    simp
    refine brn_app (fun h => ?_) (fun h => ?_)
    · simp at h
      obtain ⟨m, rfl⟩ : ∃ m, n = m + 1 := ⟨n - 1, by omega⟩
      have hcn := cnR_take GCommand.cn xs i h
      have hb : i < ys.length := by omega
      have ey := hyK h
      have hd := fm_drop (GCommand.ci q) 3 (fun _ => rfl) ys i hb
      have hlen := fm_len (GCommand.ci q) 3 (fun _ => rfl) ys
      have hlt : i * 3 < ys.length * 3 := by omega
      rw [ey] at hd
      simp only [GCommand.cn] at hcn
      have hxl := hlx _ (List.getElem_mem h)
      have hw0 : IntKind.wrap .i64 (K + 1) = K + 1 := wrap64 (by omega) (by omega)
      have hs1 := mk_StringS_snd xs[i].Path (K + 1)
      have hn1 : ¬ (mk_StringS xs[i].Path (K + 1)).2 < 0 := by omega
      have hw2 : IntKind.wrap .i64 ((mk_StringS xs[i].Path (K + 1)).2 + 1) = (mk_StringS xs[i].Path (K + 1)).2 + 1 := wrap64 (by omega) (by omega)
      simp [h, hb, hd, hlen, hlt, GCommand.mark, hw0, hn1, hw2]
      refine Inv_intro (ok_heldStringS q xs[i].Path ((K + 1)) hxl (by omega) (by omega)) ?_
      simp [h, hb, hd, hlen, hlt, GCommand.mark, hw0, hn1, hw2]
      refine drawP (tabEnv [] _) [⟨[], allD 43, true⟩, ⟨[], allD 43, true⟩, ⟨[], allD 43, true⟩, ⟨[], allD 43, true⟩, ⟨[], allD 43, true⟩, ⟨[], allD 43, true⟩, ⟨[], allD 43, false⟩, ⟨[], allD 43, true⟩] h0 hm (tabEnv_ok (tab_cons (ok_markText ((mk_StringS xs[i].Path (K + 1)).2) (by omega)) tab_nil)) (by kernel_rfl) (by kernel_rfl) ?_
      simp [h, hb, hd, hlen, hlt, GCommand.mark, hw0, hn1, hw2]
      have e4 := mkR_take GCommand.mark xs i h k
      rw [hK] at e4
      subst hI
      refine Less_mk m (by omega) ⟨i + 1, by omega, ?_⟩
      rw [wrNext i (by omega), e4]
      all_goals rfl
    · simp at h
      have hx : xs.take i = xs := List.take_of_length_le (by omega)
      rw [hx] at hK
      simp [hK]
theorem ok_markStringS (xs : List ByteArray) (k : Int) (hls : lens_StringS xs) (hk : 0 < k) (hk2 : k + cn_StringS xs ≤ 2305843009213693952) : CallOK Try.prog 29 [.c (.sl 0 9 xs.length (xs.map ps)), .c (pi k)] (.c (pi (mk_StringS xs k).2)) [.c (.sl 0 9 xs.length ((mk_StringS xs k).1.map ps)), .c (pi k)] := by
  obtain ⟨hl0, hlx⟩ := hls
  unfold mk_StringS
  unfold cn_StringS at hk2
  refine okS (fn := Try.f29) [] h0 Try.func29 (by kernel_rfl) rfl Try.ntmps29 Try.results29 (by simp) ?_
  simp
  refine loopS [0, 1, 5] [] (fun n st => ∃ (i : Nat), i + n = xs.length ∧ st = ⟨slOf 20 [(0, .ref ⟨.arg 0 0, []⟩ 0 xs.length), (1, .t (pi (mkR (fun (_ : ByteArray) k => (mtext k, k + 1)) (xs.take i) k).2)), (5, .t (pi i))], ofL [(.arg 0 0, .sl 0 9 xs.length (((mkR (fun (_ : ByteArray) k => (mtext k, k + 1)) (xs.take i) k).1.map ps) ++ ((xs.drop i).map ps)))]⟩) xs.length ?_ ?_
  · rintro Inv hI
    simp
    subst hI
    exact ⟨0, by omega, rfl⟩
  · rintro Inv hI n st ⟨i, hi, rfl⟩
    have hAl : (((mkR (fun (_ : ByteArray) k => (mtext k, k + 1)) (xs.take i) k).1.map ps)).length = i * 1 := by rw [List.length_map, mkR_len, len_take xs i (by omega), Nat.mul_one]
    have hKb := mkR_snd (f := (fun (_ : ByteArray) k => (mtext k, k + 1))) (g := (fun (_ : ByteArray) => 1)) (fun _ _ => rfl) (xs.take i) k
    generalize hA : ((mkR (fun (_ : ByteArray) k => (mtext k, k + 1)) (xs.take i) k).1.map ps) = A at hAl ⊢
    generalize hK : (mkR (fun (_ : ByteArray) k => (mtext k, k + 1)) (xs.take i) k).2 = K at hKb ⊢
    generalize hB : ((xs.drop i).map ps) = B
    refine ewr_sound (M := []) h0 ?_
    simp
    refine brn_app (fun h => ?_) (fun h => ?_)
    · simp at h
      obtain ⟨m, rfl⟩ : ∃ m, n = m + 1 := ⟨n - 1, by omega⟩
      have hcn := cnR_take (fun (_ : ByteArray) => 1) xs i h
      have hBe : B = [ps xs[i]] ++ ((xs.drop (i + 1)).map ps) := by rw [← hB, drop_step xs i h]; rfl
      generalize hC : ((xs.drop (i + 1)).map ps) = D at hBe
      subst hBe
      rw [Nat.mul_one] at hAl
      have hw0 : IntKind.wrap .i64 (K + 1) = K + 1 := wrap64 (by omega) (by omega)
      simp [h, hAl, hw0]
      refine Inv_intro (ok_markText (K) (by omega)) ?_
      simp [h, hAl, hw0]
      have e4 := mkR_take (fun (_ : ByteArray) k => (mtext k, k + 1)) xs i h k
      rw [hK] at e4
      have e3 : ((mkR (fun (_ : ByteArray) k => (mtext k, k + 1)) (xs.take (i + 1)) k).1.map ps) = A ++ [ps ((fun (_ : ByteArray) k => (mtext k, k + 1)) xs[i] K).1] := by rw [e4, List.map_append, hA]; rfl
      subst hI
      refine Less_mk m (by omega) ⟨i + 1, by omega, ?_⟩
      rw [wrNext i (by omega), e3, e4, hC, List.append_assoc]
      all_goals rfl
    · simp at h
      have hx : xs.take i = xs := List.take_of_length_le (by omega)
      have hBn : B = [] := by rw [← hB, List.drop_of_length_le (by omega)]; rfl
      subst hBn
      rw [hx] at hA hK
      subst hK
      subst hA
      simp
theorem ok_markCommandS (xs : List GCommand) (k : Int) (hls : lens_CommandS xs) (hk : 0 < k) (hk2 : k + cn_CommandS xs ≤ 2305843009213693952) : CallOK Try.prog 36 [.c (.sl 0 28 xs.length (xs.flatMap GCommand.co)), .c (pi k)] (.c (pi (mk_CommandS xs k).2)) [.c (.sl 0 28 xs.length ((mk_CommandS xs k).1.flatMap GCommand.co)), .c (pi k)] := by
  obtain ⟨hl0, hlx⟩ := hls
  unfold mk_CommandS
  unfold cn_CommandS at hk2
  refine okS (fn := Try.f36) [(29, [1,0])] h0 Try.func36 (by kernel_rfl) rfl Try.ntmps36 Try.results36 (by simp) ?_
  simp
  refine loopS [0, 1, 5] [] (fun n st => ∃ (i : Nat), i + n = xs.length ∧ st = ⟨slOf 37 [(0, .ref ⟨.arg 0 0, []⟩ 0 xs.length), (1, .t (pi (mkR GCommand.mark (xs.take i) k).2)), (5, .t (pi i))], ofL [(.arg 0 0, .sl 0 28 xs.length (((mkR GCommand.mark (xs.take i) k).1.flatMap GCommand.co) ++ ((xs.drop i).flatMap GCommand.co)))]⟩) xs.length ?_ ?_
  · rintro Inv hI
    simp
    subst hI
    exact ⟨0, by omega, rfl⟩
  · rintro Inv hI n st ⟨i, hi, rfl⟩
    have hAl : (((mkR GCommand.mark (xs.take i) k).1.flatMap GCommand.co)).length = i * 3 := by rw [fm_len GCommand.co 3 (fun _ => rfl), mkR_len, len_take xs i (by omega)]
    have hKb := mkR_snd (f := GCommand.mark) (g := GCommand.cn) (GCommand.mark_snd) (xs.take i) k
    generalize hA : ((mkR GCommand.mark (xs.take i) k).1.flatMap GCommand.co) = A at hAl ⊢
    generalize hK : (mkR GCommand.mark (xs.take i) k).2 = K at hKb ⊢
    generalize hB : ((xs.drop i).flatMap GCommand.co) = B
    refine ewr_sound (M := [(29, [1, 0])]) h0 ?_
    simp
    refine brn_app (fun h => ?_) (fun h => ?_)
    · simp at h
      obtain ⟨m, rfl⟩ : ∃ m, n = m + 1 := ⟨n - 1, by omega⟩
      have hcn := cnR_take GCommand.cn xs i h
      have hBe : B = [pb xs[i].Set, .sl 0 9 xs[i].Path.length (xs[i].Path.map ps), ps xs[i].Value] ++ ((xs.drop (i + 1)).flatMap GCommand.co) := by rw [← hB, drop_step xs i h]; rfl
      generalize hC : ((xs.drop (i + 1)).flatMap GCommand.co) = D at hBe
      subst hBe
      have hxl := hlx _ (List.getElem_mem h)
      simp only [GCommand.cn] at hcn
      have hw0 : IntKind.wrap .i64 (K + 1) = K + 1 := wrap64 (by omega) (by omega)
      have hs1 := mk_StringS_snd xs[i].Path (K + 1)
      have hw2 : IntKind.wrap .i64 ((mk_StringS xs[i].Path (K + 1)).2 + 1) = (mk_StringS xs[i].Path (K + 1)).2 + 1 := wrap64 (by omega) (by omega)
      simp [h, hAl, hw0, hw2]
      refine Inv_intro (ok_markStringS xs[i].Path ((K + 1)) hxl (by omega) (by omega)) ?_
      simp [h, hAl, hw0, hw2]
      refine Inv_intro (ok_markText ((mk_StringS xs[i].Path (K + 1)).2) (by omega)) ?_
      simp [h, hAl, hw0, hw2]
      have e4 := mkR_take GCommand.mark xs i h k
      rw [hK] at e4
      have e3 : ((mkR GCommand.mark (xs.take (i + 1)) k).1.flatMap GCommand.co) = A ++ GCommand.co (GCommand.mark xs[i] K).1 := by rw [e4, List.flatMap_append, hA, List.flatMap_cons, List.flatMap_nil, List.append_nil]
      subst hI
      refine Less_mk m (by omega) ⟨i + 1, by omega, ?_⟩
      rw [wrNext i (by omega), e3, e4, hC, List.append_assoc]
      all_goals first | rfl | simp [GCommand.mark] | simp
    · simp at h
      have hx : xs.take i = xs := List.take_of_length_le (by omega)
      have hBn : B = [] := by rw [← hB, List.drop_of_length_le (by omega)]; rfl
      subst hBn
      rw [hx] at hA hK
      subst hK
      subst hA
      simp
end Go.V
