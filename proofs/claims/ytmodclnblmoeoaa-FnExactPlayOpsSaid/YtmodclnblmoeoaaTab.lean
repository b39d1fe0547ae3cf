/- What functions of the seat's program do, each proved of its code, under the bounds that its theorem names. -/
import Derived.Test.YtmodclnblmoeoaaTaa
set_option linter.all false
namespace Go.V
open Go.Proofs
set_option maxHeartbeats 1000000
set_option maxRecDepth 10000
set_option linter.unusedSimpArgs false
set_option linter.unusedVariables false
abbrev cLeafSSo (xs : List (List GLeaf)) : PT := .sl 0 35 xs.length (xs.map (cLeafSo))
abbrev cLeafSSi (k : Nat) (xs : List (List GLeaf)) : PT := rd k xs.length (xs.map (cLeafSi k))
theorem un_LeafSS (xs : List (List GLeaf)) : PT.unownL (xs.map (cLeafSo)) = (xs.map (cLeafSi 0)) := by
  rw [unownL_map]
  congr 1
  funext r
  simp [cLeafSo, cLeafSi, rd]
theorem uni_LeafSS (k : Nat) (xs : List (List GLeaf)) : PT.unownL (xs.map (cLeafSi k)) = (xs.map (cLeafSi 0)) := by
  rw [unownL_map]
  congr 1
  funext r
  simp [cLeafSo, cLeafSi, rd]
theorem nt_LeafSS (xs : List (List GLeaf)) : PT.noTmpL (xs.map (cLeafSo)) = true := noTmpL_map _ xs fun r => by simp [cLeafSo]
theorem nti_LeafSS (k : Nat) (xs : List (List GLeaf)) : PT.noTmpL (xs.map (cLeafSi (k + 1))) = true := noTmpL_map _ xs fun r => by simp [cLeafSi, rd]
attribute [simp] un_LeafSS uni_LeafSS nt_LeafSS nti_LeafSS
def wt_LeafSS (xs : List (List GLeaf)) : Nat := wtR wt_LeafS xs
theorem len_wt_LeafSS (xs : List (List GLeaf)) : xs.length ≤ wt_LeafSS xs := by unfold wt_LeafSS wtR; omega
theorem mem_wt_LeafSS {xs : List (List GLeaf)} {x : (List GLeaf)} (h : x ∈ xs) : wt_LeafS x ≤ wt_LeafSS xs := by
  have := wt_mem wt_LeafS h
  unfold wt_LeafSS wtR
  omega
def fits_LeafSS (xs : List (List GLeaf)) : Prop := xs.length ≤ 140737488351232 ∧ ∀ x ∈ xs, fits_LeafS x
def lens_LeafSS (xs : List (List GLeaf)) : Prop := xs.length ≤ 140737488351232 ∧ ∀ x ∈ xs, lens_LeafS x
def mk_LeafSS (xs : List (List GLeaf)) (k : Int) : List (List GLeaf) × Int := mkR mk_LeafS xs k
def cn_LeafSS (xs : List (List GLeaf)) : Nat := cnR cn_LeafS xs
theorem mk_LeafSS_len (xs : List (List GLeaf)) (k : Int) : (mk_LeafSS xs k).1.length = xs.length := mkR_len _ xs k
attribute [simp] mk_LeafSS_len
theorem mk_LeafSS_snd (xs : List (List GLeaf)) (k : Int) : (mk_LeafSS xs k).2 = k + cn_LeafSS xs := mkR_snd (mk_LeafS_snd) xs k
theorem lens_of_LeafSS {xs : List (List GLeaf)} (h : wt_LeafSS xs ≤ 1048576) : lens_LeafSS xs := by
  have hl := len_wt_LeafSS xs
  exact ⟨by omega, fun x hx => lens_of_LeafS (by have := mem_wt_LeafSS hx; omega)⟩
theorem cn_le_LeafSS (xs : List (List GLeaf)) : cn_LeafSS xs ≤ 32 * wt_LeafSS xs := cnR_le (fun x => by have := cn_le_LeafS x; omega) xs
theorem ok_eqLeafSS (k k' : Nat) (xs ys : List (List GLeaf)) (ha : lens_LeafSS xs) (hb : lens_LeafSS ys) : CallOK Try.prog 97 [.c (rd k xs.length (xs.map (cLeafSi k))), .c (rd k' ys.length (ys.map (cLeafSi k')))] (.c (pb (decide (xs = ys)))) [.c (rd k xs.length (xs.map (cLeafSi k))), .c (rd k' ys.length (ys.map (cLeafSi k')))] := by
  obtain ⟨ha, hax⟩ := ha
  obtain ⟨hb, hbx⟩ := hb
  refine okS (fn := Try.f97) [] h0 Try.func97 (by kernel_rfl) rfl Try.ntmps97 Try.results97 (by simp) ?_
  simp
  refine brn_app (fun h => ?_) (fun h => ?_)
  · simp at h
    simp
    rintro rfl
    exact h rfl
  · simp at h
    have hl : ys.length = xs.length := by omega
    simp
    refine loopS [0, 1, 5] [] (fun n st => ∃ (i : Nat), i + n = xs.length ∧ (xs.drop i = ys.drop i ↔ xs = ys) ∧ st = ⟨slOf 27 [(0, .t (rd k xs.length (xs.map (cLeafSi k)))), (1, .t (rd k' ys.length (ys.map (cLeafSi k')))), (5, .t (pi i))], ofL []⟩) xs.length ?_ ?_
    · rintro Inv hI
      simp
      subst hI
      exact ⟨0, by omega, by simp, rfl⟩
    · rintro Inv hI n st ⟨i, hi, htk, rfl⟩
      refine ewr_sound (M := []) h0 ?_
      simp
      refine brn_app (fun h => ?_) (fun h => ?_)
      · simp at h
        have hib : i < ys.length := by omega
        rw [drop_step xs i h, drop_step ys i hib, List.cons.injEq] at htk
        simp
        have hE := ok_eqLeafS k k' xs[i] ys[i] (hax _ (List.getElem_mem h)) (hbx _ (List.getElem_mem hib))
        refine drawP (tabEnv [] [(26, [.c (rd k xs[i].length (xs[i].flatMap (GLeaf.ci k))), .c (rd k' ys[i].length (ys[i].flatMap (GLeaf.ci k')))], .c (pb (decide (xs[i] = ys[i]))), [.c (rd k xs[i].length (xs[i].flatMap (GLeaf.ci k))), .c (rd k' ys[i].length (ys[i].flatMap (GLeaf.ci k')))])]) [⟨[], allD 27, true⟩, ⟨[], allD 27, true⟩, ⟨[], allD 27, true⟩, ⟨[], allD 27, true⟩, ⟨[], allD 27, true⟩, ⟨[], allD 27, true⟩, ⟨[], allD 27, true⟩, ⟨[], allD 27, true⟩, ⟨[], allD 27, false⟩, ⟨[], allD 27, true⟩] h0 hm (tabEnv_ok (by intro x hx; simp only [List.mem_singleton] at hx; subst hx; exact hE)) (by kernel_rfl) (by kernel_rfl) ?_
        simp [h, hib]
        refine brn_app (fun h2 => ?_) (fun h2 => ?_)
        · simp at h2
          simp
          intro he
          exact h2 (htk.2 he).1
        · simp at h2
          simp
          subst hI
          exact Less_mk (n - 1) (by omega) ⟨i + 1, by omega, ⟨fun h4 => htk.1 ⟨h2, h4⟩, fun h4 => (htk.2 h4).2⟩, by rw [wrNext i (by omega)]⟩
      · simp at h
        rw [List.drop_of_length_le (by omega), List.drop_of_length_le (by omega)] at htk
        simp
        exact htk.1 rfl
structure GStore where
  Candidate : (List GLeaf)
  Running : (List GLeaf)
  History : (List (List GLeaf))
  Left : Int
  deriving DecidableEq
def GStore.co (x : GStore) : List PT := [.sl 0 103 x.Candidate.length (x.Candidate.flatMap GLeaf.co), .sl 0 103 x.Running.length (x.Running.flatMap GLeaf.co), .sl 0 35 x.History.length (x.History.map (cLeafSo)), pi x.Left]
def GStore.ci (k : Nat) (x : GStore) : List PT := [rd k x.Candidate.length (x.Candidate.flatMap (GLeaf.ci k)), rd k x.Running.length (x.Running.flatMap (GLeaf.ci k)), rd k x.History.length (x.History.map (cLeafSi k)), pi x.Left]
attribute [simp] GStore.co GStore.ci
theorem GStore.len_o (x : GStore) : x.co.length = 4 := rfl
theorem GStore.len_i (k : Nat) (x : GStore) : (x.ci k).length = 4 := rfl
theorem GStore.un1 (x : GStore) : PT.unownL x.co = x.ci 0 := by simp [rd]
theorem GStore.uni1 (k : Nat) (x : GStore) : PT.unownL (x.ci k) = x.ci 0 := by simp [rd]
theorem GStore.un (xs : List GStore) : PT.unownL (xs.flatMap GStore.co) = xs.flatMap (GStore.ci 0) := by
  rw [unownL_fm]
  congr 1
  funext x
  exact GStore.un1 x
theorem GStore.uni (k : Nat) (xs : List GStore) : PT.unownL (xs.flatMap (GStore.ci k)) = xs.flatMap (GStore.ci 0) := by
  rw [unownL_fm]
  congr 1
  funext x
  exact GStore.uni1 k x
theorem GStore.nt (xs : List GStore) : PT.noTmpL (xs.flatMap GStore.co) = true := noTmpL_fm _ xs fun x => by simp
theorem GStore.nti (k : Nat) (xs : List GStore) : PT.noTmpL (xs.flatMap (GStore.ci (k + 1))) = true := noTmpL_fm _ xs fun x => by simp [rd]
attribute [simp] GStore.un GStore.uni GStore.nt GStore.nti
theorem GStore.lenR (xs : List GStore) : (xs.flatMap GStore.co).length = xs.length * 4 := fm_len _ 4 (fun _ => rfl) xs
theorem GStore.lenRi (k : Nat) (xs : List GStore) : (xs.flatMap (GStore.ci k)).length = xs.length * 4 := fm_len _ 4 (fun _ => rfl) xs
theorem GStore.tkR (xs : List GStore) : (xs.flatMap GStore.co).take (xs.length * 4) = xs.flatMap GStore.co := List.take_of_length_le (by rw [GStore.lenR]; exact Nat.le_refl _)
theorem GStore.tkRi (k : Nat) (xs : List GStore) : (xs.flatMap (GStore.ci k)).take (xs.length * 4) = xs.flatMap (GStore.ci k) := List.take_of_length_le (by rw [GStore.lenRi]; exact Nat.le_refl _)
attribute [simp high] GStore.lenR GStore.tkR GStore.lenRi GStore.tkRi
def GStore.wt (x : GStore) : Nat := wt_LeafS x.Candidate + wt_LeafS x.Running + wt_LeafSS x.History
def GStore.fits (x : GStore) : Prop := fits_LeafS x.Candidate ∧ fits_LeafS x.Running ∧ fits_LeafSS x.History
def GStore.lens (x : GStore) : Prop := lens_LeafS x.Candidate ∧ lens_LeafS x.Running ∧ lens_LeafSS x.History
def GStore.mark (x : GStore) (k : Int) : GStore × Int := (⟨(mk_LeafS x.Candidate k).1, (mk_LeafS x.Running (mk_LeafS x.Candidate k).2).1, (mk_LeafSS x.History (mk_LeafS x.Running (mk_LeafS x.Candidate k).2).2).1, (mk_LeafSS x.History (mk_LeafS x.Running (mk_LeafS x.Candidate k).2).2).2⟩, ((mk_LeafSS x.History (mk_LeafS x.Running (mk_LeafS x.Candidate k).2).2).2 + 1))
def GStore.cn (x : GStore) : Nat := cn_LeafS x.Candidate + cn_LeafS x.Running + cn_LeafSS x.History + 1
theorem GStore.mark_snd (x : GStore) (k : Int) : (GStore.mark x k).2 = k + GStore.cn x := by
  simp only [GStore.mark, GStore.cn, mk_LeafSS_snd, mk_LeafS_snd] <;> omega
def GStore.markT (x : GStore) (k : Int) : GStore × Int := (⟨(mk_LeafS x.Candidate k).1, (mk_LeafS x.Running (mk_LeafS x.Candidate k).2).1, (mk_LeafSS x.History (mk_LeafS x.Running (mk_LeafS x.Candidate k).2).2).1, x.Left⟩, (mk_LeafSS x.History (mk_LeafS x.Running (mk_LeafS x.Candidate k).2).2).2)
def GStore.cnT (x : GStore) : Nat := cn_LeafS x.Candidate + cn_LeafS x.Running + cn_LeafSS x.History
theorem GStore.markT_snd (x : GStore) (k : Int) : (GStore.markT x k).2 = k + GStore.cnT x := by
  simp only [GStore.markT, GStore.cnT, mk_LeafSS_snd, mk_LeafS_snd] <;> omega
theorem lens_of_Store {x : GStore} (h : GStore.wt x ≤ 1048576) : GStore.lens x := by
  unfold GStore.wt at h
  exact ⟨lens_of_LeafS (by omega), lens_of_LeafS (by omega), lens_of_LeafSS (by omega)⟩
theorem cn_le_Store (x : GStore) : GStore.cnT x ≤ 32 * GStore.wt x := by
  unfold GStore.cnT GStore.wt
  have := cn_le_LeafS x.Candidate
  have := cn_le_LeafS x.Running
  have := cn_le_LeafSS x.History
  omega
theorem cnE_le_Store (x : GStore) : GStore.cn x ≤ 32 * GStore.wt x + 16 := by
  unfold GStore.cn GStore.wt
  have := cn_le_LeafS x.Candidate
  have := cn_le_LeafS x.Running
  have := cn_le_LeafSS x.History
  omega
theorem ok_eqStore (k k' : Nat) (x y : GStore) (ha : GStore.lens x) (hb : GStore.lens y) : CallOK Try.prog 42 [.agg (GStore.ci k x), .agg (GStore.ci k' y)] (.c (pb (decide (x = y)))) [.agg (GStore.ci k x), .agg (GStore.ci k' y)] := by
  simp only [GStore.lens] at ha hb
  refine okS (fn := Try.f42) [] h0 Try.func42 (by kernel_rfl) rfl Try.ntmps42 Try.results42 (by simp) ?_
  simp
  refine Inv_intro (ok_eqLeafS k k' x.Candidate y.Candidate (ha.1) (hb.1)) ?_
  simp
  refine brn_app (fun a0 => ?_) (fun a0 => ?_)
  · simp at a0
    simp
    rintro rfl
    exact a0 rfl
  · simp at a0
    simp
    refine Inv_intro (ok_eqLeafS k k' x.Running y.Running (ha.2.1) (hb.2.1)) ?_
    simp
    refine brn_app (fun a1 => ?_) (fun a1 => ?_)
    · simp at a1
      simp
      rintro rfl
      exact a1 rfl
    · simp at a1
      simp
      refine Inv_intro (ok_eqLeafSS k k' x.History y.History (ha.2.2) (hb.2.2)) ?_
      simp
      refine brn_app (fun a2 => ?_) (fun a2 => ?_)
      · simp at a2
        simp
        rintro rfl
        exact a2 rfl
      · simp at a2
        simp
        refine brn_app (fun a3 => ?_) (fun a3 => ?_)
        · simp at a3
          simp
          rintro rfl
          exact a3 rfl
        · simp at a3
          simp
          cases x
          cases y
          simp_all
theorem ok_heldBoolS (q : Nat) (xs : List Bool) (k : Int) (hls : lens_BoolS xs) (hk : 0 < k) (hk2 : k + cn_BoolS xs ≤ 2305843009213693952) : CallOK Try.prog 71 [.c (rd q xs.length ((mk_BoolS xs k).1.map pb)), .c (pi k)] (.c (pi (mk_BoolS xs k).2)) [.c (rd q xs.length ((mk_BoolS xs k).1.map pb)), .c (pi k)] := by
  obtain ⟨hl0, hlx⟩ := hls
  unfold mk_BoolS
  unfold cn_BoolS at hk2
  have hyl := mkR_len (fun (_ : Bool) k => (decide (Int.tmod k 3 = 0), k + 1)) xs k
  have hyi : ∀ (i : Nat) (h : i < xs.length) (h' : i < (mkR (fun (_ : Bool) k => (decide (Int.tmod k 3 = 0), k + 1)) xs k).1.length), (mkR (fun (_ : Bool) k => (decide (Int.tmod k 3 = 0), k + 1)) xs k).1[i] = ((fun (_ : Bool) k => (decide (Int.tmod k 3 = 0), k + 1)) xs[i] (mkR (fun (_ : Bool) k => (decide (Int.tmod k 3 = 0), k + 1)) (xs.take i) k).2).1 := fun i h _ => mkR_get (fun (_ : Bool) k => (decide (Int.tmod k 3 = 0), k + 1)) xs i h k
  have hend : (mkR (fun (_ : Bool) k => (decide (Int.tmod k 3 = 0), k + 1)) xs k).2 = k + cnR (fun (_ : Bool) => 1) xs := mkR_snd (f := (fun (_ : Bool) k => (decide (Int.tmod k 3 = 0), k + 1))) (g := (fun (_ : Bool) => 1)) (fun _ _ => rfl) xs k
  generalize hY : (mkR (fun (_ : Bool) k => (decide (Int.tmod k 3 = 0), k + 1)) xs k).1 = ys at hyl hyi ⊢
  refine okS (fn := Try.f71) [] h0 Try.func71 (by kernel_rfl) rfl Try.ntmps71 Try.results71 (by simp) ?_
  simp
  refine loopS [0, 1, 5] [] (fun n st => ∃ (i : Nat), i + n = xs.length ∧ st = ⟨slOf 23 [(0, .t (rd q xs.length (ys.map pb))), (1, .t (pi (mkR (fun (_ : Bool) k => (decide (Int.tmod k 3 = 0), k + 1)) (xs.take i) k).2)), (5, .t (pi i))], ofL []⟩) xs.length ?_ ?_
  · rintro Inv hI
    simp
    subst hI
    exact ⟨0, by omega, rfl⟩
  · rintro Inv hI n st ⟨i, hi, rfl⟩
    have hKb := mkR_snd (f := (fun (_ : Bool) k => (decide (Int.tmod k 3 = 0), k + 1))) (g := (fun (_ : Bool) => 1)) (fun _ _ => rfl) (xs.take i) k
    have hyK : ∀ (h : i < xs.length), ys[i]'(by omega) = ((fun (_ : Bool) k => (decide (Int.tmod k 3 = 0), k + 1)) xs[i] (mkR (fun (_ : Bool) k => (decide (Int.tmod k 3 = 0), k + 1)) (xs.take i) k).2).1 := fun h => hyi i h (by omega)
    generalize hK : (mkR (fun (_ : Bool) k => (decide (Int.tmod k 3 = 0), k + 1)) (xs.take i) k).2 = K at hKb hyK ⊢
    refine ewr_sound (M := []) h0 ?_
    simp
    refine brn_app (fun h => ?_) (fun h => ?_)
    · simp at h
      obtain ⟨m, rfl⟩ : ∃ m, n = m + 1 := ⟨n - 1, by omega⟩
      have hcn := cnR_take (fun (_ : Bool) => 1) xs i h
      have hb : i < ys.length := by omega
      have ey := hyK h
      have hw0 : IntKind.wrap .i64 (K + 1) = K + 1 := wrap64 (by omega) (by omega)
      simp [h, hb, ey, hw0]
      have e4 := mkR_take (fun (_ : Bool) k => (decide (Int.tmod k 3 = 0), k + 1)) xs i h k
      rw [hK] at e4
      subst hI
      refine Less_mk m (by omega) ⟨i + 1, by omega, ?_⟩
      rw [wrNext i (by omega), e4]
      all_goals rfl
    · simp at h
      have hx : xs.take i = xs := List.take_of_length_le (by omega)
      rw [hx] at hK
      simp [hK]
theorem ok_heldStringS (q : Nat) (xs : List ByteArray) (k : Int) (hls : lens_StringS xs) (hk : 0 < k) (hk2 : k + cn_StringS xs ≤ 2305843009213693952) : CallOK Try.prog 86 [.c (rd q xs.length ((mk_StringS xs k).1.map ps)), .c (pi k)] (.c (pi (mk_StringS xs k).2)) [.c (rd q xs.length ((mk_StringS xs k).1.map ps)), .c (pi k)] := by
  obtain ⟨hl0, hlx⟩ := hls
  unfold mk_StringS
  unfold cn_StringS at hk2
  have hyl := mkR_len (fun (_ : ByteArray) k => (mtext k, k + 1)) xs k
  have hyi : ∀ (i : Nat) (h : i < xs.length) (h' : i < (mkR (fun (_ : ByteArray) k => (mtext k, k + 1)) xs k).1.length), (mkR (fun (_ : ByteArray) k => (mtext k, k + 1)) xs k).1[i] = ((fun (_ : ByteArray) k => (mtext k, k + 1)) xs[i] (mkR (fun (_ : ByteArray) k => (mtext k, k + 1)) (xs.take i) k).2).1 := fun i h _ => mkR_get (fun (_ : ByteArray) k => (mtext k, k + 1)) xs i h k
  have hend : (mkR (fun (_ : ByteArray) k => (mtext k, k + 1)) xs k).2 = k + cnR (fun (_ : ByteArray) => 1) xs := mkR_snd (f := (fun (_ : ByteArray) k => (mtext k, k + 1))) (g := (fun (_ : ByteArray) => 1)) (fun _ _ => rfl) xs k
  generalize hY : (mkR (fun (_ : ByteArray) k => (mtext k, k + 1)) xs k).1 = ys at hyl hyi ⊢
  refine okS (fn := Try.f86) [] h0 Try.func86 (by kernel_rfl) rfl Try.ntmps86 Try.results86 (by simp) ?_
  simp
  refine loopS [0, 1, 5] [] (fun n st => ∃ (i : Nat), i + n = xs.length ∧ st = ⟨slOf 22 [(0, .t (rd q xs.length (ys.map ps))), (1, .t (pi (mkR (fun (_ : ByteArray) k => (mtext k, k + 1)) (xs.take i) k).2)), (5, .t (pi i))], ofL []⟩) xs.length ?_ ?_
  · rintro Inv hI
    simp
    subst hI
    exact ⟨0, by omega, rfl⟩
  · rintro Inv hI n st ⟨i, hi, rfl⟩
    have hKb := mkR_snd (f := (fun (_ : ByteArray) k => (mtext k, k + 1))) (g := (fun (_ : ByteArray) => 1)) (fun _ _ => rfl) (xs.take i) k
    have hyK : ∀ (h : i < xs.length), ys[i]'(by omega) = ((fun (_ : ByteArray) k => (mtext k, k + 1)) xs[i] (mkR (fun (_ : ByteArray) k => (mtext k, k + 1)) (xs.take i) k).2).1 := fun h => hyi i h (by omega)
    generalize hK : (mkR (fun (_ : ByteArray) k => (mtext k, k + 1)) (xs.take i) k).2 = K at hKb hyK ⊢
    refine ewr_sound (M := []) h0 ?_
    simp
    refine brn_app (fun h => ?_) (fun h => ?_)
    · simp at h
      obtain ⟨m, rfl⟩ : ∃ m, n = m + 1 := ⟨n - 1, by omega⟩
      have hcn := cnR_take (fun (_ : ByteArray) => 1) xs i h
      have hb : i < ys.length := by omega
      have ey := hyK h
      have hw0 : IntKind.wrap .i64 (K + 1) = K + 1 := wrap64 (by omega) (by omega)
      simp [h, hb, ey, hw0]
      refine drawP (tabEnv [] _) [⟨[], allD 22, true⟩, ⟨[], allD 22, true⟩, ⟨[], allD 22, true⟩, ⟨[], allD 22, true⟩, ⟨[], allD 22, true⟩, ⟨[], allD 22, false⟩, ⟨[], allD 22, true⟩] h0 hm (tabEnv_ok (tab_cons (ok_markText (K) (by omega)) tab_nil)) (by kernel_rfl) (by kernel_rfl) ?_
      simp [h, hb, ey, hw0]
      have e4 := mkR_take (fun (_ : ByteArray) k => (mtext k, k + 1)) xs i h k
      rw [hK] at e4
      subst hI
      refine Less_mk m (by omega) ⟨i + 1, by omega, ?_⟩
      rw [wrNext i (by omega), e4]
      all_goals rfl
    · simp at h
      have hx : xs.take i = xs := List.take_of_length_le (by omega)
      rw [hx] at hK
      simp [hK]
theorem ok_heldLeafS (q : Nat) (xs : List GLeaf) (k : Int) (hls : lens_LeafS xs) (hk : 0 < k) (hk2 : k + cn_LeafS xs ≤ 2305843009213693952) : CallOK Try.prog 30 [.c (rd q xs.length ((mk_LeafS xs k).1.flatMap (GLeaf.ci q))), .c (pi k)] (.c (pi (mk_LeafS xs k).2)) [.c (rd q xs.length ((mk_LeafS xs k).1.flatMap (GLeaf.ci q))), .c (pi k)] := by
  obtain ⟨hl0, hlx⟩ := hls
  unfold mk_LeafS
  unfold cn_LeafS at hk2
  have hyl := mkR_len GLeaf.mark xs k
  have hyi : ∀ (i : Nat) (h : i < xs.length) (h' : i < (mkR GLeaf.mark xs k).1.length), (mkR GLeaf.mark xs k).1[i] = (GLeaf.mark xs[i] (mkR GLeaf.mark (xs.take i) k).2).1 := fun i h _ => mkR_get GLeaf.mark xs i h k
  have hend : (mkR GLeaf.mark xs k).2 = k + cnR GLeaf.cn xs := mkR_snd (f := GLeaf.mark) (g := GLeaf.cn) (GLeaf.mark_snd) xs k
  generalize hY : (mkR GLeaf.mark xs k).1 = ys at hyl hyi ⊢
  refine okS (fn := Try.f30) [] h0 Try.func30 (by kernel_rfl) rfl Try.ntmps30 Try.results30 (by simp) ?_
  simp
  refine loopS [0, 1, 5] [] (fun n st => ∃ (i : Nat), i + n = xs.length ∧ st = ⟨slOf 32 [(0, .t (rd q xs.length (ys.flatMap (GLeaf.ci q)))), (1, .t (pi (mkR GLeaf.mark (xs.take i) k).2)), (5, .t (pi i))], ofL []⟩) xs.length ?_ ?_
  · rintro Inv hI
    simp
    subst hI
    exact ⟨0, by omega, rfl⟩
  · rintro Inv hI n st ⟨i, hi, rfl⟩
    have hKb := mkR_snd (f := GLeaf.mark) (g := GLeaf.cn) (GLeaf.mark_snd) (xs.take i) k
    have hyK : ∀ (h : i < xs.length), ys[i]'(by omega) = (GLeaf.mark xs[i] (mkR GLeaf.mark (xs.take i) k).2).1 := fun h => hyi i h (by omega)
    generalize hK : (mkR GLeaf.mark (xs.take i) k).2 = K at hKb hyK ⊢
    refine ewr_sound (M := []) h0 ?_
    simp
    refine brn_app (fun h => ?_) (fun h => ?_)
    · simp at h
      obtain ⟨m, rfl⟩ : ∃ m, n = m + 1 := ⟨n - 1, by omega⟩
      have hcn := cnR_take GLeaf.cn xs i h
      have hb : i < ys.length := by omega
      have ey := hyK h
      have hd := fm_drop (GLeaf.ci q) 2 (fun _ => rfl) ys i hb
      have hlen := fm_len (GLeaf.ci q) 2 (fun _ => rfl) ys
      have hlt : i * 2 < ys.length * 2 := by omega
      rw [ey] at hd
      simp only [GLeaf.cn] at hcn
      have hxl := hlx _ (List.getElem_mem h)
      have hs0 := mk_StringS_snd xs[i].Path K
      have hn0 : ¬ (mk_StringS xs[i].Path K).2 < 0 := by omega
      have hw1 : IntKind.wrap .i64 ((mk_StringS xs[i].Path K).2 + 1) = (mk_StringS xs[i].Path K).2 + 1 := wrap64 (by omega) (by omega)
      simp [h, hb, hd, hlen, hlt, GLeaf.mark, hn0, hw1]
      refine Inv_intro (ok_heldStringS q xs[i].Path (K) hxl (by omega) (by omega)) ?_
      simp [h, hb, hd, hlen, hlt, GLeaf.mark, hn0, hw1]
      refine drawP (tabEnv [] _) [⟨[], allD 32, true⟩, ⟨[], allD 32, true⟩, ⟨[], allD 32, true⟩, ⟨[], allD 32, true⟩, ⟨[], allD 32, true⟩, ⟨[], allD 32, true⟩, ⟨[], allD 32, false⟩, ⟨[], allD 32, true⟩] h0 hm (tabEnv_ok (tab_cons (ok_markText ((mk_StringS xs[i].Path K).2) (by omega)) tab_nil)) (by kernel_rfl) (by kernel_rfl) ?_
      simp [h, hb, hd, hlen, hlt, GLeaf.mark, hn0, hw1]
      have e4 := mkR_take GLeaf.mark xs i h k
      rw [hK] at e4
      subst hI
      refine Less_mk m (by omega) ⟨i + 1, by omega, ?_⟩
      rw [wrNext i (by omega), e4]
      all_goals rfl
    · simp at h
      have hx : xs.take i = xs := List.take_of_length_le (by omega)
      rw [hx] at hK
      simp [hK]
theorem ok_heldLeafSS (q : Nat) (xs : List (List GLeaf)) (k : Int) (hls : lens_LeafSS xs) (hk : 0 < k) (hk2 : k + cn_LeafSS xs ≤ 2305843009213693952) : CallOK Try.prog 113 [.c (rd q xs.length ((mk_LeafSS xs k).1.map (cLeafSi q))), .c (pi k)] (.c (pi (mk_LeafSS xs k).2)) [.c (rd q xs.length ((mk_LeafSS xs k).1.map (cLeafSi q))), .c (pi k)] := by
  obtain ⟨hl0, hlx⟩ := hls
  unfold mk_LeafSS
  unfold cn_LeafSS at hk2
  have hyl := mkR_len mk_LeafS xs k
  have hyi : ∀ (i : Nat) (h : i < xs.length) (h' : i < (mkR mk_LeafS xs k).1.length), (mkR mk_LeafS xs k).1[i] = (mk_LeafS xs[i] (mkR mk_LeafS (xs.take i) k).2).1 := fun i h _ => mkR_get mk_LeafS xs i h k
  have hend : (mkR mk_LeafS xs k).2 = k + cnR cn_LeafS xs := mkR_snd (f := mk_LeafS) (g := cn_LeafS) (mk_LeafS_snd) xs k
  generalize hY : (mkR mk_LeafS xs k).1 = ys at hyl hyi ⊢
  refine okS (fn := Try.f113) [] h0 Try.func113 (by kernel_rfl) rfl Try.ntmps113 Try.results113 (by simp) ?_
  simp
  refine loopS [0, 1, 5] [] (fun n st => ∃ (i : Nat), i + n = xs.length ∧ st = ⟨slOf 21 [(0, .t (rd q xs.length (ys.map (cLeafSi q)))), (1, .t (pi (mkR mk_LeafS (xs.take i) k).2)), (5, .t (pi i))], ofL []⟩) xs.length ?_ ?_
  · rintro Inv hI
    simp
    subst hI
    exact ⟨0, by omega, rfl⟩
  · rintro Inv hI n st ⟨i, hi, rfl⟩
    have hKb := mkR_snd (f := mk_LeafS) (g := cn_LeafS) (mk_LeafS_snd) (xs.take i) k
    have hyK : ∀ (h : i < xs.length), ys[i]'(by omega) = (mk_LeafS xs[i] (mkR mk_LeafS (xs.take i) k).2).1 := fun h => hyi i h (by omega)
    generalize hK : (mkR mk_LeafS (xs.take i) k).2 = K at hKb hyK ⊢
    refine ewr_sound (M := []) h0 ?_
    simp
    refine brn_app (fun h => ?_) (fun h => ?_)
    · simp at h
      obtain ⟨m, rfl⟩ : ∃ m, n = m + 1 := ⟨n - 1, by omega⟩
      have hcn := cnR_take cn_LeafS xs i h
      have hb : i < ys.length := by omega
      have ey := hyK h
      have hs0 := mk_LeafS_snd xs[i] K
      have hn0 : ¬ (mk_LeafS xs[i] K).2 < 0 := by omega
      simp [h, hb, ey, cLeafSi, mk_LeafS_len, hn0]
      refine Inv_intro (ok_heldLeafS q xs[i] (K) (hlx _ (List.getElem_mem h)) (by omega) (by omega)) ?_
      simp [h, hb, ey, cLeafSi, mk_LeafS_len, hn0]
      have e4 := mkR_take mk_LeafS xs i h k
      rw [hK] at e4
      subst hI
      refine Less_mk m (by omega) ⟨i + 1, by omega, ?_⟩
      rw [wrNext i (by omega), e4]
      all_goals rfl
    · simp at h
      have hx : xs.take i = xs := List.take_of_length_le (by omega)
      rw [hx] at hK
      simp [hK]
theorem ok_heldStore (q : Nat) (x : GStore) (k : Int) (hls : GStore.lens x) (hk : 0 < k) (hk2 : k + GStore.cnT x ≤ 2305843009213693952) : CallOK Try.prog 62 [.agg (GStore.ci q (GStore.markT x k).1), .c (pi k)] (.c (pi (GStore.markT x k).2)) [.agg (GStore.ci q (GStore.markT x k).1), .c (pi k)] := by
  unfold GStore.cnT at hk2
  unfold GStore.markT
  have hs0 := mk_LeafS_snd x.Candidate k
  have hn0 : ¬ (mk_LeafS x.Candidate k).2 < 0 := by omega
  have hs1 := mk_LeafS_snd x.Running (mk_LeafS x.Candidate k).2
  have hn1 : ¬ (mk_LeafS x.Running (mk_LeafS x.Candidate k).2).2 < 0 := by omega
  have hs2 := mk_LeafSS_snd x.History (mk_LeafS x.Running (mk_LeafS x.Candidate k).2).2
  have hn2 : ¬ (mk_LeafSS x.History (mk_LeafS x.Running (mk_LeafS x.Candidate k).2).2).2 < 0 := by omega
  refine okS (fn := Try.f62) [] h0 Try.func62 (by kernel_rfl) rfl Try.ntmps62 Try.results62 (by simp) ?_
  simp
  refine Inv_intro (ok_heldLeafS q x.Candidate (k) (hls.1) (by omega) (by omega)) ?_
  simp [hn0, hn1, hn2]
  refine Inv_intro (ok_heldLeafS q x.Running ((mk_LeafS x.Candidate k).2) (hls.2.1) (by omega) (by omega)) ?_
  simp [hn0, hn1, hn2]
  refine Inv_intro (ok_heldLeafSS q x.History ((mk_LeafS x.Running (mk_LeafS x.Candidate k).2).2) (hls.2.2) (by omega) (by omega)) ?_
  simp [hn0, hn1, hn2]
theorem ok_markBoolS (xs : List Bool) (k : Int) (hls : lens_BoolS xs) (hk : 0 < k) (hk2 : k + cn_BoolS xs ≤ 2305843009213693952) : CallOK Try.prog 70 [.c (.sl 0 4 xs.length (xs.map pb)), .c (pi k)] (.c (pi (mk_BoolS xs k).2)) [.c (.sl 0 4 xs.length ((mk_BoolS xs k).1.map pb)), .c (pi k)] := by
  obtain ⟨hl0, hlx⟩ := hls
  unfold mk_BoolS
  unfold cn_BoolS at hk2
  refine okS (fn := Try.f70) [] h0 Try.func70 (by kernel_rfl) rfl Try.ntmps70 Try.results70 (by simp) ?_
  simp
  refine loopS [0, 1, 5] [] (fun n st => ∃ (i : Nat), i + n = xs.length ∧ st = ⟨slOf 21 [(0, .ref ⟨.arg 0 0, []⟩ 0 xs.length), (1, .t (pi (mkR (fun (_ : Bool) k => (decide (Int.tmod k 3 = 0), k + 1)) (xs.take i) k).2)), (5, .t (pi i))], ofL [(.arg 0 0, .sl 0 4 xs.length (((mkR (fun (_ : Bool) k => (decide (Int.tmod k 3 = 0), k + 1)) (xs.take i) k).1.map pb) ++ ((xs.drop i).map pb)))]⟩) xs.length ?_ ?_
  · rintro Inv hI
    simp
    subst hI
    exact ⟨0, by omega, rfl⟩
  · rintro Inv hI n st ⟨i, hi, rfl⟩
    have hAl : (((mkR (fun (_ : Bool) k => (decide (Int.tmod k 3 = 0), k + 1)) (xs.take i) k).1.map pb)).length = i * 1 := by rw [List.length_map, mkR_len, len_take xs i (by omega), Nat.mul_one]
    have hKb := mkR_snd (f := (fun (_ : Bool) k => (decide (Int.tmod k 3 = 0), k + 1))) (g := (fun (_ : Bool) => 1)) (fun _ _ => rfl) (xs.take i) k
    generalize hA : ((mkR (fun (_ : Bool) k => (decide (Int.tmod k 3 = 0), k + 1)) (xs.take i) k).1.map pb) = A at hAl ⊢
    generalize hK : (mkR (fun (_ : Bool) k => (decide (Int.tmod k 3 = 0), k + 1)) (xs.take i) k).2 = K at hKb ⊢
    generalize hB : ((xs.drop i).map pb) = B
    refine ewr_sound (M := []) h0 ?_
    simp
    refine brn_app (fun h => ?_) (fun h => ?_)
    · simp at h
      obtain ⟨m, rfl⟩ : ∃ m, n = m + 1 := ⟨n - 1, by omega⟩
      have hcn := cnR_take (fun (_ : Bool) => 1) xs i h
      have hBe : B = [pb xs[i]] ++ ((xs.drop (i + 1)).map pb) := by rw [← hB, drop_step xs i h]; rfl
      generalize hC : ((xs.drop (i + 1)).map pb) = D at hBe
      subst hBe
      rw [Nat.mul_one] at hAl
      have hw0 : IntKind.wrap .i64 (K + 1) = K + 1 := wrap64 (by omega) (by omega)
      simp [h, hAl, hw0]
      have e4 := mkR_take (fun (_ : Bool) k => (decide (Int.tmod k 3 = 0), k + 1)) xs i h k
      rw [hK] at e4
      have e3 : ((mkR (fun (_ : Bool) k => (decide (Int.tmod k 3 = 0), k + 1)) (xs.take (i + 1)) k).1.map pb) = A ++ [pb ((fun (_ : Bool) k => (decide (Int.tmod k 3 = 0), k + 1)) xs[i] K).1] := by rw [e4, List.map_append, hA]; rfl
      subst hI
      refine Less_mk m (by omega) ⟨i + 1, by omega, ?_⟩
      rw [wrNext i (by omega), e3, e4, hC, List.append_assoc]
      all_goals rfl
    · simp at h
      have hx : xs.take i = xs := List.take_of_length_le (by omega)
      have hBn : B = [] := by rw [← hB, List.drop_of_length_le (by omega)]; rfl
      subst hBn
      rw [hx] at hA hK
      subst hK
      subst hA
      simp
theorem ok_markStringS (xs : List ByteArray) (k : Int) (hls : lens_StringS xs) (hk : 0 < k) (hk2 : k + cn_StringS xs ≤ 2305843009213693952) : CallOK Try.prog 29 [.c (.sl 0 9 xs.length (xs.map ps)), .c (pi k)] (.c (pi (mk_StringS xs k).2)) [.c (.sl 0 9 xs.length ((mk_StringS xs k).1.map ps)), .c (pi k)] := by
  obtain ⟨hl0, hlx⟩ := hls
  unfold mk_StringS
  unfold cn_StringS at hk2
  refine okS (fn := Try.f29) [] h0 Try.func29 (by kernel_rfl) rfl Try.ntmps29 Try.results29 (by simp) ?_
  simp
  refine loopS [0, 1, 5] [] (fun n st => ∃ (i : Nat), i + n = xs.length ∧ st = ⟨slOf 20 [(0, .ref ⟨.arg 0 0, []⟩ 0 xs.length), (1, .t (pi (mkR (fun (_ : ByteArray) k => (mtext k, k + 1)) (xs.take i) k).2)), (5, .t (pi i))], ofL [(.arg 0 0, .sl 0 9 xs.length (((mkR (fun (_ : ByteArray) k => (mtext k, k + 1)) (xs.take i) k).1.map ps) ++ ((xs.drop i).map ps)))]⟩) xs.length ?_ ?_
  · rintro Inv hI
    simp
    subst hI
    exact ⟨0, by omega, rfl⟩
  · rintro Inv hI n st ⟨i, hi, rfl⟩
    have hAl : (((mkR (fun (_ : ByteArray) k => (mtext k, k + 1)) (xs.take i) k).1.map ps)).length = i * 1 := by rw [List.length_map, mkR_len, len_take xs i (by omega), Nat.mul_one]
    have hKb := mkR_snd (f := (fun (_ : ByteArray) k => (mtext k, k + 1))) (g := (fun (_ : ByteArray) => 1)) (fun _ _ => rfl) (xs.take i) k
    generalize hA : ((mkR (fun (_ : ByteArray) k => (mtext k, k + 1)) (xs.take i) k).1.map ps) = A at hAl ⊢
    generalize hK : (mkR (fun (_ : ByteArray) k => (mtext k, k + 1)) (xs.take i) k).2 = K at hKb ⊢
    generalize hB : ((xs.drop i).map ps) = B
    refine ewr_sound (M := []) h0 ?_
    simp
    refine brn_app (fun h => ?_) (fun h => ?_)
    · simp at h
      obtain ⟨m, rfl⟩ : ∃ m, n = m + 1 := ⟨n - 1, by omega⟩
      have hcn := cnR_take (fun (_ : ByteArray) => 1) xs i h
      have hBe : B = [ps xs[i]] ++ ((xs.drop (i + 1)).map ps) := by rw [← hB, drop_step xs i h]; rfl
      generalize hC : ((xs.drop (i + 1)).map ps) = D at hBe
      subst hBe
      rw [Nat.mul_one] at hAl
      have hw0 : IntKind.wrap .i64 (K + 1) = K + 1 := wrap64 (by omega) (by omega)
      simp [h, hAl, hw0]
      refine Inv_intro (ok_markText (K) (by omega)) ?_
      simp [h, hAl, hw0]
      have e4 := mkR_take (fun (_ : ByteArray) k => (mtext k, k + 1)) xs i h k
      rw [hK] at e4
      have e3 : ((mkR (fun (_ : ByteArray) k => (mtext k, k + 1)) (xs.take (i + 1)) k).1.map ps) = A ++ [ps ((fun (_ : ByteArray) k => (mtext k, k + 1)) xs[i] K).1] := by rw [e4, List.map_append, hA]; rfl
      subst hI
      refine Less_mk m (by omega) ⟨i + 1, by omega, ?_⟩
      rw [wrNext i (by omega), e3, e4, hC, List.append_assoc]
      all_goals rfl
    · simp at h
      have hx : xs.take i = xs := List.take_of_length_le (by omega)
      have hBn : B = [] := by rw [← hB, List.drop_of_length_le (by omega)]; rfl
      subst hBn
      rw [hx] at hA hK
      subst hK
      subst hA
      simp
theorem ok_markOpS (xs : List GOp) (k : Int) (hls : lens_OpS xs) (hk : 0 < k) (hk2 : k + cn_OpS xs ≤ 2305843009213693952) : CallOK Try.prog 69 [.c (.sl 0 80 xs.length (xs.flatMap GOp.co)), .c (pi k)] (.c (pi (mk_OpS xs k).2)) [.c (.sl 0 80 xs.length ((mk_OpS xs k).1.flatMap GOp.co)), .c (pi k)] := by
  obtain ⟨hl0, hlx⟩ := hls
  unfold mk_OpS
  unfold cn_OpS at hk2
  refine okS (fn := Try.f69) [(29, [1,0])] h0 Try.func69 (by kernel_rfl) rfl Try.ntmps69 Try.results69 (by simp) ?_
  simp
  refine loopS [0, 1, 5] [] (fun n st => ∃ (i : Nat), i + n = xs.length ∧ st = ⟨slOf 42 [(0, .ref ⟨.arg 0 0, []⟩ 0 xs.length), (1, .t (pi (mkR GOp.mark (xs.take i) k).2)), (5, .t (pi i))], ofL [(.arg 0 0, .sl 0 80 xs.length (((mkR GOp.mark (xs.take i) k).1.flatMap GOp.co) ++ ((xs.drop i).flatMap GOp.co)))]⟩) xs.length ?_ ?_
  · rintro Inv hI
    simp
    subst hI
    exact ⟨0, by omega, rfl⟩
  · rintro Inv hI n st ⟨i, hi, rfl⟩
    have hAl : (((mkR GOp.mark (xs.take i) k).1.flatMap GOp.co)).length = i * 4 := by rw [fm_len GOp.co 4 (fun _ => rfl), mkR_len, len_take xs i (by omega)]
    have hKb := mkR_snd (f := GOp.mark) (g := GOp.cn) (GOp.mark_snd) (xs.take i) k
    generalize hA : ((mkR GOp.mark (xs.take i) k).1.flatMap GOp.co) = A at hAl ⊢
    generalize hK : (mkR GOp.mark (xs.take i) k).2 = K at hKb ⊢
    generalize hB : ((xs.drop i).flatMap GOp.co) = B
    refine ewr_sound (M := [(29, [1, 0])]) h0 ?_
    simp
    refine brn_app (fun h => ?_) (fun h => ?_)
    · simp at h
      obtain ⟨m, rfl⟩ : ∃ m, n = m + 1 := ⟨n - 1, by omega⟩
      have hcn := cnR_take GOp.cn xs i h
      have hBe : B = [pi xs[i].Kind, .sl 0 9 xs[i].Path.length (xs[i].Path.map ps), ps xs[i].Value, pi xs[i].N] ++ ((xs.drop (i + 1)).flatMap GOp.co) := by rw [← hB, drop_step xs i h]; rfl
      generalize hC : ((xs.drop (i + 1)).flatMap GOp.co) = D at hBe
      subst hBe
      have hxl := hlx _ (List.getElem_mem h)
      simp only [GOp.cn] at hcn
      have hw0 : IntKind.wrap .i64 (K + 1) = K + 1 := wrap64 (by omega) (by omega)
      have hs1 := mk_StringS_snd xs[i].Path (K + 1)
      have hw2 : IntKind.wrap .i64 ((mk_StringS xs[i].Path (K + 1)).2 + 1) = (mk_StringS xs[i].Path (K + 1)).2 + 1 := wrap64 (by omega) (by omega)
      have hw3 : IntKind.wrap .i64 (((mk_StringS xs[i].Path (K + 1)).2 + 1) + 1) = ((mk_StringS xs[i].Path (K + 1)).2 + 1) + 1 := wrap64 (by omega) (by omega)
      simp [h, hAl, hw0, hw2, hw3]
      refine Inv_intro (ok_markStringS xs[i].Path ((K + 1)) hxl (by omega) (by omega)) ?_
      simp [h, hAl, hw0, hw2, hw3]
      refine Inv_intro (ok_markText ((mk_StringS xs[i].Path (K + 1)).2) (by omega)) ?_
      simp [h, hAl, hw0, hw2, hw3]
      have e4 := mkR_take GOp.mark xs i h k
      rw [hK] at e4
      have e3 : ((mkR GOp.mark (xs.take (i + 1)) k).1.flatMap GOp.co) = A ++ GOp.co (GOp.mark xs[i] K).1 := by rw [e4, List.flatMap_append, hA, List.flatMap_cons, List.flatMap_nil, List.append_nil]
      subst hI
      refine Less_mk m (by omega) ⟨i + 1, by omega, ?_⟩
      rw [wrNext i (by omega), e3, e4, hC, List.append_assoc]
      all_goals first | rfl | simp [GOp.mark] | simp
    · simp at h
      have hx : xs.take i = xs := List.take_of_length_le (by omega)
      have hBn : B = [] := by rw [← hB, List.drop_of_length_le (by omega)]; rfl
      subst hBn
      rw [hx] at hA hK
      subst hK
      subst hA
      simp
end Go.V
