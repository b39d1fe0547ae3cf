/- What functions of the seat's program do, each proved of its code, under the bounds that its theorem names. -/
import Derived.Test.YtildjkidohpmbaaTaf
set_option linter.all false
namespace Go.V
open Go.Proofs
set_option maxHeartbeats 1000000
set_option maxRecDepth 10000
set_option linter.unusedSimpArgs false
set_option linter.unusedVariables false
def sLt (u v : ByteArray) : Bool := Op.bytesLess u.toList v.toList
theorem bless_irr : ∀ l : List UInt8, Op.bytesLess l l = false
  | [] => rfl
  | a :: l => by
    unfold Op.bytesLess
    rw [bless_irr l]
    simp
theorem sl_irr (u : ByteArray) : sLt u u = false := bless_irr _
def cmpS (u v : ByteArray) : Int := if sLt u v = true then -1 else if u = v then 0 else 1
theorem cmpS_eq (u : ByteArray) : cmpS u u = 0 := by simp [cmpS, sl_irr]
theorem cmpS_ne {u v : ByteArray} (h : ¬ u = v) : ¬ cmpS u v = 0 := by
  unfold cmpS
  split
  · omega
  · simp [h]
theorem cmpS_z {u v : ByteArray} (h : cmpS u v = 0) : u = v := Classical.byContradiction fun hn => cmpS_ne hn h
def cmpP : List ByteArray → List ByteArray → Int
  | [], [] => 0
  | [], _ :: _ => -1
  | _ :: _, [] => 1
  | a :: us, b :: vs => if cmpS a b = 0 then cmpP us vs else cmpS a b
def lessP : List ByteArray → List ByteArray → Bool
  | [], [] => false
  | [], _ :: _ => true
  | _ :: _, [] => false
  | a :: us, b :: vs => if a = b then lessP us vs else sLt a b
def begP : List ByteArray → List ByteArray → Bool
  | [], _ => true
  | _ :: _, [] => false
  | a :: us, b :: vs => decide (a = b) && begP us vs
theorem cmpP_less : ∀ a b : List ByteArray, decide (0 ≤ cmpP a b) = !lessP a b
  | [], [] => rfl
  | [], _ :: _ => rfl
  | _ :: _, [] => rfl
  | a :: us, b :: vs => by
    unfold cmpP lessP
    by_cases h : a = b
    · subst h
      rw [cmpS_eq, if_pos rfl, if_pos rfl]
      exact cmpP_less us vs
    · rw [if_neg (cmpS_ne h), if_neg h]
      unfold cmpS
      cases hs : sLt a b <;> simp [h]
theorem begP_take : ∀ a b : List ByteArray, a.length ≤ b.length → begP a b = decide (a = b.take a.length)
  | [], _, _ => by simp [begP]
  | _ :: _, [], h => by simp at h
  | a :: us, b :: vs, h => by
    have := begP_take us vs (by simpa using h)
    simp [begP, this]
theorem begP_long : ∀ a b : List ByteArray, b.length < a.length → begP a b = false
  | [], _, h => by simp at h
  | _ :: _, [], _ => rfl
  | a :: us, b :: vs, h => by simp [begP, begP_long us vs (by simpa using h)]
theorem ok_isNaN (s : ByteArray) : CallOK Try.prog 139 [.c (ps s)] (.c (pb false)) [.c (ps s)] := by
  refine okS (fn := Try.f139) [] h0 Try.func139 (by kernel_rfl) rfl Try.ntmps139 Try.results139 (by simp) ?_
  simp
theorem ok_cmpS (u v : ByteArray) : CallOK Try.prog 122 [.c (ps u), .c (ps v)] (.c (pi (cmpS u v))) [.c (ps u), .c (ps v)] := by
  refine okS (fn := Try.f122) [] h0 Try.func122 (by kernel_rfl) rfl Try.ntmps122 Try.results122 (by simp) ?_
  simp
  refine Inv_intro (ok_isNaN u) ?_
  simp
  refine Inv_intro (ok_isNaN v) ?_
  simp
  refine brn_app (fun a => ?_) (fun a => ?_)
  · have a' : sLt u v = true := a
    simp [cmpS, a']
  · have a' : sLt u v = false := a
    simp
    refine brn_app (fun b => ?_) (fun b => ?_)
    · have b' : u ≠ v := by
        rintro rfl
        simp at b
      simp [cmpS, a', b']
    · have b' : u = v := by
        have e : Op.bytesLess u.toList v.toList = false := a
        rw [e] at b
        simp at b
        exact bytes_toList_inj b
      subst b'
      simp [cmpS, a']
theorem ok_cmpP (k k' : Nat) (xs ys : List ByteArray) (ha : xs.length ≤ 140737488351232) (hb : ys.length ≤ 140737488351232) : CallOK Try.prog 94 [.c (rd k xs.length (xs.map ps)), .c (rd k' ys.length (ys.map ps))] (.c (pi (cmpP xs ys))) [.c (rd k xs.length (xs.map ps)), .c (rd k' ys.length (ys.map ps))] := by
  refine okS (fn := Try.f94) [] h0 Try.func94 (by kernel_rfl) rfl Try.ntmps94 Try.results94 (by simp) ?_
  simp
  refine loopS [0, 1, 9, 10, 11] [] (fun n st => ∃ (i : Nat), i + n = xs.length ∧ i ≤ ys.length ∧ cmpP (xs.drop i) (ys.drop i) = cmpP xs ys ∧ st = ⟨slOf 36 [(0, .t (rd k xs.length (xs.map ps))), (1, .t (rd k' ys.length (ys.map ps))), (9, .t (rd k xs.length (xs.map ps))), (10, .t (pi xs.length)), (11, .t (pi i))], ofL []⟩) xs.length ?_ ?_
  · rintro Inv hI
    simp
    subst hI
    exact ⟨0, by omega, by omega, rfl, rfl⟩
  · rintro Inv hI n st ⟨i, hi, hiy, hc, rfl⟩
    refine ewr_sound (M := []) h0 ?_
    simp
    refine brn_app (fun h => ?_) (fun h => ?_)
    · simp at h
      rw [drop_step xs i h] at hc
      simp [h]
      refine brn_app (fun h2 => ?_) (fun h2 => ?_)
      · simp at h2
        rw [List.drop_of_length_le (show ys.length ≤ i by omega), cmpP] at hc
        simp [← hc]
      · simp at h2
        rw [drop_step ys i h2, cmpP] at hc
        simp [h2]
        refine Inv_intro (ok_cmpS _ _) ?_
        simp
        refine brn_app (fun h3 => ?_) (fun h3 => ?_)
        · simp at h3
          rw [if_neg h3] at hc
          simp [hc]
        · simp at h3
          rw [if_pos h3] at hc
          simp
          subst hI
          exact Less_mk (n - 1) (by omega) ⟨i + 1, by omega, by omega, hc, by rw [wrNext i (by omega)]⟩
    · simp at h
      rw [List.drop_of_length_le (by omega)] at hc
      simp
      refine brn_app (fun h2 => ?_) (fun h2 => ?_)
      · simp at h2
        rw [drop_step ys i (by omega), cmpP] at hc
        simp [← hc]
      · simp at h2
        rw [List.drop_of_length_le (by omega), cmpP] at hc
        simp [← hc]
theorem ok_l15Less (k k' : Nat) (xs ys : List ByteArray) (ha : xs.length ≤ 140737488351232) (hb : ys.length ≤ 140737488351232) : CallOK Try.prog 111 [.c (rd k xs.length (xs.map ps)), .c (rd k' ys.length (ys.map ps))] (.c (pb (lessP xs ys))) [.c (rd k xs.length (xs.map ps)), .c (rd k' ys.length (ys.map ps))] := by
  refine okS (fn := Try.f111) [] h0 Try.func111 (by kernel_rfl) rfl Try.ntmps111 Try.results111 (by simp) ?_
  simp
  refine loopS [0, 1, 7, 8] [] (fun n st => ∃ (i : Nat), i + n = xs.length ∧ i ≤ ys.length ∧ lessP (xs.drop i) (ys.drop i) = lessP xs ys ∧ st = ⟨slOf 39 [(0, .t (rd k xs.length (xs.map ps))), (1, .t (rd k' ys.length (ys.map ps))), (7, .t (pi xs.length)), (8, .t (pi i))], ofL []⟩) xs.length ?_ ?_
  · rintro Inv hI
    simp
    subst hI
    exact ⟨0, by omega, by omega, rfl, rfl⟩
  · rintro Inv hI n st ⟨i, hi, hiy, hc, rfl⟩
    refine ewr_sound (M := []) h0 ?_
    simp
    refine brn_app (fun h => ?_) (fun h => ?_)
    · simp at h
      rw [drop_step xs i h] at hc
      simp
      refine brn_app (fun h2 => ?_) (fun h2 => ?_)
      · simp at h2
        rw [List.drop_of_length_le (show ys.length ≤ i by omega), lessP] at hc
        simp [← hc]
      · simp at h2
        have hib : i < ys.length := by omega
        rw [drop_step ys i hib, lessP] at hc
        simp
        refine drawP E0 [⟨[], allD 39, true⟩, ⟨[], allD 39, true⟩, ⟨[], allD 39, true⟩, ⟨[], allD 39, true⟩, ⟨[], allD 39, true⟩, ⟨[], allD 39, true⟩, ⟨[], allD 39, true⟩, ⟨[], allD 39, true⟩, ⟨[], allD 39, true⟩] h0 hm (E0_ok _) (by kernel_rfl) (by kernel_rfl) ?_
        simp [h, hib]
        refine brn_app (fun h3 => ?_) (fun h3 => ?_)
        · simp at h3
          rw [if_neg h3] at hc
          simp
          refine drawP E0 [⟨[], allD 39, true⟩, ⟨[], allD 39, true⟩, ⟨[], allD 39, true⟩, ⟨[], allD 39, true⟩, ⟨[], allD 39, true⟩, ⟨[], allD 39, true⟩, ⟨[], allD 39, true⟩, ⟨[], allD 39, true⟩, ⟨[], allD 39, true⟩, ⟨[], allD 39, true⟩] h0 hm (E0_ok _) (by kernel_rfl) (by kernel_rfl) ?_
          simp [h, hib, ← hc, sLt]
        · simp at h3
          rw [if_pos h3] at hc
          simp
          subst hI
          exact Less_mk (n - 1) (by omega) ⟨i + 1, by omega, by omega, hc, by rw [wrNext i (by omega)]⟩
    · simp at h
      rw [List.drop_of_length_le (by omega)] at hc
      simp
      by_cases h2 : i < ys.length
      · rw [drop_step ys i (by omega), lessP] at hc
        have : xs.length < ys.length := by omega
        simp [← hc, this]
      · rw [List.drop_of_length_le (by omega), lessP] at hc
        have : ¬ xs.length < ys.length := by omega
        simp [← hc, this]
theorem ok_l15Begins (k k' : Nat) (xs ys : List ByteArray) (ha : xs.length ≤ 140737488351232) (hb : ys.length ≤ 140737488351232) : CallOK Try.prog 108 [.c (rd k xs.length (xs.map ps)), .c (rd k' ys.length (ys.map ps))] (.c (pb (begP xs ys))) [.c (rd k xs.length (xs.map ps)), .c (rd k' ys.length (ys.map ps))] := by
  refine okS (fn := Try.f108) [] h0 Try.func108 (by kernel_rfl) rfl Try.ntmps108 Try.results108 (by simp) ?_
  simp
  refine loopS [0, 1, 7, 8] [] (fun n st => ∃ (i : Nat), i + n = xs.length ∧ i ≤ ys.length ∧ begP (xs.drop i) (ys.drop i) = begP xs ys ∧ st = ⟨slOf 27 [(0, .t (rd k xs.length (xs.map ps))), (1, .t (rd k' ys.length (ys.map ps))), (7, .t (pi xs.length)), (8, .t (pi i))], ofL []⟩) xs.length ?_ ?_
  · rintro Inv hI
    simp
    subst hI
    exact ⟨0, by omega, by omega, rfl, rfl⟩
  · rintro Inv hI n st ⟨i, hi, hiy, hc, rfl⟩
    refine ewr_sound (M := []) h0 ?_
    simp
    refine brn_app (fun h => ?_) (fun h => ?_)
    · simp at h
      rw [drop_step xs i h] at hc
      simp
      by_cases h2 : i < ys.length
      · rw [drop_step ys i h2, begP] at hc
        have h2' : ¬ (ys.length : Int) ≤ i := by omega
        refine drawP E0 [⟨[], allD 27, true⟩, ⟨[], allD 27, true⟩, ⟨[], allD 27, true⟩, ⟨[], allD 27, true⟩, ⟨[], allD 27, true⟩, ⟨[], allD 27, true⟩, ⟨[], allD 27, true⟩, ⟨[], allD 27, true⟩, ⟨[], allD 27, true⟩, ⟨[], allD 27, true⟩, ⟨[], allD 27, true⟩, ⟨[], allD 27, true⟩, ⟨[], allD 27, true⟩, ⟨[], allD 27, true⟩, ⟨[], allD 27, true⟩] h0 hm (E0_ok _) (by kernel_rfl) (by kernel_rfl) ?_
        simp [h, h2, h2']
        refine brn_app (fun h3 => ?_) (fun h3 => ?_)
        · simp at h3
          simp [h3] at hc
          simp [hc]
        · simp at h3
          simp [h3] at hc
          simp
          subst hI
          exact Less_mk (n - 1) (by omega) ⟨i + 1, by omega, by omega, hc, by rw [wrNext i (by omega)]⟩
      · have h2' : (ys.length : Int) ≤ i := by omega
        rw [List.drop_of_length_le (show ys.length ≤ i by omega), begP] at hc
        refine drawP E0 [⟨[], allD 27, true⟩, ⟨[], allD 27, true⟩, ⟨[], allD 27, true⟩, ⟨[], allD 27, true⟩, ⟨[], allD 27, true⟩, ⟨[], allD 27, true⟩, ⟨[], allD 27, true⟩, ⟨[], allD 27, true⟩, ⟨[], allD 27, true⟩, ⟨[], allD 27, true⟩, ⟨[], allD 27, true⟩, ⟨[], allD 27, true⟩, ⟨[], allD 27, true⟩, ⟨[], allD 27, true⟩, ⟨[], allD 27, true⟩] h0 hm (E0_ok _) (by kernel_rfl) (by kernel_rfl) ?_
        simp [h2', ← hc]
    · simp at h
      rw [List.drop_of_length_le (by omega), begP] at hc
      simp [← hc]
theorem ok_EqualS (k k' : Nat) (xs ys : List ByteArray) (ha : xs.length ≤ 140737488351232) (hb : ys.length ≤ 140737488351232) : CallOK Try.prog 123 [.c (rd k xs.length (xs.map ps)), .c (rd k' ys.length (ys.map ps))] (.c (pb (decide (xs = ys)))) [.c (rd k xs.length (xs.map ps)), .c (rd k' ys.length (ys.map ps))] := by
  refine okS (fn := Try.f123) [] h0 Try.func123 (by kernel_rfl) rfl Try.ntmps123 Try.results123 (by simp) ?_
  simp
  refine brn_app (fun h => ?_) (fun h => ?_)
  · simp at h
    simp
    rintro rfl
    exact h rfl
  · simp at h
    have hl : ys.length = xs.length := by omega
    simp
    refine loopS [0, 1, 12, 13] [] (fun n st => ∃ (i : Nat), i + n = xs.length ∧ (xs.drop i = ys.drop i ↔ xs = ys) ∧ st = ⟨slOf 26 [(0, .t (rd k xs.length (xs.map ps))), (1, .t (rd k' ys.length (ys.map ps))), (12, .t (pi xs.length)), (13, .t (pi i))], ofL []⟩) xs.length ?_ ?_
    · rintro Inv hI
      simp
      subst hI
      exact ⟨0, by omega, by simp, rfl⟩
    · rintro Inv hI n st ⟨i, hi, htk, rfl⟩
      refine ewr_sound (M := []) h0 ?_
      simp
      refine brn_app (fun h => ?_) (fun h => ?_)
      · simp at h
        have hib : i < ys.length := by omega
        rw [drop_step xs i h, drop_step ys i hib, List.cons.injEq] at htk
        simp
        refine drawP E0 [⟨[], allD 26, true⟩, ⟨[], allD 26, true⟩, ⟨[], allD 26, true⟩, ⟨[], allD 26, true⟩, ⟨[], allD 26, true⟩, ⟨[], allD 26, true⟩, ⟨[], allD 26, true⟩, ⟨[], allD 26, true⟩, ⟨[], allD 26, true⟩] h0 hm (E0_ok _) (by kernel_rfl) (by kernel_rfl) ?_
        simp [h, hib]
        refine brn_app (fun h2 => ?_) (fun h2 => ?_)
        · simp at h2
          simp
          intro he
          exact h2 (htk.2 he).1
        · simp at h2
          simp
          subst hI
          exact Less_mk (n - 1) (by omega) ⟨i + 1, by omega, ⟨fun h4 => htk.1 ⟨h2, h4⟩, fun h4 => (htk.2 h4).2⟩, by rw [wrNext i (by omega)]⟩
      · simp at h
        rw [List.drop_of_length_le (by omega), List.drop_of_length_le (by omega)] at htk
        simp
        exact htk.1 rfl
theorem ok_begins (k k' : Nat) (xs ys : List ByteArray) (ha : xs.length ≤ 140737488351232) (hb : ys.length ≤ 140737488351232) : CallOK Try.prog 95 [.c (rd k xs.length (xs.map ps)), .c (rd k' ys.length (ys.map ps))] (.c (pb (begP xs ys))) [.c (rd k xs.length (xs.map ps)), .c (rd k' ys.length (ys.map ps))] := by
  refine okS (fn := Try.f95) [] h0 Try.func95 (by kernel_rfl) rfl Try.ntmps95 Try.results95 (by simp) ?_
  simp
  refine gT (fun a => ?_) (fun a => ?_)
  · have a1 : xs.length ≤ ys.length := by simpa using a
    simp [a, a1]
    have hc := ok_EqualS k k' xs (ys.take xs.length) ha (by simp; omega)
    simp [a1] at hc
    refine Inv_intro hc ?_
    simp [begP_take _ _ a1]
  · have a1 : ys.length < xs.length := by simpa using a
    simp [a, begP_long _ _ a1]
structure GLeaf where
  Path : (List ByteArray)
  Value : ByteArray
  deriving DecidableEq
def GLeaf.co (x : GLeaf) : List PT := [.sl 0 9 x.Path.length (x.Path.map ps), ps x.Value]
def GLeaf.ci (k : Nat) (x : GLeaf) : List PT := [rd k x.Path.length (x.Path.map ps), ps x.Value]
attribute [simp] GLeaf.co GLeaf.ci
theorem GLeaf.len_o (x : GLeaf) : x.co.length = 2 := rfl
theorem GLeaf.len_i (k : Nat) (x : GLeaf) : (x.ci k).length = 2 := rfl
theorem GLeaf.un1 (x : GLeaf) : PT.unownL x.co = x.ci 0 := by simp [rd]
theorem GLeaf.uni1 (k : Nat) (x : GLeaf) : PT.unownL (x.ci k) = x.ci 0 := by simp [rd]
theorem GLeaf.un (xs : List GLeaf) : PT.unownL (xs.flatMap GLeaf.co) = xs.flatMap (GLeaf.ci 0) := by
  rw [unownL_fm]
  congr 1
  funext x
  exact GLeaf.un1 x
theorem GLeaf.uni (k : Nat) (xs : List GLeaf) : PT.unownL (xs.flatMap (GLeaf.ci k)) = xs.flatMap (GLeaf.ci 0) := by
  rw [unownL_fm]
  congr 1
  funext x
  exact GLeaf.uni1 k x
theorem GLeaf.nt (xs : List GLeaf) : PT.noTmpL (xs.flatMap GLeaf.co) = true := noTmpL_fm _ xs fun x => by simp
theorem GLeaf.nti (k : Nat) (xs : List GLeaf) : PT.noTmpL (xs.flatMap (GLeaf.ci (k + 1))) = true := noTmpL_fm _ xs fun x => by simp [rd]
attribute [simp] GLeaf.un GLeaf.uni GLeaf.nt GLeaf.nti
theorem GLeaf.lenR (xs : List GLeaf) : (xs.flatMap GLeaf.co).length = xs.length * 2 := fm_len _ 2 (fun _ => rfl) xs
theorem GLeaf.lenRi (k : Nat) (xs : List GLeaf) : (xs.flatMap (GLeaf.ci k)).length = xs.length * 2 := fm_len _ 2 (fun _ => rfl) xs
theorem GLeaf.tkR (xs : List GLeaf) : (xs.flatMap GLeaf.co).take (xs.length * 2) = xs.flatMap GLeaf.co := List.take_of_length_le (by rw [GLeaf.lenR]; exact Nat.le_refl _)
theorem GLeaf.tkRi (k : Nat) (xs : List GLeaf) : (xs.flatMap (GLeaf.ci k)).take (xs.length * 2) = xs.flatMap (GLeaf.ci k) := List.take_of_length_le (by rw [GLeaf.lenRi]; exact Nat.le_refl _)
attribute [simp high] GLeaf.lenR GLeaf.tkR GLeaf.lenRi GLeaf.tkRi
def GLeaf.wt (x : GLeaf) : Nat := wt_StringS x.Path + x.Value.size
def GLeaf.fits (x : GLeaf) : Prop := fits_StringS x.Path ∧ x.Value.size ≤ 140737488351232
def GLeaf.lens (x : GLeaf) : Prop := lens_StringS x.Path
def GLeaf.mark (x : GLeaf) (k : Int) : GLeaf × Int := (⟨(mk_StringS x.Path k).1, mtext (mk_StringS x.Path k).2⟩, ((mk_StringS x.Path k).2 + 1))
def GLeaf.cn (x : GLeaf) : Nat := cn_StringS x.Path + 1
theorem GLeaf.mark_snd (x : GLeaf) (k : Int) : (GLeaf.mark x k).2 = k + GLeaf.cn x := by
  simp only [GLeaf.mark, GLeaf.cn, mk_StringS_snd] <;> omega
def GLeaf.markT (x : GLeaf) (k : Int) : GLeaf × Int := (⟨(mk_StringS x.Path k).1, x.Value⟩, (mk_StringS x.Path k).2)
def GLeaf.cnT (x : GLeaf) : Nat := cn_StringS x.Path
theorem GLeaf.markT_snd (x : GLeaf) (k : Int) : (GLeaf.markT x k).2 = k + GLeaf.cnT x := by
  simp only [GLeaf.markT, GLeaf.cnT, mk_StringS_snd] <;> omega
theorem lens_of_Leaf {x : GLeaf} (h : GLeaf.wt x ≤ 1048576) : GLeaf.lens x := by
  unfold GLeaf.wt at h
  exact lens_of_StringS (by omega)
theorem cn_le_Leaf (x : GLeaf) : GLeaf.cnT x ≤ 32 * GLeaf.wt x := by
  unfold GLeaf.cnT GLeaf.wt
  have := cn_le_StringS x.Path
  omega
theorem cnE_le_Leaf (x : GLeaf) : GLeaf.cn x ≤ 32 * GLeaf.wt x + 16 := by
  unfold GLeaf.cn GLeaf.wt
  have := cn_le_StringS x.Path
  omega
def okLeaf (x : GLeaf) : Bool := isP x.Path && isW x.Value
def adjC (q : Option GLeaf) (x : GLeaf) : Bool := match q with
  | none => true
  | some q => lessP q.Path x.Path && !begP q.Path x.Path
def goodG : Option GLeaf → List GLeaf → Bool
  | _, [] => true
  | q, x :: xs => okLeaf x && adjC q x && goodG (some x) xs
def goodC (l : List GLeaf) : Bool := goodG none l && decide (l.length ≤ 30)
def prevC (l : List GLeaf) (i : Nat) : Option GLeaf := if i = 0 then none else l[i - 1]?
theorem prevC_next (l : List GLeaf) (i : Nat) (h : i < l.length) : prevC l (i + 1) = some l[i] := by simp [prevC, h]
def strsOK (p : List ByteArray) : Prop := p.length ≤ 140737488351232 ∧ ∀ s ∈ p, s.size ≤ 140737488355328
def leafOK (x : GLeaf) : Prop := strsOK x.Path ∧ x.Value.size ≤ 140737488355328
def confOK (l : List GLeaf) : Prop := l.length ≤ 140737488351232 ∧ ∀ x ∈ l, leafOK x
theorem ok_sameTexts (k k' : Nat) (p : List ByteArray) (hp : p.length ≤ 140737488351232) : CallOK Try.prog 25 [.c (rd k p.length (p.map ps)), .c (rd k' p.length (p.map ps))] (.c (pb true)) [.c (rd k p.length (p.map ps)), .c (rd k' p.length (p.map ps))] := by
  refine okS (fn := Try.f25) [] h0 Try.func25 (by kernel_rfl) rfl Try.ntmps25 Try.results25 (by simp) ?_
  simp
  refine loopS [0, 1, 11, 12, 13] [] (fun m st => ∃ (i : Nat), i + m = p.length ∧ st = ⟨slOf 26 [(0, .t (rd k p.length (p.map ps))), (1, .t (rd k' p.length (p.map ps))), (11, .t (rd k p.length (p.map ps))), (12, .t (pi p.length)), (13, .t (pi i))], ofL []⟩) p.length ?_ ?_
  · rintro Inv hI
    simp
    subst hI
    exact ⟨0, by omega, rfl⟩
  · rintro Inv hI m st ⟨i, hi, rfl⟩
    refine ewr_sound (M := []) h0 ?_
    simp
    refine brn_app (fun a => ?_) (fun a => ?_)
    · simp at a
      simp
      refine drawP (tabEnv [] []) [⟨[], allD 26, true⟩, ⟨[], allD 26, true⟩, ⟨[], allD 26, true⟩, ⟨[], allD 26, true⟩, ⟨[], allD 26, true⟩, ⟨[], allD 26, true⟩, ⟨[], allD 26, true⟩, ⟨[], allD 26, true⟩, ⟨[], allD 26, true⟩] h0 hm (tabEnv_ok tab_nil) (by kernel_rfl) (by kernel_rfl) ?_
      simp [a]
      subst hI
      exact Less_mk (m - 1) (by omega) ⟨i + 1, by omega, by rw [wrNext i (by omega)]⟩
    · simp
theorem ok_sameLeaves (k k' : Nat) (l : List GLeaf) (hl : confOK l) : CallOK Try.prog 38 [.c (rd k l.length (l.flatMap (GLeaf.ci k))), .c (rd k' l.length (l.flatMap (GLeaf.ci k')))] (.c (pb true)) [.c (rd k l.length (l.flatMap (GLeaf.ci k))), .c (rd k' l.length (l.flatMap (GLeaf.ci k')))] := by
  obtain ⟨hl1, hl2⟩ := hl
  refine okS (fn := Try.f38) [] h0 Try.func38 (by kernel_rfl) rfl Try.ntmps38 Try.results38 (by simp) ?_
  simp
  refine loopS [0, 1, 11, 12, 13] [] (fun m st => ∃ (i : Nat), i + m = l.length ∧ st = ⟨slOf 42 [(0, .t (rd k l.length (l.flatMap (GLeaf.ci k)))), (1, .t (rd k' l.length (l.flatMap (GLeaf.ci k')))), (11, .t (rd k l.length (l.flatMap (GLeaf.ci k)))), (12, .t (pi l.length)), (13, .t (pi i))], ofL []⟩) l.length ?_ ?_
  · rintro Inv hI
    simp
    subst hI
    exact ⟨0, by omega, rfl⟩
  · rintro Inv hI m st ⟨i, hi, rfl⟩
    refine ewr_sound (M := []) h0 ?_
    simp
    refine brn_app (fun a => ?_) (fun a => ?_)
    · simp at a
      have hd := fm_drop (GLeaf.ci k) 2 (fun _ => rfl) l i a
      have hlen := fm_len (GLeaf.ci k) 2 (fun _ => rfl) l
      have hd' := fm_drop (GLeaf.ci k') 2 (fun _ => rfl) l i a
      have hlen' := fm_len (GLeaf.ci k') 2 (fun _ => rfl) l
      have hlt : i * 2 < l.length * 2 := by omega
      have hx := (hl2 _ (List.getElem_mem a)).1.1
      simp
      refine drawP (tabEnv [] _) [⟨[], allD 42, true⟩, ⟨[], allD 42, true⟩, ⟨[], allD 42, true⟩, ⟨[], allD 42, true⟩, ⟨[], allD 42, true⟩, ⟨[], allD 42, true⟩, ⟨[], allD 42, true⟩, ⟨[], allD 42, true⟩, ⟨[], allD 42, true⟩, ⟨[], allD 42, true⟩, ⟨[], allD 42, true⟩, ⟨[], allD 42, true⟩, ⟨[], allD 42, true⟩, ⟨[], allD 42, true⟩, ⟨[], allD 42, true⟩, ⟨[], allD 42, true⟩, ⟨[], allD 42, true⟩, ⟨[], allD 42, true⟩, ⟨[], allD 42, true⟩, ⟨[], allD 42, true⟩, ⟨[], allD 42, true⟩, ⟨[], allD 42, true⟩, ⟨[], allD 42, false⟩, ⟨[], allD 42, true⟩, ⟨[], allD 42, true⟩] h0 hm (tabEnv_ok (tab_cons (ok_sameTexts k k' l[i].Path hx) tab_nil)) (by kernel_rfl) (by kernel_rfl) ?_
      simp [a, hd, hlen, hd', hlen', hlt]
      subst hI
      exact Less_mk (m - 1) (by omega) ⟨i + 1, by omega, by rw [wrNext i (by omega)]⟩
    · simp
theorem ok_sameDisks (k k' : Nat) (d : GDisk) (h1 : d.Sectors.length ≤ 140737488351232) (h2 : d.Waiting.length ≤ 140737488351232) : CallOK Try.prog 9 [.agg (GDisk.ci k d), .agg (GDisk.ci k' d)] (.c (pb true)) [.agg (GDisk.ci k d), .agg (GDisk.ci k' d)] := by
  refine okS (fn := Try.f9) [] h0 Try.func9 (by kernel_rfl) rfl Try.ntmps9 Try.results9 (by simp) ?_
  simp
  refine Inv_intro (ok_sameTexts k k' d.Sectors h1) ?_
  simp
  refine loopS [2, 3, 23, 24] [.op 0 0 0, .op 0 1 0] (fun m st => ∃ (i : Nat), i + m = d.Waiting.length ∧ st = ⟨slOf 39 [(2, .ptr ⟨.op 0 0 0, []⟩ 0), (3, .ptr ⟨.op 0 1 0, []⟩ 0), (23, .t (pi d.Waiting.length)), (24, .t (pi i))], ofL [(.op 0 0 0, .sl 0 29 1 (GDisk.ci k d)), (.op 0 1 0, .sl 0 29 1 (GDisk.ci k' d))]⟩) d.Waiting.length ?_ ?_
  · rintro Inv hI
    simp
    subst hI
    exact ⟨0, by omega, rfl⟩
  · rintro Inv hI m st ⟨i, hi, rfl⟩
    refine ewr_sound (M := []) h0 ?_
    simp
    refine brn_app (fun a => ?_) (fun a => ?_)
    · simp at a
      have hd := fm_drop GWrite.c 2 (fun _ => rfl) d.Waiting i a
      have hlen := fm_len GWrite.c 2 (fun _ => rfl) d.Waiting
      have hlt : i * 2 < d.Waiting.length * 2 := by omega
      simp
      refine drawP (tabEnv [] []) [⟨[.op 0 0 0], allD 39, true⟩, ⟨[.op 0 0 0], allD 39, true⟩, ⟨[], allD 39, true⟩, ⟨[], allD 39, true⟩, ⟨[], allD 39, true⟩, ⟨[.op 0 1 0], allD 39, true⟩, ⟨[.op 0 1 0], allD 39, true⟩, ⟨[], allD 39, true⟩, ⟨[], allD 39, true⟩, ⟨[], allD 39, true⟩, ⟨[], allD 39, true⟩] h0 hm (tabEnv_ok tab_nil) (by kernel_rfl) (by kernel_rfl) ?_
      simp [a, hd, hlen, hlt]
      subst hI
      exact Less_mk (m - 1) (by omega) ⟨i + 1, by omega, by rw [wrNext i (by omega)]; rfl⟩
    · simp
theorem ok_IndexFunc_Leaf (k q g : Nat) (caps : List (List PT)) (p : GLeaf → Bool) (xs : List GLeaf) (ha : xs.length ≤ 140737488351232)
    (hg : ∀ x ∈ xs, CallOK Try.prog g (.agg (GLeaf.ci k x) :: caps.map (PV.ip q)) (.c (pb (p x))) (.agg (GLeaf.ci k x) :: caps.map (PV.ip q))) :
    CallOK Try.prog 129 [.c (rd k xs.length (xs.flatMap (GLeaf.ci k))), .c (.fn q g caps)] (.c (pi (idxOf p xs))) [.c (rd k xs.length (xs.flatMap (GLeaf.ci k))), .c (.fn q g caps)] := by
  refine okS (fn := Try.f129) [] h0 Try.func129 (by kernel_rfl) rfl Try.ntmps129 Try.results129 (by simp) ?_
  simp
  refine loopS [0, 1, 7, 8] [] (fun n st => ∃ (i : Nat), i + n = xs.length ∧ (∀ (j : Nat) (hj : j < i) (hj' : j < xs.length), p xs[j] = false) ∧ st = ⟨slOf 19 [(0, .t (rd k xs.length (xs.flatMap (GLeaf.ci k)))), (1, .t (.fn q g caps)), (7, .t (pi xs.length)), (8, .t (pi i))], ofL []⟩) xs.length ?_ ?_
  · rintro Inv hI
    simp
    subst hI
    exact ⟨0, by omega, by intro j hj; omega, rfl⟩
  · rintro Inv hI n st ⟨i, hi, hall, rfl⟩
    refine ewr_sound (M := []) h0 ?_
    simp
    refine brn_app (fun h => ?_) (fun h => ?_)
    · simp at h
      have hd := fm_drop (GLeaf.ci k) 2 (fun _ => rfl) xs i h
      have hlen := fm_len (GLeaf.ci k) 2 (fun _ => rfl) xs
      have hlt : i * 2 < xs.length * 2 := by omega
      simp [h, hd, hlen, hlt]
      refine Inv_intro (hg _ (List.getElem_mem h)) ?_
      simp
      refine brn_app (fun h2 => ?_) (fun h2 => ?_)
      · simp
        exact (idxOf_hit p xs i h h2 fun j hj => hall j hj (by omega)).symm
      · simp
        subst hI
        refine Less_mk (n - 1) (by omega) ⟨i + 1, by omega, ?_, by rw [wrNext i (by omega)]⟩
        intro j hj hj'
        by_cases hji : j = i
        · subst hji; exact h2
        · exact hall j (by omega) hj'
    · simp at h
      simp
      exact (idxOf_no p xs fun j hj => hall j (by omega) hj).symm
theorem idxOf_find {α : Type} (p : α → Bool) (xs : List α) : (idxOf p xs = -1 ∧ xs.findIdx? p = none) ∨ ∃ (i : Nat) (h : i < xs.length), idxOf p xs = i ∧ xs.findIdx? p = some i := by
  unfold idxOf
  cases h : xs.findIdx? p with
  | none => exact .inl ⟨rfl, rfl⟩
  | some i =>
    have h' := h
    rw [List.findIdx?_eq_some_iff_getElem] at h'
    exact .inr ⟨i, h'.1, rfl, rfl⟩
theorem set_take {α : Type} (C : List α) (a b : Nat) (y : α) (h : a ≤ b) : (C.set b y).take a = C.take a := by
  apply List.ext_getElem?
  intro n
  simp only [List.getElem?_take]
  split
  · rw [List.getElem?_set_ne (by omega)]
  · rfl
theorem set_drop {α : Type} (C : List α) (a b : Nat) (y : α) (h : b < a) : (C.set b y).drop a = C.drop a := by
  apply List.ext_getElem?
  intro n
  simp only [List.getElem?_drop]
  rw [List.getElem?_set_ne (by omega)]
theorem put2 {α : Type} (C : List α) (s v : α) (i j : Nat) (h : i * 2 + 2 ≤ C.length) (hij : i < j) : (C.take (i * 2) ++ s :: v :: C.drop (i * 2 + 2)).length = C.length ∧ (C.take (i * 2) ++ s :: v :: C.drop (i * 2 + 2)).take ((i + 1) * 2) = C.take (i * 2) ++ [s, v] ∧ (C.take (i * 2) ++ s :: v :: C.drop (i * 2 + 2)).drop ((j + 1) * 2) = C.drop ((j + 1) * 2) := by
  have hl : (C.take (i * 2)).length = i * 2 := by rw [List.length_take]; omega
  have e1 : (i + 1) * 2 = (C.take (i * 2)).length + 2 := by omega
  refine ⟨?_, ?_, ?_⟩
  · simp only [List.length_append, List.length_cons, List.length_drop, hl]
    omega
  · rw [e1, List.take_length_add_append]
    rfl
  · have e2 : (j + 1) * 2 = (C.take (i * 2)).length + (2 + (j - i) * 2) := by omega
    rw [e2, List.drop_length_add_append, ← List.drop_drop]
    show List.drop ((j - i) * 2) (C.drop (i * 2 + 2)) = _
    rw [List.drop_drop, hl]
    congr 1
    omega
theorem ok_DeleteFunc_Leaf (q g : Nat) (caps : List (List PT)) (p : GLeaf → Bool) (xs : List GLeaf) (ha : xs.length ≤ 140737488351232)
    (hg : ∀ x ∈ xs, CallOK Try.prog g (.agg (GLeaf.ci 0 x) :: caps.map (PV.ip q)) (.c (pb (p x))) (.agg (GLeaf.ci 0 x) :: caps.map (PV.ip q))) :
    CallOK Try.prog 114 [.c (.sl 0 103 xs.length (xs.flatMap GLeaf.co)), .c (.fn q g caps)] (.c (.sl 0 103 (xs.filter fun x => !p x).length ((xs.filter fun x => !p x).flatMap GLeaf.co))) [.c .hole, .c (.fn q g caps)] := by
  refine okS (fn := Try.f114) [] h0 Try.func114 (by kernel_rfl) rfl Try.ntmps114 Try.results114 (by simp) ?_
  simp
  refine Inv_intro (ok_IndexFunc_Leaf 0 q g caps p xs ha hg) ?_
  simp
  rcases idxOf_find p xs with ⟨e, hf⟩ | ⟨i0, hi0, e, hf⟩
  · rw [e]
    have hall : xs.filter (fun x => !p x) = xs := by
      rw [List.findIdx?_eq_none_iff] at hf
      exact List.filter_eq_self.2 fun x hx => by simp [hf x hx]
    rw [hall]
    simp
  · rw [e]
    have hne : ¬ (i0 : Int) = -1 := by omega
    have hw0 : IntKind.wrap .i64 ((i0 : Int) + 1) = ((i0 + 1 : Nat) : Int) := wrNext i0 (by omega)
    simp [hne, hw0]
    refine loopS [0, 1, 5, 6] [.arg 0 0] (fun m st => ∃ (j i : Nat) (C : List PT), j + m = xs.length ∧ i < j ∧ ((xs.take j).filter fun x => !p x).length = i ∧ C.length = xs.length * 2 ∧ C.take (i * 2) = ((xs.take j).filter fun x => !p x).flatMap GLeaf.co ∧ C.drop (j * 2) = (xs.drop j).flatMap GLeaf.co ∧ st = ⟨slOf 42 [(0, .ref ⟨.arg 0 0, []⟩ 0 xs.length), (1, .t (.fn q g caps)), (5, .t (pi i)), (6, .t (pi j))], ofL [(.arg 0 0, .sl 0 103 xs.length C)]⟩) (xs.length - (i0 + 1)) ?_ ?_
    · rintro Inv hI
      have hfirst : (xs.take (i0 + 1)).filter (fun x => !p x) = xs.take i0 := by
        rw [List.findIdx?_eq_some_iff_getElem] at hf
        obtain ⟨h1, h2, h3⟩ := hf
        rw [take_step xs i0 hi0, List.filter_append]
        have e1 : (xs.take i0).filter (fun x => !p x) = xs.take i0 := by
          refine List.filter_eq_self.2 fun x hx => ?_
          obtain ⟨j, hj, rfl⟩ := List.mem_iff_getElem.1 hx
          have hj' : j < i0 := by rw [List.length_take] at hj; omega
          rw [List.getElem_take]
          simpa using h3 j hj'
        rw [e1]
        simp [h2]
      simp
      subst hI
      refine ⟨i0 + 1, i0, xs.flatMap GLeaf.co, by omega, by omega, by rw [hfirst, List.length_take]; omega, fm_len GLeaf.co 2 (fun _ => rfl) xs, ?_, ?_, ?_⟩
      · have hx := congrArg (List.flatMap GLeaf.co) (List.take_append_drop i0 xs)
        rw [List.flatMap_append] at hx
        rw [hfirst, ← hx, List.take_left' (by rw [fm_len GLeaf.co 2 (fun _ => rfl), List.length_take]; omega)]
      · have hx := congrArg (List.flatMap GLeaf.co) (List.take_append_drop (i0 + 1) xs)
        rw [List.flatMap_append] at hx
        rw [← hx, List.drop_left' (by rw [fm_len GLeaf.co 2 (fun _ => rfl), List.length_take]; omega)]
      · rfl
    · rintro Inv hI m st ⟨j, i, C, hj, hlt, hi, hCl, hCt, hCd0, rfl⟩
      refine ewr_sound (M := []) h0 ?_
      simp
      refine brn_app (fun a => ?_) (fun a => ?_)
      · simp at a
        have hCd : C.drop (j * 2) = .sl 0 9 xs[j].Path.length (xs[j].Path.map ps) :: ps xs[j].Value :: (xs.drop (j + 1)).flatMap GLeaf.co := by
          rw [hCd0, drop_step _ j a, List.flatMap_cons]
          rfl
        have hCg : ∀ h : j * 2 < C.length, C[j * 2] = .sl 0 9 xs[j].Path.length (xs[j].Path.map ps) := by
          intro h
          rw [List.drop_eq_getElem_cons h] at hCd
          exact (List.cons.inj hCd).1
        have hCn : C.drop ((j + 1) * 2) = (xs.drop (j + 1)).flatMap GLeaf.co := by
          have : (j + 1) * 2 = j * 2 + 2 := by omega
          rw [this, ← List.drop_drop, hCd]
          rfl
        have hb : j * 2 + 2 ≤ xs.length * 2 := by omega
        have hfs : (xs.take (j + 1)).filter (fun x => !p x) = (xs.take j).filter (fun x => !p x) ++ (if p xs[j] = true then [] else [xs[j]]) := by
          rw [take_step xs j a, List.filter_append]
          cases hpx : p xs[j] <;> simp [hpx]
        simp [a, hCl, hCd, hCg, hb]
        refine Inv_intro (hg _ (List.getElem_mem a)) ?_
        simp
        refine brn_app (fun b => ?_) (fun b => ?_)
        · simp at b
          rw [if_neg (by simp [b])] at hfs
          have hib : i * 2 < xs.length * 2 := by omega
          have hib2 : i < xs.length := by omega
          have hib3 : i * 2 + 2 ≤ xs.length * 2 := by omega
          simp [hCl, hib, hib2, hib3]
          subst hI
          obtain ⟨g1, g2, g3⟩ := put2 (C.set (j * 2) .hole) (.sl 0 9 xs[j].Path.length (xs[j].Path.map ps)) (ps xs[j].Value) i j (by rw [List.length_set]; omega) hlt
          refine Less_mk (m - 1) (by omega) ⟨j + 1, i + 1, _, by omega, by omega, by rw [hfs, List.length_append, hi]; rfl, g1.trans (by rw [List.length_set]; exact hCl), ?_, ?_, ?_⟩
          · rw [g2, set_take C _ _ _ (by omega), hCt, hfs, List.flatMap_append]
            simp
          · rw [g3, set_drop C _ _ _ (by omega), hCn]
          · rw [wrNext i (by omega), wrNext j (by omega)]
        · simp at b
          rw [if_pos b, List.append_nil] at hfs
          simp
          subst hI
          refine Less_mk (m - 1) (by omega) ⟨j + 1, i, C.set (j * 2) .hole, by omega, by omega, by rw [hfs, hi], by rw [List.length_set]; exact hCl, ?_, ?_, ?_⟩
          · rw [set_take C _ _ _ (by omega), hCt, hfs]
          · rw [set_drop C _ _ _ (by omega), hCn]
          · rw [wrNext j (by omega)]
      · simp at a
        have hjn : j = xs.length := by omega
        subst hjn
        rw [List.take_length] at hi hCt
        have hil : i ≤ xs.length := by omega
        have hCtl : (C.take (i * 2)).length = i * 2 := by rw [List.length_take]; omega
        have hz0 : ¬ xs.length - i = 0 := by omega
        have hz1 : i * 2 + (xs.length - i) * 2 ≤ C.length := by omega
        have hz2 : i * 2 ≤ min (i * 2) C.length + ((xs.length - i) * 2 + (C.length - (i * 2 + (xs.length - i) * 2))) := by omega
        have hTT : ∀ Y, List.take (i * 2) (C.take (i * 2) ++ Y) = C.take (i * 2) := fun Y => List.take_left' hCtl
        rw [hi, ← hCt]
        simp [hil, hz0, hz1, hz2, hTT]
end Go.V
