/- What functions of the seat's program do, each proved of its code, under the bounds that its theorem names. -/
import Derived.Test.YtildjkidohpmbaaTag
set_option linter.all false
namespace Go.V
open Go.Proofs
set_option maxHeartbeats 1000000
set_option maxRecDepth 10000
set_option linter.unusedSimpArgs false
set_option linter.unusedVariables false
theorem okD_good2 {d : GDisk} {m : Nat} (h : okD d m) (hm : m ≤ 40) : goodDisk d = true := by
  obtain ⟨h1, h2, h3, h4⟩ := h
  simp only [goodDisk, Bool.and_eq_true, decide_eq_true_eq, List.all_eq_true]
  refine ⟨⟨⟨h1, by omega⟩, h2⟩, fun w hw => ?_⟩
  obtain ⟨⟨a, b⟩, c⟩ := h4 w hw
  simp only [okWrite, Bool.and_eq_true, decide_eq_true_eq]
  omega
theorem save_true {d : GDisk} {t : ByteArray} {n : Int} (h : (rSaveTo d t n).2 = true) : ∃ ss, d = ⟨ss, []⟩ ∧ goodDisk d = true ∧ ss.length = 10 ∧ (0 ≤ n ∧ n ≤ 7) ∧ (planL ss t).2 = true ∧ ∀ k : Nat, k ≤ 7 → rSaveTo d t k = (saveN (planL ss t).1 ⟨ss, []⟩ k, true) ∧ goodDisk (saveN (planL ss t).1 ⟨ss, []⟩ k) = true := by
  unfold rSaveTo at h
  split at h
  · rename_i hc
    obtain ⟨h1, h2, h3, h4⟩ := hc
    obtain ⟨ss, ws⟩ := d
    have hw : ws = [] := List.eq_nil_of_length_eq_zero h2
    subst hw
    have hp : (planL ss t).2 = true := by
      unfold saveL at h
      split at h
      · assumption
      · cases h
    have hD : okD ⟨ss, []⟩ 0 := by
      have := good_okD h1
      exact ⟨this.1, this.2.1, Nat.zero_le _, this.2.2.2⟩
    refine ⟨ss, rfl, h1, hD.1, ⟨h3, h4⟩, hp, fun k hk => ?_⟩
    have e : saveL ⟨ss, []⟩ t k = (saveN (planL ss t).1 ⟨ss, []⟩ k, true) := by unfold saveL; rw [if_pos hp]
    have e2 : rSaveTo ⟨ss, []⟩ t k = (saveN (planL ss t).1 ⟨ss, []⟩ k, true) := by
      unfold rSaveTo
      rw [if_pos ⟨h1, rfl, by omega, by omega⟩, Int.toNat_natCast, e]
    refine ⟨e2, ?_⟩
    rcases okD_saveL hD t k with h5 | h5
    · rw [e] at h5
      exact okD_good2 h5 (by omega)
    · rw [e] at h5; cases h5
  · cases h
theorem saved_load {ss : List ByteArray} {t : ByteArray} (hl : ss.length = 10) (hp : (planL ss t).2 = true) {k : Nat} (hk : k ≤ 7) (hg : goodDisk (saveN (planL ss t).1 ⟨ss, []⟩ k) = true) : rLoadFrom (saveN (planL ss t).1 ⟨ss, []⟩ k) = if k = 7 then (t, (loadR ss).2.1 + 1, true) else loadR ss := by
  have h := save_load hl hp [] k hk
  rw [crashed_none] at h
  unfold rLoadFrom
  rw [if_pos hg, h]
  have : kp [] 0 = false := rfl
  simp only [this, Bool.false_eq_true, and_false, or_false]
theorem applyW_snoc (keep : Nat → Bool) (w : GWrite) : ∀ (ws : List GWrite) (i : Nat) (ss : List ByteArray), applyW keep i (ws ++ [w]) ss = if keep (i + ws.length) = true then (applyW keep i ws ss).set w.At.toNat w.Data else applyW keep i ws ss
  | [], i, ss => by simp [applyW]
  | v :: ws, i, ss => by
    rw [List.cons_append, applyW, applyW_snoc keep w ws, applyW]
    rw [show i + 1 + ws.length = i + (v :: ws).length by simp only [List.length_cons]; omega]
theorem sync_at {d : GDisk} {i : Int} {t : ByteArray} (h : (rWriteTo d i t).2 = true) : rSyncDisk (rWriteTo d i t).1 = (synced (rWriteTo d i t).1, true) ∧ (synced (rWriteTo d i t).1).Sectors.length = 10 ∧ (synced (rWriteTo d i t).1).Waiting = [] ∧ secAt (synced (rWriteTo d i t).1).Sectors i.toNat = t ∧ (rWriteTo d i t).1.Sectors = d.Sectors ∧ (0 ≤ i ∧ i ≤ 9) := by
  obtain ⟨h1, h2, h3, h4, h5⟩ := write_good h
  have hl := (good_at h2).1
  refine ⟨by unfold rSyncDisk; rw [if_pos h1], ?_, rfl, ?_, by rw [h5], h3⟩
  · rw [h5]
    simp only [synced, applyW_len]
    exact hl
  · rw [h5]
    simp only [synced]
    rw [applyW_snoc, if_pos rfl]
    unfold secAt
    rw [List.getElem?_set_self (by rw [applyW_len, hl]; simp only; omega)]
    rfl
theorem load_disk0 : rLoadFrom disk0 = (⟨#[]⟩, 0, true) := by
  unfold rLoadFrom
  rw [if_pos good_disk0]
  kernel_rfl
def sLt (u v : ByteArray) : Bool := Op.bytesLess u.toList v.toList
theorem bless_irr : ∀ l : List UInt8, Op.bytesLess l l = false
  | [] => rfl
  | a :: l => by
    unfold Op.bytesLess
    rw [bless_irr l]
    simp
theorem sl_irr (u : ByteArray) : sLt u u = false := bless_irr _
def cmpS (u v : ByteArray) : Int := if sLt u v = true then -1 else if u = v then 0 else 1
theorem cmpS_eq (u : ByteArray) : cmpS u u = 0 := by simp [cmpS, sl_irr]
theorem cmpS_ne {u v : ByteArray} (h : ¬ u = v) : ¬ cmpS u v = 0 := by
  unfold cmpS
  split
  · omega
  · simp [h]
theorem cmpS_z {u v : ByteArray} (h : cmpS u v = 0) : u = v := Classical.byContradiction fun hn => cmpS_ne hn h
def cmpP : List ByteArray → List ByteArray → Int
  | [], [] => 0
  | [], _ :: _ => -1
  | _ :: _, [] => 1
  | a :: us, b :: vs => if cmpS a b = 0 then cmpP us vs else cmpS a b
def lessP : List ByteArray → List ByteArray → Bool
  | [], [] => false
  | [], _ :: _ => true
  | _ :: _, [] => false
  | a :: us, b :: vs => if a = b then lessP us vs else sLt a b
def begP : List ByteArray → List ByteArray → Bool
  | [], _ => true
  | _ :: _, [] => false
  | a :: us, b :: vs => decide (a = b) && begP us vs
theorem cmpP_less : ∀ a b : List ByteArray, decide (0 ≤ cmpP a b) = !lessP a b
  | [], [] => rfl
  | [], _ :: _ => rfl
  | _ :: _, [] => rfl
  | a :: us, b :: vs => by
    unfold cmpP lessP
    by_cases h : a = b
    · subst h
      rw [cmpS_eq, if_pos rfl, if_pos rfl]
      exact cmpP_less us vs
    · rw [if_neg (cmpS_ne h), if_neg h]
      unfold cmpS
      cases hs : sLt a b <;> simp [h]
theorem begP_take : ∀ a b : List ByteArray, a.length ≤ b.length → begP a b = decide (a = b.take a.length)
  | [], _, _ => by simp [begP]
  | _ :: _, [], h => by simp at h
  | a :: us, b :: vs, h => by
    have := begP_take us vs (by simpa using h)
    simp [begP, this]
theorem begP_long : ∀ a b : List ByteArray, b.length < a.length → begP a b = false
  | [], _, h => by simp at h
  | _ :: _, [], _ => rfl
  | a :: us, b :: vs, h => by simp [begP, begP_long us vs (by simpa using h)]
theorem ok_isNaN (s : ByteArray) : CallOK Try.prog 139 [.c (ps s)] (.c (pb false)) [.c (ps s)] := by
  refine okS (fn := Try.f139) [] h0 Try.func139 (by kernel_rfl) rfl Try.ntmps139 Try.results139 (by simp) ?_
  simp
theorem ok_cmpS (u v : ByteArray) : CallOK Try.prog 122 [.c (ps u), .c (ps v)] (.c (pi (cmpS u v))) [.c (ps u), .c (ps v)] := by
  refine okS (fn := Try.f122) [] h0 Try.func122 (by kernel_rfl) rfl Try.ntmps122 Try.results122 (by simp) ?_
  simp
  refine Inv_intro (ok_isNaN u) ?_
  simp
  refine Inv_intro (ok_isNaN v) ?_
  simp
  refine brn_app (fun a => ?_) (fun a => ?_)
  · have a' : sLt u v = true := a
    simp [cmpS, a']
  · have a' : sLt u v = false := a
    simp
    refine brn_app (fun b => ?_) (fun b => ?_)
    · have b' : u ≠ v := by
        rintro rfl
        simp at b
      simp [cmpS, a', b']
    · have b' : u = v := by
        have e : Op.bytesLess u.toList v.toList = false := a
        rw [e] at b
        simp at b
        exact bytes_toList_inj b
      subst b'
      simp [cmpS, a']
theorem ok_cmpP (k k' : Nat) (xs ys : List ByteArray) (ha : xs.length ≤ 140737488351232) (hb : ys.length ≤ 140737488351232) : CallOK Try.prog 94 [.c (rd k xs.length (xs.map ps)), .c (rd k' ys.length (ys.map ps))] (.c (pi (cmpP xs ys))) [.c (rd k xs.length (xs.map ps)), .c (rd k' ys.length (ys.map ps))] := by
  refine okS (fn := Try.f94) [] h0 Try.func94 (by kernel_rfl) rfl Try.ntmps94 Try.results94 (by simp) ?_
  simp
  refine loopS [0, 1, 9, 10, 11] [] (fun n st => ∃ (i : Nat), i + n = xs.length ∧ i ≤ ys.length ∧ cmpP (xs.drop i) (ys.drop i) = cmpP xs ys ∧ st = ⟨slOf 36 [(0, .t (rd k xs.length (xs.map ps))), (1, .t (rd k' ys.length (ys.map ps))), (9, .t (rd k xs.length (xs.map ps))), (10, .t (pi xs.length)), (11, .t (pi i))], ofL []⟩) xs.length ?_ ?_
  · rintro Inv hI
    simp
    subst hI
    exact ⟨0, by omega, by omega, rfl, rfl⟩
  · rintro Inv hI n st ⟨i, hi, hiy, hc, rfl⟩
    refine ewr_sound (M := []) h0 ?_
    simp
    refine brn_app (fun h => ?_) (fun h => ?_)
    · simp at h
      rw [drop_step xs i h] at hc
      simp [h]
      refine brn_app (fun h2 => ?_) (fun h2 => ?_)
      · simp at h2
        rw [List.drop_of_length_le (show ys.length ≤ i by omega), cmpP] at hc
        simp [← hc]
      · simp at h2
        rw [drop_step ys i h2, cmpP] at hc
        simp [h2]
        refine Inv_intro (ok_cmpS _ _) ?_
        simp
        refine brn_app (fun h3 => ?_) (fun h3 => ?_)
        · simp at h3
          rw [if_neg h3] at hc
          simp [hc]
        · simp at h3
          rw [if_pos h3] at hc
          simp
          subst hI
          exact Less_mk (n - 1) (by omega) ⟨i + 1, by omega, by omega, hc, by rw [wrNext i (by omega)]⟩
    · simp at h
      rw [List.drop_of_length_le (by omega)] at hc
      simp
      refine brn_app (fun h2 => ?_) (fun h2 => ?_)
      · simp at h2
        rw [drop_step ys i (by omega), cmpP] at hc
        simp [← hc]
      · simp at h2
        rw [List.drop_of_length_le (by omega), cmpP] at hc
        simp [← hc]
theorem ok_l15Less (k k' : Nat) (xs ys : List ByteArray) (ha : xs.length ≤ 140737488351232) (hb : ys.length ≤ 140737488351232) : CallOK Try.prog 111 [.c (rd k xs.length (xs.map ps)), .c (rd k' ys.length (ys.map ps))] (.c (pb (lessP xs ys))) [.c (rd k xs.length (xs.map ps)), .c (rd k' ys.length (ys.map ps))] := by
  refine okS (fn := Try.f111) [] h0 Try.func111 (by kernel_rfl) rfl Try.ntmps111 Try.results111 (by simp) ?_
  simp
  refine loopS [0, 1, 7, 8] [] (fun n st => ∃ (i : Nat), i + n = xs.length ∧ i ≤ ys.length ∧ lessP (xs.drop i) (ys.drop i) = lessP xs ys ∧ st = ⟨slOf 39 [(0, .t (rd k xs.length (xs.map ps))), (1, .t (rd k' ys.length (ys.map ps))), (7, .t (pi xs.length)), (8, .t (pi i))], ofL []⟩) xs.length ?_ ?_
  · rintro Inv hI
    simp
    subst hI
    exact ⟨0, by omega, by omega, rfl, rfl⟩
  · rintro Inv hI n st ⟨i, hi, hiy, hc, rfl⟩
    refine ewr_sound (M := []) h0 ?_
    simp
    refine brn_app (fun h => ?_) (fun h => ?_)
    · simp at h
      rw [drop_step xs i h] at hc
      simp
      refine brn_app (fun h2 => ?_) (fun h2 => ?_)
      · simp at h2
        rw [List.drop_of_length_le (show ys.length ≤ i by omega), lessP] at hc
        simp [← hc]
      · simp at h2
        have hib : i < ys.length := by omega
        rw [drop_step ys i hib, lessP] at hc
        simp
        refine drawP E0 [⟨[], allD 39, true⟩, ⟨[], allD 39, true⟩, ⟨[], allD 39, true⟩, ⟨[], allD 39, true⟩, ⟨[], allD 39, true⟩, ⟨[], allD 39, true⟩, ⟨[], allD 39, true⟩, ⟨[], allD 39, true⟩, ⟨[], allD 39, true⟩] h0 hm (E0_ok _) (by kernel_rfl) (by kernel_rfl) ?_
        simp [h, hib]
        refine brn_app (fun h3 => ?_) (fun h3 => ?_)
        · simp at h3
          rw [if_neg h3] at hc
          simp
          refine drawP E0 [⟨[], allD 39, true⟩, ⟨[], allD 39, true⟩, ⟨[], allD 39, true⟩, ⟨[], allD 39, true⟩, ⟨[], allD 39, true⟩, ⟨[], allD 39, true⟩, ⟨[], allD 39, true⟩, ⟨[], allD 39, true⟩, ⟨[], allD 39, true⟩, ⟨[], allD 39, true⟩] h0 hm (E0_ok _) (by kernel_rfl) (by kernel_rfl) ?_
          simp [h, hib, ← hc, sLt]
        · simp at h3
          rw [if_pos h3] at hc
          simp
          subst hI
          exact Less_mk (n - 1) (by omega) ⟨i + 1, by omega, by omega, hc, by rw [wrNext i (by omega)]⟩
    · simp at h
      rw [List.drop_of_length_le (by omega)] at hc
      simp
      by_cases h2 : i < ys.length
      · rw [drop_step ys i (by omega), lessP] at hc
        have : xs.length < ys.length := by omega
        simp [← hc, this]
      · rw [List.drop_of_length_le (by omega), lessP] at hc
        have : ¬ xs.length < ys.length := by omega
        simp [← hc, this]
theorem ok_l15Begins (k k' : Nat) (xs ys : List ByteArray) (ha : xs.length ≤ 140737488351232) (hb : ys.length ≤ 140737488351232) : CallOK Try.prog 108 [.c (rd k xs.length (xs.map ps)), .c (rd k' ys.length (ys.map ps))] (.c (pb (begP xs ys))) [.c (rd k xs.length (xs.map ps)), .c (rd k' ys.length (ys.map ps))] := by
  refine okS (fn := Try.f108) [] h0 Try.func108 (by kernel_rfl) rfl Try.ntmps108 Try.results108 (by simp) ?_
  simp
  refine loopS [0, 1, 7, 8] [] (fun n st => ∃ (i : Nat), i + n = xs.length ∧ i ≤ ys.length ∧ begP (xs.drop i) (ys.drop i) = begP xs ys ∧ st = ⟨slOf 27 [(0, .t (rd k xs.length (xs.map ps))), (1, .t (rd k' ys.length (ys.map ps))), (7, .t (pi xs.length)), (8, .t (pi i))], ofL []⟩) xs.length ?_ ?_
  · rintro Inv hI
    simp
    subst hI
    exact ⟨0, by omega, by omega, rfl, rfl⟩
  · rintro Inv hI n st ⟨i, hi, hiy, hc, rfl⟩
    refine ewr_sound (M := []) h0 ?_
    simp
    refine brn_app (fun h => ?_) (fun h => ?_)
    · simp at h
      rw [drop_step xs i h] at hc
      simp
      by_cases h2 : i < ys.length
      · rw [drop_step ys i h2, begP] at hc
        have h2' : ¬ (ys.length : Int) ≤ i := by omega
        refine drawP E0 [⟨[], allD 27, true⟩, ⟨[], allD 27, true⟩, ⟨[], allD 27, true⟩, ⟨[], allD 27, true⟩, ⟨[], allD 27, true⟩, ⟨[], allD 27, true⟩, ⟨[], allD 27, true⟩, ⟨[], allD 27, true⟩, ⟨[], allD 27, true⟩, ⟨[], allD 27, true⟩, ⟨[], allD 27, true⟩, ⟨[], allD 27, true⟩, ⟨[], allD 27, true⟩, ⟨[], allD 27, true⟩, ⟨[], allD 27, true⟩] h0 hm (E0_ok _) (by kernel_rfl) (by kernel_rfl) ?_
        simp [h, h2, h2']
        refine brn_app (fun h3 => ?_) (fun h3 => ?_)
        · simp at h3
          simp [h3] at hc
          simp [hc]
        · simp at h3
          simp [h3] at hc
          simp
          subst hI
          exact Less_mk (n - 1) (by omega) ⟨i + 1, by omega, by omega, hc, by rw [wrNext i (by omega)]⟩
      · have h2' : (ys.length : Int) ≤ i := by omega
        rw [List.drop_of_length_le (show ys.length ≤ i by omega), begP] at hc
        refine drawP E0 [⟨[], allD 27, true⟩, ⟨[], allD 27, true⟩, ⟨[], allD 27, true⟩, ⟨[], allD 27, true⟩, ⟨[], allD 27, true⟩, ⟨[], allD 27, true⟩, ⟨[], allD 27, true⟩, ⟨[], allD 27, true⟩, ⟨[], allD 27, true⟩, ⟨[], allD 27, true⟩, ⟨[], allD 27, true⟩, ⟨[], allD 27, true⟩, ⟨[], allD 27, true⟩, ⟨[], allD 27, true⟩, ⟨[], allD 27, true⟩] h0 hm (E0_ok _) (by kernel_rfl) (by kernel_rfl) ?_
        simp [h2', ← hc]
    · simp at h
      rw [List.drop_of_length_le (by omega), begP] at hc
      simp [← hc]
theorem ok_EqualS (k k' : Nat) (xs ys : List ByteArray) (ha : xs.length ≤ 140737488351232) (hb : ys.length ≤ 140737488351232) : CallOK Try.prog 123 [.c (rd k xs.length (xs.map ps)), .c (rd k' ys.length (ys.map ps))] (.c (pb (decide (xs = ys)))) [.c (rd k xs.length (xs.map ps)), .c (rd k' ys.length (ys.map ps))] := by
  refine okS (fn := Try.f123) [] h0 Try.func123 (by kernel_rfl) rfl Try.ntmps123 Try.results123 (by simp) ?_
  simp
  refine brn_app (fun h => ?_) (fun h => ?_)
  · simp at h
    simp
    rintro rfl
    exact h rfl
  · simp at h
    have hl : ys.length = xs.length := by omega
    simp
    refine loopS [0, 1, 12, 13] [] (fun n st => ∃ (i : Nat), i + n = xs.length ∧ (xs.drop i = ys.drop i ↔ xs = ys) ∧ st = ⟨slOf 26 [(0, .t (rd k xs.length (xs.map ps))), (1, .t (rd k' ys.length (ys.map ps))), (12, .t (pi xs.length)), (13, .t (pi i))], ofL []⟩) xs.length ?_ ?_
    · rintro Inv hI
      simp
      subst hI
      exact ⟨0, by omega, by simp, rfl⟩
    · rintro Inv hI n st ⟨i, hi, htk, rfl⟩
      refine ewr_sound (M := []) h0 ?_
      simp
      refine brn_app (fun h => ?_) (fun h => ?_)
      · simp at h
        have hib : i < ys.length := by omega
        rw [drop_step xs i h, drop_step ys i hib, List.cons.injEq] at htk
        simp
        refine drawP E0 [⟨[], allD 26, true⟩, ⟨[], allD 26, true⟩, ⟨[], allD 26, true⟩, ⟨[], allD 26, true⟩, ⟨[], allD 26, true⟩, ⟨[], allD 26, true⟩, ⟨[], allD 26, true⟩, ⟨[], allD 26, true⟩, ⟨[], allD 26, true⟩] h0 hm (E0_ok _) (by kernel_rfl) (by kernel_rfl) ?_
        simp [h, hib]
        refine brn_app (fun h2 => ?_) (fun h2 => ?_)
        · simp at h2
          simp
          intro he
          exact h2 (htk.2 he).1
        · simp at h2
          simp
          subst hI
          exact Less_mk (n - 1) (by omega) ⟨i + 1, by omega, ⟨fun h4 => htk.1 ⟨h2, h4⟩, fun h4 => (htk.2 h4).2⟩, by rw [wrNext i (by omega)]⟩
      · simp at h
        rw [List.drop_of_length_le (by omega), List.drop_of_length_le (by omega)] at htk
        simp
        exact htk.1 rfl
theorem ok_begins (k k' : Nat) (xs ys : List ByteArray) (ha : xs.length ≤ 140737488351232) (hb : ys.length ≤ 140737488351232) : CallOK Try.prog 95 [.c (rd k xs.length (xs.map ps)), .c (rd k' ys.length (ys.map ps))] (.c (pb (begP xs ys))) [.c (rd k xs.length (xs.map ps)), .c (rd k' ys.length (ys.map ps))] := by
  refine okS (fn := Try.f95) [] h0 Try.func95 (by kernel_rfl) rfl Try.ntmps95 Try.results95 (by simp) ?_
  simp
  refine gT (fun a => ?_) (fun a => ?_)
  · have a1 : xs.length ≤ ys.length := by simpa using a
    simp [a, a1]
    have hc := ok_EqualS k k' xs (ys.take xs.length) ha (by simp; omega)
    simp [a1] at hc
    refine Inv_intro hc ?_
    simp [begP_take _ _ a1]
  · have a1 : ys.length < xs.length := by simpa using a
    simp [a, begP_long _ _ a1]
structure GLeaf where
  Path : (List ByteArray)
  Value : ByteArray
  deriving DecidableEq
def GLeaf.co (x : GLeaf) : List PT := [.sl 0 9 x.Path.length (x.Path.map ps), ps x.Value]
def GLeaf.ci (k : Nat) (x : GLeaf) : List PT := [rd k x.Path.length (x.Path.map ps), ps x.Value]
attribute [simp] GLeaf.co GLeaf.ci
theorem GLeaf.len_o (x : GLeaf) : x.co.length = 2 := rfl
theorem GLeaf.len_i (k : Nat) (x : GLeaf) : (x.ci k).length = 2 := rfl
theorem GLeaf.un1 (x : GLeaf) : PT.unownL x.co = x.ci 0 := by simp [rd]
theorem GLeaf.uni1 (k : Nat) (x : GLeaf) : PT.unownL (x.ci k) = x.ci 0 := by simp [rd]
theorem GLeaf.un (xs : List GLeaf) : PT.unownL (xs.flatMap GLeaf.co) = xs.flatMap (GLeaf.ci 0) := by
  rw [unownL_fm]
  congr 1
  funext x
  exact GLeaf.un1 x
theorem GLeaf.uni (k : Nat) (xs : List GLeaf) : PT.unownL (xs.flatMap (GLeaf.ci k)) = xs.flatMap (GLeaf.ci 0) := by
  rw [unownL_fm]
  congr 1
  funext x
  exact GLeaf.uni1 k x
theorem GLeaf.nt (xs : List GLeaf) : PT.noTmpL (xs.flatMap GLeaf.co) = true := noTmpL_fm _ xs fun x => by simp
theorem GLeaf.nti (k : Nat) (xs : List GLeaf) : PT.noTmpL (xs.flatMap (GLeaf.ci (k + 1))) = true := noTmpL_fm _ xs fun x => by simp [rd]
attribute [simp] GLeaf.un GLeaf.uni GLeaf.nt GLeaf.nti
theorem GLeaf.lenR (xs : List GLeaf) : (xs.flatMap GLeaf.co).length = xs.length * 2 := fm_len _ 2 (fun _ => rfl) xs
theorem GLeaf.lenRi (k : Nat) (xs : List GLeaf) : (xs.flatMap (GLeaf.ci k)).length = xs.length * 2 := fm_len _ 2 (fun _ => rfl) xs
theorem GLeaf.tkR (xs : List GLeaf) : (xs.flatMap GLeaf.co).take (xs.length * 2) = xs.flatMap GLeaf.co := List.take_of_length_le (by rw [GLeaf.lenR]; exact Nat.le_refl _)
theorem GLeaf.tkRi (k : Nat) (xs : List GLeaf) : (xs.flatMap (GLeaf.ci k)).take (xs.length * 2) = xs.flatMap (GLeaf.ci k) := List.take_of_length_le (by rw [GLeaf.lenRi]; exact Nat.le_refl _)
attribute [simp high] GLeaf.lenR GLeaf.tkR GLeaf.lenRi GLeaf.tkRi
def GLeaf.wt (x : GLeaf) : Nat := wt_StringS x.Path + x.Value.size
def GLeaf.fits (x : GLeaf) : Prop := fits_StringS x.Path ∧ x.Value.size ≤ 140737488351232
def GLeaf.lens (x : GLeaf) : Prop := lens_StringS x.Path
def GLeaf.mark (x : GLeaf) (k : Int) : GLeaf × Int := (⟨(mk_StringS x.Path k).1, mtext (mk_StringS x.Path k).2⟩, ((mk_StringS x.Path k).2 + 1))
def GLeaf.cn (x : GLeaf) : Nat := cn_StringS x.Path + 1
theorem GLeaf.mark_snd (x : GLeaf) (k : Int) : (GLeaf.mark x k).2 = k + GLeaf.cn x := by
  simp only [GLeaf.mark, GLeaf.cn, mk_StringS_snd] <;> omega
def GLeaf.markT (x : GLeaf) (k : Int) : GLeaf × Int := (⟨(mk_StringS x.Path k).1, x.Value⟩, (mk_StringS x.Path k).2)
def GLeaf.cnT (x : GLeaf) : Nat := cn_StringS x.Path
theorem GLeaf.markT_snd (x : GLeaf) (k : Int) : (GLeaf.markT x k).2 = k + GLeaf.cnT x := by
  simp only [GLeaf.markT, GLeaf.cnT, mk_StringS_snd] <;> omega
theorem lens_of_Leaf {x : GLeaf} (h : GLeaf.wt x ≤ 1048576) : GLeaf.lens x := by
  unfold GLeaf.wt at h
  exact lens_of_StringS (by omega)
theorem cn_le_Leaf (x : GLeaf) : GLeaf.cnT x ≤ 32 * GLeaf.wt x := by
  unfold GLeaf.cnT GLeaf.wt
  have := cn_le_StringS x.Path
  omega
theorem cnE_le_Leaf (x : GLeaf) : GLeaf.cn x ≤ 32 * GLeaf.wt x + 16 := by
  unfold GLeaf.cn GLeaf.wt
  have := cn_le_StringS x.Path
  omega
def okLeaf (x : GLeaf) : Bool := isP x.Path && isW x.Value
def adjC (q : Option GLeaf) (x : GLeaf) : Bool := match q with
  | none => true
  | some q => lessP q.Path x.Path && !begP q.Path x.Path
def goodG : Option GLeaf → List GLeaf → Bool
  | _, [] => true
  | q, x :: xs => okLeaf x && adjC q x && goodG (some x) xs
def goodC (l : List GLeaf) : Bool := goodG none l && decide (l.length ≤ 30)
def prevC (l : List GLeaf) (i : Nat) : Option GLeaf := if i = 0 then none else l[i - 1]?
theorem prevC_next (l : List GLeaf) (i : Nat) (h : i < l.length) : prevC l (i + 1) = some l[i] := by simp [prevC, h]
def strsOK (p : List ByteArray) : Prop := p.length ≤ 140737488351232 ∧ ∀ s ∈ p, s.size ≤ 140737488355328
def leafOK (x : GLeaf) : Prop := strsOK x.Path ∧ x.Value.size ≤ 140737488355328
def confOK (l : List GLeaf) : Prop := l.length ≤ 140737488351232 ∧ ∀ x ∈ l, leafOK x
theorem ok_sameTexts (k k' : Nat) (p : List ByteArray) (hp : p.length ≤ 140737488351232) : CallOK Try.prog 25 [.c (rd k p.length (p.map ps)), .c (rd k' p.length (p.map ps))] (.c (pb true)) [.c (rd k p.length (p.map ps)), .c (rd k' p.length (p.map ps))] := by
  refine okS (fn := Try.f25) [] h0 Try.func25 (by kernel_rfl) rfl Try.ntmps25 Try.results25 (by simp) ?_
  simp
  refine loopS [0, 1, 11, 12, 13] [] (fun m st => ∃ (i : Nat), i + m = p.length ∧ st = ⟨slOf 26 [(0, .t (rd k p.length (p.map ps))), (1, .t (rd k' p.length (p.map ps))), (11, .t (rd k p.length (p.map ps))), (12, .t (pi p.length)), (13, .t (pi i))], ofL []⟩) p.length ?_ ?_
  · rintro Inv hI
    simp
    subst hI
    exact ⟨0, by omega, rfl⟩
  · rintro Inv hI m st ⟨i, hi, rfl⟩
    refine ewr_sound (M := []) h0 ?_
    simp
    refine brn_app (fun a => ?_) (fun a => ?_)
    · simp at a
      simp
      refine drawP (tabEnv [] []) [⟨[], allD 26, true⟩, ⟨[], allD 26, true⟩, ⟨[], allD 26, true⟩, ⟨[], allD 26, true⟩, ⟨[], allD 26, true⟩, ⟨[], allD 26, true⟩, ⟨[], allD 26, true⟩, ⟨[], allD 26, true⟩, ⟨[], allD 26, true⟩] h0 hm (tabEnv_ok tab_nil) (by kernel_rfl) (by kernel_rfl) ?_
      simp [a]
      subst hI
      exact Less_mk (m - 1) (by omega) ⟨i + 1, by omega, by rw [wrNext i (by omega)]⟩
    · simp
theorem ok_sameLeaves (k k' : Nat) (l : List GLeaf) (hl : confOK l) : CallOK Try.prog 38 [.c (rd k l.length (l.flatMap (GLeaf.ci k))), .c (rd k' l.length (l.flatMap (GLeaf.ci k')))] (.c (pb true)) [.c (rd k l.length (l.flatMap (GLeaf.ci k))), .c (rd k' l.length (l.flatMap (GLeaf.ci k')))] := by
  obtain ⟨hl1, hl2⟩ := hl
  refine okS (fn := Try.f38) [] h0 Try.func38 (by kernel_rfl) rfl Try.ntmps38 Try.results38 (by simp) ?_
  simp
  refine loopS [0, 1, 11, 12, 13] [] (fun m st => ∃ (i : Nat), i + m = l.length ∧ st = ⟨slOf 42 [(0, .t (rd k l.length (l.flatMap (GLeaf.ci k)))), (1, .t (rd k' l.length (l.flatMap (GLeaf.ci k')))), (11, .t (rd k l.length (l.flatMap (GLeaf.ci k)))), (12, .t (pi l.length)), (13, .t (pi i))], ofL []⟩) l.length ?_ ?_
  · rintro Inv hI
    simp
    subst hI
    exact ⟨0, by omega, rfl⟩
  · rintro Inv hI m st ⟨i, hi, rfl⟩
    refine ewr_sound (M := []) h0 ?_
    simp
    refine brn_app (fun a => ?_) (fun a => ?_)
    · simp at a
      have hd := fm_drop (GLeaf.ci k) 2 (fun _ => rfl) l i a
      have hlen := fm_len (GLeaf.ci k) 2 (fun _ => rfl) l
      have hd' := fm_drop (GLeaf.ci k') 2 (fun _ => rfl) l i a
      have hlen' := fm_len (GLeaf.ci k') 2 (fun _ => rfl) l
      have hlt : i * 2 < l.length * 2 := by omega
      have hx := (hl2 _ (List.getElem_mem a)).1.1
      simp
      refine drawP (tabEnv [] _) [⟨[], allD 42, true⟩, ⟨[], allD 42, true⟩, ⟨[], allD 42, true⟩, ⟨[], allD 42, true⟩, ⟨[], allD 42, true⟩, ⟨[], allD 42, true⟩, ⟨[], allD 42, true⟩, ⟨[], allD 42, true⟩, ⟨[], allD 42, true⟩, ⟨[], allD 42, true⟩, ⟨[], allD 42, true⟩, ⟨[], allD 42, true⟩, ⟨[], allD 42, true⟩, ⟨[], allD 42, true⟩, ⟨[], allD 42, true⟩, ⟨[], allD 42, true⟩, ⟨[], allD 42, true⟩, ⟨[], allD 42, true⟩, ⟨[], allD 42, true⟩, ⟨[], allD 42, true⟩, ⟨[], allD 42, true⟩, ⟨[], allD 42, true⟩, ⟨[], allD 42, false⟩, ⟨[], allD 42, true⟩, ⟨[], allD 42, true⟩] h0 hm (tabEnv_ok (tab_cons (ok_sameTexts k k' l[i].Path hx) tab_nil)) (by kernel_rfl) (by kernel_rfl) ?_
      simp [a, hd, hlen, hd', hlen', hlt]
      subst hI
      exact Less_mk (m - 1) (by omega) ⟨i + 1, by omega, by rw [wrNext i (by omega)]⟩
    · simp
theorem ok_sameDisks (k k' : Nat) (d : GDisk) (h1 : d.Sectors.length ≤ 140737488351232) (h2 : d.Waiting.length ≤ 140737488351232) : CallOK Try.prog 9 [.agg (GDisk.ci k d), .agg (GDisk.ci k' d)] (.c (pb true)) [.agg (GDisk.ci k d), .agg (GDisk.ci k' d)] := by
  refine okS (fn := Try.f9) [] h0 Try.func9 (by kernel_rfl) rfl Try.ntmps9 Try.results9 (by simp) ?_
  simp
  refine Inv_intro (ok_sameTexts k k' d.Sectors h1) ?_
  simp
  refine loopS [2, 3, 23, 24] [.op 0 0 0, .op 0 1 0] (fun m st => ∃ (i : Nat), i + m = d.Waiting.length ∧ st = ⟨slOf 39 [(2, .ptr ⟨.op 0 0 0, []⟩ 0), (3, .ptr ⟨.op 0 1 0, []⟩ 0), (23, .t (pi d.Waiting.length)), (24, .t (pi i))], ofL [(.op 0 0 0, .sl 0 29 1 (GDisk.ci k d)), (.op 0 1 0, .sl 0 29 1 (GDisk.ci k' d))]⟩) d.Waiting.length ?_ ?_
  · rintro Inv hI
    simp
    subst hI
    exact ⟨0, by omega, rfl⟩
  · rintro Inv hI m st ⟨i, hi, rfl⟩
    refine ewr_sound (M := []) h0 ?_
    simp
    refine brn_app (fun a => ?_) (fun a => ?_)
    · simp at a
      have hd := fm_drop GWrite.c 2 (fun _ => rfl) d.Waiting i a
      have hlen := fm_len GWrite.c 2 (fun _ => rfl) d.Waiting
      have hlt : i * 2 < d.Waiting.length * 2 := by omega
      simp
      refine drawP (tabEnv [] []) [⟨[.op 0 0 0], allD 39, true⟩, ⟨[.op 0 0 0], allD 39, true⟩, ⟨[], allD 39, true⟩, ⟨[], allD 39, true⟩, ⟨[], allD 39, true⟩, ⟨[.op 0 1 0], allD 39, true⟩, ⟨[.op 0 1 0], allD 39, true⟩, ⟨[], allD 39, true⟩, ⟨[], allD 39, true⟩, ⟨[], allD 39, true⟩, ⟨[], allD 39, true⟩] h0 hm (tabEnv_ok tab_nil) (by kernel_rfl) (by kernel_rfl) ?_
      simp [a, hd, hlen, hlt]
      subst hI
      exact Less_mk (m - 1) (by omega) ⟨i + 1, by omega, by rw [wrNext i (by omega)]; rfl⟩
    · simp
theorem ok_isave2 (d : GDisk) (text : ByteArray) (n m : Nat) (hd : okD d m) (hm' : m ≤ 1000000) (hn : n ≤ 7) (ht : text.size ≤ 140737488351232) : CallOK Try.prog 47 [.agg d.co, .c (ps text), .c (pi n)] (.tup [.agg (saveL d text n).1.co, .c (pb (saveL d text n).2)]) [.agg [.hole, .hole], .c (ps text), .c (pi n)] := by
  refine okS (fn := Try.f47) [] h0 Try.func47 (by kernel_rfl) rfl Try.ntmps47 Try.results47 (by simp) ?_
  simp
  refine Inv_intro (ok_planOf 0 d text hd.1 (fun s hs => by have := hd.2.1 s hs; omega) ht) ?_
  have hpl := @okPl_plan d.Sectors text
  have hsl : saveL d text n = if (planL d.Sectors text).2 = true then (saveN (planL d.Sectors text).1 d n, true) else (⟨[], []⟩, false) := rfl
  generalize hP : planL d.Sectors text = P at *
  obtain ⟨pl, okp⟩ := P
  simp
  cases okp with
  | false =>
    have hsl : saveL d text n = (⟨[], []⟩, false) := by rw [hsl]; rfl
    simp [hsl]
  | true =>
    have hpl : okPl pl := hpl rfl
    have hsl : saveL d text n = (saveN pl d n, true) := by rw [hsl]; rfl
    rw [hsl]
    simp
    refine loopS [2, 6, 8, 10, 22, 23] [.op 0 0 0, .op 0 1 0, .op 1 2 0, .op 4 1 0] (fun q st => ∃ (i : Nat), i + q = n ∧ st = ⟨slOf 47 [(2, .t (pi n)), (6, .ptr ⟨.op 0 1 0, []⟩ 0), (8, .ref ⟨.op 1 2 0, []⟩ 0 pl.length), (10, .ptr ⟨.op 4 1 0, []⟩ 0), (22, .t (pi n)), (23, .t (pi i))], ofL [(.arg 0 0, .hole), (.arg 0 1, .hole), (.op 0 0 0, .sl 0 29 1 [.hole, .hole]), (.op 0 1 0, .sl 0 29 1 [.sl 0 nilE 0 [], .sl 0 nilE 0 []]), (.op 1 2 0, .sl 0 43 pl.length (pl.flatMap GWrite.c)), (.op 4 1 0, .sl 0 29 1 (saveN pl d i).co)]⟩) n ?_ ?_
    · rintro Inv hI
      simp
      subst hI
      exact ⟨0, by omega, rfl⟩
    · rintro Inv hI q st ⟨i, hi, rfl⟩
      have hpl5 := hpl.1
      refine ewr_sound (M := []) h0 ?_
      simp
      refine brn_app (fun a => ?_) (fun a => ?_)
      · simp at a
        have hok := okD_save hpl hd i
        have hs : saveN pl d (i + 1) = stepS pl (saveN pl d i) i := rfl
        simp
        generalize hD : saveN pl d i = D at *
        obtain ⟨o1, o2, o3, o4⟩ := hok
        by_cases c1 : i < 4
        · have c1' : (i : Int) < 4 := by omega
          have hat := plAt_get pl i (by omega)
          have e : saveN pl d (i + 1) = addW D (plAt pl i) := by rw [hs, stepS, if_pos c1]
          have hdr := fm_drop GWrite.c 2 (fun _ => rfl) pl i (by omega)
          have hlen := fm_len GWrite.c 2 (fun _ => rfl) pl
          have hlt : i * 2 < pl.length * 2 := by omega
          have hil : i < pl.length := by omega
          have hlt2 : i * 2 + 2 ≤ pl.length * 2 := by omega
          simp [c1, c1']
          refine drawP (tabEnv [] _) [⟨[.op 4 1 0], allD 47, true⟩, ⟨[.op 1 2 0], allD 47, true⟩, ⟨[], allD 47, true⟩, ⟨[.op 1 2 0], allD 47, true⟩, ⟨[.op 1 2 0], allD 47, true⟩, ⟨[.op 4 1 0], [31, 32, 33, 34, 35, 36], false⟩, ⟨[.op 4 1 0, .op 10 5 0, .op 10 5 1], [31, 32, 33, 34, 35, 36], false⟩] h0 hm (tabEnv_ok (tab_cons (ok_waiting 0 D pl[i] (by omega) (by omega)) tab_nil)) (by kernel_rfl) (by kernel_rfl) ?_
          simp [hil, hdr, hlen, hlt, hlt2]
          subst hI
          refine Less_mk (q - 1) (by omega) ⟨i + 1, by omega, ?_⟩
          rw [e, hat, ofL_mv 5 _ _ _ rfl, wrNext i (by omega), addW_co]
          rfl
        · by_cases c2 : i = 5
          · subst c2
            have hat := plAt_get pl 4 (by omega)
            have e : saveN pl d (5 + 1) = addW D (plAt pl 4) := by rw [hs, stepS, if_neg c1, if_pos rfl]
            have hdr := fm_drop GWrite.c 2 (fun _ => rfl) pl 4 (by omega)
            have hlen := fm_len GWrite.c 2 (fun _ => rfl) pl
            have h4 : 4 < pl.length := by omega
            have h4' : 10 ≤ pl.length * 2 := by omega
            have h4'' : 8 < pl.length * 2 := by omega
            simp at hdr
            simp
            refine drawP (tabEnv [] _) [⟨[.op 4 1 0], allD 47, true⟩, ⟨[.op 1 2 0], allD 47, true⟩, ⟨[.op 1 2 0], allD 47, true⟩, ⟨[.op 1 2 0], allD 47, true⟩, ⟨[.op 4 1 0], [40, 41, 42, 43, 44], false⟩, ⟨[.op 4 1 0, .op 12 4 0, .op 12 4 1], [40, 41, 42, 43, 44], false⟩] h0 hm (tabEnv_ok (tab_cons (ok_waiting 0 D pl[4] (by omega) (by omega)) tab_nil)) (by kernel_rfl) (by kernel_rfl) ?_
            have h4i : (4 : Int) < pl.length := by omega
            simp [h4, h4', h4'', h4i, hdr, hlen]
            subst hI
            refine Less_mk (q - 1) (by omega) ⟨5 + 1, by omega, ?_⟩
            rw [e, hat, ofL_mv 5 _ _ _ rfl, addW_co]
            rfl
          · have c1' : ¬ (i : Int) < 4 := by omega
            have c2' : ¬ (i : Int) = 5 := by omega
            have e : saveN pl d (i + 1) = synced D := by rw [hs, stepS, if_neg c1, if_neg c2]
            simp [c1, c1', c2, c2']
            refine Inv_intro (ok_synced 0 D (by omega) (by omega) (fun w hw => by rw [o1]; exact (o4 w hw).1)) ?_
            simp
            subst hI
            refine Less_mk (q - 1) (by omega) ⟨i + 1, by omega, ?_⟩
            rw [e, wrNext i (by omega)]
            rfl
      · simp at a
        have : i = n := by omega
        subst this
        simp
end Go.V
