/- What functions of the seat's program do, each proved of its code, under the bounds that its theorem names. -/
import Derived.Test.YtmodclnblmoeoaaTab
set_option linter.all false
namespace Go.V
open Go.Proofs
set_option maxHeartbeats 1000000
set_option maxRecDepth 10000
set_option linter.unusedSimpArgs false
set_option linter.unusedVariables false
theorem ok_szLeaf (k : Nat) (x : GLeaf) (left : Int) (h1 : 0 ≤ left) (h2 : left ≤ 1048576) (hf : GLeaf.fits x) : CallOK Try.prog 77 [.agg (GLeaf.ci k x), .c (pi left)] (.c (pi (szr left (GLeaf.wt x)))) [.agg (GLeaf.ci k x), .c (pi left)] := by
  simp only [GLeaf.fits] at hf
  obtain ⟨hf0, hf1⟩ := hf
  refine okS (fn := Try.f77) [] h0 Try.func77 (by kernel_rfl) rfl Try.ntmps77 Try.results77 (by simp) ?_
  simp
  refine Inv_intro (ok_szStringS k x.Path (left) (by omega) (by omega) hf0) ?_
  simp
  refine brn_app (fun a0 => ?_) (fun a0 => ?_)
  · simp at a0
    have b0 := szr_lt0 a0 (by omega)
    have e : szr left (GLeaf.wt x) = -1 := szr_neg (by unfold GLeaf.wt; omega)
    simp [e]
  · simp at a0
    have b0 := szr_ge0 a0
    have e0 := szr_ge b0
    simp only [e0]
    have hw1 : IntKind.wrap .i64 (left - (wt_StringS x.Path : Nat) - x.Value.size) = left - (wt_StringS x.Path : Nat) - x.Value.size := wrap64 (by omega) (by omega)
    simp [hw1]
    refine brn_app (fun a1 => ?_) (fun a1 => ?_)
    · simp at a1
      have e : szr left (GLeaf.wt x) = -1 := szr_neg (by unfold GLeaf.wt; omega)
      simp [e]
    · simp at a1
      have e : szr left (GLeaf.wt x) = left - (wt_StringS x.Path : Nat) - x.Value.size := by
        rw [szr_ge (by unfold GLeaf.wt; omega)]
        unfold GLeaf.wt
        omega
      simp [e]
theorem ok_szLeafS (k : Nat) (xs : List GLeaf) (left : Int) (h1 : 0 ≤ left) (h2 : left ≤ 1048576) (hf : fits_LeafS xs) : CallOK Try.prog 20 [.c (rd k xs.length (xs.flatMap (GLeaf.ci k))), .c (pi left)] (.c (pi (szr left (wt_LeafS xs)))) [.c (rd k xs.length (xs.flatMap (GLeaf.ci k))), .c (pi left)] := by
  obtain ⟨hl, hx⟩ := hf
  refine okS (fn := Try.f20) [] h0 Try.func20 (by kernel_rfl) rfl Try.ntmps20 Try.results20 (by simp) ?_
  have hw : IntKind.wrap .i64 (left - xs.length) = left - xs.length := wrap64 (by omega) (by omega)
  have hwl := len_wt_LeafS xs
  simp [hw]
  refine brn_app (fun h => ?_) (fun h => ?_)
  · simp at h
    have e1 : szr left (wt_LeafS xs) = -1 := szr_neg (by omega)
    simp [e1]
  · simp at h
    simp
    refine loopS [0, 1, 5] [] (fun n st => ∃ (i : Nat) (m : Int), i + n = xs.length ∧ 0 ≤ m ∧ m ≤ 1048576 ∧ szr m (((xs.drop i).map GLeaf.wt).sum) = szr left (wt_LeafS xs) ∧ st = ⟨slOf 27 [(0, .t (rd k xs.length (xs.flatMap (GLeaf.ci k)))), (1, .t (pi m)), (5, .t (pi i))], ofL []⟩) xs.length ?_ ?_
    · rintro Inv hI
      simp
      subst hI
      exact ⟨0, left - xs.length, by omega, by omega, by omega, by rw [List.drop_zero, wt_LeafS, wtR, szr_add (by omega)], rfl⟩
    · rintro Inv hI n st ⟨i, m, hi, hm1, hm2, hg, rfl⟩
      refine ewr_sound (M := []) h0 ?_
      simp
      refine brn_app (fun h3 => ?_) (fun h3 => ?_)
      · simp at h3
        have hxi := hx xs[i] (List.getElem_mem h3)
        rw [drop_step xs i h3, List.map_cons, List.sum_cons] at hg
        have hd := fm_drop (GLeaf.ci k) 2 (fun _ => rfl) xs i h3
        have hlen := fm_len (GLeaf.ci k) 2 (fun _ => rfl) xs
        have hlt : i * 2 < xs.length * 2 := by omega
        simp [h3, hd, hlen, hlt]
        refine Inv_intro (ok_szLeaf k xs[i] m hm1 hm2 hxi) ?_
        simp
        refine brn_app (fun h4 => ?_) (fun h4 => ?_)
        · simp at h4
          have h5 := szr_lt0 h4 hm1
          rw [szr_add_neg h5] at hg
          simp [← hg]
        · simp at h4
          have h5 := szr_ge0 h4
          have e5 := szr_ge h5
          rw [szr_add h5, ← e5] at hg
          simp
          subst hI
          exact Less_mk (n - 1) (by omega) ⟨i + 1, szr m (GLeaf.wt xs[i]), by omega, by omega, by omega, hg, by rw [wrNext i (by omega)]⟩
      · simp at h3
        rw [List.drop_of_length_le (by omega), List.map_nil, List.sum_nil, szr_zero hm1] at hg
        simp [hg]
theorem ok_szLeafSS (k : Nat) (xs : List (List GLeaf)) (left : Int) (h1 : 0 ≤ left) (h2 : left ≤ 1048576) (hf : fits_LeafSS xs) : CallOK Try.prog 93 [.c (rd k xs.length (xs.map (cLeafSi k))), .c (pi left)] (.c (pi (szr left (wt_LeafSS xs)))) [.c (rd k xs.length (xs.map (cLeafSi k))), .c (pi left)] := by
  obtain ⟨hl, hx⟩ := hf
  refine okS (fn := Try.f93) [] h0 Try.func93 (by kernel_rfl) rfl Try.ntmps93 Try.results93 (by simp) ?_
  have hw : IntKind.wrap .i64 (left - xs.length) = left - xs.length := wrap64 (by omega) (by omega)
  have hwl := len_wt_LeafSS xs
  simp [hw]
  refine brn_app (fun h => ?_) (fun h => ?_)
  · simp at h
    have e1 : szr left (wt_LeafSS xs) = -1 := szr_neg (by omega)
    simp [e1]
  · simp at h
    simp
    refine loopS [0, 1, 5] [] (fun n st => ∃ (i : Nat) (m : Int), i + n = xs.length ∧ 0 ≤ m ∧ m ≤ 1048576 ∧ szr m (((xs.drop i).map wt_LeafS).sum) = szr left (wt_LeafSS xs) ∧ st = ⟨slOf 27 [(0, .t (rd k xs.length (xs.map (cLeafSi k)))), (1, .t (pi m)), (5, .t (pi i))], ofL []⟩) xs.length ?_ ?_
    · rintro Inv hI
      simp
      subst hI
      exact ⟨0, left - xs.length, by omega, by omega, by omega, by rw [List.drop_zero, wt_LeafSS, wtR, szr_add (by omega)], rfl⟩
    · rintro Inv hI n st ⟨i, m, hi, hm1, hm2, hg, rfl⟩
      refine ewr_sound (M := []) h0 ?_
      simp
      refine brn_app (fun h3 => ?_) (fun h3 => ?_)
      · simp at h3
        have hxi := hx xs[i] (List.getElem_mem h3)
        rw [drop_step xs i h3, List.map_cons, List.sum_cons] at hg
        simp [h3]
        refine Inv_intro (ok_szLeafS k xs[i] m hm1 hm2 hxi) ?_
        simp
        refine brn_app (fun h4 => ?_) (fun h4 => ?_)
        · simp at h4
          have h5 := szr_lt0 h4 hm1
          rw [szr_add_neg h5] at hg
          simp [← hg]
        · simp at h4
          have h5 := szr_ge0 h4
          have e5 := szr_ge h5
          rw [szr_add h5, ← e5] at hg
          simp
          subst hI
          exact Less_mk (n - 1) (by omega) ⟨i + 1, szr m (wt_LeafS xs[i]), by omega, by omega, by omega, hg, by rw [wrNext i (by omega)]⟩
      · simp at h3
        rw [List.drop_of_length_le (by omega), List.map_nil, List.sum_nil, szr_zero hm1] at hg
        simp [hg]
theorem ok_szStore (k : Nat) (x : GStore) (left : Int) (h1 : 0 ≤ left) (h2 : left ≤ 1048576) (hf : GStore.fits x) : CallOK Try.prog 38 [.agg (GStore.ci k x), .c (pi left)] (.c (pi (szr left (GStore.wt x)))) [.agg (GStore.ci k x), .c (pi left)] := by
  simp only [GStore.fits] at hf
  obtain ⟨hf0, hf1, hf2⟩ := hf
  refine okS (fn := Try.f38) [] h0 Try.func38 (by kernel_rfl) rfl Try.ntmps38 Try.results38 (by simp) ?_
  simp
  refine Inv_intro (ok_szLeafS k x.Candidate (left) (by omega) (by omega) hf0) ?_
  simp
  refine brn_app (fun a0 => ?_) (fun a0 => ?_)
  · simp at a0
    have b0 := szr_lt0 a0 (by omega)
    have e : szr left (GStore.wt x) = -1 := szr_neg (by unfold GStore.wt; omega)
    simp [e]
  · simp at a0
    have b0 := szr_ge0 a0
    have e0 := szr_ge b0
    simp only [e0]
    simp
    refine Inv_intro (ok_szLeafS k x.Running (left - (wt_LeafS x.Candidate : Nat)) (by omega) (by omega) hf1) ?_
    simp
    refine brn_app (fun a1 => ?_) (fun a1 => ?_)
    · simp at a1
      have b1 := szr_lt0 a1 (by omega)
      have e : szr left (GStore.wt x) = -1 := szr_neg (by unfold GStore.wt; omega)
      simp [e]
    · simp at a1
      have b1 := szr_ge0 a1
      have e1 := szr_ge b1
      simp only [e1]
      simp
      refine Inv_intro (ok_szLeafSS k x.History (left - (wt_LeafS x.Candidate : Nat) - (wt_LeafS x.Running : Nat)) (by omega) (by omega) hf2) ?_
      simp
      refine brn_app (fun a2 => ?_) (fun a2 => ?_)
      · simp at a2
        have b2 := szr_lt0 a2 (by omega)
        have e : szr left (GStore.wt x) = -1 := szr_neg (by unfold GStore.wt; omega)
        simp [e]
      · simp at a2
        have b2 := szr_ge0 a2
        have e2 := szr_ge b2
        simp only [e2]
        have e : szr left (GStore.wt x) = left - (wt_LeafS x.Candidate : Nat) - (wt_LeafS x.Running : Nat) - (wt_LeafSS x.History : Nat) := by
          rw [szr_ge (by unfold GStore.wt; omega)]
          unfold GStore.wt
          omega
        simp [e]
theorem ok_toStringS (k : Nat) (xs : List ByteArray) (hwt : wt_StringS xs ≤ 1048576) : CallOK Try.prog 24 [.c (rd k xs.length (xs.map ps))] (.c (.sl 0 9 xs.length (xs.map ps))) [.c (rd k xs.length (xs.map ps))] := by
  have hl := len_wt_StringS xs
  refine okS (fn := Try.f24) [] h0 Try.func24 (by kernel_rfl) rfl Try.ntmps24 Try.results24 (by simp) ?_
  have hb1 : (xs.length : Int) ≤ 281474976710656 := by omega
  have hb2 : 16 * (xs.length : Int) ≤ 281474976710656 := by omega
  simp [hb1, hb2]
  refine loopS [0, 3, 4] [.op 1 2 0] (fun n st => ∃ (i : Nat), i + n = xs.length ∧ st = ⟨slOf 22 [(0, .t (rd k xs.length (xs.map ps))), (3, .ref ⟨.op 1 2 0, []⟩ 0 xs.length), (4, .t (pi i))], ofL [(.op 1 2 0, .sl 0 9 xs.length (((xs.take i).map ps) ++ List.replicate n (.raw (.string ByteArray.empty))))]⟩) xs.length ?_ ?_
  · rintro Inv hI
    simp
    subst hI
    exact ⟨0, by omega, by simp⟩
  · rintro Inv hI n st ⟨i, hi, rfl⟩
    have hA := map_take_len ps xs i (by omega)
    generalize hAe : ((xs.take i).map ps) = A at hA ⊢
    refine ewr_sound (M := []) h0 ?_
    simp
    refine brn_app (fun h => ?_) (fun h => ?_)
    · simp at h
      obtain ⟨m, rfl⟩ : ∃ m, n = m + 1 := ⟨n - 1, by omega⟩
      simp [h, hA, List.replicate_succ]
      have e3 : ((xs.take (i + 1)).map ps) = A ++ [ps xs[i]] := by rw [take_step xs i h, List.map_append, hAe]; rfl
      subst hI
      refine Less_mk m (by omega) ⟨i + 1, by omega, ?_⟩
      rw [wrNext i (by omega), e3, List.append_assoc]
      all_goals rfl
    · simp at h
      have hn : n = 0 := by omega
      subst hn
      have ht : List.take i xs = xs := List.take_of_length_le (by omega)
      have ht2 : List.take (xs.length) (xs.map ps) = (xs.map ps) := List.take_of_length_le (by simp)
      rw [← hAe, ht]
      simp [ht2]
theorem ok_toOp (k : Nat) (x : GOp) (hwt : GOp.wt x ≤ 1048576) : CallOK Try.prog 58 [.agg (GOp.ci k x)] (.agg (GOp.co x)) [.agg (GOp.ci k x)] := by
  unfold GOp.wt at hwt
  refine okS (fn := Try.f58) [] h0 Try.func58 (by kernel_rfl) rfl Try.ntmps58 Try.results58 (by simp) ?_
  simp
  refine Inv_intro (ok_toStringS k x.Path (by omega)) ?_
  simp
theorem ok_toLeaf (k : Nat) (x : GLeaf) (hwt : GLeaf.wt x ≤ 1048576) : CallOK Try.prog 80 [.agg (GLeaf.ci k x)] (.agg (GLeaf.co x)) [.agg (GLeaf.ci k x)] := by
  unfold GLeaf.wt at hwt
  refine okS (fn := Try.f80) [] h0 Try.func80 (by kernel_rfl) rfl Try.ntmps80 Try.results80 (by simp) ?_
  simp
  refine Inv_intro (ok_toStringS k x.Path (by omega)) ?_
  simp
theorem ok_toLeafS (k : Nat) (xs : List GLeaf) (hwt : wt_LeafS xs ≤ 1048576) : CallOK Try.prog 23 [.c (rd k xs.length (xs.flatMap (GLeaf.ci k)))] (.c (.sl 0 103 xs.length (xs.flatMap GLeaf.co))) [.c (rd k xs.length (xs.flatMap (GLeaf.ci k)))] := by
  have hl := len_wt_LeafS xs
  refine okS (fn := Try.f23) [] h0 Try.func23 (by kernel_rfl) rfl Try.ntmps23 Try.results23 (by simp) ?_
  have hb1 : (xs.length : Int) ≤ 281474976710656 := by omega
  have hb2 : 40 * (xs.length : Int) ≤ 281474976710656 := by omega
  simp [hb1, hb2]
  refine loopS [0, 3, 4] [.op 1 2 0] (fun n st => ∃ (i : Nat), i + n = xs.length ∧ st = ⟨slOf 23 [(0, .t (rd k xs.length (xs.flatMap (GLeaf.ci k)))), (3, .ref ⟨.op 1 2 0, []⟩ 0 xs.length), (4, .t (pi i))], ofL [(.op 1 2 0, .sl 0 103 xs.length (((xs.take i).flatMap GLeaf.co) ++ (List.replicate n [.sl 0 nilE 0 [], .raw (.string ByteArray.empty)]).flatten))]⟩) xs.length ?_ ?_
  · rintro Inv hI
    simp
    subst hI
    exact ⟨0, by omega, by simp⟩
  · rintro Inv hI n st ⟨i, hi, rfl⟩
    have hA := fm_take_len GLeaf.co 2 (fun _ => rfl) xs i (by omega)
    generalize hAe : ((xs.take i).flatMap GLeaf.co) = A at hA ⊢
    refine ewr_sound (M := []) h0 ?_
    simp
    refine brn_app (fun h => ?_) (fun h => ?_)
    · simp at h
      obtain ⟨m, rfl⟩ : ∃ m, n = m + 1 := ⟨n - 1, by omega⟩
      have hd := fm_drop (GLeaf.ci k) 2 (fun _ => rfl) xs i h
      have hlen := fm_len (GLeaf.ci k) 2 (fun _ => rfl) xs
      have hlt : i * 2 < xs.length * 2 := by omega
      simp [h, hd, hlen, hlt]
      refine Inv_intro (ok_toLeaf k xs[i] (by have := mem_wt_LeafS (List.getElem_mem h); omega)) ?_
      simp [h, hA, List.replicate_succ]
      have e3 : ((xs.take (i + 1)).flatMap GLeaf.co) = A ++ GLeaf.co xs[i] := by rw [take_step xs i h, List.flatMap_append, hAe, List.flatMap_cons, List.flatMap_nil, List.append_nil]
      subst hI
      refine Less_mk m (by omega) ⟨i + 1, by omega, ?_⟩
      rw [wrNext i (by omega), e3, List.append_assoc]
      all_goals rfl
    · simp at h
      have hn : n = 0 := by omega
      subst hn
      have ht : List.take i xs = xs := List.take_of_length_le (by omega)
      have ht2 : List.take (xs.length * 2) (xs.flatMap GLeaf.co) = (xs.flatMap GLeaf.co) := List.take_of_length_le (by rw [fm_len GLeaf.co 2 (fun _ => rfl)]; exact Nat.le_refl _)
      have hlo := fm_len GLeaf.co 2 (fun _ => rfl) xs
      rw [← hAe, ht]
      simp [ht2, hlo, -List.length_flatMap]
theorem ok_toLeafSS (k : Nat) (xs : List (List GLeaf)) (hwt : wt_LeafSS xs ≤ 1048576) : CallOK Try.prog 95 [.c (rd k xs.length (xs.map (cLeafSi k)))] (.c (.sl 0 35 xs.length (xs.map (cLeafSo)))) [.c (rd k xs.length (xs.map (cLeafSi k)))] := by
  have hl := len_wt_LeafSS xs
  refine okS (fn := Try.f95) [] h0 Try.func95 (by kernel_rfl) rfl Try.ntmps95 Try.results95 (by simp) ?_
  have hb1 : (xs.length : Int) ≤ 281474976710656 := by omega
  have hb2 : 24 * (xs.length : Int) ≤ 281474976710656 := by omega
  simp [hb1, hb2]
  refine loopS [0, 3, 4] [.op 1 2 0] (fun n st => ∃ (i : Nat), i + n = xs.length ∧ st = ⟨slOf 23 [(0, .t (rd k xs.length (xs.map (cLeafSi k)))), (3, .ref ⟨.op 1 2 0, []⟩ 0 xs.length), (4, .t (pi i))], ofL [(.op 1 2 0, .sl 0 35 xs.length (((xs.take i).map (cLeafSo)) ++ List.replicate n (.sl 0 nilE 0 [])))]⟩) xs.length ?_ ?_
  · rintro Inv hI
    simp
    subst hI
    exact ⟨0, by omega, by simp⟩
  · rintro Inv hI n st ⟨i, hi, rfl⟩
    have hA := map_take_len (cLeafSo) xs i (by omega)
    generalize hAe : ((xs.take i).map (cLeafSo)) = A at hA ⊢
    refine ewr_sound (M := []) h0 ?_
    simp
    refine brn_app (fun h => ?_) (fun h => ?_)
    · simp at h
      obtain ⟨m, rfl⟩ : ∃ m, n = m + 1 := ⟨n - 1, by omega⟩
      simp [h]
      refine Inv_intro (ok_toLeafS k xs[i] (by have := mem_wt_LeafSS (List.getElem_mem h); omega)) ?_
      simp [h, hA, List.replicate_succ]
      have e3 : ((xs.take (i + 1)).map (cLeafSo)) = A ++ [cLeafSo xs[i]] := by rw [take_step xs i h, List.map_append, hAe]; rfl
      subst hI
      refine Less_mk m (by omega) ⟨i + 1, by omega, ?_⟩
      rw [wrNext i (by omega), e3, List.append_assoc]
      all_goals rfl
    · simp at h
      have hn : n = 0 := by omega
      subst hn
      have ht : List.take i xs = xs := List.take_of_length_le (by omega)
      have ht2 : List.take (xs.length) (xs.map (cLeafSo)) = (xs.map (cLeafSo)) := List.take_of_length_le (by simp)
      rw [← hAe, ht]
      simp [ht2]
theorem ok_toStore (k : Nat) (x : GStore) (hwt : GStore.wt x ≤ 1048576) : CallOK Try.prog 40 [.agg (GStore.ci k x)] (.agg (GStore.co x)) [.agg (GStore.ci k x)] := by
  unfold GStore.wt at hwt
  refine okS (fn := Try.f40) [] h0 Try.func40 (by kernel_rfl) rfl Try.ntmps40 Try.results40 (by simp) ?_
  simp
  refine Inv_intro (ok_toLeafS k x.Candidate (by omega)) ?_
  simp
  refine Inv_intro (ok_toLeafS k x.Running (by omega)) ?_
  simp
  refine Inv_intro (ok_toLeafSS k x.History (by omega)) ?_
  simp
def sLt (u v : ByteArray) : Bool := Op.bytesLess u.toList v.toList
theorem bless_irr : ∀ l : List UInt8, Op.bytesLess l l = false
  | [] => rfl
  | a :: l => by
    unfold Op.bytesLess
    rw [bless_irr l]
    simp
theorem sl_irr (u : ByteArray) : sLt u u = false := bless_irr _
def cmpS (u v : ByteArray) : Int := if sLt u v = true then -1 else if u = v then 0 else 1
theorem cmpS_eq (u : ByteArray) : cmpS u u = 0 := by simp [cmpS, sl_irr]
theorem cmpS_ne {u v : ByteArray} (h : ¬ u = v) : ¬ cmpS u v = 0 := by
  unfold cmpS
  split
  · omega
  · simp [h]
theorem cmpS_z {u v : ByteArray} (h : cmpS u v = 0) : u = v := Classical.byContradiction fun hn => cmpS_ne hn h
def cmpP : List ByteArray → List ByteArray → Int
  | [], [] => 0
  | [], _ :: _ => -1
  | _ :: _, [] => 1
  | a :: us, b :: vs => if cmpS a b = 0 then cmpP us vs else cmpS a b
def lessP : List ByteArray → List ByteArray → Bool
  | [], [] => false
  | [], _ :: _ => true
  | _ :: _, [] => false
  | a :: us, b :: vs => if a = b then lessP us vs else sLt a b
def begP : List ByteArray → List ByteArray → Bool
  | [], _ => true
  | _ :: _, [] => false
  | a :: us, b :: vs => decide (a = b) && begP us vs
theorem cmpP_less : ∀ a b : List ByteArray, decide (0 ≤ cmpP a b) = !lessP a b
  | [], [] => rfl
  | [], _ :: _ => rfl
  | _ :: _, [] => rfl
  | a :: us, b :: vs => by
    unfold cmpP lessP
    by_cases h : a = b
    · subst h
      rw [cmpS_eq, if_pos rfl, if_pos rfl]
      exact cmpP_less us vs
    · rw [if_neg (cmpS_ne h), if_neg h]
      unfold cmpS
      cases hs : sLt a b <;> simp [h]
theorem begP_take : ∀ a b : List ByteArray, a.length ≤ b.length → begP a b = decide (a = b.take a.length)
  | [], _, _ => by simp [begP]
  | _ :: _, [], h => by simp at h
  | a :: us, b :: vs, h => by
    have := begP_take us vs (by simpa using h)
    simp [begP, this]
theorem begP_long : ∀ a b : List ByteArray, b.length < a.length → begP a b = false
  | [], _, h => by simp at h
  | _ :: _, [], _ => rfl
  | a :: us, b :: vs, h => by simp [begP, begP_long us vs (by simpa using h)]
theorem ok_isNaN (s : ByteArray) : CallOK Try.prog 170 [.c (ps s)] (.c (pb false)) [.c (ps s)] := by
  refine okS (fn := Try.f170) [] h0 Try.func170 (by kernel_rfl) rfl Try.ntmps170 Try.results170 (by simp) ?_
  simp
theorem ok_cmpS (u v : ByteArray) : CallOK Try.prog 146 [.c (ps u), .c (ps v)] (.c (pi (cmpS u v))) [.c (ps u), .c (ps v)] := by
  refine okS (fn := Try.f146) [] h0 Try.func146 (by kernel_rfl) rfl Try.ntmps146 Try.results146 (by simp) ?_
  simp
  refine Inv_intro (ok_isNaN u) ?_
  simp
  refine Inv_intro (ok_isNaN v) ?_
  simp
  refine brn_app (fun a => ?_) (fun a => ?_)
  · have a' : sLt u v = true := a
    simp [cmpS, a']
  · have a' : sLt u v = false := a
    simp
    refine brn_app (fun b => ?_) (fun b => ?_)
    · have b' : u ≠ v := by
        rintro rfl
        simp at b
      simp [cmpS, a', b']
    · have b' : u = v := by
        have e : Op.bytesLess u.toList v.toList = false := a
        rw [e] at b
        simp at b
        exact bytes_toList_inj b
      subst b'
      simp [cmpS, a']
theorem ok_cmpP (k k' : Nat) (xs ys : List ByteArray) (ha : xs.length ≤ 140737488351232) (hb : ys.length ≤ 140737488351232) : CallOK Try.prog 109 [.c (rd k xs.length (xs.map ps)), .c (rd k' ys.length (ys.map ps))] (.c (pi (cmpP xs ys))) [.c (rd k xs.length (xs.map ps)), .c (rd k' ys.length (ys.map ps))] := by
  refine okS (fn := Try.f109) [] h0 Try.func109 (by kernel_rfl) rfl Try.ntmps109 Try.results109 (by simp) ?_
  simp
  refine loopS [0, 1, 9, 10, 11] [] (fun n st => ∃ (i : Nat), i + n = xs.length ∧ i ≤ ys.length ∧ cmpP (xs.drop i) (ys.drop i) = cmpP xs ys ∧ st = ⟨slOf 36 [(0, .t (rd k xs.length (xs.map ps))), (1, .t (rd k' ys.length (ys.map ps))), (9, .t (rd k xs.length (xs.map ps))), (10, .t (pi xs.length)), (11, .t (pi i))], ofL []⟩) xs.length ?_ ?_
  · rintro Inv hI
    simp
    subst hI
    exact ⟨0, by omega, by omega, rfl, rfl⟩
  · rintro Inv hI n st ⟨i, hi, hiy, hc, rfl⟩
    refine ewr_sound (M := []) h0 ?_
    simp
    refine brn_app (fun h => ?_) (fun h => ?_)
    · simp at h
      rw [drop_step xs i h] at hc
      simp [h]
      refine brn_app (fun h2 => ?_) (fun h2 => ?_)
      · simp at h2
        rw [List.drop_of_length_le (show ys.length ≤ i by omega), cmpP] at hc
        simp [← hc]
      · simp at h2
        rw [drop_step ys i h2, cmpP] at hc
        simp [h2]
        refine Inv_intro (ok_cmpS _ _) ?_
        simp
        refine brn_app (fun h3 => ?_) (fun h3 => ?_)
        · simp at h3
          rw [if_neg h3] at hc
          simp [hc]
        · simp at h3
          rw [if_pos h3] at hc
          simp
          subst hI
          exact Less_mk (n - 1) (by omega) ⟨i + 1, by omega, by omega, hc, by rw [wrNext i (by omega)]⟩
    · simp at h
      rw [List.drop_of_length_le (by omega)] at hc
      simp
      refine brn_app (fun h2 => ?_) (fun h2 => ?_)
      · simp at h2
        rw [drop_step ys i (by omega), cmpP] at hc
        simp [← hc]
      · simp at h2
        rw [List.drop_of_length_le (by omega), cmpP] at hc
        simp [← hc]
theorem ok_l15Less (k k' : Nat) (xs ys : List ByteArray) (ha : xs.length ≤ 140737488351232) (hb : ys.length ≤ 140737488351232) : CallOK Try.prog 124 [.c (rd k xs.length (xs.map ps)), .c (rd k' ys.length (ys.map ps))] (.c (pb (lessP xs ys))) [.c (rd k xs.length (xs.map ps)), .c (rd k' ys.length (ys.map ps))] := by
  refine okS (fn := Try.f124) [] h0 Try.func124 (by kernel_rfl) rfl Try.ntmps124 Try.results124 (by simp) ?_
  simp
  refine loopS [0, 1, 7, 8] [] (fun n st => ∃ (i : Nat), i + n = xs.length ∧ i ≤ ys.length ∧ lessP (xs.drop i) (ys.drop i) = lessP xs ys ∧ st = ⟨slOf 39 [(0, .t (rd k xs.length (xs.map ps))), (1, .t (rd k' ys.length (ys.map ps))), (7, .t (pi xs.length)), (8, .t (pi i))], ofL []⟩) xs.length ?_ ?_
  · rintro Inv hI
    simp
    subst hI
    exact ⟨0, by omega, by omega, rfl, rfl⟩
  · rintro Inv hI n st ⟨i, hi, hiy, hc, rfl⟩
    refine ewr_sound (M := []) h0 ?_
    simp
    refine brn_app (fun h => ?_) (fun h => ?_)
    · simp at h
      rw [drop_step xs i h] at hc
      simp
      refine brn_app (fun h2 => ?_) (fun h2 => ?_)
      · simp at h2
        rw [List.drop_of_length_le (show ys.length ≤ i by omega), lessP] at hc
        simp [← hc]
      · simp at h2
        have hib : i < ys.length := by omega
        rw [drop_step ys i hib, lessP] at hc
        simp
        refine drawP E0 [⟨[], allD 39, true⟩, ⟨[], allD 39, true⟩, ⟨[], allD 39, true⟩, ⟨[], allD 39, true⟩, ⟨[], allD 39, true⟩, ⟨[], allD 39, true⟩, ⟨[], allD 39, true⟩, ⟨[], allD 39, true⟩, ⟨[], allD 39, true⟩] h0 hm (E0_ok _) (by kernel_rfl) (by kernel_rfl) ?_
        simp [h, hib]
        refine brn_app (fun h3 => ?_) (fun h3 => ?_)
        · simp at h3
          rw [if_neg h3] at hc
          simp
          refine drawP E0 [⟨[], allD 39, true⟩, ⟨[], allD 39, true⟩, ⟨[], allD 39, true⟩, ⟨[], allD 39, true⟩, ⟨[], allD 39, true⟩, ⟨[], allD 39, true⟩, ⟨[], allD 39, true⟩, ⟨[], allD 39, true⟩, ⟨[], allD 39, true⟩, ⟨[], allD 39, true⟩] h0 hm (E0_ok _) (by kernel_rfl) (by kernel_rfl) ?_
          simp [h, hib, ← hc, sLt]
        · simp at h3
          rw [if_pos h3] at hc
          simp
          subst hI
          exact Less_mk (n - 1) (by omega) ⟨i + 1, by omega, by omega, hc, by rw [wrNext i (by omega)]⟩
    · simp at h
      rw [List.drop_of_length_le (by omega)] at hc
      simp
      by_cases h2 : i < ys.length
      · rw [drop_step ys i (by omega), lessP] at hc
        have : xs.length < ys.length := by omega
        simp [← hc, this]
      · rw [List.drop_of_length_le (by omega), lessP] at hc
        have : ¬ xs.length < ys.length := by omega
        simp [← hc, this]
theorem ok_l15Begins (k k' : Nat) (xs ys : List ByteArray) (ha : xs.length ≤ 140737488351232) (hb : ys.length ≤ 140737488351232) : CallOK Try.prog 79 [.c (rd k xs.length (xs.map ps)), .c (rd k' ys.length (ys.map ps))] (.c (pb (begP xs ys))) [.c (rd k xs.length (xs.map ps)), .c (rd k' ys.length (ys.map ps))] := by
  refine okS (fn := Try.f79) [] h0 Try.func79 (by kernel_rfl) rfl Try.ntmps79 Try.results79 (by simp) ?_
  simp
  refine loopS [0, 1, 7, 8] [] (fun n st => ∃ (i : Nat), i + n = xs.length ∧ i ≤ ys.length ∧ begP (xs.drop i) (ys.drop i) = begP xs ys ∧ st = ⟨slOf 27 [(0, .t (rd k xs.length (xs.map ps))), (1, .t (rd k' ys.length (ys.map ps))), (7, .t (pi xs.length)), (8, .t (pi i))], ofL []⟩) xs.length ?_ ?_
  · rintro Inv hI
    simp
    subst hI
    exact ⟨0, by omega, by omega, rfl, rfl⟩
  · rintro Inv hI n st ⟨i, hi, hiy, hc, rfl⟩
    refine ewr_sound (M := []) h0 ?_
    simp
    refine brn_app (fun h => ?_) (fun h => ?_)
    · simp at h
      rw [drop_step xs i h] at hc
      simp
      by_cases h2 : i < ys.length
      · rw [drop_step ys i h2, begP] at hc
        have h2' : ¬ (ys.length : Int) ≤ i := by omega
        refine drawP E0 [⟨[], allD 27, true⟩, ⟨[], allD 27, true⟩, ⟨[], allD 27, true⟩, ⟨[], allD 27, true⟩, ⟨[], allD 27, true⟩, ⟨[], allD 27, true⟩, ⟨[], allD 27, true⟩, ⟨[], allD 27, true⟩, ⟨[], allD 27, true⟩, ⟨[], allD 27, true⟩, ⟨[], allD 27, true⟩, ⟨[], allD 27, true⟩, ⟨[], allD 27, true⟩, ⟨[], allD 27, true⟩, ⟨[], allD 27, true⟩] h0 hm (E0_ok _) (by kernel_rfl) (by kernel_rfl) ?_
        simp [h, h2, h2']
        refine brn_app (fun h3 => ?_) (fun h3 => ?_)
        · simp at h3
          simp [h3] at hc
          simp [hc]
        · simp at h3
          simp [h3] at hc
          simp
          subst hI
          exact Less_mk (n - 1) (by omega) ⟨i + 1, by omega, by omega, hc, by rw [wrNext i (by omega)]⟩
      · have h2' : (ys.length : Int) ≤ i := by omega
        rw [List.drop_of_length_le (show ys.length ≤ i by omega), begP] at hc
        refine drawP E0 [⟨[], allD 27, true⟩, ⟨[], allD 27, true⟩, ⟨[], allD 27, true⟩, ⟨[], allD 27, true⟩, ⟨[], allD 27, true⟩, ⟨[], allD 27, true⟩, ⟨[], allD 27, true⟩, ⟨[], allD 27, true⟩, ⟨[], allD 27, true⟩, ⟨[], allD 27, true⟩, ⟨[], allD 27, true⟩, ⟨[], allD 27, true⟩, ⟨[], allD 27, true⟩, ⟨[], allD 27, true⟩, ⟨[], allD 27, true⟩] h0 hm (E0_ok _) (by kernel_rfl) (by kernel_rfl) ?_
        simp [h2', ← hc]
    · simp at h
      rw [List.drop_of_length_le (by omega), begP] at hc
      simp [← hc]
theorem ok_EqualS (k k' : Nat) (xs ys : List ByteArray) (ha : xs.length ≤ 140737488351232) (hb : ys.length ≤ 140737488351232) : CallOK Try.prog 125 [.c (rd k xs.length (xs.map ps)), .c (rd k' ys.length (ys.map ps))] (.c (pb (decide (xs = ys)))) [.c (rd k xs.length (xs.map ps)), .c (rd k' ys.length (ys.map ps))] := by
  refine okS (fn := Try.f125) [] h0 Try.func125 (by kernel_rfl) rfl Try.ntmps125 Try.results125 (by simp) ?_
  simp
  refine brn_app (fun h => ?_) (fun h => ?_)
  · simp at h
    simp
    rintro rfl
    exact h rfl
  · simp at h
    have hl : ys.length = xs.length := by omega
    simp
    refine loopS [0, 1, 12, 13] [] (fun n st => ∃ (i : Nat), i + n = xs.length ∧ (xs.drop i = ys.drop i ↔ xs = ys) ∧ st = ⟨slOf 26 [(0, .t (rd k xs.length (xs.map ps))), (1, .t (rd k' ys.length (ys.map ps))), (12, .t (pi xs.length)), (13, .t (pi i))], ofL []⟩) xs.length ?_ ?_
    · rintro Inv hI
      simp
      subst hI
      exact ⟨0, by omega, by simp, rfl⟩
    · rintro Inv hI n st ⟨i, hi, htk, rfl⟩
      refine ewr_sound (M := []) h0 ?_
      simp
      refine brn_app (fun h => ?_) (fun h => ?_)
      · simp at h
        have hib : i < ys.length := by omega
        rw [drop_step xs i h, drop_step ys i hib, List.cons.injEq] at htk
        simp
        refine drawP E0 [⟨[], allD 26, true⟩, ⟨[], allD 26, true⟩, ⟨[], allD 26, true⟩, ⟨[], allD 26, true⟩, ⟨[], allD 26, true⟩, ⟨[], allD 26, true⟩, ⟨[], allD 26, true⟩, ⟨[], allD 26, true⟩, ⟨[], allD 26, true⟩] h0 hm (E0_ok _) (by kernel_rfl) (by kernel_rfl) ?_
        simp [h, hib]
        refine brn_app (fun h2 => ?_) (fun h2 => ?_)
        · simp at h2
          simp
          intro he
          exact h2 (htk.2 he).1
        · simp at h2
          simp
          subst hI
          exact Less_mk (n - 1) (by omega) ⟨i + 1, by omega, ⟨fun h4 => htk.1 ⟨h2, h4⟩, fun h4 => (htk.2 h4).2⟩, by rw [wrNext i (by omega)]⟩
      · simp at h
        rw [List.drop_of_length_le (by omega), List.drop_of_length_le (by omega)] at htk
        simp
        exact htk.1 rfl
theorem ok_begins (k k' : Nat) (xs ys : List ByteArray) (ha : xs.length ≤ 140737488351232) (hb : ys.length ≤ 140737488351232) : CallOK Try.prog 82 [.c (rd k xs.length (xs.map ps)), .c (rd k' ys.length (ys.map ps))] (.c (pb (begP xs ys))) [.c (rd k xs.length (xs.map ps)), .c (rd k' ys.length (ys.map ps))] := by
  refine okS (fn := Try.f82) [] h0 Try.func82 (by kernel_rfl) rfl Try.ntmps82 Try.results82 (by simp) ?_
  simp
  refine gT (fun a => ?_) (fun a => ?_)
  · have a1 : xs.length ≤ ys.length := by simpa using a
    simp [a, a1]
    have hc := ok_EqualS k k' xs (ys.take xs.length) ha (by simp; omega)
    simp [a1] at hc
    refine Inv_intro hc ?_
    simp [begP_take _ _ a1]
  · have a1 : ys.length < xs.length := by simpa using a
    simp [a, begP_long _ _ a1]
theorem byteAt_list (s : ByteArray) (i : Nat) (h : i < s.size) : byteAt s i = ((s.data.toList[i]'(by simpa using h)).toNat : Int) := by
  unfold byteAt
  have : s[i]? = some s[i] := by simp [h]
  rw [this]
  rfl
def wb (c : Int) : Bool := decide (97 ≤ c ∧ c ≤ 122) || decide (48 ≤ c ∧ c ≤ 57) || decide (c = 45)
theorem ok_isWordByte (c : Int) : CallOK Try.prog 155 [.c (pu c)] (.c (pb (wb c))) [.c (pu c)] := by
  refine okS (fn := Try.f155) [] h0 Try.func155 (by kernel_rfl) rfl Try.ntmps155 Try.results155 (by simp) ?_
  simp
  refine gT (fun a => ?_) (fun a => ?_)
  · simp [a]
    refine gF (fun b => ?_) (fun b => ?_)
    · simp [b]
      refine gT (fun d => ?_) (fun d => ?_)
      · simp [d]
        refine gF (fun e => ?_) (fun e => ?_)
        · simp [e]
          simp only [decide_eq_true_eq, decide_eq_false_iff_not] at a b d e; simp [wb]; omega
        · simp [e]
          simp only [decide_eq_true_eq, decide_eq_false_iff_not] at a b d e; simp [wb]; omega
      · simp [d]
        simp only [decide_eq_true_eq, decide_eq_false_iff_not] at a b d; simp [wb]; omega
    · simp [b]
      simp only [decide_eq_true_eq, decide_eq_false_iff_not] at a b; simp [wb]; omega
  · simp [a]
    refine gT (fun d => ?_) (fun d => ?_)
    · simp [d]
      refine gF (fun e => ?_) (fun e => ?_)
      · simp [e]
        simp only [decide_eq_true_eq, decide_eq_false_iff_not] at a d e; simp [wb]; omega
      · simp [e]
        simp only [decide_eq_true_eq, decide_eq_false_iff_not] at a d e; simp [wb]; omega
    · simp [d]
      simp only [decide_eq_true_eq, decide_eq_false_iff_not] at a d; simp [wb]; omega
theorem ok_l15Byte (c : Int) : CallOK Try.prog 117 [.c (pu c)] (.c (pb (wb c))) [.c (pu c)] := by
  refine okS (fn := Try.f117) [] h0 Try.func117 (by kernel_rfl) rfl Try.ntmps117 Try.results117 (by simp) ?_
  simp
  refine gT (fun a => ?_) (fun a => ?_)
  · simp [a]
    refine gF (fun b => ?_) (fun b => ?_)
    · simp [b]
      refine gT (fun d => ?_) (fun d => ?_)
      · simp [d]
        refine gF (fun e => ?_) (fun e => ?_)
        · simp [e]
          simp only [decide_eq_true_eq, decide_eq_false_iff_not] at a b d e; simp [wb]; omega
        · simp [e]
          simp only [decide_eq_true_eq, decide_eq_false_iff_not] at a b d e; simp [wb]; omega
      · simp [d]
        simp only [decide_eq_true_eq, decide_eq_false_iff_not] at a b d; simp [wb]; omega
    · simp [b]
      simp only [decide_eq_true_eq, decide_eq_false_iff_not] at a b; simp [wb]; omega
  · simp [a]
    refine gT (fun d => ?_) (fun d => ?_)
    · simp [d]
      refine gF (fun e => ?_) (fun e => ?_)
      · simp [e]
        simp only [decide_eq_true_eq, decide_eq_false_iff_not] at a d e; simp [wb]; omega
      · simp [e]
        simp only [decide_eq_true_eq, decide_eq_false_iff_not] at a d e; simp [wb]; omega
    · simp [d]
      simp only [decide_eq_true_eq, decide_eq_false_iff_not] at a d; simp [wb]; omega

def wbs (s : ByteArray) (i : Nat) : Bool := wb (byteAt s i)
/-- How many bytes of words a text begins with. -/
def wlen (s : ByteArray) : Nat := (s.data.toList.takeWhile (fun b => wb b.toNat)).length
def wAll (s : ByteArray) : Bool := s.data.toList.all (fun b => wb b.toNat)
def isW (s : ByteArray) : Bool := decide ((1 : Int) ≤ s.size ∧ (s.size : Int) ≤ 8) && wAll s
def isP (p : List ByteArray) : Bool := decide ((1 : Int) ≤ p.length ∧ (p.length : Int) ≤ 5) && p.all isW
theorem wlen_drop (s : ByteArray) (i : Nat) (h : i < s.size) : (s.data.toList.drop i).takeWhile (fun b => wb b.toNat) = if wb (byteAt s i) = true then s.data.toList[i]'(by simpa using h) :: (s.data.toList.drop (i + 1)).takeWhile (fun b => wb b.toNat) else [] := by
  have hl : i < s.data.toList.length := by simpa using h
  rw [List.drop_eq_getElem_cons hl, List.takeWhile_cons, byteAt_list s i h]
theorem ok_wordAt (s : ByteArray) (hs : s.size ≤ 140737488355328) : CallOK Try.prog 121 [.c (ps s)] (.c (ps (s.extract 0 (wlen s)))) [.c (ps s)] := by
  refine okS (fn := Try.f121) [] h0 Try.func121 (by kernel_rfl) rfl Try.ntmps121 Try.results121 (by simp) ?_
  simp
  refine loopS [0, 3] [] (fun n st => ∃ (i : Nat), i + n = s.size ∧ i + ((s.data.toList.drop i).takeWhile (fun b => wb b.toNat)).length = wlen s ∧ st = ⟨slOf 19 [(0, .t (ps s)), (3, .t (pi i))], ofL []⟩) s.size ?_ ?_
  · rintro Inv hI
    simp
    subst hI
    exact ⟨0, by omega, by simp [wlen], rfl⟩
  · rintro Inv hI n st ⟨i, hi, hw, rfl⟩
    refine ewr_sound (M := []) h0 ?_
    simp
    refine gT (fun a => ?_) (fun a => ?_)
    · have a1 : i < s.size := by simpa using a
      simp [a, a1]
      rw [wlen_drop s i a1] at hw
      refine Inv_intro (ok_isWordByte _) ?_
      simp
      refine brn_app (fun b => ?_) (fun b => ?_)
      · simp
        rw [if_pos b, List.length_cons] at hw
        subst hI
        refine Less_mk (n - 1) (by omega) ⟨i + 1, by omega, by omega, by rw [wrNext i (by omega)]⟩
      · simp
        rw [if_neg (by simpa using b)] at hw
        have hw' : i = wlen s := hw
        subst hw'
        have hle : (wlen s : Int) ≤ s.size := by omega
        simp [hle]
    · simp [a]
      simp at a
      rw [List.drop_of_length_le (by simp; omega)] at hw
      have hw' : i = wlen s := hw
      subst hw'
      have hle : (wlen s : Int) ≤ s.size := by omega
      simp [hle]
end Go.V
