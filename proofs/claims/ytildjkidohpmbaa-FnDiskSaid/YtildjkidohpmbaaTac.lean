/- What functions of the seat's program do, each proved of its code, under the bounds that its theorem names. -/
import Derived.Test.YtildjkidohpmbaaTab
set_option linter.all false
namespace Go.V
open Go.Proofs
set_option maxHeartbeats 1000000
set_option maxRecDepth 10000
set_option linter.unusedSimpArgs false
set_option linter.unusedVariables false
def sealH (l : List UInt8) (h : Int) : Int := l.foldl (fun h b => (31 * h + b.toNat) % 251) h
def sealS (s : ByteArray) : ByteArray := s ++ strOf [sealH s.data.toList 7]
theorem sealH_range : ∀ (l : List UInt8) (h : Int), 0 ≤ h ∧ h < 251 → 0 ≤ sealH l h ∧ sealH l h < 251
  | [], h, hh => hh
  | b :: l, h, hh => sealH_range l _ ⟨Int.emod_nonneg _ (by omega), Int.emod_lt_of_pos _ (by omega)⟩
theorem sealS_size (s : ByteArray) : (sealS s).size = s.size + 1 := by
  unfold sealS
  rw [ByteArray.size_append]
  rfl
theorem ok_iSealOf (s : ByteArray) (hs : s.size ≤ 140737488355328) : CallOK Try.prog 27 [.c (ps s)] (.c (ps (sealS s))) [.c (ps s)] := by
  refine okS (fn := Try.f27) [] h0 Try.func27 (by kernel_rfl) rfl Try.ntmps27 Try.results27 (by simp) ?_
  simp
  refine loopS [0, 3, 6, 7] [] (fun n st => ∃ (i : Nat) (h : Int), i + n = s.size ∧ 0 ≤ h ∧ h < 251 ∧ sealH (s.data.toList.drop i) h = sealH s.data.toList 7 ∧ st = ⟨slOf 25 [(0, .t (ps s)), (3, .t (pi h)), (6, .t (pi s.size)), (7, .t (pi i))], ofL []⟩) s.size ?_ ?_
  · rintro Inv hI
    simp
    subst hI
    exact ⟨0, 7, by omega, by omega, by omega, rfl, rfl⟩
  · rintro Inv hI n st ⟨i, h, hi, h1, h2, hg, rfl⟩
    refine ewr_sound (M := []) h0 ?_
    simp
    refine brn_app (fun a => ?_) (fun a => ?_)
    · simp at a
      have hb := byteAt_range s i
      have e1 : IntKind.wrap .i64 (31 * h) = 31 * h := wrap64 (by omega) (by omega)
      have e2 : IntKind.wrap .i64 (byteAt s i) = byteAt s i := wrap64 (by omega) (by omega)
      have e3 : IntKind.wrap .i64 (31 * h + byteAt s i) = 31 * h + byteAt s i := wrap64 (by omega) (by omega)
      have e4 : (31 * h + byteAt s i).tmod 251 = (31 * h + byteAt s i) % 251 := Int.tmod_eq_emod_of_nonneg (by omega)
      have hl : i < s.data.toList.length := by simpa using a
      rw [List.drop_eq_getElem_cons hl] at hg
      simp [a, e1, e2, e3, e4]
      subst hI
      refine Less_mk (n - 1) (by omega) ⟨i + 1, (31 * h + byteAt s i) % 251, by omega, by omega, by omega, ?_, by rw [wrNext i (by omega)]⟩
      rw [byteAt_list s i a]
      exact hg
    · simp at a
      rw [List.drop_of_length_le (by simp; omega)] at hg
      have hg' : h = sealH s.data.toList 7 := hg
      subst hg'
      have e5 : IntKind.wrap .u8 (sealH s.data.toList 7) = sealH s.data.toList 7 := by simp [IntKind.wrap, IntKind.bits, IntKind.signed]; omega
      have e6 : s.size + (strOf [sealH s.data.toList 7]).size ≤ 9223372036854775807 := by
        have : (strOf [sealH s.data.toList 7]).size = 1 := rfl
        omega
      simp [e5, e6, sealS]
theorem ok_sSealOf (s : ByteArray) (hs : s.size ≤ 140737488355328) : CallOK Try.prog 32 [.c (ps s)] (.c (ps (sealS s))) [.c (ps s)] := by
  refine okS (fn := Try.f32) [] h0 Try.func32 (by kernel_rfl) rfl Try.ntmps32 Try.results32 (by simp) ?_
  simp
  refine loopS [0, 3, 4] [] (fun n st => ∃ (i : Nat) (h : Int), i + n = s.size ∧ 0 ≤ h ∧ h < 251 ∧ sealH (s.data.toList.drop i) h = sealH s.data.toList 7 ∧ st = ⟨slOf 25 [(0, .t (ps s)), (3, .t (pi h)), (4, .t (pi i))], ofL []⟩) s.size ?_ ?_
  · rintro Inv hI
    simp
    subst hI
    exact ⟨0, 7, by omega, by omega, by omega, rfl, rfl⟩
  · rintro Inv hI n st ⟨i, h, hi, h1, h2, hg, rfl⟩
    refine ewr_sound (M := []) h0 ?_
    simp
    refine brn_app (fun a => ?_) (fun a => ?_)
    · simp at a
      have hb := byteAt_range s i
      have e1 : IntKind.wrap .i64 (31 * h) = 31 * h := wrap64 (by omega) (by omega)
      have e2 : IntKind.wrap .i64 (byteAt s i) = byteAt s i := wrap64 (by omega) (by omega)
      have e3 : IntKind.wrap .i64 (31 * h + byteAt s i) = 31 * h + byteAt s i := wrap64 (by omega) (by omega)
      have e4 : (31 * h + byteAt s i).tmod 251 = (31 * h + byteAt s i) % 251 := Int.tmod_eq_emod_of_nonneg (by omega)
      have hl : i < s.data.toList.length := by simpa using a
      rw [List.drop_eq_getElem_cons hl] at hg
      simp [a, e1, e2, e3, e4]
      subst hI
      refine Less_mk (n - 1) (by omega) ⟨i + 1, (31 * h + byteAt s i) % 251, by omega, by omega, by omega, ?_, by rw [wrNext i (by omega)]⟩
      rw [byteAt_list s i a]
      exact hg
    · simp at a
      rw [List.drop_of_length_le (by simp; omega)] at hg
      have hg' : h = sealH s.data.toList 7 := hg
      subst hg'
      have e5 : IntKind.wrap .u8 (sealH s.data.toList 7) = sealH s.data.toList 7 := by simp [IntKind.wrap, IntKind.bits, IntKind.signed]; omega
      have e6 : s.size + (strOf [sealH s.data.toList 7]).size ≤ 9223372036854775807 := by
        have : (strOf [sealH s.data.toList 7]).size = 1 := rfl
        omega
      simp [e5, e6, sealS]
def rUnseal (s : ByteArray) : ByteArray × Bool := if s.size ≠ 0 ∧ sealS (s.extract 0 (s.size - 1)) = s then (s.extract 0 (s.size - 1), true) else (⟨#[]⟩, false)
theorem empty_size (s : ByteArray) : s = ⟨#[]⟩ ↔ s.size = 0 := by
  constructor
  · rintro rfl; rfl
  · intro h
    apply bytes_toList_inj
    have h2 : s.data.toList.length = 0 := by simpa using h
    rw [ByteArray.toList_eq, ByteArray.toList_eq, List.length_eq_zero_iff.1 h2]
theorem ok_iUnseal (s : ByteArray) (hs : s.size ≤ 140737488355328) : CallOK Try.prog 28 [.c (ps s)] (.tup [.c (ps (rUnseal s).1), .c (pb (rUnseal s).2)]) [.c (ps s)] := by
  refine okS (fn := Try.f28) [] h0 Try.func28 (by kernel_rfl) rfl Try.ntmps28 Try.results28 (by simp) ?_
  simp
  refine gF (fun a => ?_) (fun a => ?_)
  · simp [a]
    simp at a
    have hz : ¬ s.size = 0 := fun h => a ((empty_size s).2 h)
    have e1 : IntKind.wrap .i64 ((s.size : Int) - 1) = s.size - 1 := wrap64 (by omega) (by omega)
    have e2 : ((s.size : Int) - 1).toNat = s.size - 1 := by omega
    have e3 : (0 : Int) ≤ (s.size : Int) - 1 := by omega
    have e4 : (s.size : Int) - 1 ≤ s.size := by omega
    have f1 : (1 : Int) ≤ s.size := by omega
    have f2 : 0 < s.size := by omega
    have f3 : 1 ≤ s.size := by omega
    have f4 : (0 : Int) < s.size := by omega
    have g1 : (s.extract 0 (s.size - 1)).size ≤ 140737488355328 := by rw [ByteArray.size_extract]; omega
    simp [e1, e2, e3, e4, f1, f2, f3, f4]
    refine Inv_intro (ok_iSealOf _ g1) ?_
    simp
    refine brn_app (fun b => ?_) (fun b => ?_)
    · simp at b
      simp [rUnseal, b]
    · simp at b
      simp [e1, e2, e3, e4, f1, f2, f3, f4, rUnseal, b, hz]
  · simp at a
    subst a
    have hz : ByteArray.size ⟨#[]⟩ = 0 := rfl
    simp [rUnseal, hz]
theorem ok_sUnseal (s : ByteArray) (hs : s.size ≤ 140737488355328) : CallOK Try.prog 30 [.c (ps s)] (.tup [.c (ps (rUnseal s).1), .c (pb (rUnseal s).2)]) [.c (ps s)] := by
  refine okS (fn := Try.f30) [] h0 Try.func30 (by kernel_rfl) rfl Try.ntmps30 Try.results30 (by simp) ?_
  simp
  refine gF (fun a => ?_) (fun a => ?_)
  · simp [a]
    simp at a
    have hz : ¬ s.size = 0 := fun h => a ((empty_size s).2 h)
    have e1 : IntKind.wrap .i64 ((s.size : Int) - 1) = s.size - 1 := wrap64 (by omega) (by omega)
    have e2 : ((s.size : Int) - 1).toNat = s.size - 1 := by omega
    have e3 : (0 : Int) ≤ (s.size : Int) - 1 := by omega
    have e4 : (s.size : Int) - 1 ≤ s.size := by omega
    have f1 : (1 : Int) ≤ s.size := by omega
    have f2 : 0 < s.size := by omega
    have f3 : 1 ≤ s.size := by omega
    have f4 : (0 : Int) < s.size := by omega
    have g1 : (s.extract 0 (s.size - 1)).size ≤ 140737488355328 := by rw [ByteArray.size_extract]; omega
    simp [e1, e2, e3, e4, f1, f2, f3, f4]
    refine Inv_intro (ok_sSealOf _ g1) ?_
    simp
    refine brn_app (fun b => ?_) (fun b => ?_)
    · simp at b
      simp [rUnseal, b]
    · simp at b
      simp [e1, e2, e3, e4, f1, f2, f3, f4, rUnseal, b, hz]
  · simp at a
    subst a
    have hz : ByteArray.size ⟨#[]⟩ = 0 := rfl
    simp [rUnseal, hz]
def numB (a b : Int) : Int := bitOr .i64 (IntKind.wrap .i64 (a * 2 ^ min 8 IntKind.i64.bits)) b
def tellsR (s : ByteArray) : Int × Int × Bool := if ((rUnseal s).2 && decide ((rUnseal s).1.size = 3)) = true then (numB (byteAt (rUnseal s).1 0) (byteAt (rUnseal s).1 1), byteAt (rUnseal s).1 2, decide (numB (byteAt (rUnseal s).1 0) (byteAt (rUnseal s).1 1) < 1000) && decide (byteAt (rUnseal s).1 2 ≤ 72)) else (0, 0, false)
theorem byteAt_bd (s : ByteArray) (i : Nat) : 0 ≤ byteAt s i ∧ byteAt s i < 256 := by
  unfold byteAt
  split
  · rename_i b _
    have := b.toNat_lt
    omega
  · omega
theorem rUnseal_size (s : ByteArray) : (rUnseal s).1.size ≤ s.size := by
  unfold rUnseal
  split
  · simp
  · exact Nat.zero_le _
theorem ok_tells (s : ByteArray) (hs : s.size ≤ 140737488355328) : CallOK Try.prog 124 [.c (ps s)] (.tup [.c (pi (tellsR s).1), .c (pi (tellsR s).2.1), .c (pb (tellsR s).2.2)]) [.c (ps s)] := by
  refine okS (fn := Try.f124) [] h0 Try.func124 (by kernel_rfl) rfl Try.ntmps124 Try.results124 (by simp) ?_
  simp
  refine Inv_intro (ok_iUnseal s hs) ?_
  simp
  cases c1 : (rUnseal s).2 with
  | false => simp [tellsR, c1]
  | true =>
    generalize hb : (rUnseal s).1 = b at *
    by_cases c2 : b.size = 3
    · have e0 : IntKind.wrap .i64 (byteAt b 0) = byteAt b 0 := wrap64 (by have := byteAt_bd b 0; omega) (by have := byteAt_bd b 0; omega)
      have e1 : IntKind.wrap .i64 (byteAt b 1) = byteAt b 1 := wrap64 (by have := byteAt_bd b 1; omega) (by have := byteAt_bd b 1; omega)
      have e2 : IntKind.wrap .i64 (byteAt b 2) = byteAt b 2 := wrap64 (by have := byteAt_bd b 2; omega) (by have := byteAt_bd b 2; omega)
      simp [c2]
      refine drawP (tabEnv [] _) [⟨[], allD 40, true⟩, ⟨[], allD 40, true⟩, ⟨[], allD 40, true⟩, ⟨[], allD 40, true⟩, ⟨[], allD 40, true⟩, ⟨[], allD 40, true⟩, ⟨[], allD 40, true⟩, ⟨[], allD 40, true⟩, ⟨[], allD 40, true⟩, ⟨[], allD 40, true⟩, ⟨[], allD 40, true⟩, ⟨[], allD 40, true⟩, ⟨[], allD 40, true⟩] h0 hm (tabEnv_ok tab_nil) (by kernel_rfl) (by kernel_rfl) ?_
      simp [c2, e0, e1, e2]
      have hN : bitOr IntKind.i64 (IntKind.wrap IntKind.i64 (byteAt b 0 * 2 ^ min 8 IntKind.i64.bits)) (byteAt b 1) = numB (byteAt b 0) (byteAt b 1) := rfl
      rw [hN]
      have er : tellsR s = (numB (byteAt b 0) (byteAt b 1), byteAt b 2, decide (numB (byteAt b 0) (byteAt b 1) < 1000) && decide (byteAt b 2 ≤ 72)) := by simp [tellsR, c1, hb, c2]
      rw [er]
      generalize numB (byteAt b 0) (byteAt b 1) = N
      refine gT (fun d => ?_) (fun d => ?_)
      · simp at d
        simp [d]
      · simp at d
        have d' : ¬ N < 1000 := by omega
        simp [d']
    · have c2' : ¬ (b.size : Int) = 3 := by omega
      simp [c2', tellsR, c1, hb, c2]
theorem ok_l17Read (s : ByteArray) (hs : s.size ≤ 140737488355328) : CallOK Try.prog 128 [.c (ps s)] (.tup [.c (pi (tellsR s).1), .c (pi (tellsR s).2.1), .c (pb (tellsR s).2.2)]) [.c (ps s)] := by
  refine okS (fn := Try.f128) [] h0 Try.func128 (by kernel_rfl) rfl Try.ntmps128 Try.results128 (by simp) ?_
  simp
  refine Inv_intro (ok_sUnseal s hs) ?_
  simp
  cases c1 : (rUnseal s).2 with
  | false => simp [tellsR, c1]
  | true =>
    generalize hb : (rUnseal s).1 = b
    by_cases c2 : b.size = 3
    · have e0 : IntKind.wrap .i64 (byteAt b 0) = byteAt b 0 := wrap64 (by have := byteAt_bd b 0; omega) (by have := byteAt_bd b 0; omega)
      have e1 : IntKind.wrap .i64 (byteAt b 1) = byteAt b 1 := wrap64 (by have := byteAt_bd b 1; omega) (by have := byteAt_bd b 1; omega)
      have e2 : IntKind.wrap .i64 (byteAt b 2) = byteAt b 2 := wrap64 (by have := byteAt_bd b 2; omega) (by have := byteAt_bd b 2; omega)
      simp [c2]
      refine drawP (tabEnv [] _) [⟨[], allD 39, true⟩, ⟨[], allD 39, true⟩, ⟨[], allD 39, true⟩, ⟨[], allD 39, true⟩, ⟨[], allD 39, true⟩, ⟨[], allD 39, true⟩, ⟨[], allD 39, true⟩, ⟨[], allD 39, true⟩, ⟨[], allD 39, true⟩] h0 hm (tabEnv_ok tab_nil) (by kernel_rfl) (by kernel_rfl) ?_
      simp [c2, e0, e1, e2]
      have hN : bitOr IntKind.i64 (IntKind.wrap IntKind.i64 (byteAt b 0 * 2 ^ min 8 IntKind.i64.bits)) (byteAt b 1) = numB (byteAt b 0) (byteAt b 1) := rfl
      rw [hN]
      have er : tellsR s = (numB (byteAt b 0) (byteAt b 1), byteAt b 2, decide (numB (byteAt b 0) (byteAt b 1) < 1000) && decide (byteAt b 2 ≤ 72)) := by simp [tellsR, c1, hb, c2]
      rw [er]
      generalize numB (byteAt b 0) (byteAt b 1) = N
      refine drawP (tabEnv [] _) [⟨[], allD 39, true⟩, ⟨[], allD 39, true⟩, ⟨[], allD 39, true⟩, ⟨[], allD 39, true⟩, ⟨[], allD 39, true⟩, ⟨[], allD 39, true⟩, ⟨[], allD 39, true⟩, ⟨[], allD 39, true⟩, ⟨[], allD 39, true⟩, ⟨[], allD 39, true⟩, ⟨[], allD 39, true⟩, ⟨[], allD 39, true⟩, ⟨[], allD 39, true⟩, ⟨[], allD 39, true⟩] h0 hm (tabEnv_ok tab_nil) (by kernel_rfl) (by kernel_rfl) ?_
      by_cases d : N < 1000
      · simp [c2, d, e2]
      · simp [c2, d, e2]
    · have c2' : ¬ (b.size : Int) = 3 := by omega
      simp [c2', tellsR, c1, hb, c2]
def nwStep (h : Int × Int × Int) (k : Int) (t : Int × Int × Bool) : Int × Int × Int := if (t.2.2 && (decide (h.1 < 0) || decide (h.2.1 < t.1))) = true then (k, t.1, t.2.1) else h
def secAt (ss : List ByteArray) (i : Nat) : ByteArray := ss[i]?.getD ⟨#[]⟩
theorem secAt_get (ss : List ByteArray) (i : Nat) (h : i < ss.length) : secAt ss i = ss[i] := by simp [secAt, List.getElem?_eq_getElem h]
def nwI (ss : List ByteArray) : Nat → Int × Int × Int
  | 0 => (-1, 0, 0)
  | i + 1 => nwStep (nwI ss i) i (tellsR (secAt ss (8 + i)))
def newR (ss : List ByteArray) : Int × Int × Int := nwI ss 2
theorem ok_newest (k : Nat) (d : GDisk) (h10 : d.Sectors.length = 10) (hs : ∀ s ∈ d.Sectors, s.size ≤ 140737488355328) : CallOK Try.prog 98 [.agg (GDisk.ci k d)] (.tup [.c (pi (newR d.Sectors).1), .c (pi (newR d.Sectors).2.1), .c (pi (newR d.Sectors).2.2), .c (pb (decide (0 ≤ (newR d.Sectors).1)))]) [.agg (GDisk.ci k d)] := by
  refine okS (fn := Try.f98) [] h0 Try.func98 (by kernel_rfl) rfl Try.ntmps98 Try.results98 (by simp) ?_
  simp
  refine loopS [1, 6, 7, 8, 13] [.op 0 0 0] (fun m st => ∃ (i : Nat), i + m = 2 ∧ st = ⟨slOf 46 [(1, .ptr ⟨.op 0 0 0, []⟩ 0), (6, .t (pi (nwI d.Sectors i).1)), (7, .t (pi (nwI d.Sectors i).2.1)), (8, .t (pi (nwI d.Sectors i).2.2)), (13, .t (pi i))], ofL [(.op 0 0 0, .sl 0 29 1 (GDisk.ci k d))]⟩) 2 ?_ ?_
  · rintro Inv hI
    simp
    subst hI
    exact ⟨0, by omega, rfl⟩
  · rintro Inv hI m st ⟨i, hi, rfl⟩
    have hstep : nwI d.Sectors (i + 1) = nwStep (nwI d.Sectors i) i (tellsR (secAt d.Sectors (8 + i))) := rfl
    generalize hH : nwI d.Sectors i = H at hstep ⊢
    obtain ⟨H1, H2, H3⟩ := H
    refine ewr_sound (M := []) h0 ?_
    simp
    refine brn_app (fun a => ?_) (fun a => ?_)
    · simp at a
      obtain ⟨q, hq⟩ : ∃ q, q = 8 + i := ⟨_, rfl⟩
      rw [← hq] at hstep
      have hil : q < d.Sectors.length := by omega
      have hw : IntKind.wrap .i64 (8 + (i : Int)) = (q : Int) := (wrap64 (by omega) (by omega)).trans (by omega)
      rw [secAt_get _ _ hil] at hstep
      simp [hw, hil]
      refine Inv_intro (ok_tells d.Sectors[q] (hs _ (List.getElem_mem hil))) ?_
      generalize tellsR d.Sectors[q] = t at hstep ⊢
      obtain ⟨t1, t2, t3⟩ := t
      cases t3 with
      | false =>
        simp
        subst hI
        refine Less_mk (m - 1) (by omega) ⟨i + 1, by omega, ?_⟩
        rw [wrNext i (by omega), hstep]
        rfl
      | true =>
        simp
        by_cases c1 : H1 < 0
        · simp [c1]
          subst hI
          refine Less_mk (m - 1) (by omega) ⟨i + 1, by omega, ?_⟩
          rw [wrNext i (by omega), hstep]
          simp [nwStep, c1]
        · by_cases c2 : H2 < t1
          · simp [c1, c2]
            subst hI
            refine Less_mk (m - 1) (by omega) ⟨i + 1, by omega, ?_⟩
            rw [wrNext i (by omega), hstep]
            simp [nwStep, c1, c2]
          · simp [c1, c2]
            subst hI
            refine Less_mk (m - 1) (by omega) ⟨i + 1, by omega, ?_⟩
            rw [wrNext i (by omega), hstep]
            simp [nwStep, c1, c2]
    · simp at a
      have : i = 2 := by omega
      subst this
      have hn : newR d.Sectors = (H1, H2, H3) := hH
      simp [hn]
def swNew (ss : List ByteArray) : Int := if ((tellsR (secAt ss 8)).2.2 && (!(tellsR (secAt ss 9)).2.2 || decide ((tellsR (secAt ss 9)).1 ≤ (tellsR (secAt ss 8)).1))) = true then 0 else if (tellsR (secAt ss 9)).2.2 = true then 1 else -1
theorem swNew_eq (ss : List ByteArray) : swNew ss = (newR ss).1 := by
  have e : newR ss = nwStep (nwStep (-1, 0, 0) (0 : Nat) (tellsR (secAt ss 8))) (1 : Nat) (tellsR (secAt ss 9)) := rfl
  rw [e, swNew]
  generalize tellsR (secAt ss 8) = a
  generalize tellsR (secAt ss 9) = b
  obtain ⟨a1, a2, a3⟩ := a
  obtain ⟨b1, b2, b3⟩ := b
  cases a3 with
  | false => cases b3 <;> simp [nwStep]
  | true =>
    cases b3 with
    | false => simp [nwStep]
    | true =>
      by_cases c : b1 ≤ a1
      · have c' : ¬ a1 < b1 := by omega
        simp [nwStep, c, c']
      · have c' : a1 < b1 := by omega
        simp [nwStep, c, c']
theorem ok_l17Newest (k : Nat) (d : GDisk) (h10 : d.Sectors.length = 10) (hs : ∀ s ∈ d.Sectors, s.size ≤ 140737488355328) : CallOK Try.prog 105 [.agg (GDisk.ci k d)] (.c (pi (swNew d.Sectors))) [.agg (GDisk.ci k d)] := by
  have l8 : 8 < d.Sectors.length := by omega
  have l9 : 9 < d.Sectors.length := by omega
  refine okS (fn := Try.f105) [] h0 Try.func105 (by kernel_rfl) rfl Try.ntmps105 Try.results105 (by simp) ?_
  have f8 : (8 : Int) < d.Sectors.length := by omega
  have f9 : (9 : Int) < d.Sectors.length := by omega
  simp [l8, l9, f8, f9]
  refine Inv_intro (ok_l17Read d.Sectors[8] (hs _ (List.getElem_mem l8))) ?_
  simp [l8, l9, f8, f9]
  refine Inv_intro (ok_l17Read d.Sectors[9] (hs _ (List.getElem_mem l9))) ?_
  unfold swNew
  rw [secAt_get _ _ l8, secAt_get _ _ l9]
  generalize tellsR d.Sectors[8] = a
  generalize tellsR d.Sectors[9] = b
  obtain ⟨a1, a2, a3⟩ := a
  obtain ⟨b1, b2, b3⟩ := b
  cases a3 with
  | false => cases b3 <;> simp
  | true =>
    cases b3 with
    | false => simp
    | true =>
      by_cases c : b1 ≤ a1
      · simp [c]
      · simp [c]
theorem newR_cases (ss : List ByteArray) : (newR ss).1 = -1 ∨ (∃ h : Nat, h ≤ 1 ∧ newR ss = ((h : Int), (tellsR (secAt ss (8 + h))).1, (tellsR (secAt ss (8 + h))).2.1)) := by
  have e : newR ss = nwStep (nwStep (-1, 0, 0) (0 : Nat) (tellsR (secAt ss (8 + 0)))) (1 : Nat) (tellsR (secAt ss (8 + 1))) := rfl
  have key : ∀ a b : Int × Int × Bool, nwStep (nwStep (-1, 0, 0) (0 : Nat) a) (1 : Nat) b = (-1, 0, 0) ∨ nwStep (nwStep (-1, 0, 0) (0 : Nat) a) (1 : Nat) b = (((0 : Nat) : Int), a.1, a.2.1) ∨ nwStep (nwStep (-1, 0, 0) (0 : Nat) a) (1 : Nat) b = (((1 : Nat) : Int), b.1, b.2.1) := by
    rintro ⟨a1, a2, a3⟩ ⟨b1, b2, b3⟩
    cases a3 with
    | false => cases b3 <;> simp [nwStep]
    | true =>
      cases b3 with
      | false => simp [nwStep]
      | true => by_cases c : a1 < b1 <;> simp [nwStep, c]
  rw [e]
  rcases key (tellsR (secAt ss (8 + 0))) (tellsR (secAt ss (8 + 1))) with h | h | h
  · exact .inl (by rw [h])
  · exact .inr ⟨0, by omega, h⟩
  · exact .inr ⟨1, by omega, h⟩
theorem tellsR_long (s : ByteArray) : 0 ≤ (tellsR s).2.1 := by
  unfold tellsR
  split
  · exact (byteAt_bd _ _).1
  · exact Int.le_refl _
def cut18 (s : ByteArray) : ByteArray := s.extract 0 (min 18 s.size)
def catCut (l : List ByteArray) : ByteArray := l.foldl (fun t s => t ++ cut18 s) ByteArray.empty
theorem catCut_snoc (l : List ByteArray) (i : Nat) (h : i < l.length) : catCut (l.take (i + 1)) = catCut (l.take i) ++ cut18 l[i] := by
  unfold catCut
  rw [take_step l i h, List.foldl_append]
  rfl
theorem cut18_size (s : ByteArray) : (cut18 s).size ≤ 18 := by
  unfold cut18
  rw [ByteArray.size_extract]
  omega
theorem catCut_size : ∀ (l : List ByteArray) (i : Nat), i ≤ l.length → (catCut (l.take i)).size ≤ 18 * i
  | l, 0, _ => by simp [catCut]
  | l, i + 1, h => by
    have := catCut_size l i (by omega)
    have h2 := cut18_size l[i]
    rw [catCut_snoc l i (by omega), ByteArray.size_append]
    omega
def loadR (ss : List ByteArray) : ByteArray × Int × Bool := if (newR ss).1 < 0 then (⟨#[]⟩, 0, false) else if ((catCut ((ss.drop (4 * (newR ss).1.toNat)).take 4)).size : Int) < (newR ss).2.2 then (⟨#[]⟩, 0, false) else ((catCut ((ss.drop (4 * (newR ss).1.toNat)).take 4)).extract 0 (newR ss).2.2.toNat, (newR ss).2.1, true)
theorem ok_load (k : Nat) (d : GDisk) (h10 : d.Sectors.length = 10) (hs : ∀ s ∈ d.Sectors, s.size ≤ 140737488355328) : CallOK Try.prog 54 [.agg (GDisk.ci k d)] (.tup [.c (ps (loadR d.Sectors).1), .c (pi (loadR d.Sectors).2.1), .c (pb (loadR d.Sectors).2.2)]) [.agg (GDisk.ci k d)] := by
  refine okS (fn := Try.f54) [] h0 Try.func54 (by kernel_rfl) rfl Try.ntmps54 Try.results54 (by simp) ?_
  simp
  refine Inv_intro (ok_newest k d h10 hs) ?_
  simp
  rcases newR_cases d.Sectors with e | ⟨h, hh, e⟩
  · simp [e, loadR]
  · have hl0 := tellsR_long (secAt d.Sectors (8 + h))
    have er : loadR d.Sectors = if ((catCut ((d.Sectors.drop (4 * h)).take 4)).size : Int) < (tellsR (secAt d.Sectors (8 + h))).2.1 then (⟨#[]⟩, 0, false) else ((catCut ((d.Sectors.drop (4 * h)).take 4)).extract 0 (tellsR (secAt d.Sectors (8 + h))).2.1.toNat, (tellsR (secAt d.Sectors (8 + h))).1, true) := by
      have hn : ¬ (h : Int) < 0 := by omega
      simp [loadR, e, hn]
    rw [er]
    generalize (tellsR (secAt d.Sectors (8 + h))).1 = nu at *
    generalize (tellsR (secAt d.Sectors (8 + h))).2.1 = lo at *
    obtain ⟨xs, hxs⟩ : ∃ xs, xs = (d.Sectors.drop (4 * h)).take 4 := ⟨_, rfl⟩
    have hxl : xs.length = 4 := by rw [hxs]; simp; omega
    have hxm : (List.take 4 (List.drop (4 * h) (d.Sectors.map ps))) = xs.map ps := by rw [hxs, List.map_take, List.map_drop]
    have hxz : ∀ s ∈ xs, s.size ≤ 140737488355328 := fun s hsx => hs s (by rw [hxs] at hsx; exact List.mem_of_mem_drop (List.mem_of_mem_take hsx))
    rw [← hxs]
    obtain ⟨m4, hm4⟩ : ∃ m4, m4 = 4 * h := ⟨_, rfl⟩
    obtain ⟨n4, hn4⟩ : ∃ n4, n4 = m4 + 4 := ⟨_, rfl⟩
    rw [← hm4] at hxm
    have w1 : IntKind.wrap .i64 (4 * (h : Int)) = (m4 : Int) := (wrap64 (by omega) (by omega)).trans (by omega)
    have w2 : IntKind.wrap .i64 ((m4 : Int) + 4) = (n4 : Int) := (wrap64 (by omega) (by omega)).trans (by omega)
    have b1 : m4 ≤ n4 := by omega
    have b2 : n4 ≤ d.Sectors.length := by omega
    have b3 : n4 - m4 = 4 := by omega
    have hn : ¬ (h : Int) < 0 := by omega
    simp [e, hn, w1, w2, b1, b2, b3, hxm]
    refine loopS [6, 7, 9, 28, 29, 30] [] (fun m st => ∃ (i : Nat), i + m = xs.length ∧ st = ⟨slOf 50 [(6, .t (pi nu)), (7, .t (pi lo)), (9, .t (ps (catCut (xs.take i)))), (28, .t (rd k 4 (xs.map ps))), (29, .t (pi 4)), (30, .t (pi i))], ofL []⟩) xs.length ?_ ?_
    · rintro Inv hI
      simp
      subst hI
      exact ⟨0, by omega, rfl⟩
    · rintro Inv hI m st ⟨i, hi, rfl⟩
      have hZ := catCut_size xs i (by omega)
      have hS := catCut_snoc xs i
      generalize hZe : catCut (xs.take i) = Z at hZ hS ⊢
      refine ewr_sound (M := []) h0 ?_
      simp
      refine brn_app (fun a => ?_) (fun a => ?_)
      · simp at a
        have hil : i < xs.length := by omega
        have hx := hxz _ (List.getElem_mem hil)
        have hS' := hS hil
        by_cases c : xs[i].size < 18
        · have hcut : cut18 xs[i] = xs[i].extract 0 xs[i].size := by rw [cut18, Nat.min_eq_right (by omega)]
          have z1 : Z.size + (xs[i].extract 0 xs[i].size).size ≤ 9223372036854775807 := by rw [ByteArray.size_extract]; omega
          have c0 : (xs[i].size : Int) < 18 := by omega
          have z2 : Z.size + xs[i].size ≤ 9223372036854775807 := by omega
          simp [a, hil, c, c0, z1, z2]
          subst hI
          refine Less_mk (m - 1) (by omega) ⟨i + 1, by omega, ?_⟩
          rw [wrNext i (by omega), hS', hcut]
          try simp
        · have hcut : cut18 xs[i] = xs[i].extract 0 18 := by rw [cut18, Nat.min_eq_left (by omega)]
          have z1 : Z.size + (xs[i].extract 0 18).size ≤ 9223372036854775807 := by rw [ByteArray.size_extract]; omega
          have c' : 18 ≤ xs[i].size := by omega
          have c2 : (18 : Int) ≤ xs[i].size := by omega
          have c0 : ¬ (xs[i].size : Int) < 18 := by omega
          have z2 : Z.size + 18 ≤ 9223372036854775807 := by omega
          have z3 : Z.size + min 18 xs[i].size ≤ 9223372036854775807 := by omega
          simp [a, hil, c, c', c2, c0, z1, z2, z3]
          subst hI
          refine Less_mk (m - 1) (by omega) ⟨i + 1, by omega, ?_⟩
          rw [wrNext i (by omega), hS', hcut]
          try simp
      · simp at a
        have hil : i = xs.length := by omega
        have ht : List.take i xs = xs := List.take_of_length_le (by omega)
        rw [ht] at hZe
        subst hZe
        simp
        refine brn_app (fun b => ?_) (fun b => ?_)
        · simp at b
          simp [b]
        · simp at b
          have b' : ¬ ((catCut xs).size : Int) < lo := by omega
          have b2 : lo ≤ (catCut xs).size := b
          simp [hl0, b', b2]
def rLoadFrom (d : GDisk) : ByteArray × Int × Bool := if goodDisk d = true then loadR d.Sectors else (⟨#[]⟩, 0, false)
theorem goodDisk_secs {d : GDisk} (h : goodDisk d = true) : d.Sectors.length = 10 ∧ ∀ s ∈ d.Sectors, s.size ≤ 20 := by
  simp only [goodDisk, Bool.and_eq_true, decide_eq_true_eq, List.all_eq_true] at h
  exact ⟨h.1.1.1, h.1.2⟩
theorem law_iLoadFrom (v0 : GDisk) (hw0 : v0.wt ≤ 1048576) : CallOK Try.prog 10 [.agg (GDisk.ci 0 v0)] (.tup [.c (ps (rLoadFrom v0).1), .c (pi (rLoadFrom v0).2.1), .c (pb (rLoadFrom v0).2.2)]) [.agg (GDisk.ci 0 v0)] := by
  have hl := disk_len hw0
  refine okS (fn := Try.f10) [] h0 Try.func10 (by kernel_rfl) rfl Try.ntmps10 Try.results10 (by simp) ?_
  simp
  refine Inv_intro (ok_iGoodDisk 0 v0 (by omega) (by omega)) ?_
  cases c1 : goodDisk v0 with
  | false => simp [rLoadFrom, c1]
  | true =>
    obtain ⟨h10, hs⟩ := goodDisk_secs c1
    have er : rLoadFrom v0 = loadR v0.Sectors := by simp [rLoadFrom, c1]
    simp
    refine Inv_intro (ok_load 0 v0 h10 fun s hx => by have := hs s hx; omega) ?_
    simp [er]
theorem bytesOf_pu : ∀ l : List Int, bytesOf (l.map pu) = some l
  | [] => rfl
  | n :: l => by simp [bytesOf, bytesOf_pu l]
theorem strOf_app (a b : List Int) : strOf a ++ strOf b = strOf (a ++ b) := by
  apply ByteArray.ext
  unfold strOf
  simp
theorem strOf_size (l : List Int) : (strOf l).size = l.length := by simp [strOf, ByteArray.size]
def tb (n : Int) (i : Nat) : Int := IntKind.wrap .u8 (n.fdiv (2 ^ min (8 * (i : Int)).toNat IntKind.i64.bits))
def outQ (n : Int) (c q : Nat) : List Int := (List.range q).map fun j => tb n (c - 1 - j)
theorem outQ_snoc (n : Int) (c q : Nat) : outQ n c (q + 1) = outQ n c q ++ [tb n (c - 1 - q)] := by
  unfold outQ
  rw [List.range_succ, List.map_append]
  rfl
theorem outQ_len (n : Int) (c q : Nat) : (outQ n c q).length = q := by simp [outQ]
theorem ok_bytesOf (n : Int) (c : Nat) (hc : c ≤ 8) : CallOK Try.prog 107 [.c (pi n), .c (pi c)] (.c (ps (strOf (outQ n c c)))) [.c (pi n), .c (pi c)] := by
  refine okS (fn := Try.f107) [] h0 Try.func107 (by kernel_rfl) rfl Try.ntmps107 Try.results107 (by simp) ?_
  have w0 : IntKind.wrap .i64 ((c : Int) - 1) = (c : Int) - 1 := wrap64 (by omega) (by omega)
  simp [w0]
  refine ewp_sw (.op 1 0 0) (.op 5 7 0) rfl rfl ?_
  simp
  refine loopS [0, 5, 6] [.op 5 7 0] (fun m st => ∃ (q : Nat), q + m = c ∧ st = ⟨slOf 24 [(0, .t (pi n)), (5, .ref ⟨.op 5 7 0, []⟩ 0 q), (6, .t (pi ((c : Int) - 1 - q)))], ofL [(.op 5 7 0, .sl 0 5 q ((outQ n c q).map pu))]⟩) c ?_ ?_
  · rintro Inv hI
    simp
    subst hI
    exact ⟨0, by omega, by simp [outQ]⟩
  · rintro Inv hI m st ⟨q, hq, rfl⟩
    have hS := outQ_snoc n c q
    have hA : ((outQ n c q).map pu).length = q := by rw [List.length_map, outQ_len]
    have hB := bytesOf_pu (outQ n c q)
    have hAm : (outQ n c (q + 1)).map pu = (outQ n c q).map pu ++ [pu (tb n (c - 1 - q))] := by rw [hS, List.map_append]; rfl
    generalize hAe : (outQ n c q).map pu = A at hA hB hAm ⊢
    refine ewr_sound (M := []) h0 ?_
    simp
    refine brn_app (fun a => ?_) (fun a => ?_)
    · simp at a
      have hql : q < c := by omega
      obtain ⟨i, hi⟩ : ∃ i, i = c - 1 - q := ⟨_, rfl⟩
      have e1 : (c : Int) - 1 - q = (i : Int) := by omega
      have w1 : IntKind.wrap .i64 (8 * (i : Int)) = 8 * (i : Int) := wrap64 (by omega) (by omega)
      have w2 : IntKind.wrap .i64 ((i : Int) - 1) = (c : Int) - 1 - ((q + 1 : Nat) : Int) := (wrap64 (by omega) (by omega)).trans (by omega)
      have p1 : (0 : Int) ≤ 8 * (i : Int) := by omega
      have b1 : (q + 1) * 1 ≤ 140737488355328 := by omega
      have b2 : q ≤ 9223372036854775806 := by omega
      have ht : A.take q = A := List.take_of_length_le (by omega)
      rw [← hi] at hAm
      have b3 : q ≤ 140737488355327 := by omega
      simp [e1, w1, p1, hA, b1, b2, b3, ht]
      subst hI
      refine Less_mk (m - 1) (by omega) ⟨q + 1, by omega, ?_⟩
      rw [w2, hAm]
      rfl
    · simp at a
      have hqc : q = c := by omega
      subst hqc
      have ht : A.take q = A := List.take_of_length_le (by omega)
      have hF : ∀ x ∈ A, PT.flat x = true := by
        intro x hx
        rw [← hAe] at hx
        obtain ⟨n, _, rfl⟩ := List.mem_map.1 hx
        rfl
      have hF2 : (∀ x ∈ A, PT.flat x = true) ↔ True := ⟨fun _ => trivial, fun _ => hF⟩
      simp [-PT.flat, hA, ht, hB, hF2]
theorem ok_iteller (n : Int) (l : Nat) : CallOK Try.prog 73 [.c (pi n), .c (pi l)] (.c (ps (sealS (strOf [tb n 1, tb n 0, tb l 0])))) [.c (pi n), .c (pi l)] := by
  refine okS (fn := Try.f73) [] h0 Try.func73 (by kernel_rfl) rfl Try.ntmps73 Try.results73 (by simp) ?_
  simp
  refine Inv_intro (ok_bytesOf n 2 (by omega)) ?_
  simp
  refine Inv_intro (ok_bytesOf l 1 (by omega)) ?_
  have e : strOf (outQ n 2 2) ++ strOf (outQ l 1 1) = strOf [tb n 1, tb n 0, tb l 0] := by rw [strOf_app]; rfl
  have z : (strOf (outQ n 2 2)).size + (strOf (outQ l 1 1)).size ≤ 9223372036854775807 := by rw [strOf_size, strOf_size, outQ_len, outQ_len]; omega
  simp [z, e]
  refine Inv_intro (ok_iSealOf _ (by rw [strOf_size]; simp)) ?_
  simp
theorem ok_steller (n : Int) (l : Nat) : CallOK Try.prog 75 [.c (pi n), .c (pi l)] (.c (ps (sealS (strOf [tb n 1, tb n 0, tb l 0])))) [.c (pi n), .c (pi l)] := by
  have e1 : IntKind.wrap .u8 (n.fdiv (2 ^ min 8 IntKind.i64.bits)) = tb n 1 := rfl
  have e0 : ∀ x : Int, tb x 0 = IntKind.wrap .u8 x := by
    intro x
    unfold tb
    simp
  refine okS (fn := Try.f75) [] h0 Try.func75 (by kernel_rfl) rfl Try.ntmps75 Try.results75 (by simp) ?_
  simp [e1]
  refine Inv_intro (ok_sSealOf _ (by rw [strOf_size]; simp)) ?_
  simp [e0]
end Go.V
