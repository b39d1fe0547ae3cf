/- What functions of the seat's program do, each proved of its code, under the bounds that its theorem names. -/
import Derived.Test.YtildjkidohpmbaaGreatTah
import Derived.Deep.AppendSrc
import Derived.Laws.Externs
import Derived.Laws.IdiomCopy
import Derived.Lib.AppendZeros
import Derived.Lib.JoinLaws
import Derived.Lib.Overlaps
import Derived.Lib.SliceRun
import Derived.Lib.Walk
import Derived.Shelf.Spec.SlicesInsert
import Derived.Shelf.Spec.SlicesInsertGrow
import Derived.WalkKit
set_option linter.all false
namespace Go.V
open Go.Proofs
set_option maxHeartbeats 1000000
set_option maxRecDepth 10000
set_option linter.unusedSimpArgs false
set_option linter.unusedVariables false
theorem ci_inj : ∀ {a b : List GLeaf} {k : Nat}, a.flatMap (GLeaf.ci k) = b.flatMap (GLeaf.ci k) → a = b
  | [], [], _, _ => rfl
  | [], y :: b, k, h => by simp at h
  | x :: a, [], k, h => by simp at h
  | x :: a, y :: b, k, h => by
    simp only [List.flatMap_cons, GLeaf.ci, List.cons_append, List.nil_append, List.cons.injEq] at h
    obtain ⟨h1, h2, h3⟩ := h
    have e1 : x.Path = y.Path := by
      simp only [rd, PT.sl.injEq] at h1
      have h4 := h1.2.2.2
      exact List.map_inj_right (fun u v huv => by simpa [ps] using huv) |>.1 h4
    have e2 : x.Value = y.Value := by simpa [ps] using h2
    rw [ci_inj h3]
    cases x; cases y
    simp only at e1 e2
    rw [e1, e2]
def storeB (s : GStore) : Prop := boundC s.Candidate ∧ boundC s.Running ∧ s.History.length ≤ 1048576 ∧ ∀ h ∈ s.History, boundC h
theorem ok_ownStore (k : Nat) (s : GStore) (hs : storeB s) : CallOK Tryz.prog 54 [.agg (GStore.ci k s)] (.agg s.co) [.agg (GStore.ci k s)] := by
  obtain ⟨b1, b2, b3, b4⟩ := hs
  refine okS (fn := Tryz.f54) [] h0 Tryz.func54 (by kernel_rfl) rfl Tryz.ntmps54 Tryz.results54 (by simp) ?_
  simp
  have hE := f2_at2 (a1 := [PV.c (rd k s.Candidate.length (s.Candidate.flatMap (GLeaf.ci k)))]) (a2 := [PV.c (rd k s.Running.length (s.Running.flatMap (GLeaf.ci k)))]) (r1 := .c (.sl 0 58 s.Candidate.length (s.Candidate.flatMap GLeaf.co))) (r2 := .c (.sl 0 58 s.Running.length (s.Running.flatMap GLeaf.co))) (fun e => by
    simp only [List.cons.injEq, PV.c.injEq, rd, PT.sl.injEq, and_true, true_and] at e
    rw [ci_inj e.2])
  refine drawP (fnEnv 38 (f2 [PV.c (rd k s.Candidate.length (s.Candidate.flatMap (GLeaf.ci k)))] [PV.c (rd k s.Running.length (s.Running.flatMap (GLeaf.ci k)))] (.c (.sl 0 58 s.Candidate.length (s.Candidate.flatMap GLeaf.co))) (.c (.sl 0 58 s.Running.length (s.Running.flatMap GLeaf.co)))) (tabEnv [] [])) [⟨[.op 0 0 0], allD 31, true⟩, ⟨[.op 0 0 0], allD 31, true⟩, ⟨[], allD 31, false⟩, ⟨[.op 0 0 0], allD 31, true⟩, ⟨[.op 0 0 0], allD 31, true⟩, ⟨[], allD 31, false⟩, ⟨[.op 0 0 0], allD 31, true⟩, ⟨[.op 0 0 0], allD 31, true⟩, ⟨[.op 1 2 0, .op 1 5 0], allD 31, true⟩, ⟨[], allD 31, false⟩, ⟨[.op 1 9 0, .op 1 2 0, .op 1 5 0], [6, 7, 8, 9, 10, 11, 12, 13, 14, 3], false⟩] h0 hm (fnEnv_ok (tabEnv_ok tab_nil) (f2_ok (ok_ownConfig k s.Candidate b1.1 (fun x hx => (b1.2 x hx).1)) (ok_ownConfig k s.Running b2.1 (fun x hx => (b2.2 x hx).1)))) (by kernel_rfl) (by kernel_rfl) ?_
  simp [f2_at1, hE]
  refine loopS [2, 3, 16, 17, 18] [.op 1 9 0, .op 0 1 0] (fun m st => ∃ (i : Nat), i + m = s.History.length ∧ st = ⟨slOf 31 [(2, .ptr ⟨.op 0 1 0, []⟩ 0), (3, .ptr ⟨.op 1 9 0, []⟩ 0), (16, .t (rd k s.History.length (s.History.map (cLeafSi k)))), (17, .t (pi s.History.length)), (18, .t (pi i))], ofL [(.op 1 9 0, .sl 0 26 1 [.sl 0 58 s.Candidate.length (s.Candidate.flatMap GLeaf.co), .sl 0 58 s.Running.length (s.Running.flatMap GLeaf.co), (if i = 0 then .sl 0 nilE 0 [] else .sl 0 23 i ((s.History.take i).map cLeafSo)), pi s.Left]), (.op 0 1 0, .sl 0 26 1 [.sl 0 nilE 0 [], .sl 0 nilE 0 [], .sl 0 nilE 0 [], pi 0])]⟩) s.History.length ?_ ?_
  · rintro Inv hI
    simp
    subst hI
    exact ⟨0, by omega, rfl⟩
  · rintro Inv hI m st ⟨i, hi, rfl⟩
    have hts0 : ∀ a : i < s.History.length, (s.History.take (i + 1)).map cLeafSo = (s.History.take i).map cLeafSo ++ [cLeafSo s.History[i]] := fun a => by rw [take_step _ i a, List.map_append]; rfl
    have hln0 : i ≤ s.History.length → ((s.History.take i).map cLeafSo).length = i := fun h => by simp; omega
    have hfin : i = s.History.length → (s.History.take i).map cLeafSo = s.History.map cLeafSo := by rintro rfl; rw [List.take_length]
    have hA0 : i = 0 → (s.History.take i).map cLeafSo = [] := by rintro rfl; rfl
    generalize (s.History.take i).map cLeafSo = A at hts0 hln0 hfin hA0 ⊢
    refine ewr_sound (M := []) h0 ?_
    simp
    refine brn_app (fun a => ?_) (fun a => ?_)
    · simp at a
      have hts := hts0 a
      have hln := hln0 (by omega)
      have hb := b4 _ (List.getElem_mem a)
      have hb1 : (i + 1) * 24 ≤ 140737488355328 := by omega
      have hb2 : i + 1 ≤ 9223372036854775807 := by omega
      simp [a]
      by_cases hi0 : i = 0
      · subst hi0
        simp
        refine drawP (tabEnv [] _) [⟨[.op 1 9 0], allD 31, true⟩, ⟨[.op 1 9 0], allD 31, true⟩, ⟨[], allD 31, true⟩, ⟨[], allD 31, false⟩, ⟨[.op 5 3 0], [22, 23, 24, 25, 26, 27, 28], false⟩, ⟨[.op 1 9 0, .op 5 3 0, .op 5 4 0], [22, 23, 24, 25, 26, 27, 28], false⟩, ⟨[.op 1 9 0], allD 31, true⟩, ⟨[.op 1 9 0, .op 5 4 0, .op 5 5 0], [22, 23, 24, 25, 26, 27, 28], false⟩] h0 hm (tabEnv_ok (tab_cons (ok_ownConfig k s.History[0] hb.1 (fun x hx => (hb.2 x hx).1)) tab_nil)) (by kernel_rfl) (by kernel_rfl) ?_
        simp
        subst hI
        refine Less_mk (m - 1) (by omega) ⟨0 + 1, by omega, ?_⟩
        rw [if_neg (by omega), hts, hA0 rfl]
        rfl
      · simp [hi0]
        refine drawP (tabEnv [] _) [⟨[.op 1 9 0], allD 31, true⟩, ⟨[.op 1 9 0], allD 31, true⟩, ⟨[], allD 31, true⟩, ⟨[], allD 31, false⟩, ⟨[.op 5 3 0], [22, 23, 24, 25, 26, 27, 28], false⟩, ⟨[.op 1 9 0, .op 5 3 0, .op 5 4 0, .op 5 5 0], [22, 23, 24, 25, 26, 27, 28], false⟩, ⟨[.op 1 9 0], allD 31, true⟩, ⟨[.op 1 9 0, .op 5 4 0, .op 5 5 0], [22, 23, 24, 25, 26, 27, 28], false⟩] h0 hm (tabEnv_ok (tab_cons (ok_ownConfig k s.History[i] hb.1 (fun x hx => (hb.2 x hx).1)) tab_nil)) (by kernel_rfl) (by kernel_rfl) ?_
        have ht : A.take i = A := List.take_of_length_le (by omega)
        simp [hln, hb1, hb2, ht]
        subst hI
        refine Less_mk (m - 1) (by omega) ⟨i + 1, by omega, ?_⟩
        rw [if_neg (by omega), hts, wrNext i (by omega)]
    · simp at a
      have hin : i = s.History.length := by omega
      by_cases hi0 : i = 0
      · subst hi0
        have : s.History = [] := List.length_eq_zero_iff.1 hin.symm
        simp [this]
      · have hfin := hfin hin
        subst hin
        simp [hi0, hfin]
theorem ok_l16Same (k k' : Nat) (xs ys : List GLeaf) (hx : confOK xs) (hy : confOK ys) : CallOK Tryz.prog 33 [.c (rd k xs.length (xs.flatMap (GLeaf.ci k))), .c (rd k' ys.length (ys.flatMap (GLeaf.ci k')))] (.c (pb (decide (xs = ys)))) [.c (rd k xs.length (xs.flatMap (GLeaf.ci k))), .c (rd k' ys.length (ys.flatMap (GLeaf.ci k')))] := by
  obtain ⟨hxl, hxx⟩ := hx
  obtain ⟨hyl, hyy⟩ := hy
  refine okS (fn := Tryz.f33) [] h0 Tryz.func33 (by kernel_rfl) rfl Tryz.ntmps33 Tryz.results33 (by simp) ?_
  simp
  refine brn_app (fun h => ?_) (fun h => ?_)
  · simp at h
    simp
    rintro rfl
    exact h rfl
  · simp at h
    have hl : ys.length = xs.length := by omega
    simp
    refine loopS [0, 1, 12, 13] [] (fun n st => ∃ (i : Nat), i + n = xs.length ∧ (xs.drop i = ys.drop i ↔ xs = ys) ∧ st = ⟨slOf 42 [(0, .t (rd k xs.length (xs.flatMap (GLeaf.ci k)))), (1, .t (rd k' ys.length (ys.flatMap (GLeaf.ci k')))), (12, .t (pi xs.length)), (13, .t (pi i))], ofL []⟩) xs.length ?_ ?_
    · rintro Inv hI
      simp
      subst hI
      exact ⟨0, by omega, by simp, rfl⟩
    · rintro Inv hI n st ⟨i, hi, htk, rfl⟩
      refine ewr_sound (M := []) h0 ?_
      simp
      refine brn_app (fun h => ?_) (fun h => ?_)
      · simp at h
        have hib : i < ys.length := by omega
        rw [drop_step xs i h, drop_step ys i hib, List.cons.injEq] at htk
        have hd := fm_drop (GLeaf.ci k) 2 (fun _ => rfl) xs i h
        have hlen := fm_len (GLeaf.ci k) 2 (fun _ => rfl) xs
        have hlt : i * 2 < xs.length * 2 := by omega
        have hd' := fm_drop (GLeaf.ci k') 2 (fun _ => rfl) ys i hib
        have hlen' := fm_len (GLeaf.ci k') 2 (fun _ => rfl) ys
        have hlt' : i * 2 < ys.length * 2 := by omega
        have e : (xs[i] = ys[i]) = (xs[i].Value = ys[i].Value ∧ xs[i].Path = ys[i].Path) := by
          cases xs[i]
          cases ys[i]
          simp [And.comm]
        simp
        refine drawP (tabEnv [] _) [⟨[], allD 42, true⟩, ⟨[], allD 42, true⟩, ⟨[], allD 42, true⟩, ⟨[], allD 42, true⟩, ⟨[], allD 42, true⟩, ⟨[], allD 42, true⟩, ⟨[], allD 42, true⟩, ⟨[], allD 42, true⟩, ⟨[], allD 42, true⟩, ⟨[], allD 42, true⟩, ⟨[], allD 42, true⟩, ⟨[], allD 42, true⟩, ⟨[], allD 42, true⟩, ⟨[], allD 42, true⟩, ⟨[], allD 42, true⟩, ⟨[], allD 42, true⟩, ⟨[], allD 42, true⟩, ⟨[], allD 42, true⟩, ⟨[], allD 42, true⟩, ⟨[], allD 42, true⟩, ⟨[], allD 42, true⟩, ⟨[], allD 42, true⟩, ⟨[], allD 42, false⟩, ⟨[], allD 42, true⟩, ⟨[], allD 42, true⟩] h0 hm (tabEnv_ok (tab_cons (ok_l15SamePath k k' xs[i].Path ys[i].Path (hxx _ (List.getElem_mem h)).1.1 (hyy _ (List.getElem_mem hib)).1.1) tab_nil)) (by kernel_rfl) (by kernel_rfl) ?_
        by_cases c1 : xs[i].Value = ys[i].Value
        · by_cases c2 : xs[i].Path = ys[i].Path
          · have c3 : xs[i] = ys[i] := e ▸ ⟨c1, c2⟩
            simp [h, hd, hlen, hlt, hib, hd', hlen', hlt', c1, c2]
            subst hI
            exact Less_mk (n - 1) (by omega) ⟨i + 1, by omega, ⟨fun h4 => htk.1 ⟨c3, h4⟩, fun h4 => (htk.2 h4).2⟩, by rw [wrNext i (by omega)]⟩
          · have c3 : ¬ xs = ys := fun he => c2 (by rw [(htk.2 he).1])
            simp [h, hd, hlen, hlt, hib, hd', hlen', hlt', c1, c2, c3]
        · have c3 : ¬ xs = ys := fun he => c1 (by rw [(htk.2 he).1])
          simp [h, hd, hlen, hlt, hib, hd', hlen', hlt', c1, c3]
      · simp at h
        rw [List.drop_of_length_le (by omega), List.drop_of_length_le (by omega)] at htk
        simp
        exact htk.1 rfl
def confirmS (s : GStore) : GStore := if s.History.head? = some s.Running then { s with Left := 0 } else { s with Left := 0, History := (s.Running :: s.History).take 10 }
theorem ok_l16Confirm (s : GStore) (hs : storeB s) (hh : s.History ≠ []) : CallOK Tryz.prog 59 [.agg s.co] (.agg (confirmS s).co) [.agg [.hole, .hole, .hole, pi s.Left]] := by
  obtain ⟨b1, b2, b3, b4⟩ := hs
  obtain ⟨C, R, H, F⟩ := s
  simp only at b1 b2 b3 b4 hh
  obtain ⟨h0', H', rfl⟩ : ∃ x H', H = x :: H' := by
    cases H with
    | nil => exact absurd rfl hh
    | cons x H' => exact ⟨x, H', rfl⟩
  have hb := b4 h0' (List.mem_cons_self ..)
  simp only [List.length_cons] at b3
  refine okS (fn := Tryz.f59) [] h0 Tryz.func59 (by kernel_rfl) rfl Tryz.ntmps59 Tryz.results59 (by simp) ?_
  simp
  refine drawP (tabEnv [] _) [⟨[.op 0 0 0], allD 29, true⟩, ⟨[.op 0 0 0], allD 29, true⟩, ⟨[.op 0 0 0], allD 29, true⟩, ⟨[.op 0 0 0], allD 29, true⟩, ⟨[.op 0 0 0], allD 29, true⟩, ⟨[.op 0 0 0], allD 29, true⟩, ⟨[.op 0 0 0], [5, 6, 7, 8, 9, 10, 11], false⟩] h0 hm (tabEnv_ok (tab_cons (ok_l16Same 0 0 R h0' (boundC_conf b2) (boundC_conf hb)) tab_nil)) (by kernel_rfl) (by kernel_rfl) ?_
  simp
  refine brn_app (fun a => ?_) (fun a => ?_)
  · simp at a
    have e : confirmS ⟨C, R, h0' :: H', F⟩ = ⟨C, R, h0' :: H', 0⟩ := by simp [confirmS, a]
    rw [e]
    simp
  · simp at a
    have ha : ¬ h0' = R := fun e => a e.symm
    have e : confirmS ⟨C, R, h0' :: H', F⟩ = ⟨C, R, (R :: h0' :: H').take 10, 0⟩ := by simp [confirmS, ha]
    rw [e]
    simp
    refine Inv_intro (ok_l15Own 0 R b2.1 (fun x hx => (b2.2 x hx).1)) ?_
    have b5 : (1 + (H'.length + 1)) * 24 ≤ 140737488355328 := by omega
    have b6 : 1 + (H'.length + 1) ≤ 9223372036854775807 := by omega
    simp [b5, b6]
    refine brn_app (fun c => ?_) (fun c => ?_)
    · simp at c
      have c1 : 10 ≤ 1 + (H'.length + 1) := by omega
      have c2 : min 8 H'.length = 8 := by omega
      have c3 : 8 ≤ H'.length := by omega
      have hbnd : bnd none (some (some (Value.int IntKind.i64 10))) (1 + (H'.length + 1)) = some (0, 10) := bnd_ns (by decide) (by omega)
      have hT : ∀ X : List PT, List.take 8 (List.take 8 X) = List.take 8 X := fun X => by rw [List.take_take]; rfl
      simp [c1, c2, c3, hbnd, hT]
    · simp at c
      have c2 : min 8 H'.length = H'.length := by omega
      have c3 : List.take 8 (H'.map cLeafSo) = H'.map cLeafSo := List.take_of_length_le (by rw [List.length_map]; omega)
      have c4 : 1 + (H'.length + 1) = H'.length + 1 + 1 := by omega
      have c5 : ∀ a b : PT, List.take (H'.length + 1 + 1) (a :: b :: H'.map cLeafSo) = a :: b :: H'.map cLeafSo := fun a b => List.take_of_length_le (by simp)
      simp [c2, c3, c4, c5]
theorem delL_snoc (p : List ByteArray) (l : List GLeaf) (i : Nat) (h : i < l.length) : delL p (l.take (i + 1)) = delL p (l.take i) ++ (if begP p l[i].Path = true then [] else [l[i]]) := by
  unfold delL
  rw [take_step l i h, List.filter_append]
  by_cases hb : begP p l[i].Path = true <;> simp [hb, begL]
theorem ok_sDeleteAt (k k' : Nat) (l : List GLeaf) (p : List ByteArray) (hl : l.length ≤ 1048576) (hx : ∀ x ∈ l, x.Path.length ≤ 1048576) (hlo : confOK l) (hp : strsOK p) : CallOK Tryz.prog 58 [.c (rd k l.length (l.flatMap (GLeaf.ci k))), .c (rd k' p.length (p.map ps))] (.tup [.c (.sl 0 58 (rDeleteAt l p).1.length ((rDeleteAt l p).1.flatMap GLeaf.co)), .c (pb (rDeleteAt l p).2)]) [.c (rd k l.length (l.flatMap (GLeaf.ci k))), .c (rd k' p.length (p.map ps))] := by
  refine okS (fn := Tryz.f58) [] h0 Tryz.func58 (by kernel_rfl) rfl Tryz.ntmps58 Tryz.results58 (by simp) ?_
  simp
  refine Inv_intro (ok_sGoodConfig k l hlo) ?_
  simp
  cases c1 : goodC l with
  | false => simp [rDeleteAt, c1]
  | true =>
    simp
    refine Inv_intro (ok_l15Path k' p hp.1 hp.2) ?_
    simp
    cases c2 : isP p with
    | false => simp [rDeleteAt, c2]
    | true =>
      simp
      refine Inv_intro (ok_l15Own k l hl hx) ?_
      have hll := delL_len p l
      have er : rDeleteAt l p = if (delL p l).length = l.length then ([], false) else (delL p l, true) := by
        unfold rDeleteAt
        by_cases h : (delL p l).length = l.length <;> simp [c1, c2, h]
      rw [er]
      simp
      refine ewp_nil 6 (.op 8 3 0) 58 (by decide) rfl rfl rfl ?_
      refine loopS [0, 1, 6, 18, 19, 20] [.op 8 3 0, .op 4 1 0] (fun n st => ∃ (i : Nat) (C : List PT), i + n = l.length ∧ C.length = l.length * 2 ∧ C.drop (i * 2) = (l.drop i).flatMap GLeaf.co ∧ st = ⟨slOf 40 [(0, .t (rd k l.length (l.flatMap (GLeaf.ci k)))), (1, .t (rd k' p.length (p.map ps))), (6, .ref ⟨.op 8 3 0, []⟩ 0 (delL p (l.take i)).length), (18, .ref ⟨.op 4 1 0, []⟩ 0 l.length), (19, .t (pi l.length)), (20, .t (pi i))], ofL [(.op 8 3 0, .sl 0 58 (delL p (l.take i)).length ((delL p (l.take i)).flatMap GLeaf.co)), (.op 4 1 0, .sl 0 58 l.length C)]⟩) l.length ?_ ?_
      · rintro Inv hI
        simp
        subst hI
        exact ⟨0, l.flatMap GLeaf.co, by omega, fm_len GLeaf.co 2 (fun _ => rfl) l, rfl, rfl⟩
      · rintro Inv hI n st ⟨i, C, hi, hCl, hCd0, rfl⟩
        have hO : (delL p (l.take i)).length ≤ i := Nat.le_trans (delL_len _ _) (by simp; omega)
        have hS := delL_snoc p l i
        have hfin : i = l.length → delL p (l.take i) = delL p l := by rintro rfl; rw [List.take_length]
        generalize hOe : delL p (l.take i) = O at hO hS hfin ⊢
        have hA := fm_len GLeaf.co 2 (fun _ => rfl) O
        have hAm : ∀ y, (O ++ [y]).flatMap GLeaf.co = O.flatMap GLeaf.co ++ GLeaf.co y := fun y => by simp
        refine ewr_sound (M := []) h0 ?_
        simp
        refine brn_app (fun a => ?_) (fun a => ?_)
        · simp at a
          have hS' := hS a
          have hCd : C.drop (i * 2) = .sl 0 9 l[i].Path.length (l[i].Path.map ps) :: ps l[i].Value :: (l.drop (i + 1)).flatMap GLeaf.co := by
            rw [hCd0, drop_step _ i a, List.flatMap_cons]
            rfl
          have hCg : ∀ h : i * 2 < C.length, C[i * 2] = .sl 0 9 l[i].Path.length (l[i].Path.map ps) := by
            intro h
            rw [List.drop_eq_getElem_cons h] at hCd
            exact (List.cons.inj hCd).1
          have hCn : C.drop ((i + 1) * 2) = (l.drop (i + 1)).flatMap GLeaf.co := by
            have : (i + 1) * 2 = i * 2 + 2 := by omega
            rw [this, ← List.drop_drop, hCd]
            rfl
          have hb : i * 2 + 2 ≤ l.length * 2 := by omega
          have hp1 := hx _ (List.getElem_mem a)
          simp [a, hCl, hCd, hCg, hb]
          refine Inv_intro (ok_l15Begins k' 0 p l[i].Path hp.1 (by omega)) ?_
          simp
          refine brn_app (fun b => ?_) (fun b => ?_)
          · simp at b
            rw [if_neg (by simp [b])] at hS'
            generalize hAe : O.flatMap GLeaf.co = A at hA hAm ⊢
            have ht : A.take (O.length * 2) = A := List.take_of_length_le (by omega)
            have hb1 : (O.length + 1) * 40 ≤ 140737488355328 := by omega
            have hb2 : O.length + 1 ≤ 9223372036854775807 := by omega
            simp [hA, ht, hb1, hb2]
            subst hI
            refine Less_mk (n - 1) (by omega) ⟨i + 1, C.set (i * 2) .hole, by omega, by rw [List.length_set]; exact hCl, by rw [set_drop C _ _ _ (by omega), hCn], ?_⟩
            rw [hS', wrNext i (by omega), hAm, List.length_append]
            rfl
          · simp at b
            rw [if_pos b, List.append_nil] at hS'
            simp
            subst hI
            refine Less_mk (n - 1) (by omega) ⟨i + 1, C.set (i * 2) .hole, by omega, by rw [List.length_set]; exact hCl, by rw [set_drop C _ _ _ (by omega), hCn], ?_⟩
            rw [hS', wrNext i (by omega)]
        · simp at a
          have hin : i = l.length := by omega
          have hfin := hfin hin
          subst hfin
          simp
          refine brn_app (fun b => ?_) (fun b => ?_)
          · simp at b
            have h : (delL p l).length = l.length := by omega
            simp [h]
          · simp at b
            have h : ¬ (delL p l).length = l.length := by omega
            have ht : ((delL p l).flatMap GLeaf.co).take ((delL p l).length * 2) = (delL p l).flatMap GLeaf.co := List.take_of_length_le (by omega)
            simp [h, hA, ht]
def stepSp (s : GStore) (o : GOp) : GStore × Bool :=
  if l16OpB o = false then (s, false)
  else if o.Kind = 1 then (⟨(rSetAt s.Candidate o.Path o.Value).1, s.Running, s.History, s.Left⟩, (rSetAt s.Candidate o.Path o.Value).2)
  else if o.Kind = 2 then (⟨(rDeleteAt s.Candidate o.Path).1, s.Running, s.History, s.Left⟩, (rDeleteAt s.Candidate o.Path).2)
  else if o.Kind = 3 then (confirmS ⟨s.Candidate, s.Candidate, s.History, s.Left⟩, true)
  else if o.Kind = 4 then (⟨s.Candidate, s.Candidate, s.History, if s.Candidate = s.History.headD [] then 0 else o.N⟩, true)
  else if o.Kind = 5 then (if s.Left = 0 then (s, false) else (confirmS s, true))
  else if o.Kind = 6 then (if (s.History.length : Int) ≤ o.N then (s, false) else (⟨s.History.getD o.N.toNat [], s.Running, s.History, s.Left⟩, true))
  else if o.Kind = 7 then (⟨s.Running, s.Running, s.History, s.Left⟩, true)
  else (if s.Left = 0 then (s, false) else (⟨s.Candidate, (if s.Left - 1 = 0 then s.History.headD [] else s.Running), s.History, s.Left - 1⟩, true))
theorem ok_l16Step (k' : Nat) (s : GStore) (o : GOp) (hs : storeB s) (hh : s.History ≠ []) (hF : 0 ≤ s.Left ∧ s.Left ≤ 100) (hl : s.History.length ≤ 10) (ho : opOK o) : CallOK Tryz.prog 24 [.agg s.co, .agg (GOp.ci k' o)] (.tup [.agg (stepSp s o).1.co, .c (pb (stepSp s o).2)]) [.agg [.hole, .hole, .hole, pi s.Left], .agg (GOp.ci k' o)] := by
  have hop := ok_l16Op k' o ho
  have hcf := ok_l16Confirm s hs hh
  obtain ⟨b1, b2, b3, b4⟩ := hs
  obtain ⟨o1, o2, o3⟩ := ho
  have hcf3 := ok_l16Confirm ⟨s.Candidate, s.Candidate, s.History, s.Left⟩ ⟨b1, b1, b3, b4⟩ hh
  obtain ⟨C, R, H, F⟩ := s
  obtain ⟨K, Pa, V, N⟩ := o
  simp only at b1 b2 b3 b4 hh hF hl o1 o2 o3 hop hcf hcf3
  obtain ⟨h0', H', rfl⟩ : ∃ x H', H = x :: H' := by
    cases H with
    | nil => exact absurd rfl hh
    | cons x H' => exact ⟨x, H', rfl⟩
  have hb := b4 h0' (List.mem_cons_self ..)
  simp only [List.length_cons] at b3 hl
  have w1 : IntKind.i64.wrap (F - 1) = F - 1 := wrap64 (by omega) (by omega)
  refine okS (fn := Tryz.f24) [(59, [2])] h0 Tryz.func24 (by kernel_rfl) rfl Tryz.ntmps24 Tryz.results24 (by simp) ?_
  simp
  refine Inv_intro hop ?_
  simp
  cases c0 : l16OpB ⟨K, Pa, V, N⟩ with
  | false =>
    have e : stepSp ⟨C, R, h0' :: H', F⟩ ⟨K, Pa, V, N⟩ = (⟨C, R, h0' :: H', F⟩, false) := by simp only [stepSp, c0]; simp
    rw [e]
    simp
  | true =>
    simp
    by_cases k1 : K = 1
    · have e : stepSp ⟨C, R, h0' :: H', F⟩ ⟨K, Pa, V, N⟩ = (⟨(rSetAt C Pa V).1, R, h0' :: H', F⟩, (rSetAt C Pa V).2) := by simp only [stepSp, c0]; simp [k1]
      rw [e]
      simp [k1]
      refine Inv_intro (ok_sSetAt 0 k' C Pa V b1.1 (fun x hx => (b1.2 x hx).1) (boundC_conf b1) o1 o2 o3) ?_
      simp
    · by_cases k2 : K = 2
      · have e : stepSp ⟨C, R, h0' :: H', F⟩ ⟨K, Pa, V, N⟩ = (⟨(rDeleteAt C Pa).1, R, h0' :: H', F⟩, (rDeleteAt C Pa).2) := by simp only [stepSp, c0]; simp [k1, k2]
        rw [e]
        simp [k1, k2]
        refine Inv_intro (ok_sDeleteAt 0 k' C Pa b1.1 (fun x hx => (b1.2 x hx).1) (boundC_conf b1) o1) ?_
        simp
      · by_cases k3 : K = 3
        · have e : stepSp ⟨C, R, h0' :: H', F⟩ ⟨K, Pa, V, N⟩ = (confirmS ⟨C, C, h0' :: H', F⟩, true) := by simp only [stepSp, c0]; simp [k3]
          rw [e]
          simp [k1, k2, k3]
          refine Inv_intro (ok_l15Own 0 C b1.1 (fun x hx => (b1.2 x hx).1)) ?_
          simp
          refine Inv_intro hcf3 ?_
          simp
        · by_cases k4 : K = 4
          · have e : stepSp ⟨C, R, h0' :: H', F⟩ ⟨K, Pa, V, N⟩ = (⟨C, C, h0' :: H', if C = h0' then 0 else N⟩, true) := by simp only [stepSp, c0]; simp [k4]
            rw [e]
            simp [k1, k2, k3, k4]
            refine Inv_intro (ok_l15Own 0 C b1.1 (fun x hx => (b1.2 x hx).1)) ?_
            simp
            refine drawP (tabEnv [] _) [⟨[.op 0 0 0], allD 123, true⟩, ⟨[.op 0 0 0], allD 123, true⟩, ⟨[.op 0 0 0], allD 123, true⟩, ⟨[.op 0 0 0], allD 123, true⟩, ⟨[.op 0 0 0], allD 123, true⟩, ⟨[.op 0 0 0], allD 123, true⟩, ⟨[.op 0 0 0], [63, 64, 65, 66, 67, 68, 69], false⟩] h0 hm (tabEnv_ok (tab_cons (ok_l16Same 0 0 C h0' (boundC_conf b1) (boundC_conf hb)) tab_nil)) (by kernel_rfl) (by kernel_rfl) ?_
            simp
            by_cases c : C = h0'
            · simp [c]
            · simp [c]
          · by_cases k5 : K = 5
            · by_cases c : F = 0
              · have e : stepSp ⟨C, R, h0' :: H', F⟩ ⟨K, Pa, V, N⟩ = (⟨C, R, h0' :: H', F⟩, false) := by simp only [stepSp, c0]; simp [k5, c]
                rw [e]
                simp [k1, k2, k3, k4, k5, c]
              · have e : stepSp ⟨C, R, h0' :: H', F⟩ ⟨K, Pa, V, N⟩ = (confirmS ⟨C, R, h0' :: H', F⟩, true) := by simp only [stepSp, c0]; simp [k5, c]
                rw [e]
                simp [k1, k2, k3, k4, k5, c]
                refine Inv_intro hcf ?_
                simp
            · by_cases k6 : K = 6
              · have hN9 : 0 ≤ N := by
                  simp [l16OpB, k6] at c0
                  omega
                by_cases c : (H'.length : Int) + 1 ≤ N
                · have e : stepSp ⟨C, R, h0' :: H', F⟩ ⟨K, Pa, V, N⟩ = (⟨C, R, h0' :: H', F⟩, false) := by
                    have c' : ((h0' :: H').length : Int) ≤ N := by rw [List.length_cons]; omega
                    simp only [stepSp, c0]
                    simp only [k6, c', if_true]
                    simp
                  rw [e]
                  simp [k1, k2, k3, k4, k5, k6, c]
                · have hN : N.toNat < (h0' :: H').length := by rw [List.length_cons]; omega
                  have hbN := b4 _ (List.getElem_mem hN)
                  have e : stepSp ⟨C, R, h0' :: H', F⟩ ⟨K, Pa, V, N⟩ = (⟨(h0' :: H')[N.toNat], R, h0' :: H', F⟩, true) := by
                    have c' : ¬ ((h0' :: H').length : Int) ≤ N := by rw [List.length_cons]; omega
                    simp only [stepSp, c0]
                    simp only [k6, c', if_false, List.getD_eq_getElem?_getD, List.getElem?_eq_getElem hN, Option.getD_some]
                    simp
                  rw [e]
                  have hNl : N < (H'.length : Int) + 1 := by omega
                  have hd : ∀ h : N.toNat < (cLeafSo h0' :: List.map cLeafSo H').length, (cLeafSo h0' :: List.map cLeafSo H')[N.toNat]'h = cLeafSo (h0' :: H')[N.toNat] := fun h => List.getElem_map (l := h0' :: H') cLeafSo
                  generalize (h0' :: H')[N.toNat] = x at hbN hd ⊢
                  simp [k1, k2, k3, k4, k5, k6, c, hN9, hNl, hd]
                  refine Inv_intro (ok_l15Own 0 x hbN.1 (fun y hy => (hbN.2 y hy).1)) ?_
                  simp
              · by_cases k7 : K = 7
                · have e : stepSp ⟨C, R, h0' :: H', F⟩ ⟨K, Pa, V, N⟩ = (⟨R, R, h0' :: H', F⟩, true) := by simp only [stepSp, c0]; simp [k7]
                  rw [e]
                  simp [k1, k2, k3, k4, k5, k6, k7]
                  refine Inv_intro (ok_l15Own 0 R b2.1 (fun x hx => (b2.2 x hx).1)) ?_
                  simp
                · by_cases c : F = 0
                  · have e : stepSp ⟨C, R, h0' :: H', F⟩ ⟨K, Pa, V, N⟩ = (⟨C, R, h0' :: H', F⟩, false) := by simp only [stepSp, c0]; simp [k1, k2, k3, k4, k5, k6, k7, c]
                    rw [e]
                    simp [k1, k2, k3, k4, k5, k6, k7, c]
                  · have e : stepSp ⟨C, R, h0' :: H', F⟩ ⟨K, Pa, V, N⟩ = (⟨C, (if F - 1 = 0 then h0' else R), h0' :: H', F - 1⟩, true) := by simp only [stepSp, c0]; simp [k1, k2, k3, k4, k5, k6, k7, c]
                    rw [e]
                    simp [k1, k2, k3, k4, k5, k6, k7, w1, c]
                    by_cases c1 : F - 1 = 0
                    · simp [c1]
                      refine Inv_intro (ok_l15Own 0 h0' hb.1 (fun x hx => (hb.2 x hx).1)) ?_
                      simp
                    · simp [c1]
/-- A road of slices.Insert: at the end. -/
theorem ins_endLeafS (base : Option Addr) (vb n c vc : Nat) (w w1 : World) (r : Value) (hn : n ≤ c)
    (hr : ∀ ty, (Builtin.append_ #[24, 24] ty #[.slice base n c, .slice (some ⟨vb, 0, none⟩) 1 vc]).run Tryz.prog w = .ok r w1) :
    Calls Tryz.prog 80 #[.slice base n c, .int .i64 n, .slice (some ⟨vb, 0, none⟩) 1 vc] w fun e w' => e = .returned r ∧ w' = w1 := by
  have mixed : Tryz.prog.follows .mixedOrders = true := by kernel_rfl
  have tS : Tryz.prog.underlying 24 = some (.slice 23) := by kernel_rfl
  have uS := run_underlying tS
  have zE : ∀ w, (Go.sizeOf 23).run Tryz.prog w = .ok 1 w := fun w => by kernel_rfl
  have zS : ∀ w, (Go.sizeOf 24).run Tryz.prog w = .ok 1 w := fun w => by kernel_rfl
  have aS : ∀ w, (isAgg 24).run Tryz.prog w = .ok false w := fun w => by kernel_rfl
  have t3 : Tryz.prog.underlying 3 = some (.int .i64) := by kernel_rfl
  have u3 := run_underlying t3
  have a3 : ∀ w, (isAgg 3).run Tryz.prog w = .ok false w := fun w => by kernel_rfl
  have z3 : ∀ w, (Go.sizeOf 3).run Tryz.prog w = .ok 1 w := fun w => by kernel_rfl
  go_enter Tryz.func80, Tryz.ntmps80
  go_wp2_with (at_builtin; refine Lib.wpList_append_run _ rfl _ _ _ _ rfl _ _ rfl rfl _ _ (hr _) ?_)
  all_goals (go_ret; exact ⟨rfl, rfl⟩)
/-- A road of slices.Insert: ahead of the end, with room. -/
theorem ins_shiftLeafS (b vb n c i vc : Nat) (w w1 w2 : World) (x1 x2 : Value) (hi : i < n) (hn63 : n < 9223372036854775807) (hroom : n + 1 ≤ c)
    (hov : ∀ lb cb, (callFunc 93 #[.slice (some ⟨vb, 0, none⟩) 1 vc, .slice (some ⟨b, (i + 1), none⟩) lb cb]).run Tryz.prog w = .ok (.value (.bool false)) w)
    (hc1 : ∀ ty dc sc, (Builtin.copy_ #[24, 24] ty #[.slice (some ⟨b, (i + 1), none⟩) (n - i) dc, .slice (some ⟨b, i, none⟩) (n + 1 - i) sc]).run Tryz.prog w.drew = .ok x1 w1)
    (hc2 : ∀ ty dc, (Builtin.copy_ #[24, 24] ty #[.slice (some ⟨b, i, none⟩) (n + 1 - i) dc, .slice (some ⟨vb, 0, none⟩) 1 vc]).run Tryz.prog w1 = .ok x2 w2) :
    Calls Tryz.prog 80 #[.slice (some ⟨b, 0, none⟩) n c, .int .i64 i, .slice (some ⟨vb, 0, none⟩) 1 vc] w fun e w' => e = .returned (.slice (some ⟨b, 0, none⟩) (n + 1) c) ∧ w' = w2 := by
  have mixed : Tryz.prog.follows .mixedOrders = true := by kernel_rfl
  have tS : Tryz.prog.underlying 24 = some (.slice 23) := by kernel_rfl
  have uS := run_underlying tS
  have zE : ∀ w, (Go.sizeOf 23).run Tryz.prog w = .ok 1 w := fun w => by kernel_rfl
  have zS : ∀ w, (Go.sizeOf 24).run Tryz.prog w = .ok 1 w := fun w => by kernel_rfl
  have aS : ∀ w, (isAgg 24).run Tryz.prog w = .ok false w := fun w => by kernel_rfl
  have t3 : Tryz.prog.underlying 3 = some (.int .i64) := by kernel_rfl
  have u3 := run_underlying t3
  have a3 : ∀ w, (isAgg 3).run Tryz.prog w = .ok false w := fun w => by kernel_rfl
  have z3 : ∀ w, (Go.sizeOf 3).run Tryz.prog w = .ok 1 w := fun w => by kernel_rfl
  have hz2 : ¬ ((i : Int) = (n : Int)) := by omega
  have hw1 : IntKind.i64.wrap ((i : Int) + 1) = (i : Int) + 1 := by rw [IntKind.wrap_i64]; omega
  have hb1 : (0 : Int) ≤ (i : Int) + 1 := by omega
  have hin : i ≤ n := by omega
  have htn : ((i : Int) + 1).toNat = i + 1 := by omega
  have hb2 : ¬ (c = i + 1) := by omega
  have hb3 : (i : Int) ≤ (n : Int) + 1 := by omega
  have hb4 : ¬ (c = i) := by omega
  go_enter Tryz.func80, Tryz.ntmps80
  go_wp2_with (simp only [hov])
  go_region_law_o (refine step_copy_runI rfl _ _ 24 24 rfl _ _ (by simp [Act.eval, Act.put]) (by simp [Act.eval, Act.put]) (hc1 _ _ _) ?_)
  go_wp2_with (at_builtin; refine wpList_copy_runI _ rfl _ _ 24 24 rfl _ _ rfl rfl (hc2 _ _) ?_)
  go_ret
  exact ⟨rfl, rfl⟩
/-- A road of slices.Insert: ahead of the end, no room. -/
theorem ins_growLeafS (b vb n c i vc N G : Nat) (w w1 w2 w3 : World) (x1 x2 : Value) (hi : i < n) (hn63 : n < 9223372036854775807) (hnc : n ≤ c) (hroom : c < n + 1) (hG : n + 1 ≤ G)
    (hr : ∀ ty, (Builtin.append_ #[24, 3] ty #[.slice (some ⟨b, 0, none⟩) i c, .int .i64 ((n : Int) + 1 - (i : Int))]).run Tryz.prog w = .ok (.slice (some ⟨N, 0, none⟩) (n + 1) G) w1)
    (hc1 : ∀ ty dc, (Builtin.copy_ #[24, 24] ty #[.slice (some ⟨N, i, none⟩) (n + 1 - i) dc, .slice (some ⟨vb, 0, none⟩) 1 vc]).run Tryz.prog w1 = .ok x1 w2)
    (hc2 : ∀ ty dc sc, (Builtin.copy_ #[24, 24] ty #[.slice (some ⟨N, (i + 1), none⟩) (n - i) dc, .slice (some ⟨b, i, none⟩) (n - i) sc]).run Tryz.prog w2.drew = .ok x2 w3) :
    Calls Tryz.prog 80 #[.slice (some ⟨b, 0, none⟩) n c, .int .i64 i, .slice (some ⟨vb, 0, none⟩) 1 vc] w fun e w' => e = .returned (.slice (some ⟨N, 0, none⟩) (n + 1) G) ∧ w' = w3 := by
  have mixed : Tryz.prog.follows .mixedOrders = true := by kernel_rfl
  have tS : Tryz.prog.underlying 24 = some (.slice 23) := by kernel_rfl
  have uS := run_underlying tS
  have zE : ∀ w, (Go.sizeOf 23).run Tryz.prog w = .ok 1 w := fun w => by kernel_rfl
  have zS : ∀ w, (Go.sizeOf 24).run Tryz.prog w = .ok 1 w := fun w => by kernel_rfl
  have aS : ∀ w, (isAgg 24).run Tryz.prog w = .ok false w := fun w => by kernel_rfl
  have t3 : Tryz.prog.underlying 3 = some (.int .i64) := by kernel_rfl
  have u3 := run_underlying t3
  have a3 : ∀ w, (isAgg 3).run Tryz.prog w = .ok false w := fun w => by kernel_rfl
  have z3 : ∀ w, (Go.sizeOf 3).run Tryz.prog w = .ok 1 w := fun w => by kernel_rfl
  have hz2 : ¬ ((i : Int) = (n : Int)) := by omega
  have hz3 : (c : Int) < (n : Int) + 1 := by omega
  have hw0 : IntKind.i64.wrap ((n : Int) + 1) = (n : Int) + 1 := by rw [IntKind.wrap_i64]; omega
  have hw1 : IntKind.i64.wrap ((i : Int) + 1) = (i : Int) + 1 := by rw [IntKind.wrap_i64]; omega
  have hw2 : IntKind.i64.wrap ((n : Int) + 1 - (i : Int)) = (n : Int) + 1 - (i : Int) := by rw [IntKind.wrap_i64]; omega
  have hb1 : (0 : Int) ≤ (i : Int) + 1 := by omega
  have hin : i ≤ n := by omega
  have htn : ((i : Int) + 1).toNat = i + 1 := by omega
  have hGi : ¬ (G = i) := by omega
  have hGim : ¬ (G = i + 1) := by omega
  have hci : ¬ (c = i) := by omega
  have hb3 : (i : Int) ≤ (n : Int) := by omega
  go_enter Tryz.func80, Tryz.ntmps80
  go_wp2_with (first
    | (at_builtin; refine Lib.wpList_append_run _ rfl _ _ _ _ rfl _ _ rfl rfl _ _ (hr _) ?_)
    | (at_builtin; refine wpList_copy_runI _ rfl _ _ 24 24 rfl _ _ rfl rfl (hc1 _ _) ?_))
  go_region_law_o (refine step_copy_runI rfl _ _ 24 24 rfl _ _ (by simp [Act.eval, Act.put]) (by simp [Act.eval, Act.put]) (hc2 _ _ _) ?_)
  go_wp2
  go_ret
  exact ⟨rfl, rfl⟩
end Go.V
