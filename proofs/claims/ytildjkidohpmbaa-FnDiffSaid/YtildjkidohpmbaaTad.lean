/- What functions of the seat's program do, each proved of its code, under the bounds that its theorem names. -/
import Derived.Test.YtildjkidohpmbaaTac
import Derived.Deep.AppendSrc
import Derived.Laws.Externs
import Derived.Laws.IdiomCopy
import Derived.Lib.AppendZeros
import Derived.Lib.AppendZerosOnto
import Derived.Lib.JoinLaws
import Derived.Lib.Overlaps
import Derived.Lib.SliceRun
import Derived.Lib.Walk
import Derived.Shelf.Spec.SlicesInsert
import Derived.WalkKit
set_option linter.all false
namespace Go.V
open Go.Proofs
set_option maxHeartbeats 1000000
set_option maxRecDepth 10000
set_option linter.unusedSimpArgs false
set_option linter.unusedVariables false
def rDiffOf (a b : List GLeaf) : List GCommand × Bool := if (goodC a && goodC b) = true then (diffL a b, true) else ([], false)
theorem law_iDiffOf (v0 v1 : List GLeaf) (hw0 : wt_LeafS v0 ≤ 1048576) (hw1 : wt_LeafS v1 ≤ 1048576) : CallOK Try.prog 35 [.c (rd 0 v0.length (v0.flatMap (GLeaf.ci 0))), .c (rd 0 v1.length (v1.flatMap (GLeaf.ci 0)))] (.tup [.c (.sl 0 65 (rDiffOf v0 v1).1.length ((rDiffOf v0 v1).1.flatMap GCommand.co)), .c (pb (rDiffOf v0 v1).2)]) [.c (rd 0 v0.length (v0.flatMap (GLeaf.ci 0))), .c (rd 0 v1.length (v1.flatMap (GLeaf.ci 0)))] := by
  refine okS (fn := Try.f35) [] h0 Try.func35 (by kernel_rfl) rfl Try.ntmps35 Try.results35 (by simp) ?_
  simp
  refine Inv_intro (ok_iGoodConfig 0 v0 (conf_ok hw0)) ?_
  simp
  cases c1 : goodC v0 with
  | false => simp [rDiffOf, c1]
  | true =>
    simp
    refine Inv_intro (ok_iGoodConfig 0 v1 (conf_ok hw1)) ?_
    simp
    cases c2 : goodC v1 with
    | false => simp [rDiffOf, c2]
    | true =>
      have er : rDiffOf v0 v1 = (diffL v0 v1, true) := by simp [rDiffOf, c1, c2]
      simp
      refine Inv_intro (ok_diffOf 0 0 v0 v1 (conf_len hw0).1 (conf_len hw0).2 (conf_len hw1).1 (conf_len hw1).2 (conf_ok hw0) (conf_ok hw1)) ?_
      simp [er]
theorem law_sDiffOf (v0 v1 : List GLeaf) (hw0 : wt_LeafS v0 ≤ 1048576) (hw1 : wt_LeafS v1 ≤ 1048576) : CallOK Try.prog 36 [.c (rd 0 v0.length (v0.flatMap (GLeaf.ci 0))), .c (rd 0 v1.length (v1.flatMap (GLeaf.ci 0)))] (.tup [.c (.sl 0 65 (rDiffOf v0 v1).1.length ((rDiffOf v0 v1).1.flatMap GCommand.co)), .c (pb (rDiffOf v0 v1).2)]) [.c (rd 0 v0.length (v0.flatMap (GLeaf.ci 0))), .c (rd 0 v1.length (v1.flatMap (GLeaf.ci 0)))] := by
  refine okS (fn := Try.f36) [] h0 Try.func36 (by kernel_rfl) rfl Try.ntmps36 Try.results36 (by simp) ?_
  simp
  refine Inv_intro (ok_sGoodConfig 0 v0 (conf_ok hw0)) ?_
  simp
  cases c1 : goodC v0 with
  | false => simp [rDiffOf, c1]
  | true =>
    simp
    refine Inv_intro (ok_sGoodConfig 0 v1 (conf_ok hw1)) ?_
    simp
    cases c2 : goodC v1 with
    | false => simp [rDiffOf, c2]
    | true =>
      have er : rDiffOf v0 v1 = (diffL v0 v1, true) := by simp [rDiffOf, c1, c2]
      simp
      refine Inv_intro (ok_l15Diff 0 0 v0 v1 (conf_len hw0).1 (conf_len hw0).2 (conf_len hw1).1 (conf_len hw1).2 (conf_ok hw0) (conf_ok hw1) c1 c2) ?_
      simp [er]
theorem wt_fmap {α : Type} (w : α → Nat) (w' : GCommand → Nat) (f : α → Bool) (g : α → GCommand) (hg : ∀ x, w' (g x) ≤ w x) : ∀ l : List α, wtR w' ((l.filter f).map g) ≤ wtR w l
  | [] => by simp [wtR]
  | x :: l => by
    have ih := wt_fmap w w' f g hg l
    have := hg x
    rw [List.filter_cons]
    split
    · simp only [wtR, List.map_cons, List.length_cons, List.sum_cons] at ih ⊢
      omega
    · simp only [wtR, List.map_cons, List.length_cons, List.sum_cons] at ih ⊢
      omega
theorem diffL_wt (a b : List GLeaf) : wt_CommandS (diffL a b) ≤ wt_LeafS a + wt_LeafS b := by
  have h1 := wt_fmap GLeaf.wt GCommand.wt (goneC b) delCo (fun x => by simp [GCommand.wt, GLeaf.wt, delCo]) a
  have h2 := wt_fmap GLeaf.wt GCommand.wt (freshC a) setCo (fun x => by simp [GCommand.wt, GLeaf.wt, setCo]) b
  unfold wt_CommandS wt_LeafS diffL
  simp only [wtR, List.map_append, List.length_append, List.sum_append] at h1 h2 ⊢
  omega
theorem cmds_ok {l : List GCommand} (h : wt_CommandS l ≤ 2097152) : lens_CommandS l ∧ cn_CommandS l ≤ 1152921504606846976 := by
  have hc := cn_le_CommandS l
  refine ⟨?_, by omega⟩
  have hl := len_wt_CommandS l
  refine ⟨by omega, fun x hx => ?_⟩
  have h1 := mem_wt_CommandS hx
  have h2 := len_wt_StringS x.Path
  refine ⟨?_, fun _ _ => trivial⟩
  unfold GCommand.wt at h1
  omega
theorem rDiffOf_ok (v0 v1 : List GLeaf) (h0 : wt_LeafS v0 ≤ 1048576) (h1 : wt_LeafS v1 ≤ 1048576) : lens_CommandS (rDiffOf v0 v1).1 ∧ cn_CommandS (rDiffOf v0 v1).1 ≤ 1152921504606846976 := by
  refine cmds_ok ?_
  unfold rDiffOf
  split
  · exact Nat.le_trans (diffL_wt v0 v1) (by omega)
  · exact Nat.zero_le _
theorem idxOf_find {α : Type} (p : α → Bool) (xs : List α) : (idxOf p xs = -1 ∧ xs.findIdx? p = none) ∨ ∃ (i : Nat) (h : i < xs.length), idxOf p xs = i ∧ xs.findIdx? p = some i := by
  unfold idxOf
  cases h : xs.findIdx? p with
  | none => exact .inl ⟨rfl, rfl⟩
  | some i =>
    have h' := h
    rw [List.findIdx?_eq_some_iff_getElem] at h'
    exact .inr ⟨i, h'.1, rfl, rfl⟩
theorem set_take {α : Type} (C : List α) (a b : Nat) (y : α) (h : a ≤ b) : (C.set b y).take a = C.take a := by
  apply List.ext_getElem?
  intro n
  simp only [List.getElem?_take]
  split
  · rw [List.getElem?_set_ne (by omega)]
  · rfl
theorem set_drop {α : Type} (C : List α) (a b : Nat) (y : α) (h : b < a) : (C.set b y).drop a = C.drop a := by
  apply List.ext_getElem?
  intro n
  simp only [List.getElem?_drop]
  rw [List.getElem?_set_ne (by omega)]
theorem put2 {α : Type} (C : List α) (s v : α) (i j : Nat) (h : i * 2 + 2 ≤ C.length) (hij : i < j) : (C.take (i * 2) ++ s :: v :: C.drop (i * 2 + 2)).length = C.length ∧ (C.take (i * 2) ++ s :: v :: C.drop (i * 2 + 2)).take ((i + 1) * 2) = C.take (i * 2) ++ [s, v] ∧ (C.take (i * 2) ++ s :: v :: C.drop (i * 2 + 2)).drop ((j + 1) * 2) = C.drop ((j + 1) * 2) := by
  have hl : (C.take (i * 2)).length = i * 2 := by rw [List.length_take]; omega
  have e1 : (i + 1) * 2 = (C.take (i * 2)).length + 2 := by omega
  refine ⟨?_, ?_, ?_⟩
  · simp only [List.length_append, List.length_cons, List.length_drop, hl]
    omega
  · rw [e1, List.take_length_add_append]
    rfl
  · have e2 : (j + 1) * 2 = (C.take (i * 2)).length + (2 + (j - i) * 2) := by omega
    rw [e2, List.drop_length_add_append, ← List.drop_drop]
    show List.drop ((j - i) * 2) (C.drop (i * 2 + 2)) = _
    rw [List.drop_drop, hl]
    congr 1
    omega
theorem ok_DeleteFunc_Leaf (q g : Nat) (caps : List (List PT)) (p : GLeaf → Bool) (xs : List GLeaf) (ha : xs.length ≤ 140737488351232)
    (hg : ∀ x ∈ xs, CallOK Try.prog g (.agg (GLeaf.ci 0 x) :: caps.map (PV.ip q)) (.c (pb (p x))) (.agg (GLeaf.ci 0 x) :: caps.map (PV.ip q))) :
    CallOK Try.prog 114 [.c (.sl 0 103 xs.length (xs.flatMap GLeaf.co)), .c (.fn q g caps)] (.c (.sl 0 103 (xs.filter fun x => !p x).length ((xs.filter fun x => !p x).flatMap GLeaf.co))) [.c .hole, .c (.fn q g caps)] := by
  refine okS (fn := Try.f114) [] h0 Try.func114 (by kernel_rfl) rfl Try.ntmps114 Try.results114 (by simp) ?_
  simp
  refine Inv_intro (ok_IndexFunc_Leaf 0 q g caps p xs ha hg) ?_
  simp
  rcases idxOf_find p xs with ⟨e, hf⟩ | ⟨i0, hi0, e, hf⟩
  · rw [e]
    have hall : xs.filter (fun x => !p x) = xs := by
      rw [List.findIdx?_eq_none_iff] at hf
      exact List.filter_eq_self.2 fun x hx => by simp [hf x hx]
    rw [hall]
    simp
  · rw [e]
    have hne : ¬ (i0 : Int) = -1 := by omega
    have hw0 : IntKind.wrap .i64 ((i0 : Int) + 1) = ((i0 + 1 : Nat) : Int) := wrNext i0 (by omega)
    simp [hne, hw0]
    refine loopS [0, 1, 5, 6] [.arg 0 0] (fun m st => ∃ (j i : Nat) (C : List PT), j + m = xs.length ∧ i < j ∧ ((xs.take j).filter fun x => !p x).length = i ∧ C.length = xs.length * 2 ∧ C.take (i * 2) = ((xs.take j).filter fun x => !p x).flatMap GLeaf.co ∧ C.drop (j * 2) = (xs.drop j).flatMap GLeaf.co ∧ st = ⟨slOf 42 [(0, .ref ⟨.arg 0 0, []⟩ 0 xs.length), (1, .t (.fn q g caps)), (5, .t (pi i)), (6, .t (pi j))], ofL [(.arg 0 0, .sl 0 103 xs.length C)]⟩) (xs.length - (i0 + 1)) ?_ ?_
    · rintro Inv hI
      have hfirst : (xs.take (i0 + 1)).filter (fun x => !p x) = xs.take i0 := by
        rw [List.findIdx?_eq_some_iff_getElem] at hf
        obtain ⟨h1, h2, h3⟩ := hf
        rw [take_step xs i0 hi0, List.filter_append]
        have e1 : (xs.take i0).filter (fun x => !p x) = xs.take i0 := by
          refine List.filter_eq_self.2 fun x hx => ?_
          obtain ⟨j, hj, rfl⟩ := List.mem_iff_getElem.1 hx
          have hj' : j < i0 := by rw [List.length_take] at hj; omega
          rw [List.getElem_take]
          simpa using h3 j hj'
        rw [e1]
        simp [h2]
      simp
      subst hI
      refine ⟨i0 + 1, i0, xs.flatMap GLeaf.co, by omega, by omega, by rw [hfirst, List.length_take]; omega, fm_len GLeaf.co 2 (fun _ => rfl) xs, ?_, ?_, ?_⟩
      · have hx := congrArg (List.flatMap GLeaf.co) (List.take_append_drop i0 xs)
        rw [List.flatMap_append] at hx
        rw [hfirst, ← hx, List.take_left' (by rw [fm_len GLeaf.co 2 (fun _ => rfl), List.length_take]; omega)]
      · have hx := congrArg (List.flatMap GLeaf.co) (List.take_append_drop (i0 + 1) xs)
        rw [List.flatMap_append] at hx
        rw [← hx, List.drop_left' (by rw [fm_len GLeaf.co 2 (fun _ => rfl), List.length_take]; omega)]
      · rfl
    · rintro Inv hI m st ⟨j, i, C, hj, hlt, hi, hCl, hCt, hCd0, rfl⟩
      refine ewr_sound (M := []) h0 ?_
      simp
      refine brn_app (fun a => ?_) (fun a => ?_)
      · simp at a
        have hCd : C.drop (j * 2) = .sl 0 9 xs[j].Path.length (xs[j].Path.map ps) :: ps xs[j].Value :: (xs.drop (j + 1)).flatMap GLeaf.co := by
          rw [hCd0, drop_step _ j a, List.flatMap_cons]
          rfl
        have hCg : ∀ h : j * 2 < C.length, C[j * 2] = .sl 0 9 xs[j].Path.length (xs[j].Path.map ps) := by
          intro h
          rw [List.drop_eq_getElem_cons h] at hCd
          exact (List.cons.inj hCd).1
        have hCn : C.drop ((j + 1) * 2) = (xs.drop (j + 1)).flatMap GLeaf.co := by
          have : (j + 1) * 2 = j * 2 + 2 := by omega
          rw [this, ← List.drop_drop, hCd]
          rfl
        have hb : j * 2 + 2 ≤ xs.length * 2 := by omega
        have hfs : (xs.take (j + 1)).filter (fun x => !p x) = (xs.take j).filter (fun x => !p x) ++ (if p xs[j] = true then [] else [xs[j]]) := by
          rw [take_step xs j a, List.filter_append]
          cases hpx : p xs[j] <;> simp [hpx]
        simp [a, hCl, hCd, hCg, hb]
        refine Inv_intro (hg _ (List.getElem_mem a)) ?_
        simp
        refine brn_app (fun b => ?_) (fun b => ?_)
        · simp at b
          rw [if_neg (by simp [b])] at hfs
          have hib : i * 2 < xs.length * 2 := by omega
          have hib2 : i < xs.length := by omega
          have hib3 : i * 2 + 2 ≤ xs.length * 2 := by omega
          simp [hCl, hib, hib2, hib3]
          subst hI
          obtain ⟨g1, g2, g3⟩ := put2 (C.set (j * 2) .hole) (.sl 0 9 xs[j].Path.length (xs[j].Path.map ps)) (ps xs[j].Value) i j (by rw [List.length_set]; omega) hlt
          refine Less_mk (m - 1) (by omega) ⟨j + 1, i + 1, _, by omega, by omega, by rw [hfs, List.length_append, hi]; rfl, g1.trans (by rw [List.length_set]; exact hCl), ?_, ?_, ?_⟩
          · rw [g2, set_take C _ _ _ (by omega), hCt, hfs, List.flatMap_append]
            simp
          · rw [g3, set_drop C _ _ _ (by omega), hCn]
          · rw [wrNext i (by omega), wrNext j (by omega)]
        · simp at b
          rw [if_pos b, List.append_nil] at hfs
          simp
          subst hI
          refine Less_mk (m - 1) (by omega) ⟨j + 1, i, C.set (j * 2) .hole, by omega, by omega, by rw [hfs, hi], by rw [List.length_set]; exact hCl, ?_, ?_, ?_⟩
          · rw [set_take C _ _ _ (by omega), hCt, hfs]
          · rw [set_drop C _ _ _ (by omega), hCn]
          · rw [wrNext j (by omega)]
      · simp at a
        have hjn : j = xs.length := by omega
        subst hjn
        rw [List.take_length] at hi hCt
        have hil : i ≤ xs.length := by omega
        have hCtl : (C.take (i * 2)).length = i * 2 := by rw [List.length_take]; omega
        have hz0 : ¬ xs.length - i = 0 := by omega
        have hz1 : i * 2 + (xs.length - i) * 2 ≤ C.length := by omega
        have hz2 : i * 2 ≤ min (i * 2) C.length + ((xs.length - i) * 2 + (C.length - (i * 2 + (xs.length - i) * 2))) := by omega
        have hTT : ∀ Y, List.take (i * 2) (C.take (i * 2) ++ Y) = C.take (i * 2) := fun Y => List.take_left' hCtl
        rw [hi, ← hCt]
        simp [hil, hz0, hz1, hz2, hTT]
theorem ok_ownConfig (k : Nat) (l : List GLeaf) (hl : l.length ≤ 1048576) (hx : ∀ x ∈ l, x.Path.length ≤ 1048576) : CallOK Try.prog 83 [.c (rd k l.length (l.flatMap (GLeaf.ci k)))] (.c (.sl 0 103 l.length (l.flatMap GLeaf.co))) [.c (rd k l.length (l.flatMap (GLeaf.ci k)))] := by
  refine okS (fn := Try.f83) [] h0 Try.func83 (by kernel_rfl) rfl Try.ntmps83 Try.results83 (by simp) ?_
  simp
  refine ewp_sw (.op 1 0 0) (.op 5 8 0) rfl rfl ?_
  simp
  refine loopS [3, 7, 8, 9] [.op 5 8 0] (fun n st => ∃ (i : Nat), i + n = l.length ∧ st = ⟨slOf 24 [(3, .ref ⟨.op 5 8 0, []⟩ 0 i), (7, .t (rd k l.length (l.flatMap (GLeaf.ci k)))), (8, .t (pi l.length)), (9, .t (pi i))], ofL [(.op 5 8 0, .sl 0 103 i ((l.take i).flatMap GLeaf.co))]⟩) l.length ?_ ?_
  · rintro Inv hI
    simp
    subst hI
    exact ⟨0, by omega, by simp⟩
  · rintro Inv hI n st ⟨i, hi, rfl⟩
    have hA := fm_take_len GLeaf.co 2 (fun _ => rfl) l i (by omega)
    generalize hAe : ((l.take i).flatMap GLeaf.co) = A at hA ⊢
    refine ewr_sound (M := []) h0 ?_
    simp
    refine brn_app (fun a => ?_) (fun a => ?_)
    · simp at a
      have hd := fm_drop (GLeaf.ci k) 2 (fun _ => rfl) l i a
      have hlen := fm_len (GLeaf.ci k) 2 (fun _ => rfl) l
      have hlt : i * 2 < l.length * 2 := by omega
      have hb1 : (i + 1) * 40 ≤ 140737488355328 := by omega
      have hb2 : i ≤ 9223372036854775806 := by omega
      have hp := hx _ (List.getElem_mem a)
      have hp1 : l[i].Path.length * 16 ≤ 140737488355328 := by omega
      have hp2 : l[i].Path.length ≤ 9223372036854775807 := by omega
      have ht : A.take (i * 2) = A := List.take_of_length_le (by omega)
      have e3 : ((l.take (i + 1)).flatMap GLeaf.co) = A ++ GLeaf.co l[i] := by rw [take_step l i a, List.flatMap_append, hAe, List.flatMap_cons, List.flatMap_nil, List.append_nil]
      simp [a, hd, hlen, hlt]
      refine drawP (tabEnv [] _) [⟨[.op 5 8 0], allD 24, true⟩, ⟨[.op 4 2 0], allD 24, true⟩, ⟨[.op 4 2 0], allD 24, true⟩, ⟨[], allD 24, false⟩, ⟨[.op 4 2 0], allD 24, true⟩, ⟨[.op 4 2 0], allD 24, true⟩, ⟨[.op 5 3 0], allD 24, true⟩, ⟨[.op 5 3 0, .op 5 6 0], [13, 14, 15, 16, 17, 18, 19, 20, 21, 3], false⟩, ⟨[.op 5 8 0, .op 5 7 0], [13, 14, 15, 16, 17, 18, 19, 20, 21, 3], false⟩, ⟨[.op 5 8 0], allD 24, true⟩] h0 hm (tabEnv_ok (tab_cons (ok_Clone_String k l[i].Path hp) tab_nil)) (by kernel_rfl) (by kernel_rfl) ?_
      simp [hA, hb1, hb2, ht]
      subst hI
      refine Less_mk (n - 1) (by omega) ⟨i + 1, by omega, ?_⟩
      rw [wrNext i (by omega), e3]
      all_goals simp
    · simp at a
      have hn : n = 0 := by omega
      subst hn
      have ht : List.take i l = l := List.take_of_length_le (by omega)
      have hil : i = l.length := by omega
      rw [← hAe, ht, hil]
      simp
def begL (p : List ByteArray) (x : GLeaf) : Bool := begP p x.Path
def delL (p : List ByteArray) (l : List GLeaf) : List GLeaf := l.filter fun x => !begL p x
theorem delL_len (p : List ByteArray) (l : List GLeaf) : (delL p l).length ≤ l.length := List.length_filter_le _ _
def rDeleteAt (l : List GLeaf) (p : List ByteArray) : List GLeaf × Bool := if (goodC l && isP p && !decide ((delL p l).length = l.length)) = true then (delL p l, true) else ([], false)
theorem ok_DeleteAt1 (q k k' : Nat) (x : GLeaf) (p : List ByteArray) (hx : x.Path.length ≤ 140737488351232) (hp : p.length ≤ 140737488351232) : CallOK Try.prog 115 [.agg (GLeaf.ci k x), .ip q [rd k' p.length (p.map ps)]] (.c (pb (begL p x))) [.agg (GLeaf.ci k x), .ip q [rd k' p.length (p.map ps)]] := by
  refine okS (fn := Try.f115) [] h0 Try.func115 (by kernel_rfl) rfl Try.ntmps115 Try.results115 (by simp) ?_
  simp
  refine Inv_intro (ok_begins k' k p x.Path hp hx) ?_
  simp [begL]
theorem ok_iDeleteAt (k k' : Nat) (l : List GLeaf) (p : List ByteArray) (hl : l.length ≤ 1048576) (hx : ∀ x ∈ l, x.Path.length ≤ 1048576) (hlo : confOK l) (hp : strsOK p) : CallOK Try.prog 85 [.c (rd k l.length (l.flatMap (GLeaf.ci k))), .c (rd k' p.length (p.map ps))] (.tup [.c (.sl 0 103 (rDeleteAt l p).1.length ((rDeleteAt l p).1.flatMap GLeaf.co)), .c (pb (rDeleteAt l p).2)]) [.c (rd k l.length (l.flatMap (GLeaf.ci k))), .c (rd k' p.length (p.map ps))] := by
  refine okS (fn := Try.f85) [(114, [2])] h0 Try.func85 (by kernel_rfl) rfl Try.ntmps85 Try.results85 (by simp) ?_
  simp
  refine Inv_intro (ok_iGoodConfig k l hlo) ?_
  simp
  cases c1 : goodC l with
  | false => simp [rDeleteAt, c1]
  | true =>
    simp
    refine Inv_intro (ok_areWords k' p hp.1 hp.2) ?_
    simp
    cases c2 : isP p with
    | false => simp [rDeleteAt, c2]
    | true =>
      simp
      refine Inv_intro (ok_ownConfig k l hl hx) ?_
      simp
      refine Inv_intro (ok_DeleteFunc_Leaf 1 115 [[rd 0 p.length (p.map ps)]] (begL p) l hlo.1 (fun x hx => ok_DeleteAt1 1 0 0 x p (hlo.2 x hx).1.1 hp.1)) ?_
      have hdl : l.filter (fun x => !begL p x) = delL p l := rfl
      have hll := delL_len p l
      rw [hdl]
      simp
      refine brn_app (fun a => ?_) (fun a => ?_)
      · simp at a
        have h : (delL p l).length = l.length := by omega
        simp [rDeleteAt, h]
      · simp at a
        have h : ¬ (delL p l).length = l.length := by omega
        have er : rDeleteAt l p = (delL p l, true) := by simp [rDeleteAt, c1, c2, h]
        rw [er]
        simp
theorem ok_setAt2 (k k' : Nat) (x : GLeaf) (p : List ByteArray) (hx : x.Path.length ≤ 140737488351232) (hp : p.length ≤ 140737488351232) : CallOK Try.prog 134 [.agg (GLeaf.ci k x), .c (rd k' p.length (p.map ps))] (.c (pi (cmpP x.Path p))) [.agg (GLeaf.ci k x), .c (rd k' p.length (p.map ps))] := by
  refine okS (fn := Try.f134) [] h0 Try.func134 (by kernel_rfl) rfl Try.ntmps134 Try.results134 (by simp) ?_
  simp
  refine Inv_intro (ok_cmpP k k' x.Path p hx hp) ?_
  simp
def clashB (p : List ByteArray) (x : GLeaf) : Bool := begP x.Path p || begP p x.Path
theorem ok_setAt1 (q k k' : Nat) (x : GLeaf) (p : List ByteArray) (hx : x.Path.length ≤ 140737488351232) (hp : p.length ≤ 140737488351232) : CallOK Try.prog 132 [.agg (GLeaf.ci k x), .ip q [rd k' p.length (p.map ps)]] (.c (pb (clashB p x))) [.agg (GLeaf.ci k x), .ip q [rd k' p.length (p.map ps)]] := by
  refine okS (fn := Try.f132) [] h0 Try.func132 (by kernel_rfl) rfl Try.ntmps132 Try.results132 (by simp) ?_
  simp
  refine Inv_intro (ok_begins k k' x.Path p hx hp) ?_
  simp
  cases h : begP x.Path p with
  | true => simp [clashB, h]
  | false =>
    simp
    refine Inv_intro (ok_begins k' k p x.Path hp hx) ?_
    simp [clashB, h]
theorem ok_BS_Leaf (k k' : Nat) (xs : List GLeaf) (p : List ByteArray) (hl : confOK xs) (hp : p.length ≤ 140737488351232) (hmono : ∀ (i j : Nat) (hij : i < j) (hj : j < xs.length), cmpP xs[j].Path p < 0 → cmpP xs[i].Path p < 0) :
    CallOK Try.prog 133 [.c (rd k xs.length (xs.flatMap (GLeaf.ci k))), .c (rd k' p.length (p.map ps)), .c (.fn 0 134 [])] (.tup [.c (pi (bsI (fun o : GLeaf => cmpP o.Path p) xs)), .c (pb (bsF (fun o : GLeaf => cmpP o.Path p) xs))]) [.c (rd k xs.length (xs.flatMap (GLeaf.ci k))), .c (rd k' p.length (p.map ps)), .c (.fn 0 134 [])] := by
  refine okS (fn := Try.f133) [] h0 Try.func133 (by kernel_rfl) rfl Try.ntmps133 Try.results133 (by simp) ?_
  simp
  have hxl := hl.1
  refine loopS [0, 1, 2, 8, 9, 10] [] (fun m st => ∃ (i j : Nat), i + m = j ∧ j ≤ xs.length ∧ (∀ (q : Nat) (hq : q < i) (hl : q < xs.length), cmpP xs[q].Path p < 0) ∧ (∀ (q : Nat) (hq : j ≤ q) (hl : q < xs.length), 0 ≤ cmpP xs[q].Path p) ∧ st = ⟨slOf 49 [(0, .t (rd k xs.length (xs.flatMap (GLeaf.ci k)))), (1, .t (rd k' p.length (p.map ps))), (2, .t (.fn 0 134 [])), (8, .t (pi xs.length)), (9, .t (pi i)), (10, .t (pi j))], ofL []⟩) xs.length ?_ ?_
  · rintro Inv hI
    simp
    subst hI
    exact ⟨0, xs.length, by omega, by omega, by intro q hq; omega, by intro q hq h; omega, rfl⟩
  · rintro Inv hI m st ⟨i, j, hm, hj, hlo, hhi, rfl⟩
    refine ewr_sound (M := []) h0 ?_
    simp
    refine brn_app (fun a => ?_) (fun a => ?_)
    · simp at a
      have hw0 : IntKind.wrap .i64 ((i : Int) + j) = (i : Int) + j := wrap64 (by omega) (by omega)
      have hw := half_u64 i j (by omega)
      obtain ⟨h, hh⟩ : ∃ h, h = (i + j) / 2 := ⟨_, rfl⟩
      rw [← hh] at hw
      have hb : h < xs.length := by omega
      have hd := fm_drop (GLeaf.ci k) 2 (fun _ => rfl) xs h hb
      have hlen := fm_len (GLeaf.ci k) 2 (fun _ => rfl) xs
      have hlt : h * 2 < xs.length * 2 := by omega
      simp [hw0, hw, hb, hd, hlen, hlt]
      refine Inv_intro (ok_setAt2 k k' xs[h] p (hl.2 _ (List.getElem_mem hb)).1.1 hp) ?_
      simp
      refine brn_app (fun b => ?_) (fun b => ?_)
      · simp at b
        have hn1 : IntKind.wrap .i64 ((h : Int) + 1) = ((h + 1 : Nat) : Int) := wrNext h (by omega)
        simp
        subst hI
        refine Less_mk (j - (h + 1)) (by omega) ⟨h + 1, j, by omega, hj, ?_, hhi, by rw [hn1]⟩
        intro q hq hql
        rcases Nat.lt_or_ge q h with h' | h'
        · exact hmono q h h' hb b
        · have : q = h := by omega
          subst this
          exact b
      · simp at b
        simp
        subst hI
        refine Less_mk (h - i) (by omega) ⟨i, h, by omega, by omega, hlo, ?_, rfl⟩
        intro q hq hql
        rcases Nat.eq_or_lt_of_le hq with h' | h'
        · subst h'
          exact b
        · exact Int.not_lt.1 fun hc => by have := hmono h q h' hql hc; omega
    · simp at a
      have hij : i = j := by omega
      subst hij
      have e1 : bsI (fun o : GLeaf => cmpP o.Path p) xs = i := bsI_eq _ xs i hj hlo fun h => hhi i (Nat.le_refl _) h
      simp
      by_cases hb : i < xs.length
      · have hd := fm_drop (GLeaf.ci k) 2 (fun _ => rfl) xs i hb
        have hlen := fm_len (GLeaf.ci k) 2 (fun _ => rfl) xs
        have hlt : i * 2 < xs.length * 2 := by omega
        have e2 : bsF (fun o : GLeaf => cmpP o.Path p) xs = decide (cmpP xs[i].Path p = 0) := by simp only [bsF, e1, List.getElem?_eq_getElem hb]
        simp [hb, hd, hlen, hlt]
        refine Inv_intro (ok_setAt2 k k' xs[i] p (hl.2 _ (List.getElem_mem hb)).1.1 hp) ?_
        simp [e1, e2]
      · have e2 : bsF (fun o : GLeaf => cmpP o.Path p) xs = false := by simp only [bsF, e1, List.getElem?_eq_none (Nat.le_of_not_lt hb)]
        simp [hb, e1, e2]
theorem bless_trans : ∀ a b c : List UInt8, Op.bytesLess a b = true → Op.bytesLess b c = true → Op.bytesLess a c = true
  | [], [], _, h, _ => by simp [Op.bytesLess] at h
  | [], _ :: _, [], _, h => by simp [Op.bytesLess] at h
  | [], _ :: _, _ :: _, _, _ => by simp [Op.bytesLess]
  | _ :: _, [], _, h, _ => by simp [Op.bytesLess] at h
  | _ :: _, _ :: _, [], _, h => by simp [Op.bytesLess] at h
  | a :: ar, b :: br, c :: cr, h1, h2 => by
    have ih := bless_trans ar br cr
    unfold Op.bytesLess at h1 h2 ⊢
    simp only [Bool.or_eq_true, Bool.and_eq_true, decide_eq_true_eq, beq_iff_eq] at h1 h2 ⊢
    rcases h1 with h1 | ⟨rfl, h1⟩
    · rcases h2 with h2 | ⟨rfl, h2⟩
      · exact .inl (UInt8.lt_trans h1 h2)
      · exact .inl h1
    · rcases h2 with h2 | ⟨rfl, h2⟩
      · exact .inl h2
      · exact .inr ⟨rfl, ih h1 h2⟩
theorem sLt_trans {u v w : ByteArray} (h1 : sLt u v = true) (h2 : sLt v w = true) : sLt u w = true := bless_trans _ _ _ h1 h2
theorem lessP_trans : ∀ a b c : List ByteArray, lessP a b = true → lessP b c = true → lessP a c = true
  | [], [], _, h, _ => by simp [lessP] at h
  | [], _ :: _, [], _, h => by simp [lessP] at h
  | [], _ :: _, _ :: _, _, _ => by simp [lessP]
  | _ :: _, [], _, h, _ => by simp [lessP] at h
  | _ :: _, _ :: _, [], _, h => by simp [lessP] at h
  | a :: ar, b :: br, c :: cr, h1, h2 => by
    have ih := lessP_trans ar br cr
    unfold lessP at h1 h2 ⊢
    by_cases e1 : a = b
    · subst e1
      rw [if_pos rfl] at h1
      by_cases e2 : a = c
      · subst e2
        rw [if_pos rfl] at h2
        rw [if_pos rfl]
        exact ih h1 h2
      · rw [if_neg e2] at h2
        rw [if_neg e2]
        exact h2
    · rw [if_neg e1] at h1
      by_cases e2 : b = c
      · subst e2
        rw [if_neg e1]
        exact h1
      · rw [if_neg e2] at h2
        have h3 := sLt_trans h1 h2
        have e3 : ¬ a = c := by
          rintro rfl
          rw [sl_irr] at h3
          cases h3
        rw [if_neg e3]
        exact h3
theorem goodG_pair : ∀ (l : List GLeaf) (q : Option GLeaf), goodG q l = true → l.Pairwise (fun x y => lessP x.Path y.Path = true) ∧ ∀ y, q = some y → ∀ x ∈ l, lessP y.Path x.Path = true
  | [], q, _ => ⟨List.Pairwise.nil, fun _ _ _ h => absurd h (by simp)⟩
  | x :: l, q, h => by
    simp only [goodG, Bool.and_eq_true] at h
    obtain ⟨h1, h2⟩ := goodG_pair l (some x) h.2
    have hx := h2 x rfl
    refine ⟨List.pairwise_cons.2 ⟨hx, h1⟩, ?_⟩
    rintro y rfl z hz
    have hyx : lessP y.Path x.Path = true := by
      have := h.1.2
      simp only [adjC, Bool.and_eq_true] at this
      exact this.1
    rcases List.mem_cons.1 hz with rfl | hz
    · exact hyx
    · exact lessP_trans _ _ _ hyx (hx z hz)
theorem goodC_pair {l : List GLeaf} (h : goodC l = true) : l.Pairwise (fun x y => lessP x.Path y.Path = true) := by
  simp only [goodC, Bool.and_eq_true] at h
  exact (goodG_pair l none h.1).1
theorem cmpP_neg (a b : List ByteArray) : cmpP a b < 0 ↔ lessP a b = true := by
  have h := cmpP_less a b
  constructor
  · intro hc
    have : decide (0 ≤ cmpP a b) = false := by simp; omega
    rw [this] at h
    simpa using h.symm
  · intro hl
    rw [hl] at h
    simp at h
    omega
theorem pair_mono {m : List GLeaf} (h : m.Pairwise (fun x y => lessP x.Path y.Path = true)) (p : List ByteArray) (i j : Nat) (hij : i < j) (hj : j < m.length) : cmpP m[j].Path p < 0 → cmpP m[i].Path p < 0 := by
  rw [cmpP_neg, cmpP_neg]
  exact lessP_trans _ _ _ (List.pairwise_iff_getElem.1 h i j (by omega) hj hij)
theorem alloc_kp (bs : List Nat) (w : World) (blk : Obj) : Kp bs w (w.alloc blk) := ⟨rfl, rfl, rfl, by show w.heap.size ≤ (w.heap.push blk).size; rw [Array.size_push]; omega, fun k hk _ => by
  show (w.heap.push blk)[k]? = w.heap[k]?
  rw [Array.getElem?_push]
  rw [if_neg (by omega)]⟩
theorem alloc_at (w : World) (blk : Obj) : (w.alloc blk).heap[w.heap.size]? = some blk := by
  show (w.heap.push blk)[w.heap.size]? = some blk
  simp
/-- The cells of a row behind an insertion. -/
def insV (S i : Nat) (cv vv : List Value) : List Value := cv.take (i * S) ++ vv ++ cv.drop (i * S)
theorem insV_len (S i : Nat) (cv vv : List Value) : (insV S i cv vv).length = cv.length + vv.length := by
  unfold insV
  simp only [List.length_append, List.length_take, List.length_drop]
  omega
theorem insV_at (S i : Nat) (cv vv : List Value) (hv : vv.length = S) (hi : i * S ≤ cv.length) (j : Nat) : (insV S i cv vv)[j]? = if j < i * S then cv[j]? else if j < i * S + S then vv[j - i * S]? else cv[j - S]? := by
  have hl : (cv.take (i * S)).length = i * S := by rw [List.length_take]; omega
  unfold insV
  rw [List.append_assoc, List.getElem?_append, hl]
  split
  · rename_i h
    rw [List.getElem?_take, if_pos h]
  · rename_i h
    rw [List.getElem?_append, hv]
    split
    · rw [if_pos (by omega)]
    · rw [if_neg (by omega), List.getElem?_drop]
      congr 1
      omega
theorem getv {l : List Value} {j : Nat} {u : Value} (h : l[j]? = some u) : j < l.length := (List.getElem?_eq_some_iff.1 h).1
/-- A road of slices.Insert: at the end. -/
theorem ins_end (base : Option Addr) (vb n c vc : Nat) (w w1 : World) (r : Value) (hn : n ≤ c)
    (hr : ∀ ty, (Builtin.append_ #[58, 58] ty #[.slice base n c, .slice (some ⟨vb, 0, none⟩) 1 vc]).run Try.prog w = .ok r w1) :
    Calls Try.prog 135 #[.slice base n c, .int .i64 n, .slice (some ⟨vb, 0, none⟩) 1 vc] w fun e w' => e = .returned r ∧ w' = w1 := by
  have mixed : Try.prog.follows .mixedOrders = true := by kernel_rfl
  have tS : Try.prog.underlying 58 = some (.slice 103) := by kernel_rfl
  have uS := run_underlying tS
  have zE : ∀ w, (Go.sizeOf 103).run Try.prog w = .ok 2 w := fun w => by kernel_rfl
  have zS : ∀ w, (Go.sizeOf 58).run Try.prog w = .ok 1 w := fun w => by kernel_rfl
  have aS : ∀ w, (isAgg 58).run Try.prog w = .ok false w := fun w => by kernel_rfl
  have t3 : Try.prog.underlying 3 = some (.int .i64) := by kernel_rfl
  have u3 := run_underlying t3
  have a3 : ∀ w, (isAgg 3).run Try.prog w = .ok false w := fun w => by kernel_rfl
  have z3 : ∀ w, (Go.sizeOf 3).run Try.prog w = .ok 1 w := fun w => by kernel_rfl
  go_enter Try.func135, Try.ntmps135
  go_wp2_with (at_builtin; refine Lib.wpList_append_run _ rfl _ _ _ _ rfl _ _ rfl rfl _ _ (hr _) ?_)
  all_goals (go_ret; exact ⟨rfl, rfl⟩)
theorem run_copy_n {P : Program} (w : World) (dT sT ty elem : TypeId) (b o dLen dCap : Nat) (a : Addr) (sLen sCap sz : Nat) (cs : List Value)
    (hu : P.underlying dT = some (.slice elem)) (hs : (P.info? elem).map (·.size) = some sz) (hn : cs.length = Nat.min sLen dLen * sz)
    (hsrc : ∀ j v, cs[j]? = some v → w.cell? (a.add j) = some v) (hc : ∀ j, j < cs.length → (w.cell? ⟨b, o + j, none⟩).isSome = true) (hf : ∀ j, j < cs.length → w.frozen? ⟨b, o + j, none⟩ = false) (h1 : ∀ v ∈ cs, v.oneCell' = true) :
    (Builtin.copy_ #[dT, sT] ty #[.slice (some ⟨b, o, none⟩) dLen dCap, .slice (some a) sLen sCap]).run P w = .ok (goInt (Nat.min sLen dLen)) (w.setCells b o cs) := by
  have hl := run_loadCells_list (P := P) w a cs hsrc
  have hst := run_storeCells_cells (P := P) b o cs 0 w (by simpa using hc) (by simpa using hf) h1
  cases hq : P.info? elem with
  | none => simp [hq] at hs
  | some i =>
    have hi : i.size = sz := by simpa [hq] using hs
    simp [Builtin.copy_, run_underlying hu, Builtin.lenOf, Builtin.firstCells, sizeOf, typeInfo, hq, hi, ← hn, hl, hst]
/-- A road of slices.Insert: ahead of the end, with room. -/
theorem ins_shift (b vb n c i vc : Nat) (w w1 w2 : World) (x1 x2 : Value) (hi : i < n) (hn63 : n < 9223372036854775807) (hroom : n + 1 ≤ c)
    (hov : ∀ lb cb, (callFunc 143 #[.slice (some ⟨vb, 0, none⟩) 1 vc, .slice (some ⟨b, (i + 1) * 2, none⟩) lb cb]).run Try.prog w = .ok (.value (.bool false)) w)
    (hc1 : ∀ ty dc sc, (Builtin.copy_ #[58, 58] ty #[.slice (some ⟨b, (i + 1) * 2, none⟩) (n - i) dc, .slice (some ⟨b, i * 2, none⟩) (n + 1 - i) sc]).run Try.prog w.drew = .ok x1 w1)
    (hc2 : ∀ ty dc, (Builtin.copy_ #[58, 58] ty #[.slice (some ⟨b, i * 2, none⟩) (n + 1 - i) dc, .slice (some ⟨vb, 0, none⟩) 1 vc]).run Try.prog w1 = .ok x2 w2) :
    Calls Try.prog 135 #[.slice (some ⟨b, 0, none⟩) n c, .int .i64 i, .slice (some ⟨vb, 0, none⟩) 1 vc] w fun e w' => e = .returned (.slice (some ⟨b, 0, none⟩) (n + 1) c) ∧ w' = w2 := by
  have mixed : Try.prog.follows .mixedOrders = true := by kernel_rfl
  have tS : Try.prog.underlying 58 = some (.slice 103) := by kernel_rfl
  have uS := run_underlying tS
  have zE : ∀ w, (Go.sizeOf 103).run Try.prog w = .ok 2 w := fun w => by kernel_rfl
  have zS : ∀ w, (Go.sizeOf 58).run Try.prog w = .ok 1 w := fun w => by kernel_rfl
  have aS : ∀ w, (isAgg 58).run Try.prog w = .ok false w := fun w => by kernel_rfl
  have t3 : Try.prog.underlying 3 = some (.int .i64) := by kernel_rfl
  have u3 := run_underlying t3
  have a3 : ∀ w, (isAgg 3).run Try.prog w = .ok false w := fun w => by kernel_rfl
  have z3 : ∀ w, (Go.sizeOf 3).run Try.prog w = .ok 1 w := fun w => by kernel_rfl
  have hz2 : ¬ ((i : Int) = (n : Int)) := by omega
  have hw1 : IntKind.i64.wrap ((i : Int) + 1) = (i : Int) + 1 := by rw [IntKind.wrap_i64]; omega
  have hb1 : (0 : Int) ≤ (i : Int) + 1 := by omega
  have hin : i ≤ n := by omega
  have htn : ((i : Int) + 1).toNat = i + 1 := by omega
  have hb2 : ¬ (c = i + 1) := by omega
  have hb3 : (i : Int) ≤ (n : Int) + 1 := by omega
  have hb4 : ¬ (c = i) := by omega
  go_enter Try.func135, Try.ntmps135
  go_wp2_with (simp only [hov])
  go_region_law_o (refine step_copy_runI rfl _ _ 58 58 rfl _ _ (by simp [Act.eval, Act.put]) (by simp [Act.eval, Act.put]) (hc1 _ _ _) ?_)
  go_wp2_with (at_builtin; refine wpList_copy_runI _ rfl _ _ 58 58 rfl _ _ rfl rfl (hc2 _ _) ?_)
  go_ret
  exact ⟨rfl, rfl⟩
end Go.V
