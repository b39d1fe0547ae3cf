/- What functions of the seat's program do, each proved of its code, under the bounds that its theorem names. -/
import Derived.Test.YtnmfcpgelajolaaTac
import Derived.Deep.AppendSrc
import Derived.Laws.Externs
import Derived.Laws.IdiomCopy
import Derived.Lib.AppendZeros
import Derived.Lib.AppendZerosOnto
import Derived.Lib.JoinLaws
import Derived.Lib.Overlaps
import Derived.Lib.SliceRun
import Derived.Lib.Walk
import Derived.WalkKit
set_option linter.all false
namespace Go.V
open Go.Proofs
set_option maxHeartbeats 1000000
set_option maxRecDepth 10000
set_option linter.unusedSimpArgs false
set_option linter.unusedVariables false
def storeOK (s : GStore) : Prop := confOK s.Candidate ∧ confOK s.Running ∧ s.History.length ≤ 140737488351232 ∧ ∀ l ∈ s.History, confOK l
def goodS (s : GStore) : Bool := goodC s.Candidate && goodC s.Running && decide ((1 : Int) ≤ s.History.length ∧ (s.History.length : Int) ≤ 10) && s.History.all goodC && decide (0 ≤ s.Left ∧ s.Left ≤ 100) && (decide (s.Left = 0) == decide (s.Running = s.History.headD []))
theorem ok_GoodStore1 (k : Nat) (l : List GLeaf) (hl : confOK l) : CallOK Try.prog 24 [.c (rd k l.length (l.flatMap (GLeaf.ci k)))] (.c (pb (!goodC l))) [.c (rd k l.length (l.flatMap (GLeaf.ci k)))] := by
  refine okS (fn := Try.f24) [] h0 Try.func24 (by kernel_rfl) rfl Try.ntmps24 Try.results24 (by simp) ?_
  simp
  refine Inv_intro (ok_iGoodConfig k l hl) ?_
  simp
theorem head_cells (k : Nat) (h : List (List GLeaf)) (l : List GLeaf) (t : List (List GLeaf)) (e : h = l :: t) : h.map (cLeafSi k) = cLeafSi k l :: t.map (cLeafSi k) := by rw [e]; rfl
theorem ok_iGoodStore (k : Nat) (s : GStore) (hs : storeOK s) : CallOK Try.prog 11 [.agg (GStore.ci k s)] (.c (pb (goodS s))) [.agg (GStore.ci k s)] := by
  obtain ⟨h1, h2, h3, h4⟩ := hs
  refine okS (fn := Try.f11) [] h0 Try.func11 (by kernel_rfl) rfl Try.ntmps11 Try.results11 (by simp) ?_
  simp
  refine Inv_intro (ok_iGoodConfig k s.Candidate h1) ?_
  simp
  cases c1 : goodC s.Candidate with
  | false => simp [goodS, c1]
  | true =>
    simp
    refine Inv_intro (ok_iGoodConfig k s.Running h2) ?_
    simp
    cases c2 : goodC s.Running with
    | false => simp [goodS, c2]
    | true =>
      simp
      refine Inv_intro (ok_within _ _ _) ?_
      simp
      by_cases c3 : (1 : Int) ≤ s.History.length ∧ (s.History.length : Int) ≤ 10
      · simp [c3.1, c3.2]
        refine Inv_intro (ok_ContainsFunc_LeafS k 0 24 [] (fun l => !goodC l) s.History h3 fun l hl => ok_GoodStore1 k l (h4 l hl)) ?_
        rw [any_not]
        simp
        cases c4 : s.History.all goodC with
        | false => simp [goodS, c4]
        | true =>
          obtain ⟨l, t, e⟩ : ∃ l t, s.History = l :: t := by
            cases hh : s.History with
            | nil => rw [hh] at c3; simp at c3
            | cons l t => exact ⟨l, t, rfl⟩
          have hl : confOK l := h4 l (by rw [e]; simp)
          have hc := head_cells k s.History l t e
          have hlen : 0 < s.History.length := by rw [e]; simp
          simp
          refine drawP (tabEnv [] _) [⟨[.op 0 0 0], allD 41, true⟩, ⟨[.op 0 0 0], allD 41, true⟩, ⟨[], allD 41, false⟩, ⟨[], allD 41, true⟩, ⟨[.op 0 0 0], allD 41, true⟩, ⟨[.op 0 0 0], allD 41, true⟩, ⟨[], allD 41, true⟩, ⟨[.op 0 0 0], allD 41, true⟩, ⟨[.op 0 0 0], allD 41, true⟩, ⟨[.op 0 0 0], allD 41, true⟩, ⟨[.op 0 0 0], allD 41, true⟩, ⟨[], allD 41, true⟩, ⟨[], allD 41, true⟩, ⟨[], allD 41, false⟩, ⟨[], allD 41, true⟩, ⟨[], allD 41, true⟩, ⟨[], allD 41, true⟩] h0 hm (tabEnv_ok (tab_cons (ok_within s.Left 0 100) (tab_cons (ok_sameConfig k k s.Running l h2 hl) tab_nil))) (by kernel_rfl) (by kernel_rfl) ?_
          by_cases c5 : 0 ≤ s.Left ∧ s.Left ≤ 100
          · have eg : goodS s = (decide (s.Left = 0) == decide (s.Running = l)) := by
              unfold goodS
              rw [c1, c2, c4, decide_eq_true c3, decide_eq_true c5, e]
              simp
            simp [c5.1, c5.2, hc, hlen, eg]
          · have eg : goodS s = false := by
              unfold goodS
              rw [decide_eq_false c5]
              simp
            have c5' : (decide (0 ≤ s.Left) && decide (s.Left ≤ 100)) = false := by simpa using c5
            simp [c5', eg]
      · have eg : goodS s = false := by
          unfold goodS
          rw [decide_eq_false c3]
          simp
        have c3' : (decide ((1 : Int) ≤ s.History.length) && decide ((s.History.length : Int) ≤ 10)) = false := by simpa using c3
        have c3b : (!decide ((1 : Int) ≤ s.History.length) || !decide ((s.History.length : Int) ≤ 10)) = true := by rw [← Bool.not_and, c3']; rfl
        simp [c3', c3b, eg]
theorem ok_IndexFunc_Leaf (k q g : Nat) (caps : List (List PT)) (p : GLeaf → Bool) (xs : List GLeaf) (ha : xs.length ≤ 140737488351232)
    (hg : ∀ x ∈ xs, CallOK Try.prog g (.agg (GLeaf.ci k x) :: caps.map (PV.ip q)) (.c (pb (p x))) (.agg (GLeaf.ci k x) :: caps.map (PV.ip q))) :
    CallOK Try.prog 76 [.c (rd k xs.length (xs.flatMap (GLeaf.ci k))), .c (.fn q g caps)] (.c (pi (idxOf p xs))) [.c (rd k xs.length (xs.flatMap (GLeaf.ci k))), .c (.fn q g caps)] := by
  refine okS (fn := Try.f76) [] h0 Try.func76 (by kernel_rfl) rfl Try.ntmps76 Try.results76 (by simp) ?_
  simp
  refine loopS [0, 1, 7, 8] [] (fun n st => ∃ (i : Nat), i + n = xs.length ∧ (∀ (j : Nat) (hj : j < i) (hj' : j < xs.length), p xs[j] = false) ∧ st = ⟨slOf 19 [(0, .t (rd k xs.length (xs.flatMap (GLeaf.ci k)))), (1, .t (.fn q g caps)), (7, .t (pi xs.length)), (8, .t (pi i))], ofL []⟩) xs.length ?_ ?_
  · rintro Inv hI
    simp
    subst hI
    exact ⟨0, by omega, by intro j hj; omega, rfl⟩
  · rintro Inv hI n st ⟨i, hi, hall, rfl⟩
    refine ewr_sound (M := []) h0 ?_
    simp
    refine brn_app (fun h => ?_) (fun h => ?_)
    · simp at h
      have hd := fm_drop (GLeaf.ci k) 2 (fun _ => rfl) xs i h
      have hlen := fm_len (GLeaf.ci k) 2 (fun _ => rfl) xs
      have hlt : i * 2 < xs.length * 2 := by omega
      simp [h, hd, hlen, hlt]
      refine Inv_intro (hg _ (List.getElem_mem h)) ?_
      simp
      refine brn_app (fun h2 => ?_) (fun h2 => ?_)
      · simp
        exact (idxOf_hit p xs i h h2 fun j hj => hall j hj (by omega)).symm
      · simp
        subst hI
        refine Less_mk (n - 1) (by omega) ⟨i + 1, by omega, ?_, by rw [wrNext i (by omega)]⟩
        intro j hj hj'
        by_cases hji : j = i
        · subst hji; exact h2
        · exact hall j (by omega) hj'
    · simp at h
      simp
      exact (idxOf_no p xs fun j hj => hall j (by omega) hj).symm
theorem idxOf_find {α : Type} (p : α → Bool) (xs : List α) : (idxOf p xs = -1 ∧ xs.findIdx? p = none) ∨ ∃ (i : Nat) (h : i < xs.length), idxOf p xs = i ∧ xs.findIdx? p = some i := by
  unfold idxOf
  cases h : xs.findIdx? p with
  | none => exact .inl ⟨rfl, rfl⟩
  | some i =>
    have h' := h
    rw [List.findIdx?_eq_some_iff_getElem] at h'
    exact .inr ⟨i, h'.1, rfl, rfl⟩
theorem set_take {α : Type} (C : List α) (a b : Nat) (y : α) (h : a ≤ b) : (C.set b y).take a = C.take a := by
  apply List.ext_getElem?
  intro n
  simp only [List.getElem?_take]
  split
  · rw [List.getElem?_set_ne (by omega)]
  · rfl
theorem set_drop {α : Type} (C : List α) (a b : Nat) (y : α) (h : b < a) : (C.set b y).drop a = C.drop a := by
  apply List.ext_getElem?
  intro n
  simp only [List.getElem?_drop]
  rw [List.getElem?_set_ne (by omega)]
theorem put2 {α : Type} (C : List α) (s v : α) (i j : Nat) (h : i * 2 + 2 ≤ C.length) (hij : i < j) : (C.take (i * 2) ++ s :: v :: C.drop (i * 2 + 2)).length = C.length ∧ (C.take (i * 2) ++ s :: v :: C.drop (i * 2 + 2)).take ((i + 1) * 2) = C.take (i * 2) ++ [s, v] ∧ (C.take (i * 2) ++ s :: v :: C.drop (i * 2 + 2)).drop ((j + 1) * 2) = C.drop ((j + 1) * 2) := by
  have hl : (C.take (i * 2)).length = i * 2 := by rw [List.length_take]; omega
  have e1 : (i + 1) * 2 = (C.take (i * 2)).length + 2 := by omega
  refine ⟨?_, ?_, ?_⟩
  · simp only [List.length_append, List.length_cons, List.length_drop, hl]
    omega
  · rw [e1, List.take_length_add_append]
    rfl
  · have e2 : (j + 1) * 2 = (C.take (i * 2)).length + (2 + (j - i) * 2) := by omega
    rw [e2, List.drop_length_add_append, ← List.drop_drop]
    show List.drop ((j - i) * 2) (C.drop (i * 2 + 2)) = _
    rw [List.drop_drop, hl]
    congr 1
    omega
theorem ok_DeleteFunc_Leaf (q g : Nat) (caps : List (List PT)) (p : GLeaf → Bool) (xs : List GLeaf) (ha : xs.length ≤ 140737488351232)
    (hg : ∀ x ∈ xs, CallOK Try.prog g (.agg (GLeaf.ci 0 x) :: caps.map (PV.ip q)) (.c (pb (p x))) (.agg (GLeaf.ci 0 x) :: caps.map (PV.ip q))) :
    CallOK Try.prog 58 [.c (.sl 0 58 xs.length (xs.flatMap GLeaf.co)), .c (.fn q g caps)] (.c (.sl 0 58 (xs.filter fun x => !p x).length ((xs.filter fun x => !p x).flatMap GLeaf.co))) [.c .hole, .c (.fn q g caps)] := by
  refine okS (fn := Try.f58) [] h0 Try.func58 (by kernel_rfl) rfl Try.ntmps58 Try.results58 (by simp) ?_
  simp
  refine Inv_intro (ok_IndexFunc_Leaf 0 q g caps p xs ha hg) ?_
  simp
  rcases idxOf_find p xs with ⟨e, hf⟩ | ⟨i0, hi0, e, hf⟩
  · rw [e]
    have hall : xs.filter (fun x => !p x) = xs := by
      rw [List.findIdx?_eq_none_iff] at hf
      exact List.filter_eq_self.2 fun x hx => by simp [hf x hx]
    rw [hall]
    simp
  · rw [e]
    have hne : ¬ (i0 : Int) = -1 := by omega
    have hw0 : IntKind.wrap .i64 ((i0 : Int) + 1) = ((i0 + 1 : Nat) : Int) := wrNext i0 (by omega)
    simp [hne, hw0]
    refine loopS [0, 1, 5, 6] [.arg 0 0] (fun m st => ∃ (j i : Nat) (C : List PT), j + m = xs.length ∧ i < j ∧ ((xs.take j).filter fun x => !p x).length = i ∧ C.length = xs.length * 2 ∧ C.take (i * 2) = ((xs.take j).filter fun x => !p x).flatMap GLeaf.co ∧ C.drop (j * 2) = (xs.drop j).flatMap GLeaf.co ∧ st = ⟨slOf 42 [(0, .ref ⟨.arg 0 0, []⟩ 0 xs.length), (1, .t (.fn q g caps)), (5, .t (pi i)), (6, .t (pi j))], ofL [(.arg 0 0, .sl 0 58 xs.length C)]⟩) (xs.length - (i0 + 1)) ?_ ?_
    · rintro Inv hI
      have hfirst : (xs.take (i0 + 1)).filter (fun x => !p x) = xs.take i0 := by
        rw [List.findIdx?_eq_some_iff_getElem] at hf
        obtain ⟨h1, h2, h3⟩ := hf
        rw [take_step xs i0 hi0, List.filter_append]
        have e1 : (xs.take i0).filter (fun x => !p x) = xs.take i0 := by
          refine List.filter_eq_self.2 fun x hx => ?_
          obtain ⟨j, hj, rfl⟩ := List.mem_iff_getElem.1 hx
          have hj' : j < i0 := by rw [List.length_take] at hj; omega
          rw [List.getElem_take]
          simpa using h3 j hj'
        rw [e1]
        simp [h2]
      simp
      subst hI
      refine ⟨i0 + 1, i0, xs.flatMap GLeaf.co, by omega, by omega, by rw [hfirst, List.length_take]; omega, fm_len GLeaf.co 2 (fun _ => rfl) xs, ?_, ?_, ?_⟩
      · have hx := congrArg (List.flatMap GLeaf.co) (List.take_append_drop i0 xs)
        rw [List.flatMap_append] at hx
        rw [hfirst, ← hx, List.take_left' (by rw [fm_len GLeaf.co 2 (fun _ => rfl), List.length_take]; omega)]
      · have hx := congrArg (List.flatMap GLeaf.co) (List.take_append_drop (i0 + 1) xs)
        rw [List.flatMap_append] at hx
        rw [← hx, List.drop_left' (by rw [fm_len GLeaf.co 2 (fun _ => rfl), List.length_take]; omega)]
      · rfl
    · rintro Inv hI m st ⟨j, i, C, hj, hlt, hi, hCl, hCt, hCd0, rfl⟩
      refine ewr_sound (M := []) h0 ?_
      simp
      refine brn_app (fun a => ?_) (fun a => ?_)
      · simp at a
        have hCd : C.drop (j * 2) = .sl 0 9 xs[j].Path.length (xs[j].Path.map ps) :: ps xs[j].Value :: (xs.drop (j + 1)).flatMap GLeaf.co := by
          rw [hCd0, drop_step _ j a, List.flatMap_cons]
          rfl
        have hCg : ∀ h : j * 2 < C.length, C[j * 2] = .sl 0 9 xs[j].Path.length (xs[j].Path.map ps) := by
          intro h
          rw [List.drop_eq_getElem_cons h] at hCd
          exact (List.cons.inj hCd).1
        have hCn : C.drop ((j + 1) * 2) = (xs.drop (j + 1)).flatMap GLeaf.co := by
          have : (j + 1) * 2 = j * 2 + 2 := by omega
          rw [this, ← List.drop_drop, hCd]
          rfl
        have hb : j * 2 + 2 ≤ xs.length * 2 := by omega
        have hfs : (xs.take (j + 1)).filter (fun x => !p x) = (xs.take j).filter (fun x => !p x) ++ (if p xs[j] = true then [] else [xs[j]]) := by
          rw [take_step xs j a, List.filter_append]
          cases hpx : p xs[j] <;> simp [hpx]
        simp [a, hCl, hCd, hCg, hb]
        refine Inv_intro (hg _ (List.getElem_mem a)) ?_
        simp
        refine brn_app (fun b => ?_) (fun b => ?_)
        · simp at b
          rw [if_neg (by simp [b])] at hfs
          have hib : i * 2 < xs.length * 2 := by omega
          have hib2 : i < xs.length := by omega
          have hib3 : i * 2 + 2 ≤ xs.length * 2 := by omega
          simp [hCl, hib, hib2, hib3]
          subst hI
          obtain ⟨g1, g2, g3⟩ := put2 (C.set (j * 2) .hole) (.sl 0 9 xs[j].Path.length (xs[j].Path.map ps)) (ps xs[j].Value) i j (by rw [List.length_set]; omega) hlt
          refine Less_mk (m - 1) (by omega) ⟨j + 1, i + 1, _, by omega, by omega, by rw [hfs, List.length_append, hi]; rfl, g1.trans (by rw [List.length_set]; exact hCl), ?_, ?_, ?_⟩
          · rw [g2, set_take C _ _ _ (by omega), hCt, hfs, List.flatMap_append]
            simp
          · rw [g3, set_drop C _ _ _ (by omega), hCn]
          · rw [wrNext i (by omega), wrNext j (by omega)]
        · simp at b
          rw [if_pos b, List.append_nil] at hfs
          simp
          subst hI
          refine Less_mk (m - 1) (by omega) ⟨j + 1, i, C.set (j * 2) .hole, by omega, by omega, by rw [hfs, hi], by rw [List.length_set]; exact hCl, ?_, ?_, ?_⟩
          · rw [set_take C _ _ _ (by omega), hCt, hfs]
          · rw [set_drop C _ _ _ (by omega), hCn]
          · rw [wrNext j (by omega)]
      · simp at a
        have hjn : j = xs.length := by omega
        subst hjn
        rw [List.take_length] at hi hCt
        have hil : i ≤ xs.length := by omega
        have hCtl : (C.take (i * 2)).length = i * 2 := by rw [List.length_take]; omega
        have hz0 : ¬ xs.length - i = 0 := by omega
        have hz1 : i * 2 + (xs.length - i) * 2 ≤ C.length := by omega
        have hz2 : i * 2 ≤ min (i * 2) C.length + ((xs.length - i) * 2 + (C.length - (i * 2 + (xs.length - i) * 2))) := by omega
        have hTT : ∀ Y, List.take (i * 2) (C.take (i * 2) ++ Y) = C.take (i * 2) := fun Y => List.take_left' hCtl
        rw [hi, ← hCt]
        simp [hil, hz0, hz1, hz2, hTT]
theorem ok_Clone_String (k : Nat) (xs : List ByteArray) (hx : xs.length ≤ 1048576) : CallOK Try.prog 43 [.c (rd k xs.length (xs.map ps))] (.c (.sl 0 9 xs.length (xs.map ps))) [.c (rd k xs.length (xs.map ps))] := by
  refine okS (fn := Try.f43) [] h0 Try.func43 (by kernel_rfl) rfl Try.ntmps43 Try.results43 (by simp) ?_
  cases xs with
  | nil => simp
  | cons y ys =>
    simp only [List.length_cons] at hx
    have hb : (ys.length + 1) * 16 ≤ 140737488355328 ∧ ys.length + 1 ≤ 9223372036854775807 := by omega
    have hb2 : ys.length + 1 ≤ 9223372036854775807 := by omega
    have hb1 : (ys.length + 1) * 16 ≤ 140737488355328 := by omega
    simp [hb1, hb2]
theorem ok_ownConfig (k : Nat) (l : List GLeaf) (hl : l.length ≤ 1048576) (hx : ∀ x ∈ l, x.Path.length ≤ 1048576) : CallOK Try.prog 20 [.c (rd k l.length (l.flatMap (GLeaf.ci k)))] (.c (.sl 0 58 l.length (l.flatMap GLeaf.co))) [.c (rd k l.length (l.flatMap (GLeaf.ci k)))] := by
  refine okS (fn := Try.f20) [] h0 Try.func20 (by kernel_rfl) rfl Try.ntmps20 Try.results20 (by simp) ?_
  simp
  refine ewp_sw (.op 1 0 0) (.op 5 8 0) rfl rfl ?_
  simp
  refine loopS [3, 7, 8, 9] [.op 5 8 0] (fun n st => ∃ (i : Nat), i + n = l.length ∧ st = ⟨slOf 24 [(3, .ref ⟨.op 5 8 0, []⟩ 0 i), (7, .t (rd k l.length (l.flatMap (GLeaf.ci k)))), (8, .t (pi l.length)), (9, .t (pi i))], ofL [(.op 5 8 0, .sl 0 58 i ((l.take i).flatMap GLeaf.co))]⟩) l.length ?_ ?_
  · rintro Inv hI
    simp
    subst hI
    exact ⟨0, by omega, by simp⟩
  · rintro Inv hI n st ⟨i, hi, rfl⟩
    have hA := fm_take_len GLeaf.co 2 (fun _ => rfl) l i (by omega)
    generalize hAe : ((l.take i).flatMap GLeaf.co) = A at hA ⊢
    refine ewr_sound (M := []) h0 ?_
    simp
    refine brn_app (fun a => ?_) (fun a => ?_)
    · simp at a
      have hd := fm_drop (GLeaf.ci k) 2 (fun _ => rfl) l i a
      have hlen := fm_len (GLeaf.ci k) 2 (fun _ => rfl) l
      have hlt : i * 2 < l.length * 2 := by omega
      have hb1 : (i + 1) * 40 ≤ 140737488355328 := by omega
      have hb2 : i ≤ 9223372036854775806 := by omega
      have hp := hx _ (List.getElem_mem a)
      have hp1 : l[i].Path.length * 16 ≤ 140737488355328 := by omega
      have hp2 : l[i].Path.length ≤ 9223372036854775807 := by omega
      have ht : A.take (i * 2) = A := List.take_of_length_le (by omega)
      have e3 : ((l.take (i + 1)).flatMap GLeaf.co) = A ++ GLeaf.co l[i] := by rw [take_step l i a, List.flatMap_append, hAe, List.flatMap_cons, List.flatMap_nil, List.append_nil]
      simp [a, hd, hlen, hlt]
      refine drawP (tabEnv [] _) [⟨[.op 5 8 0], allD 24, true⟩, ⟨[.op 4 2 0], allD 24, true⟩, ⟨[.op 4 2 0], allD 24, true⟩, ⟨[], allD 24, false⟩, ⟨[.op 4 2 0], allD 24, true⟩, ⟨[.op 4 2 0], allD 24, true⟩, ⟨[.op 5 3 0], allD 24, true⟩, ⟨[.op 5 3 0, .op 5 6 0], [13, 14, 15, 16, 17, 18, 19, 20, 21, 3], false⟩, ⟨[.op 5 8 0, .op 5 7 0], [13, 14, 15, 16, 17, 18, 19, 20, 21, 3], false⟩, ⟨[.op 5 8 0], allD 24, true⟩] h0 hm (tabEnv_ok (tab_cons (ok_Clone_String k l[i].Path hp) tab_nil)) (by kernel_rfl) (by kernel_rfl) ?_
      simp [hA, hb1, hb2, ht]
      subst hI
      refine Less_mk (n - 1) (by omega) ⟨i + 1, by omega, ?_⟩
      rw [wrNext i (by omega), e3]
      all_goals simp
    · simp at a
      have hn : n = 0 := by omega
      subst hn
      have ht : List.take i l = l := List.take_of_length_le (by omega)
      have hil : i = l.length := by omega
      rw [← hAe, ht, hil]
      simp
def begL (p : List ByteArray) (x : GLeaf) : Bool := begP p x.Path
def delL (p : List ByteArray) (l : List GLeaf) : List GLeaf := l.filter fun x => !begL p x
theorem delL_len (p : List ByteArray) (l : List GLeaf) : (delL p l).length ≤ l.length := List.length_filter_le _ _
def rDeleteAt (l : List GLeaf) (p : List ByteArray) : List GLeaf × Bool := if (goodC l && isP p && !decide ((delL p l).length = l.length)) = true then (delL p l, true) else ([], false)
theorem ok_DeleteAt1 (q k k' : Nat) (x : GLeaf) (p : List ByteArray) (hx : x.Path.length ≤ 140737488351232) (hp : p.length ≤ 140737488351232) : CallOK Try.prog 59 [.agg (GLeaf.ci k x), .ip q [rd k' p.length (p.map ps)]] (.c (pb (begL p x))) [.agg (GLeaf.ci k x), .ip q [rd k' p.length (p.map ps)]] := by
  refine okS (fn := Try.f59) [] h0 Try.func59 (by kernel_rfl) rfl Try.ntmps59 Try.results59 (by simp) ?_
  simp
  refine Inv_intro (ok_begins k' k p x.Path hp hx) ?_
  simp [begL]
theorem ok_iDeleteAt (k k' : Nat) (l : List GLeaf) (p : List ByteArray) (hl : l.length ≤ 1048576) (hx : ∀ x ∈ l, x.Path.length ≤ 1048576) (hlo : confOK l) (hp : strsOK p) : CallOK Try.prog 34 [.c (rd k l.length (l.flatMap (GLeaf.ci k))), .c (rd k' p.length (p.map ps))] (.tup [.c (.sl 0 58 (rDeleteAt l p).1.length ((rDeleteAt l p).1.flatMap GLeaf.co)), .c (pb (rDeleteAt l p).2)]) [.c (rd k l.length (l.flatMap (GLeaf.ci k))), .c (rd k' p.length (p.map ps))] := by
  refine okS (fn := Try.f34) [(58, [2])] h0 Try.func34 (by kernel_rfl) rfl Try.ntmps34 Try.results34 (by simp) ?_
  simp
  refine Inv_intro (ok_iGoodConfig k l hlo) ?_
  simp
  cases c1 : goodC l with
  | false => simp [rDeleteAt, c1]
  | true =>
    simp
    refine Inv_intro (ok_areWords k' p hp.1 hp.2) ?_
    simp
    cases c2 : isP p with
    | false => simp [rDeleteAt, c2]
    | true =>
      simp
      refine Inv_intro (ok_ownConfig k l hl hx) ?_
      simp
      refine Inv_intro (ok_DeleteFunc_Leaf 1 59 [[rd 0 p.length (p.map ps)]] (begL p) l hlo.1 (fun x hx => ok_DeleteAt1 1 0 0 x p (hlo.2 x hx).1.1 hp.1)) ?_
      have hdl : l.filter (fun x => !begL p x) = delL p l := rfl
      have hll := delL_len p l
      rw [hdl]
      simp
      refine brn_app (fun a => ?_) (fun a => ?_)
      · simp at a
        have h : (delL p l).length = l.length := by omega
        simp [rDeleteAt, h]
      · simp at a
        have h : ¬ (delL p l).length = l.length := by omega
        have er : rDeleteAt l p = (delL p l, true) := by simp [rDeleteAt, c1, c2, h]
        rw [er]
        simp
theorem ok_setAt2 (k k' : Nat) (x : GLeaf) (p : List ByteArray) (hx : x.Path.length ≤ 140737488351232) (hp : p.length ≤ 140737488351232) : CallOK Try.prog 74 [.agg (GLeaf.ci k x), .c (rd k' p.length (p.map ps))] (.c (pi (cmpP x.Path p))) [.agg (GLeaf.ci k x), .c (rd k' p.length (p.map ps))] := by
  refine okS (fn := Try.f74) [] h0 Try.func74 (by kernel_rfl) rfl Try.ntmps74 Try.results74 (by simp) ?_
  simp
  refine Inv_intro (ok_cmpP k k' x.Path p hx hp) ?_
  simp
def clashB (p : List ByteArray) (x : GLeaf) : Bool := begP x.Path p || begP p x.Path
theorem ok_setAt1 (q k k' : Nat) (x : GLeaf) (p : List ByteArray) (hx : x.Path.length ≤ 140737488351232) (hp : p.length ≤ 140737488351232) : CallOK Try.prog 72 [.agg (GLeaf.ci k x), .ip q [rd k' p.length (p.map ps)]] (.c (pb (clashB p x))) [.agg (GLeaf.ci k x), .ip q [rd k' p.length (p.map ps)]] := by
  refine okS (fn := Try.f72) [] h0 Try.func72 (by kernel_rfl) rfl Try.ntmps72 Try.results72 (by simp) ?_
  simp
  refine Inv_intro (ok_begins k k' x.Path p hx hp) ?_
  simp
  cases h : begP x.Path p with
  | true => simp [clashB, h]
  | false =>
    simp
    refine Inv_intro (ok_begins k' k p x.Path hp hx) ?_
    simp [clashB, h]
theorem ok_BS_Leaf (k k' : Nat) (xs : List GLeaf) (p : List ByteArray) (hl : confOK xs) (hp : p.length ≤ 140737488351232) (hmono : ∀ (i j : Nat) (hij : i < j) (hj : j < xs.length), cmpP xs[j].Path p < 0 → cmpP xs[i].Path p < 0) :
    CallOK Try.prog 73 [.c (rd k xs.length (xs.flatMap (GLeaf.ci k))), .c (rd k' p.length (p.map ps)), .c (.fn 0 74 [])] (.tup [.c (pi (bsI (fun o : GLeaf => cmpP o.Path p) xs)), .c (pb (bsF (fun o : GLeaf => cmpP o.Path p) xs))]) [.c (rd k xs.length (xs.flatMap (GLeaf.ci k))), .c (rd k' p.length (p.map ps)), .c (.fn 0 74 [])] := by
  refine okS (fn := Try.f73) [] h0 Try.func73 (by kernel_rfl) rfl Try.ntmps73 Try.results73 (by simp) ?_
  simp
  have hxl := hl.1
  refine loopS [0, 1, 2, 8, 9, 10] [] (fun m st => ∃ (i j : Nat), i + m = j ∧ j ≤ xs.length ∧ (∀ (q : Nat) (hq : q < i) (hl : q < xs.length), cmpP xs[q].Path p < 0) ∧ (∀ (q : Nat) (hq : j ≤ q) (hl : q < xs.length), 0 ≤ cmpP xs[q].Path p) ∧ st = ⟨slOf 49 [(0, .t (rd k xs.length (xs.flatMap (GLeaf.ci k)))), (1, .t (rd k' p.length (p.map ps))), (2, .t (.fn 0 74 [])), (8, .t (pi xs.length)), (9, .t (pi i)), (10, .t (pi j))], ofL []⟩) xs.length ?_ ?_
  · rintro Inv hI
    simp
    subst hI
    exact ⟨0, xs.length, by omega, by omega, by intro q hq; omega, by intro q hq h; omega, rfl⟩
  · rintro Inv hI m st ⟨i, j, hm, hj, hlo, hhi, rfl⟩
    refine ewr_sound (M := []) h0 ?_
    simp
    refine brn_app (fun a => ?_) (fun a => ?_)
    · simp at a
      have hw0 : IntKind.wrap .i64 ((i : Int) + j) = (i : Int) + j := wrap64 (by omega) (by omega)
      have hw := half_u64 i j (by omega)
      obtain ⟨h, hh⟩ : ∃ h, h = (i + j) / 2 := ⟨_, rfl⟩
      rw [← hh] at hw
      have hb : h < xs.length := by omega
      have hd := fm_drop (GLeaf.ci k) 2 (fun _ => rfl) xs h hb
      have hlen := fm_len (GLeaf.ci k) 2 (fun _ => rfl) xs
      have hlt : h * 2 < xs.length * 2 := by omega
      simp [hw0, hw, hb, hd, hlen, hlt]
      refine Inv_intro (ok_setAt2 k k' xs[h] p (hl.2 _ (List.getElem_mem hb)).1.1 hp) ?_
      simp
      refine brn_app (fun b => ?_) (fun b => ?_)
      · simp at b
        have hn1 : IntKind.wrap .i64 ((h : Int) + 1) = ((h + 1 : Nat) : Int) := wrNext h (by omega)
        simp
        subst hI
        refine Less_mk (j - (h + 1)) (by omega) ⟨h + 1, j, by omega, hj, ?_, hhi, by rw [hn1]⟩
        intro q hq hql
        rcases Nat.lt_or_ge q h with h' | h'
        · exact hmono q h h' hb b
        · have : q = h := by omega
          subst this
          exact b
      · simp at b
        simp
        subst hI
        refine Less_mk (h - i) (by omega) ⟨i, h, by omega, by omega, hlo, ?_, rfl⟩
        intro q hq hql
        rcases Nat.eq_or_lt_of_le hq with h' | h'
        · subst h'
          exact b
        · exact Int.not_lt.1 fun hc => by have := hmono h q h' hql hc; omega
    · simp at a
      have hij : i = j := by omega
      subst hij
      have e1 : bsI (fun o : GLeaf => cmpP o.Path p) xs = i := bsI_eq _ xs i hj hlo fun h => hhi i (Nat.le_refl _) h
      simp
      by_cases hb : i < xs.length
      · have hd := fm_drop (GLeaf.ci k) 2 (fun _ => rfl) xs i hb
        have hlen := fm_len (GLeaf.ci k) 2 (fun _ => rfl) xs
        have hlt : i * 2 < xs.length * 2 := by omega
        have e2 : bsF (fun o : GLeaf => cmpP o.Path p) xs = decide (cmpP xs[i].Path p = 0) := by simp only [bsF, e1, List.getElem?_eq_getElem hb]
        simp [hb, hd, hlen, hlt]
        refine Inv_intro (ok_setAt2 k k' xs[i] p (hl.2 _ (List.getElem_mem hb)).1.1 hp) ?_
        simp [e1, e2]
      · have e2 : bsF (fun o : GLeaf => cmpP o.Path p) xs = false := by simp only [bsF, e1, List.getElem?_eq_none (Nat.le_of_not_lt hb)]
        simp [hb, e1, e2]
theorem bless_trans : ∀ a b c : List UInt8, Op.bytesLess a b = true → Op.bytesLess b c = true → Op.bytesLess a c = true
  | [], [], _, h, _ => by simp [Op.bytesLess] at h
  | [], _ :: _, [], _, h => by simp [Op.bytesLess] at h
  | [], _ :: _, _ :: _, _, _ => by simp [Op.bytesLess]
  | _ :: _, [], _, h, _ => by simp [Op.bytesLess] at h
  | _ :: _, _ :: _, [], _, h => by simp [Op.bytesLess] at h
  | a :: ar, b :: br, c :: cr, h1, h2 => by
    have ih := bless_trans ar br cr
    unfold Op.bytesLess at h1 h2 ⊢
    simp only [Bool.or_eq_true, Bool.and_eq_true, decide_eq_true_eq, beq_iff_eq] at h1 h2 ⊢
    rcases h1 with h1 | ⟨rfl, h1⟩
    · rcases h2 with h2 | ⟨rfl, h2⟩
      · exact .inl (UInt8.lt_trans h1 h2)
      · exact .inl h1
    · rcases h2 with h2 | ⟨rfl, h2⟩
      · exact .inl h2
      · exact .inr ⟨rfl, ih h1 h2⟩
theorem sLt_trans {u v w : ByteArray} (h1 : sLt u v = true) (h2 : sLt v w = true) : sLt u w = true := bless_trans _ _ _ h1 h2
theorem lessP_trans : ∀ a b c : List ByteArray, lessP a b = true → lessP b c = true → lessP a c = true
  | [], [], _, h, _ => by simp [lessP] at h
  | [], _ :: _, [], _, h => by simp [lessP] at h
  | [], _ :: _, _ :: _, _, _ => by simp [lessP]
  | _ :: _, [], _, h, _ => by simp [lessP] at h
  | _ :: _, _ :: _, [], _, h => by simp [lessP] at h
  | a :: ar, b :: br, c :: cr, h1, h2 => by
    have ih := lessP_trans ar br cr
    unfold lessP at h1 h2 ⊢
    by_cases e1 : a = b
    · subst e1
      rw [if_pos rfl] at h1
      by_cases e2 : a = c
      · subst e2
        rw [if_pos rfl] at h2
        rw [if_pos rfl]
        exact ih h1 h2
      · rw [if_neg e2] at h2
        rw [if_neg e2]
        exact h2
    · rw [if_neg e1] at h1
      by_cases e2 : b = c
      · subst e2
        rw [if_neg e1]
        exact h1
      · rw [if_neg e2] at h2
        have h3 := sLt_trans h1 h2
        have e3 : ¬ a = c := by
          rintro rfl
          rw [sl_irr] at h3
          cases h3
        rw [if_neg e3]
        exact h3
theorem goodG_pair : ∀ (l : List GLeaf) (q : Option GLeaf), goodG q l = true → l.Pairwise (fun x y => lessP x.Path y.Path = true) ∧ ∀ y, q = some y → ∀ x ∈ l, lessP y.Path x.Path = true
  | [], q, _ => ⟨List.Pairwise.nil, fun _ _ _ h => absurd h (by simp)⟩
  | x :: l, q, h => by
    simp only [goodG, Bool.and_eq_true] at h
    obtain ⟨h1, h2⟩ := goodG_pair l (some x) h.2
    have hx := h2 x rfl
    refine ⟨List.pairwise_cons.2 ⟨hx, h1⟩, ?_⟩
    rintro y rfl z hz
    have hyx : lessP y.Path x.Path = true := by
      have := h.1.2
      simp only [adjC, Bool.and_eq_true] at this
      exact this.1
    rcases List.mem_cons.1 hz with rfl | hz
    · exact hyx
    · exact lessP_trans _ _ _ hyx (hx z hz)
theorem goodC_pair {l : List GLeaf} (h : goodC l = true) : l.Pairwise (fun x y => lessP x.Path y.Path = true) := by
  simp only [goodC, Bool.and_eq_true] at h
  exact (goodG_pair l none h.1).1
theorem cmpP_neg (a b : List ByteArray) : cmpP a b < 0 ↔ lessP a b = true := by
  have h := cmpP_less a b
  constructor
  · intro hc
    have : decide (0 ≤ cmpP a b) = false := by simp; omega
    rw [this] at h
    simpa using h.symm
  · intro hl
    rw [hl] at h
    simp at h
    omega
theorem pair_mono {m : List GLeaf} (h : m.Pairwise (fun x y => lessP x.Path y.Path = true)) (p : List ByteArray) (i j : Nat) (hij : i < j) (hj : j < m.length) : cmpP m[j].Path p < 0 → cmpP m[i].Path p < 0 := by
  rw [cmpP_neg, cmpP_neg]
  exact lessP_trans _ _ _ (List.pairwise_iff_getElem.1 h i j (by omega) hj hij)
theorem alloc_kp (bs : List Nat) (w : World) (blk : Obj) : Kp bs w (w.alloc blk) := ⟨rfl, rfl, rfl, by show w.heap.size ≤ (w.heap.push blk).size; rw [Array.size_push]; omega, fun k hk _ => by
  show (w.heap.push blk)[k]? = w.heap[k]?
  rw [Array.getElem?_push]
  rw [if_neg (by omega)]⟩
theorem alloc_at (w : World) (blk : Obj) : (w.alloc blk).heap[w.heap.size]? = some blk := by
  show (w.heap.push blk)[w.heap.size]? = some blk
  simp
/-- The cells of a row behind an insertion. -/
def insV (S i : Nat) (cv vv : List Value) : List Value := cv.take (i * S) ++ vv ++ cv.drop (i * S)
theorem insV_len (S i : Nat) (cv vv : List Value) : (insV S i cv vv).length = cv.length + vv.length := by
  unfold insV
  simp only [List.length_append, List.length_take, List.length_drop]
  omega
theorem insV_at (S i : Nat) (cv vv : List Value) (hv : vv.length = S) (hi : i * S ≤ cv.length) (j : Nat) : (insV S i cv vv)[j]? = if j < i * S then cv[j]? else if j < i * S + S then vv[j - i * S]? else cv[j - S]? := by
  have hl : (cv.take (i * S)).length = i * S := by rw [List.length_take]; omega
  unfold insV
  rw [List.append_assoc, List.getElem?_append, hl]
  split
  · rename_i h
    rw [List.getElem?_take, if_pos h]
  · rename_i h
    rw [List.getElem?_append, hv]
    split
    · rw [if_pos (by omega)]
    · rw [if_neg (by omega), List.getElem?_drop]
      congr 1
      omega
theorem getv {l : List Value} {j : Nat} {u : Value} (h : l[j]? = some u) : j < l.length := (List.getElem?_eq_some_iff.1 h).1
/-- A road of slices.Insert: at the end. -/
theorem ins_end (base : Option Addr) (vb n c vc : Nat) (w w1 : World) (r : Value) (hn : n ≤ c)
    (hr : ∀ ty, (Builtin.append_ #[25, 25] ty #[.slice base n c, .slice (some ⟨vb, 0, none⟩) 1 vc]).run Try.prog w = .ok r w1) :
    Calls Try.prog 75 #[.slice base n c, .int .i64 n, .slice (some ⟨vb, 0, none⟩) 1 vc] w fun e w' => e = .returned r ∧ w' = w1 := by
  have mixed : Try.prog.follows .mixedOrders = true := by kernel_rfl
  have tS : Try.prog.underlying 25 = some (.slice 58) := by kernel_rfl
  have uS := run_underlying tS
  have zE : ∀ w, (Go.sizeOf 58).run Try.prog w = .ok 2 w := fun w => by kernel_rfl
  have zS : ∀ w, (Go.sizeOf 25).run Try.prog w = .ok 1 w := fun w => by kernel_rfl
  have aS : ∀ w, (isAgg 25).run Try.prog w = .ok false w := fun w => by kernel_rfl
  have t3 : Try.prog.underlying 3 = some (.int .i64) := by kernel_rfl
  have u3 := run_underlying t3
  have a3 : ∀ w, (isAgg 3).run Try.prog w = .ok false w := fun w => by kernel_rfl
  have z3 : ∀ w, (Go.sizeOf 3).run Try.prog w = .ok 1 w := fun w => by kernel_rfl
  go_enter Try.func75, Try.ntmps75
  go_wp2_with (at_builtin; refine Lib.wpList_append_run _ rfl _ _ _ _ rfl _ _ rfl rfl _ _ (hr _) ?_)
  all_goals (go_ret; exact ⟨rfl, rfl⟩)
end Go.V
