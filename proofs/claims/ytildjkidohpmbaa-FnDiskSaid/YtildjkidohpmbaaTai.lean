/- What functions of the seat's program do, each proved of its code, under the bounds that its theorem names. -/
import Derived.Test.YtildjkidohpmbaaTah
set_option linter.all false
namespace Go.V
open Go.Proofs
set_option maxHeartbeats 1000000
set_option maxRecDepth 10000
set_option linter.unusedSimpArgs false
set_option linter.unusedVariables false
theorem ok_PlaySaves1 (q k : Nat) (kept : List Bool) (i : Nat) (hi : i ≤ 1000000) : CallOK Try.prog 49 [.c (pi i), .ip q [rd k kept.length (kept.map pb)]] (.c (pb (kp kept i))) [.c (pi i), .ip q [rd k kept.length (kept.map pb)]] := by
  refine okS (fn := Try.f49) [] h0 Try.func49 (by kernel_rfl) rfl Try.ntmps49 Try.results49 (by simp) ?_
  by_cases h : i < kept.length
  · simp [h, kp_lt h]
  · simp [h, kp_ge h]
theorem law_iPlaySaves (v0 : List ByteArray) (v1 : Int) (v2 : List Bool) (hw0 : wt_StringS v0 ≤ 1048576) (hw2 : wt_BoolS v2 ≤ 1048576) : CallOK Try.prog 7 [.c (rd 0 v0.length (v0.map ps)), .c (pi v1), .c (rd 0 v2.length (v2.map pb))] (pvDB (rPlaySaves v0 v1 v2)) [.c (rd 0 v0.length (v0.map ps)), .c (pi v1), .c (rd 0 v2.length (v2.map pb))] := by
  have hl := len_wt_StringS v0
  have hl2 := len_wt_BoolS v2
  refine okS (fn := Try.f7) [(47, [2])] h0 Try.func7 (by kernel_rfl) rfl Try.ntmps7 Try.results7 (by simp) ?_
  simp
  refine Inv_intro (ok_within v0.length 1 40) ?_
  simp
  refine gF (fun a => ?_) (fun a => ?_)
  · simp [a]
    simp at a
    refine Inv_intro (ok_within v1 0 7) ?_
    simp
    refine brn_app (fun b => ?_) (fun b => ?_)
    · simp at b
      have hp : ¬ playOK v0 v1 := by
        rintro ⟨_, h⟩
        omega
      simp [rPlaySaves, hp]
    · simp at b
      have hp : playOK v0 v1 := ⟨by omega, b.1, b.2⟩
      obtain ⟨done, rfl⟩ : ∃ n : Nat, v1 = n := ⟨v1.toNat, by omega⟩
      have er : rPlaySaves v0 done v2 = match playI v0 done v0.length with
          | some d => (crashed d v2, true)
          | none => (⟨[], []⟩, false) := by
        unfold rPlaySaves
        rw [if_pos hp]
        rfl
      simp
      refine Inv_intro ok_iNewDisk ?_
      simp
      refine loopS [0, 1, 5, 6, 8, 25, 26, 27] [.op 0 0 0, .op 0 1 0, .op 3 1 0] (fun q st => ∃ (i : Nat) (d : GDisk), i + q = v0.length ∧ playI v0 done i = some d ∧ st = ⟨slOf 53 [(0, .t (rd 0 v0.length (v0.map ps))), (1, .t (pi done)), (5, .ptr ⟨.op 0 0 0, []⟩ 0), (6, .ptr ⟨.op 0 1 0, []⟩ 0), (8, .ptr ⟨.op 3 1 0, []⟩ 0), (25, .t (rd 0 v0.length (v0.map ps))), (26, .t (pi v0.length)), (27, .t (pi i))], ofL [(.op 0 0 0, .sl 0 24 1 [rd 0 v2.length (v2.map pb)]), (.op 0 1 0, .sl 0 29 1 [.sl 0 nilE 0 [], .sl 0 nilE 0 []]), (.op 3 1 0, .sl 0 29 1 d.co)]⟩) v0.length ?_ ?_
      · rintro Inv hI
        simp
        subst hI
        exact ⟨0, disk0, by omega, rfl, rfl⟩
      · rintro Inv hI q st ⟨i, d, hi, hpl, rfl⟩
        refine ewr_sound (M := [(47, [2])]) h0 ?_
        simp
        refine brn_app (fun c => ?_) (fun c => ?_)
        · simp at c
          have hok := playI_ok v0 done (by omega) i d hpl
          have w1 : IntKind.wrap .i64 ((v0.length : Int) - 1) = (v0.length : Int) - 1 := wrap64 (by omega) (by omega)
          have hnext : playI v0 done (i + 1) = if (saveL d v0[i] (stepsOf v0.length done i)).2 = true then some (saveL d v0[i] (stepsOf v0.length done i)).1 else none := by
            simp only [playI, hpl]
            rw [secAt_get v0 i c]
          simp [c, w1]
          refine brn_app (fun e => ?_) (fun e => ?_)
          · simp at e
            have hzz : done = stepsOf v0.length done i := by
              unfold stepsOf
              rw [if_pos (by omega)]
            simp
            refine Inv_intro (ok_isave2 d v0[i] done (7 * i) hok (by omega) (by omega) (by have := mem_wt_StringS (List.getElem_mem c); omega)) ?_
            rw [← hzz] at hnext
            generalize hS : saveL d v0[i] done = S at *
            obtain ⟨S1, S2⟩ := S
            cases S2 with
            | false =>
              have hf : rPlaySaves v0 done v2 = (⟨[], []⟩, false) := by
                rw [er, playI_none v0 done (i := i + 1) hnext v0.length (by omega)]
              simp [hf]
            | true =>
              simp
              subst hI
              refine Less_mk (q - 1) (by omega) ⟨i + 1, S1, by omega, hnext, ?_⟩
              rw [wrNext i (by omega)]
              rfl
          · simp at e
            have hzz : 7 = stepsOf v0.length done i := by
              unfold stepsOf
              rw [if_neg (by omega)]
            simp
            refine Inv_intro (ok_isave2 d v0[i] 7 (7 * i) hok (by omega) (by omega) (by have := mem_wt_StringS (List.getElem_mem c); omega)) ?_
            rw [← hzz] at hnext
            generalize hS : saveL d v0[i] 7 = S at *
            obtain ⟨S1, S2⟩ := S
            cases S2 with
            | false =>
              have hf : rPlaySaves v0 done v2 = (⟨[], []⟩, false) := by
                rw [er, playI_none v0 done (i := i + 1) hnext v0.length (by omega)]
              simp [hf]
            | true =>
              simp
              subst hI
              refine Less_mk (q - 1) (by omega) ⟨i + 1, S1, by omega, hnext, ?_⟩
              rw [wrNext i (by omega)]
              rfl
        · simp at c
          have hil : i = v0.length := by omega
          subst hil
          have er : rPlaySaves v0 done v2 = (crashed d v2, true) := by rw [er, hpl]
          rw [er]
          simp
          have hok := playI_ok v0 done (by omega) v0.length d hpl
          have hln : v0.length ≤ 40 := by omega
          obtain ⟨k1, k2, k3, k4⟩ := hok
          refine Inv_intro (ok_written 0 1 49 [[rd 0 v2.length (v2.map pb)]] d (kp v2) (by omega) (by omega) (fun w hw => by rw [k1]; exact (k4 w hw).1) (fun i hi => ok_PlaySaves1 1 0 v2 i (by omega))) ?_
          simp [crashed]
  · simp [a]
    simp at a
    have hp : ¬ playOK v0 v1 := by
      rintro ⟨h, _⟩
      omega
    simp [rPlaySaves, hp]
theorem ok_IndexFunc_Leaf (k q g : Nat) (caps : List (List PT)) (p : GLeaf → Bool) (xs : List GLeaf) (ha : xs.length ≤ 140737488351232)
    (hg : ∀ x ∈ xs, CallOK Try.prog g (.agg (GLeaf.ci k x) :: caps.map (PV.ip q)) (.c (pb (p x))) (.agg (GLeaf.ci k x) :: caps.map (PV.ip q))) :
    CallOK Try.prog 129 [.c (rd k xs.length (xs.flatMap (GLeaf.ci k))), .c (.fn q g caps)] (.c (pi (idxOf p xs))) [.c (rd k xs.length (xs.flatMap (GLeaf.ci k))), .c (.fn q g caps)] := by
  refine okS (fn := Try.f129) [] h0 Try.func129 (by kernel_rfl) rfl Try.ntmps129 Try.results129 (by simp) ?_
  simp
  refine loopS [0, 1, 7, 8] [] (fun n st => ∃ (i : Nat), i + n = xs.length ∧ (∀ (j : Nat) (hj : j < i) (hj' : j < xs.length), p xs[j] = false) ∧ st = ⟨slOf 19 [(0, .t (rd k xs.length (xs.flatMap (GLeaf.ci k)))), (1, .t (.fn q g caps)), (7, .t (pi xs.length)), (8, .t (pi i))], ofL []⟩) xs.length ?_ ?_
  · rintro Inv hI
    simp
    subst hI
    exact ⟨0, by omega, by intro j hj; omega, rfl⟩
  · rintro Inv hI n st ⟨i, hi, hall, rfl⟩
    refine ewr_sound (M := []) h0 ?_
    simp
    refine brn_app (fun h => ?_) (fun h => ?_)
    · simp at h
      have hd := fm_drop (GLeaf.ci k) 2 (fun _ => rfl) xs i h
      have hlen := fm_len (GLeaf.ci k) 2 (fun _ => rfl) xs
      have hlt : i * 2 < xs.length * 2 := by omega
      simp [h, hd, hlen, hlt]
      refine Inv_intro (hg _ (List.getElem_mem h)) ?_
      simp
      refine brn_app (fun h2 => ?_) (fun h2 => ?_)
      · simp
        exact (idxOf_hit p xs i h h2 fun j hj => hall j hj (by omega)).symm
      · simp
        subst hI
        refine Less_mk (n - 1) (by omega) ⟨i + 1, by omega, ?_, by rw [wrNext i (by omega)]⟩
        intro j hj hj'
        by_cases hji : j = i
        · subst hji; exact h2
        · exact hall j (by omega) hj'
    · simp at h
      simp
      exact (idxOf_no p xs fun j hj => hall j (by omega) hj).symm
theorem idxOf_find {α : Type} (p : α → Bool) (xs : List α) : (idxOf p xs = -1 ∧ xs.findIdx? p = none) ∨ ∃ (i : Nat) (h : i < xs.length), idxOf p xs = i ∧ xs.findIdx? p = some i := by
  unfold idxOf
  cases h : xs.findIdx? p with
  | none => exact .inl ⟨rfl, rfl⟩
  | some i =>
    have h' := h
    rw [List.findIdx?_eq_some_iff_getElem] at h'
    exact .inr ⟨i, h'.1, rfl, rfl⟩
theorem set_take {α : Type} (C : List α) (a b : Nat) (y : α) (h : a ≤ b) : (C.set b y).take a = C.take a := by
  apply List.ext_getElem?
  intro n
  simp only [List.getElem?_take]
  split
  · rw [List.getElem?_set_ne (by omega)]
  · rfl
theorem set_drop {α : Type} (C : List α) (a b : Nat) (y : α) (h : b < a) : (C.set b y).drop a = C.drop a := by
  apply List.ext_getElem?
  intro n
  simp only [List.getElem?_drop]
  rw [List.getElem?_set_ne (by omega)]
theorem put2 {α : Type} (C : List α) (s v : α) (i j : Nat) (h : i * 2 + 2 ≤ C.length) (hij : i < j) : (C.take (i * 2) ++ s :: v :: C.drop (i * 2 + 2)).length = C.length ∧ (C.take (i * 2) ++ s :: v :: C.drop (i * 2 + 2)).take ((i + 1) * 2) = C.take (i * 2) ++ [s, v] ∧ (C.take (i * 2) ++ s :: v :: C.drop (i * 2 + 2)).drop ((j + 1) * 2) = C.drop ((j + 1) * 2) := by
  have hl : (C.take (i * 2)).length = i * 2 := by rw [List.length_take]; omega
  have e1 : (i + 1) * 2 = (C.take (i * 2)).length + 2 := by omega
  refine ⟨?_, ?_, ?_⟩
  · simp only [List.length_append, List.length_cons, List.length_drop, hl]
    omega
  · rw [e1, List.take_length_add_append]
    rfl
  · have e2 : (j + 1) * 2 = (C.take (i * 2)).length + (2 + (j - i) * 2) := by omega
    rw [e2, List.drop_length_add_append, ← List.drop_drop]
    show List.drop ((j - i) * 2) (C.drop (i * 2 + 2)) = _
    rw [List.drop_drop, hl]
    congr 1
    omega
theorem ok_DeleteFunc_Leaf (q g : Nat) (caps : List (List PT)) (p : GLeaf → Bool) (xs : List GLeaf) (ha : xs.length ≤ 140737488351232)
    (hg : ∀ x ∈ xs, CallOK Try.prog g (.agg (GLeaf.ci 0 x) :: caps.map (PV.ip q)) (.c (pb (p x))) (.agg (GLeaf.ci 0 x) :: caps.map (PV.ip q))) :
    CallOK Try.prog 114 [.c (.sl 0 103 xs.length (xs.flatMap GLeaf.co)), .c (.fn q g caps)] (.c (.sl 0 103 (xs.filter fun x => !p x).length ((xs.filter fun x => !p x).flatMap GLeaf.co))) [.c .hole, .c (.fn q g caps)] := by
  refine okS (fn := Try.f114) [] h0 Try.func114 (by kernel_rfl) rfl Try.ntmps114 Try.results114 (by simp) ?_
  simp
  refine Inv_intro (ok_IndexFunc_Leaf 0 q g caps p xs ha hg) ?_
  simp
  rcases idxOf_find p xs with ⟨e, hf⟩ | ⟨i0, hi0, e, hf⟩
  · rw [e]
    have hall : xs.filter (fun x => !p x) = xs := by
      rw [List.findIdx?_eq_none_iff] at hf
      exact List.filter_eq_self.2 fun x hx => by simp [hf x hx]
    rw [hall]
    simp
  · rw [e]
    have hne : ¬ (i0 : Int) = -1 := by omega
    have hw0 : IntKind.wrap .i64 ((i0 : Int) + 1) = ((i0 + 1 : Nat) : Int) := wrNext i0 (by omega)
    simp [hne, hw0]
    refine loopS [0, 1, 5, 6] [.arg 0 0] (fun m st => ∃ (j i : Nat) (C : List PT), j + m = xs.length ∧ i < j ∧ ((xs.take j).filter fun x => !p x).length = i ∧ C.length = xs.length * 2 ∧ C.take (i * 2) = ((xs.take j).filter fun x => !p x).flatMap GLeaf.co ∧ C.drop (j * 2) = (xs.drop j).flatMap GLeaf.co ∧ st = ⟨slOf 42 [(0, .ref ⟨.arg 0 0, []⟩ 0 xs.length), (1, .t (.fn q g caps)), (5, .t (pi i)), (6, .t (pi j))], ofL [(.arg 0 0, .sl 0 103 xs.length C)]⟩) (xs.length - (i0 + 1)) ?_ ?_
    · rintro Inv hI
      have hfirst : (xs.take (i0 + 1)).filter (fun x => !p x) = xs.take i0 := by
        rw [List.findIdx?_eq_some_iff_getElem] at hf
        obtain ⟨h1, h2, h3⟩ := hf
        rw [take_step xs i0 hi0, List.filter_append]
        have e1 : (xs.take i0).filter (fun x => !p x) = xs.take i0 := by
          refine List.filter_eq_self.2 fun x hx => ?_
          obtain ⟨j, hj, rfl⟩ := List.mem_iff_getElem.1 hx
          have hj' : j < i0 := by rw [List.length_take] at hj; omega
          rw [List.getElem_take]
          simpa using h3 j hj'
        rw [e1]
        simp [h2]
      simp
      subst hI
      refine ⟨i0 + 1, i0, xs.flatMap GLeaf.co, by omega, by omega, by rw [hfirst, List.length_take]; omega, fm_len GLeaf.co 2 (fun _ => rfl) xs, ?_, ?_, ?_⟩
      · have hx := congrArg (List.flatMap GLeaf.co) (List.take_append_drop i0 xs)
        rw [List.flatMap_append] at hx
        rw [hfirst, ← hx, List.take_left' (by rw [fm_len GLeaf.co 2 (fun _ => rfl), List.length_take]; omega)]
      · have hx := congrArg (List.flatMap GLeaf.co) (List.take_append_drop (i0 + 1) xs)
        rw [List.flatMap_append] at hx
        rw [← hx, List.drop_left' (by rw [fm_len GLeaf.co 2 (fun _ => rfl), List.length_take]; omega)]
      · rfl
    · rintro Inv hI m st ⟨j, i, C, hj, hlt, hi, hCl, hCt, hCd0, rfl⟩
      refine ewr_sound (M := []) h0 ?_
      simp
      refine brn_app (fun a => ?_) (fun a => ?_)
      · simp at a
        have hCd : C.drop (j * 2) = .sl 0 9 xs[j].Path.length (xs[j].Path.map ps) :: ps xs[j].Value :: (xs.drop (j + 1)).flatMap GLeaf.co := by
          rw [hCd0, drop_step _ j a, List.flatMap_cons]
          rfl
        have hCg : ∀ h : j * 2 < C.length, C[j * 2] = .sl 0 9 xs[j].Path.length (xs[j].Path.map ps) := by
          intro h
          rw [List.drop_eq_getElem_cons h] at hCd
          exact (List.cons.inj hCd).1
        have hCn : C.drop ((j + 1) * 2) = (xs.drop (j + 1)).flatMap GLeaf.co := by
          have : (j + 1) * 2 = j * 2 + 2 := by omega
          rw [this, ← List.drop_drop, hCd]
          rfl
        have hb : j * 2 + 2 ≤ xs.length * 2 := by omega
        have hfs : (xs.take (j + 1)).filter (fun x => !p x) = (xs.take j).filter (fun x => !p x) ++ (if p xs[j] = true then [] else [xs[j]]) := by
          rw [take_step xs j a, List.filter_append]
          cases hpx : p xs[j] <;> simp [hpx]
        simp [a, hCl, hCd, hCg, hb]
        refine Inv_intro (hg _ (List.getElem_mem a)) ?_
        simp
        refine brn_app (fun b => ?_) (fun b => ?_)
        · simp at b
          rw [if_neg (by simp [b])] at hfs
          have hib : i * 2 < xs.length * 2 := by omega
          have hib2 : i < xs.length := by omega
          have hib3 : i * 2 + 2 ≤ xs.length * 2 := by omega
          simp [hCl, hib, hib2, hib3]
          subst hI
          obtain ⟨g1, g2, g3⟩ := put2 (C.set (j * 2) .hole) (.sl 0 9 xs[j].Path.length (xs[j].Path.map ps)) (ps xs[j].Value) i j (by rw [List.length_set]; omega) hlt
          refine Less_mk (m - 1) (by omega) ⟨j + 1, i + 1, _, by omega, by omega, by rw [hfs, List.length_append, hi]; rfl, g1.trans (by rw [List.length_set]; exact hCl), ?_, ?_, ?_⟩
          · rw [g2, set_take C _ _ _ (by omega), hCt, hfs, List.flatMap_append]
            simp
          · rw [g3, set_drop C _ _ _ (by omega), hCn]
          · rw [wrNext i (by omega), wrNext j (by omega)]
        · simp at b
          rw [if_pos b, List.append_nil] at hfs
          simp
          subst hI
          refine Less_mk (m - 1) (by omega) ⟨j + 1, i, C.set (j * 2) .hole, by omega, by omega, by rw [hfs, hi], by rw [List.length_set]; exact hCl, ?_, ?_, ?_⟩
          · rw [set_take C _ _ _ (by omega), hCt, hfs]
          · rw [set_drop C _ _ _ (by omega), hCn]
          · rw [wrNext j (by omega)]
      · simp at a
        have hjn : j = xs.length := by omega
        subst hjn
        rw [List.take_length] at hi hCt
        have hil : i ≤ xs.length := by omega
        have hCtl : (C.take (i * 2)).length = i * 2 := by rw [List.length_take]; omega
        have hz0 : ¬ xs.length - i = 0 := by omega
        have hz1 : i * 2 + (xs.length - i) * 2 ≤ C.length := by omega
        have hz2 : i * 2 ≤ min (i * 2) C.length + ((xs.length - i) * 2 + (C.length - (i * 2 + (xs.length - i) * 2))) := by omega
        have hTT : ∀ Y, List.take (i * 2) (C.take (i * 2) ++ Y) = C.take (i * 2) := fun Y => List.take_left' hCtl
        rw [hi, ← hCt]
        simp [hil, hz0, hz1, hz2, hTT]
theorem wlen_le (s : ByteArray) : wlen s ≤ s.size := by
  unfold wlen
  have := List.Sublist.length_le (List.takeWhile_sublist (fun b : UInt8 => wb b.toNat) (l := s.data.toList))
  simpa using this
theorem tw_all {α : Type} (p : α → Bool) : ∀ l : List α, ((l.takeWhile p).length = l.length) = (l.all p = true)
  | [] => by simp
  | x :: l => by
    rw [List.takeWhile_cons, List.all_cons]
    cases h : p x with
    | true => simpa using tw_all p l
    | false => simp
theorem word_all (s : ByteArray) : decide (s.extract 0 (wlen s) = s) = wAll s := by
  have h := wlen_le s
  have hA := tw_all (fun b : UInt8 => wb b.toNat) s.data.toList
  have hl : s.data.toList.length = s.size := by simp
  rw [hl] at hA
  have hB : (s.extract 0 (wlen s) = s) = (wlen s = s.size) := by
    apply propext
    constructor
    · intro e
      have := congrArg ByteArray.size e
      simp at this
      omega
    · intro e
      rw [e]
      exact ext_all s
  rw [Bool.eq_iff_iff, decide_eq_true_eq, hB, wAll, ← hA]
  rfl
theorem ok_isWord (s : ByteArray) (hs : s.size ≤ 140737488355328) : CallOK Try.prog 90 [.c (ps s)] (.c (pb (isW s))) [.c (ps s)] := by
  refine okS (fn := Try.f90) [] h0 Try.func90 (by kernel_rfl) rfl Try.ntmps90 Try.results90 (by simp) ?_
  simp
  refine Inv_intro (ok_within _ _ _) ?_
  simp
  refine gT (fun a => ?_) (fun a => ?_)
  · simp [a]
    refine Inv_intro (ok_wordAt s hs) ?_
    simp [isW, word_all, a]
  · simp [a, isW]
theorem ok_areWords1 (s : ByteArray) (hs : s.size ≤ 140737488355328) : CallOK Try.prog 116 [.c (ps s)] (.c (pb (!isW s))) [.c (ps s)] := by
  refine okS (fn := Try.f116) [] h0 Try.func116 (by kernel_rfl) rfl Try.ntmps116 Try.results116 (by simp) ?_
  simp
  refine Inv_intro (ok_isWord s hs) ?_
  simp
theorem ok_areWords (k : Nat) (p : List ByteArray) (hl : p.length ≤ 140737488351232) (hs : ∀ s ∈ p, s.size ≤ 140737488355328) : CallOK Try.prog 89 [.c (rd k p.length (p.map ps))] (.c (pb (isP p))) [.c (rd k p.length (p.map ps))] := by
  refine okS (fn := Try.f89) [] h0 Try.func89 (by kernel_rfl) rfl Try.ntmps89 Try.results89 (by simp) ?_
  simp
  refine Inv_intro (ok_within _ _ _) ?_
  simp
  refine gT (fun a => ?_) (fun a => ?_)
  · simp [a]
    refine Inv_intro (ok_ContainsFunc_String k 0 116 [] (fun s => !isW s) p hl fun x hx => ok_areWords1 x (hs x hx)) ?_
    simp [isP, any_not, a]
  · simp [a, isP]
theorem ok_l15Word (s : ByteArray) (hs : s.size ≤ 140737488355328) : CallOK Try.prog 93 [.c (ps s)] (.c (pb (isW s))) [.c (ps s)] := by
  refine okS (fn := Try.f93) [] h0 Try.func93 (by kernel_rfl) rfl Try.ntmps93 Try.results93 (by simp) ?_
  simp
  refine loopS [0, 3] [] (fun n st => ∃ (i : Nat), i + n = s.size ∧ (s.data.toList.drop i).all (fun b => wb b.toNat) = wAll s ∧ st = ⟨slOf 18 [(0, .t (ps s)), (3, .t (pi i))], ofL []⟩) s.size ?_ ?_
  · rintro Inv hI
    simp
    subst hI
    exact ⟨0, by omega, rfl, rfl⟩
  · rintro Inv hI n st ⟨i, hi, hw, rfl⟩
    refine ewr_sound (M := []) h0 ?_
    simp
    refine brn_app (fun a => ?_) (fun a => ?_)
    · simp at a
      have hl : i < s.data.toList.length := by simpa using a
      rw [List.drop_eq_getElem_cons hl, List.all_cons] at hw
      rw [← byteAt_list s i a] at hw
      simp [a]
      refine Inv_intro (ok_l15Byte _) ?_
      simp
      refine brn_app (fun b => ?_) (fun b => ?_)
      · simp at b
        rw [b, Bool.false_and] at hw
        simp [isW, ← hw]
      · simp at b
        rw [b, Bool.true_and] at hw
        simp
        subst hI
        exact Less_mk (n - 1) (by omega) ⟨i + 1, by omega, hw, by rw [wrNext i (by omega)]⟩
    · simp at a
      rw [List.drop_of_length_le (by simp; omega), List.all_nil] at hw
      simp
      refine Inv_intro (ok_l1In _ _ _) ?_
      simp [isW, ← hw]
theorem ok_l15Path (k : Nat) (p : List ByteArray) (hl : p.length ≤ 140737488351232) (hs : ∀ s ∈ p, s.size ≤ 140737488355328) : CallOK Try.prog 92 [.c (rd k p.length (p.map ps))] (.c (pb (isP p))) [.c (rd k p.length (p.map ps))] := by
  refine okS (fn := Try.f92) [] h0 Try.func92 (by kernel_rfl) rfl Try.ntmps92 Try.results92 (by simp) ?_
  simp
  refine loopS [0, 5, 6, 7] [] (fun n st => ∃ (i : Nat), i + n = p.length ∧ (p.drop i).all isW = p.all isW ∧ st = ⟨slOf 18 [(0, .t (rd k p.length (p.map ps))), (5, .t (rd k p.length (p.map ps))), (6, .t (pi p.length)), (7, .t (pi i))], ofL []⟩) p.length ?_ ?_
  · rintro Inv hI
    simp
    subst hI
    exact ⟨0, by omega, rfl, rfl⟩
  · rintro Inv hI n st ⟨i, hi, hw, rfl⟩
    refine ewr_sound (M := []) h0 ?_
    simp
    refine brn_app (fun a => ?_) (fun a => ?_)
    · simp at a
      rw [drop_step _ i a, List.all_cons] at hw
      simp [a]
      refine Inv_intro (ok_l15Word _ (hs _ (List.getElem_mem a))) ?_
      simp
      refine brn_app (fun b => ?_) (fun b => ?_)
      · simp at b
        rw [b, Bool.false_and] at hw
        simp [isP, ← hw]
      · simp at b
        rw [b, Bool.true_and] at hw
        simp
        subst hI
        exact Less_mk (n - 1) (by omega) ⟨i + 1, by omega, hw, by rw [wrNext i (by omega)]⟩
    · simp at a
      rw [List.drop_of_length_le (by omega), List.all_nil] at hw
      simp
      refine Inv_intro (ok_l1In _ _ _) ?_
      simp [isP, ← hw]
theorem ok_iGoodConfig (k : Nat) (l : List GLeaf) (hl : confOK l) : CallOK Try.prog 44 [.c (rd k l.length (l.flatMap (GLeaf.ci k)))] (.c (pb (goodC l))) [.c (rd k l.length (l.flatMap (GLeaf.ci k)))] := by
  obtain ⟨hll, hlx⟩ := hl
  refine okS (fn := Try.f44) [] h0 Try.func44 (by kernel_rfl) rfl Try.ntmps44 Try.results44 (by simp) ?_
  simp
  refine loopS [0, 5, 6, 7] [] (fun n st => ∃ (i : Nat), i + n = l.length ∧ goodG (prevC l i) (l.drop i) = goodG none l ∧ st = ⟨slOf 53 [(0, .t (rd k l.length (l.flatMap (GLeaf.ci k)))), (5, .t (rd k l.length (l.flatMap (GLeaf.ci k)))), (6, .t (pi l.length)), (7, .t (pi i))], ofL []⟩) l.length ?_ ?_
  · rintro Inv hI
    simp
    subst hI
    exact ⟨0, by omega, rfl, rfl⟩
  · rintro Inv hI n st ⟨i, hi, hg, rfl⟩
    refine ewr_sound (M := []) h0 ?_
    simp
    refine brn_app (fun a => ?_) (fun a => ?_)
    · simp at a
      have hx := hlx l[i] (List.getElem_mem a)
      obtain ⟨⟨hx1, hx2⟩, hx3⟩ := hx
      rw [drop_step _ i a, goodG] at hg
      have hd := fm_drop (GLeaf.ci k) 2 (fun _ => rfl) l i a
      have hlen := fm_len (GLeaf.ci k) 2 (fun _ => rfl) l
      have hlt : i * 2 < l.length * 2 := by omega
      have en : prevC l (i + 1) = some l[i] := prevC_next l i a
      by_cases c0 : i = 0
      · have e0 : ¬ 0 < i := by omega
        have ep : prevC l i = none := by simp [prevC, c0]
        rw [ep, adjC, Bool.and_true] at hg
        simp [a, hd, hlen, hlt]
        refine drawP (tabEnv [] _) [⟨[.op 3 3 0], allD 53, true⟩, ⟨[.op 3 3 0], allD 53, true⟩, ⟨[], allD 53, false⟩, ⟨[], allD 53, true⟩, ⟨[], allD 53, true⟩, ⟨[.op 3 3 0], allD 53, true⟩, ⟨[.op 3 3 0], allD 53, true⟩, ⟨[], allD 53, false⟩, ⟨[], allD 53, true⟩, ⟨[], allD 53, true⟩, ⟨[], allD 53, true⟩, ⟨[], allD 53, true⟩, ⟨[], allD 53, true⟩, ⟨[], allD 53, true⟩, ⟨[], allD 53, true⟩, ⟨[], allD 53, true⟩, ⟨[], allD 53, true⟩, ⟨[], allD 53, true⟩, ⟨[], allD 53, true⟩, ⟨[], allD 53, true⟩, ⟨[.op 3 3 0], allD 53, true⟩, ⟨[.op 3 3 0], allD 53, true⟩, ⟨[], allD 53, false⟩, ⟨[], allD 53, true⟩, ⟨[], allD 53, true⟩, ⟨[], allD 53, true⟩, ⟨[], allD 53, true⟩, ⟨[], allD 53, true⟩, ⟨[], allD 53, true⟩, ⟨[], allD 53, true⟩, ⟨[], allD 53, true⟩, ⟨[.op 3 3 0], allD 53, true⟩, ⟨[.op 3 3 0], allD 53, true⟩, ⟨[], allD 53, false⟩, ⟨[], allD 53, true⟩, ⟨[], allD 53, true⟩, ⟨[], allD 53, true⟩] h0 hm (tabEnv_ok (tab_cons (ok_areWords k l[i].Path hx1 hx2) (tab_cons (ok_isWord l[i].Value hx3) tab_nil))) (by kernel_rfl) (by kernel_rfl) ?_
        cases c1 : isP l[i].Path with
        | false =>
          have hk : okLeaf l[i] = false := by simp [okLeaf, c1]
          rw [hk, Bool.false_and] at hg
          simp [c1, goodC, ← hg]
        | true =>
          cases c2 : isW l[i].Value with
          | false =>
            have hk : okLeaf l[i] = false := by simp [okLeaf, c2]
            rw [hk, Bool.false_and] at hg
            simp [c1, c2, goodC, ← hg]
          | true =>
            have hk : okLeaf l[i] = true := by simp [okLeaf, c1, c2]
            rw [hk, Bool.true_and] at hg
            simp [c1, c2, e0]
            subst hI
            exact Less_mk (n - 1) (by omega) ⟨i + 1, by omega, by rw [en]; exact hg, by rw [wrNext i (by omega)]⟩
      · obtain ⟨j, hj⟩ : ∃ j, i = j + 1 := ⟨i - 1, by omega⟩
        have aj : j < l.length := by omega
        have ep : prevC l i = some l[j] := by subst hj; exact prevC_next l j aj
        obtain ⟨⟨hy1, hy2⟩, hy3⟩ := hlx l[j] (List.getElem_mem aj)
        have hdj := fm_drop (GLeaf.ci k) 2 (fun _ => rfl) l j aj
        have hltj : j * 2 < l.length * 2 := by omega
        have hw : IntKind.wrap .i64 ((i : Int) - 1) = j := (wrap64 (by omega) (by omega)).trans (by omega)
        have e0 : 0 < i := by omega
        rw [ep, adjC] at hg
        have hcl := cmpP_less l[j].Path l[i].Path
        simp [a, hd, hlen, hlt]
        refine drawP (tabEnv [] _) [⟨[.op 3 3 0], allD 53, true⟩, ⟨[.op 3 3 0], allD 53, true⟩, ⟨[], allD 53, false⟩, ⟨[], allD 53, true⟩, ⟨[], allD 53, true⟩, ⟨[.op 3 3 0], allD 53, true⟩, ⟨[.op 3 3 0], allD 53, true⟩, ⟨[], allD 53, false⟩, ⟨[], allD 53, true⟩, ⟨[], allD 53, true⟩, ⟨[], allD 53, true⟩, ⟨[], allD 53, true⟩, ⟨[], allD 53, true⟩, ⟨[], allD 53, true⟩, ⟨[], allD 53, true⟩, ⟨[], allD 53, true⟩, ⟨[], allD 53, true⟩, ⟨[], allD 53, true⟩, ⟨[], allD 53, true⟩, ⟨[], allD 53, true⟩, ⟨[.op 3 3 0], allD 53, true⟩, ⟨[.op 3 3 0], allD 53, true⟩, ⟨[], allD 53, false⟩, ⟨[], allD 53, true⟩, ⟨[], allD 53, true⟩, ⟨[], allD 53, true⟩, ⟨[], allD 53, true⟩, ⟨[], allD 53, true⟩, ⟨[], allD 53, true⟩, ⟨[], allD 53, true⟩, ⟨[], allD 53, true⟩, ⟨[.op 3 3 0], allD 53, true⟩, ⟨[.op 3 3 0], allD 53, true⟩, ⟨[], allD 53, false⟩, ⟨[], allD 53, true⟩, ⟨[], allD 53, true⟩, ⟨[], allD 53, true⟩] h0 hm (tabEnv_ok (tab_cons (ok_areWords k l[i].Path hx1 hx2) (tab_cons (ok_isWord l[i].Value hx3) (tab_cons (ok_cmpP k k l[j].Path l[i].Path hy1 hx1) (tab_cons (ok_begins k k l[j].Path l[i].Path hy1 hx1) tab_nil))))) (by kernel_rfl) (by kernel_rfl) ?_
        cases c1 : isP l[i].Path with
        | false =>
          have hk : okLeaf l[i] = false := by simp [okLeaf, c1]
          rw [hk, Bool.false_and, Bool.false_and] at hg
          simp [c1, goodC, ← hg]
        | true =>
          cases c2 : isW l[i].Value with
          | false =>
            have hk : okLeaf l[i] = false := by simp [okLeaf, c2]
            rw [hk, Bool.false_and, Bool.false_and] at hg
            simp [c1, c2, goodC, ← hg]
          | true =>
            have hk : okLeaf l[i] = true := by simp [okLeaf, c1, c2]
            rw [hk, Bool.true_and] at hg
            cases c3 : lessP l[j].Path l[i].Path with
            | false =>
              rw [c3, Bool.false_and, Bool.false_and] at hg
              have c3' : 0 ≤ cmpP l[j].Path l[i].Path := by simpa [c3] using hcl
              simp [c1, c2, c3', e0, hw, aj, hdj, hlen, hltj, goodC, ← hg]
            | true =>
              have c3' : ¬ 0 ≤ cmpP l[j].Path l[i].Path := by simpa [c3] using hcl
              cases c4 : begP l[j].Path l[i].Path with
              | true =>
                rw [c3, c4] at hg
                have hg' : false = goodG none l := hg
                simp [c1, c2, c3', c4, e0, hw, aj, hdj, hlen, hltj, goodC, ← hg']
              | false =>
                rw [c3, c4] at hg
                have hg' : goodG (some l[i]) (l.drop (i + 1)) = goodG none l := hg
                simp [c1, c2, c3', c4, e0, hw, aj, hdj, hlen, hltj]
                subst hI
                exact Less_mk (n - 1) (by omega) ⟨i + 1, by omega, by rw [en]; exact hg', by rw [wrNext i (by omega)]⟩
    · simp at a
      rw [List.drop_of_length_le (by omega)] at hg
      have hg' : true = goodG none l := by rw [← hg]; cases prevC l i <;> rfl
      simp [goodC, ← hg']
      omega
theorem ok_ownConfig (k : Nat) (l : List GLeaf) (hl : l.length ≤ 1048576) (hx : ∀ x ∈ l, x.Path.length ≤ 1048576) : CallOK Try.prog 83 [.c (rd k l.length (l.flatMap (GLeaf.ci k)))] (.c (.sl 0 103 l.length (l.flatMap GLeaf.co))) [.c (rd k l.length (l.flatMap (GLeaf.ci k)))] := by
  refine okS (fn := Try.f83) [] h0 Try.func83 (by kernel_rfl) rfl Try.ntmps83 Try.results83 (by simp) ?_
  simp
  refine ewp_sw (.op 1 0 0) (.op 5 8 0) rfl rfl ?_
  simp
  refine loopS [3, 7, 8, 9] [.op 5 8 0] (fun n st => ∃ (i : Nat), i + n = l.length ∧ st = ⟨slOf 24 [(3, .ref ⟨.op 5 8 0, []⟩ 0 i), (7, .t (rd k l.length (l.flatMap (GLeaf.ci k)))), (8, .t (pi l.length)), (9, .t (pi i))], ofL [(.op 5 8 0, .sl 0 103 i ((l.take i).flatMap GLeaf.co))]⟩) l.length ?_ ?_
  · rintro Inv hI
    simp
    subst hI
    exact ⟨0, by omega, by simp⟩
  · rintro Inv hI n st ⟨i, hi, rfl⟩
    have hA := fm_take_len GLeaf.co 2 (fun _ => rfl) l i (by omega)
    generalize hAe : ((l.take i).flatMap GLeaf.co) = A at hA ⊢
    refine ewr_sound (M := []) h0 ?_
    simp
    refine brn_app (fun a => ?_) (fun a => ?_)
    · simp at a
      have hd := fm_drop (GLeaf.ci k) 2 (fun _ => rfl) l i a
      have hlen := fm_len (GLeaf.ci k) 2 (fun _ => rfl) l
      have hlt : i * 2 < l.length * 2 := by omega
      have hb1 : (i + 1) * 40 ≤ 140737488355328 := by omega
      have hb2 : i ≤ 9223372036854775806 := by omega
      have hp := hx _ (List.getElem_mem a)
      have hp1 : l[i].Path.length * 16 ≤ 140737488355328 := by omega
      have hp2 : l[i].Path.length ≤ 9223372036854775807 := by omega
      have ht : A.take (i * 2) = A := List.take_of_length_le (by omega)
      have e3 : ((l.take (i + 1)).flatMap GLeaf.co) = A ++ GLeaf.co l[i] := by rw [take_step l i a, List.flatMap_append, hAe, List.flatMap_cons, List.flatMap_nil, List.append_nil]
      simp [a, hd, hlen, hlt]
      refine drawP (tabEnv [] _) [⟨[.op 5 8 0], allD 24, true⟩, ⟨[.op 4 2 0], allD 24, true⟩, ⟨[.op 4 2 0], allD 24, true⟩, ⟨[], allD 24, false⟩, ⟨[.op 4 2 0], allD 24, true⟩, ⟨[.op 4 2 0], allD 24, true⟩, ⟨[.op 5 3 0], allD 24, true⟩, ⟨[.op 5 3 0, .op 5 6 0], [13, 14, 15, 16, 17, 18, 19, 20, 21, 3], false⟩, ⟨[.op 5 8 0, .op 5 7 0], [13, 14, 15, 16, 17, 18, 19, 20, 21, 3], false⟩, ⟨[.op 5 8 0], allD 24, true⟩] h0 hm (tabEnv_ok (tab_cons (ok_Clone_String k l[i].Path hp) tab_nil)) (by kernel_rfl) (by kernel_rfl) ?_
      simp [hA, hb1, hb2, ht]
      subst hI
      refine Less_mk (n - 1) (by omega) ⟨i + 1, by omega, ?_⟩
      rw [wrNext i (by omega), e3]
      all_goals simp
    · simp at a
      have hn : n = 0 := by omega
      subst hn
      have ht : List.take i l = l := List.take_of_length_le (by omega)
      have hil : i = l.length := by omega
      rw [← hAe, ht, hil]
      simp
end Go.V
