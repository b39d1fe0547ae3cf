/- What functions of the seat's program do, each proved of its code, under the bounds that its theorem names. -/
import Derived.Test.YtfooiclnbkchmaaTaa
set_option linter.all false
namespace Go.V
open Go.Proofs
set_option maxHeartbeats 1000000
set_option maxRecDepth 10000
set_option linter.unusedSimpArgs false
set_option linter.unusedVariables false
theorem newR_cases (ss : List ByteArray) : (newR ss).1 = -1 ∨ (∃ h : Nat, h ≤ 1 ∧ newR ss = ((h : Int), (tellsR (secAt ss (8 + h))).1, (tellsR (secAt ss (8 + h))).2.1)) := by
  have e : newR ss = nwStep (nwStep (-1, 0, 0) (0 : Nat) (tellsR (secAt ss (8 + 0)))) (1 : Nat) (tellsR (secAt ss (8 + 1))) := rfl
  have key : ∀ a b : Int × Int × Bool, nwStep (nwStep (-1, 0, 0) (0 : Nat) a) (1 : Nat) b = (-1, 0, 0) ∨ nwStep (nwStep (-1, 0, 0) (0 : Nat) a) (1 : Nat) b = (((0 : Nat) : Int), a.1, a.2.1) ∨ nwStep (nwStep (-1, 0, 0) (0 : Nat) a) (1 : Nat) b = (((1 : Nat) : Int), b.1, b.2.1) := by
    rintro ⟨a1, a2, a3⟩ ⟨b1, b2, b3⟩
    cases a3 with
    | false => cases b3 <;> simp [nwStep]
    | true =>
      cases b3 with
      | false => simp [nwStep]
      | true => by_cases c : a1 < b1 <;> simp [nwStep, c]
  rw [e]
  rcases key (tellsR (secAt ss (8 + 0))) (tellsR (secAt ss (8 + 1))) with h | h | h
  · exact .inl (by rw [h])
  · exact .inr ⟨0, by omega, h⟩
  · exact .inr ⟨1, by omega, h⟩
theorem tellsR_long (s : ByteArray) : 0 ≤ (tellsR s).2.1 := by
  unfold tellsR
  split
  · exact (byteAt_bd _ _).1
  · exact Int.le_refl _
def cut18 (s : ByteArray) : ByteArray := s.extract 0 (min 18 s.size)
def catCut (l : List ByteArray) : ByteArray := l.foldl (fun t s => t ++ cut18 s) ByteArray.empty
theorem catCut_snoc (l : List ByteArray) (i : Nat) (h : i < l.length) : catCut (l.take (i + 1)) = catCut (l.take i) ++ cut18 l[i] := by
  unfold catCut
  rw [take_step l i h, List.foldl_append]
  rfl
theorem cut18_size (s : ByteArray) : (cut18 s).size ≤ 18 := by
  unfold cut18
  rw [ByteArray.size_extract]
  omega
theorem catCut_size : ∀ (l : List ByteArray) (i : Nat), i ≤ l.length → (catCut (l.take i)).size ≤ 18 * i
  | l, 0, _ => by simp [catCut]
  | l, i + 1, h => by
    have := catCut_size l i (by omega)
    have h2 := cut18_size l[i]
    rw [catCut_snoc l i (by omega), ByteArray.size_append]
    omega
def loadR (ss : List ByteArray) : ByteArray × Int × Bool := if (newR ss).1 < 0 then (⟨#[]⟩, 0, false) else if ((catCut ((ss.drop (4 * (newR ss).1.toNat)).take 4)).size : Int) < (newR ss).2.2 then (⟨#[]⟩, 0, false) else ((catCut ((ss.drop (4 * (newR ss).1.toNat)).take 4)).extract 0 (newR ss).2.2.toNat, (newR ss).2.1, true)
theorem ok_load (k : Nat) (d : GDisk) (h10 : d.Sectors.length = 10) (hs : ∀ s ∈ d.Sectors, s.size ≤ 140737488355328) : CallOK Try.prog 56 [.agg (GDisk.ci k d)] (.tup [.c (ps (loadR d.Sectors).1), .c (pi (loadR d.Sectors).2.1), .c (pb (loadR d.Sectors).2.2)]) [.agg (GDisk.ci k d)] := by
  refine okS (fn := Try.f56) [] h0 Try.func56 (by kernel_rfl) rfl Try.ntmps56 Try.results56 (by simp) ?_
  simp
  refine Inv_intro (ok_newest k d h10 hs) ?_
  simp
  rcases newR_cases d.Sectors with e | ⟨h, hh, e⟩
  · simp [e, loadR]
  · have hl0 := tellsR_long (secAt d.Sectors (8 + h))
    have er : loadR d.Sectors = if ((catCut ((d.Sectors.drop (4 * h)).take 4)).size : Int) < (tellsR (secAt d.Sectors (8 + h))).2.1 then (⟨#[]⟩, 0, false) else ((catCut ((d.Sectors.drop (4 * h)).take 4)).extract 0 (tellsR (secAt d.Sectors (8 + h))).2.1.toNat, (tellsR (secAt d.Sectors (8 + h))).1, true) := by
      have hn : ¬ (h : Int) < 0 := by omega
      simp [loadR, e, hn]
    rw [er]
    generalize (tellsR (secAt d.Sectors (8 + h))).1 = nu at *
    generalize (tellsR (secAt d.Sectors (8 + h))).2.1 = lo at *
    obtain ⟨xs, hxs⟩ : ∃ xs, xs = (d.Sectors.drop (4 * h)).take 4 := ⟨_, rfl⟩
    have hxl : xs.length = 4 := by rw [hxs]; simp; omega
    have hxm : (List.take 4 (List.drop (4 * h) (d.Sectors.map ps))) = xs.map ps := by rw [hxs, List.map_take, List.map_drop]
    have hxz : ∀ s ∈ xs, s.size ≤ 140737488355328 := fun s hsx => hs s (by rw [hxs] at hsx; exact List.mem_of_mem_drop (List.mem_of_mem_take hsx))
    rw [← hxs]
    obtain ⟨m4, hm4⟩ : ∃ m4, m4 = 4 * h := ⟨_, rfl⟩
    obtain ⟨n4, hn4⟩ : ∃ n4, n4 = m4 + 4 := ⟨_, rfl⟩
    rw [← hm4] at hxm
    have w1 : IntKind.wrap .i64 (4 * (h : Int)) = (m4 : Int) := (wrap64 (by omega) (by omega)).trans (by omega)
    have w2 : IntKind.wrap .i64 ((m4 : Int) + 4) = (n4 : Int) := (wrap64 (by omega) (by omega)).trans (by omega)
    have b1 : m4 ≤ n4 := by omega
    have b2 : n4 ≤ d.Sectors.length := by omega
    have b3 : n4 - m4 = 4 := by omega
    have hn : ¬ (h : Int) < 0 := by omega
    simp [e, hn, w1, w2, b1, b2, b3, hxm]
    refine loopS [6, 7, 9, 28, 29, 30] [] (fun m st => ∃ (i : Nat), i + m = xs.length ∧ st = ⟨slOf 50 [(6, .t (pi nu)), (7, .t (pi lo)), (9, .t (ps (catCut (xs.take i)))), (28, .t (rd k 4 (xs.map ps))), (29, .t (pi 4)), (30, .t (pi i))], ofL []⟩) xs.length ?_ ?_
    · rintro Inv hI
      simp
      subst hI
      exact ⟨0, by omega, rfl⟩
    · rintro Inv hI m st ⟨i, hi, rfl⟩
      have hZ := catCut_size xs i (by omega)
      have hS := catCut_snoc xs i
      generalize hZe : catCut (xs.take i) = Z at hZ hS ⊢
      refine ewr_sound (M := []) h0 ?_
      simp
      refine brn_app (fun a => ?_) (fun a => ?_)
      · simp at a
        have hil : i < xs.length := by omega
        have hx := hxz _ (List.getElem_mem hil)
        have hS' := hS hil
        by_cases c : xs[i].size < 18
        · have hcut : cut18 xs[i] = xs[i].extract 0 xs[i].size := by rw [cut18, Nat.min_eq_right (by omega)]
          have z1 : Z.size + (xs[i].extract 0 xs[i].size).size ≤ 9223372036854775807 := by rw [ByteArray.size_extract]; omega
          have c0 : (xs[i].size : Int) < 18 := by omega
          have z2 : Z.size + xs[i].size ≤ 9223372036854775807 := by omega
          simp [a, hil, c, c0, z1, z2]
          subst hI
          refine Less_mk (m - 1) (by omega) ⟨i + 1, by omega, ?_⟩
          rw [wrNext i (by omega), hS', hcut]
          try simp
        · have hcut : cut18 xs[i] = xs[i].extract 0 18 := by rw [cut18, Nat.min_eq_left (by omega)]
          have z1 : Z.size + (xs[i].extract 0 18).size ≤ 9223372036854775807 := by rw [ByteArray.size_extract]; omega
          have c' : 18 ≤ xs[i].size := by omega
          have c2 : (18 : Int) ≤ xs[i].size := by omega
          have c0 : ¬ (xs[i].size : Int) < 18 := by omega
          have z2 : Z.size + 18 ≤ 9223372036854775807 := by omega
          have z3 : Z.size + min 18 xs[i].size ≤ 9223372036854775807 := by omega
          simp [a, hil, c, c', c2, c0, z1, z2, z3]
          subst hI
          refine Less_mk (m - 1) (by omega) ⟨i + 1, by omega, ?_⟩
          rw [wrNext i (by omega), hS', hcut]
          try simp
      · simp at a
        have hil : i = xs.length := by omega
        have ht : List.take i xs = xs := List.take_of_length_le (by omega)
        rw [ht] at hZe
        subst hZe
        simp
        refine brn_app (fun b => ?_) (fun b => ?_)
        · simp at b
          simp [b]
        · simp at b
          have b' : ¬ ((catCut xs).size : Int) < lo := by omega
          have b2 : lo ≤ (catCut xs).size := b
          simp [hl0, b', b2]
theorem ok_l17Load (k : Nat) (d : GDisk) (h10 : d.Sectors.length = 10) (hs : ∀ s ∈ d.Sectors, s.size ≤ 140737488355328) : CallOK Try.prog 54 [.agg (GDisk.ci k d)] (.tup [.c (ps (loadR d.Sectors).1), .c (pi (loadR d.Sectors).2.1), .c (pb (loadR d.Sectors).2.2)]) [.agg (GDisk.ci k d)] := by
  refine okS (fn := Try.f54) [] h0 Try.func54 (by kernel_rfl) rfl Try.ntmps54 Try.results54 (by simp) ?_
  simp
  refine Inv_intro (ok_l17Newest k d h10 hs) ?_
  rw [swNew_eq]
  simp
  rcases newR_cases d.Sectors with e | ⟨h, hh, e⟩
  · simp [e, loadR]
  · have hl0 := tellsR_long (secAt d.Sectors (8 + h))
    obtain ⟨q8, hq8⟩ : ∃ q8, q8 = 8 + h := ⟨_, rfl⟩
    rw [← hq8] at e hl0
    have hq8l : q8 < d.Sectors.length := by omega
    have w8 : IntKind.wrap .i64 (8 + (h : Int)) = (q8 : Int) := (wrap64 (by omega) (by omega)).trans (by omega)
    have er : loadR d.Sectors = if ((catCut ((d.Sectors.drop (4 * h)).take 4)).size : Int) < (tellsR (secAt d.Sectors q8)).2.1 then (⟨#[]⟩, 0, false) else ((catCut ((d.Sectors.drop (4 * h)).take 4)).extract 0 (tellsR (secAt d.Sectors q8)).2.1.toNat, (tellsR (secAt d.Sectors q8)).1, true) := by
      have hn : ¬ (h : Int) < 0 := by omega
      simp [loadR, e, hn]
    rw [er]
    rw [secAt_get _ _ hq8l] at e hl0 ⊢
    have hn : ¬ (h : Int) < 0 := by omega
    simp [e, hn, w8, hq8l]
    refine Inv_intro (ok_l17Read d.Sectors[q8] (hs _ (List.getElem_mem hq8l))) ?_
    generalize (tellsR d.Sectors[q8]).1 = nu at *
    generalize (tellsR d.Sectors[q8]).2.1 = lo at *
    obtain ⟨xs, hxs⟩ : ∃ xs, xs = (d.Sectors.drop (4 * h)).take 4 := ⟨_, rfl⟩
    have hxl : xs.length = 4 := by rw [hxs]; simp; omega
    have hxg : ∀ (i q : Nat) (hi : i < xs.length) (hq : q < d.Sectors.length), q = 4 * h + i → d.Sectors[q] = xs[i] := by
      intro i q hi hq he
      subst he
      subst hxs
      simp
    have hxz : ∀ s ∈ xs, s.size ≤ 140737488355328 := fun s hsx => hs s (by rw [hxs] at hsx; exact List.mem_of_mem_drop (List.mem_of_mem_take hsx))
    rw [← hxs]
    simp
    refine loopS [1, 5, 6, 7, 9, 10] [.op 0 0 0] (fun m st => ∃ (i : Nat), i + m = xs.length ∧ st = ⟨slOf 55 [(1, .ptr ⟨.op 0 0 0, []⟩ 0), (5, .t (pi h)), (6, .t (pi nu)), (7, .t (pi lo)), (9, .t (ps (catCut (xs.take i)))), (10, .t (pi i))], ofL [(.op 0 0 0, .sl 0 31 1 (GDisk.ci k d))]⟩) xs.length ?_ ?_
    · rintro Inv hI
      simp
      subst hI
      exact ⟨0, by omega, rfl⟩
    · rintro Inv hI m st ⟨i, hi, rfl⟩
      have hZ := catCut_size xs i (by omega)
      have hS := catCut_snoc xs i
      generalize hZe : catCut (xs.take i) = Z at hZ hS ⊢
      refine ewr_sound (M := []) h0 ?_
      simp
      refine brn_app (fun a => ?_) (fun a => ?_)
      · simp at a
        have hil : i < xs.length := by omega
        obtain ⟨m4, hm4⟩ : ∃ m4, m4 = 4 * h := ⟨_, rfl⟩
        obtain ⟨q, hq⟩ : ∃ q, q = m4 + i := ⟨_, rfl⟩
        have hql : q < d.Sectors.length := by omega
        have w1 : IntKind.wrap .i64 (4 * (h : Int)) = (m4 : Int) := (wrap64 (by omega) (by omega)).trans (by omega)
        have w2 : IntKind.wrap .i64 ((m4 : Int) + i) = (q : Int) := (wrap64 (by omega) (by omega)).trans (by omega)
        have hx := hxz _ (List.getElem_mem hil)
        have hS' := hS hil
        have hg := hxg i q hil hql (by omega)
        simp [w1, w2, hql, hg]
        refine brn_app (fun c => ?_) (fun c => ?_)
        · simp at c
          have hcut : cut18 xs[i] = xs[i].extract 0 18 := by rw [cut18, Nat.min_eq_left (by omega)]
          have c' : (18 : Int) ≤ xs[i].size := by omega
          have c2 : 18 ≤ xs[i].size := by omega
          have z1 : Z.size + (xs[i].extract 0 18).size ≤ 9223372036854775807 := by rw [ByteArray.size_extract]; omega
          have z2 : Z.size + 18 ≤ 9223372036854775807 := by omega
          have z3 : Z.size + min 18 xs[i].size ≤ 9223372036854775807 := by omega
          simp [c', c2, z1, z2, z3]
          subst hI
          refine Less_mk (m - 1) (by omega) ⟨i + 1, by omega, ?_⟩
          rw [wrNext i (by omega), hS', hcut]
          rfl
        · simp at c
          have hcut : cut18 xs[i] = xs[i] := by rw [cut18, Nat.min_eq_right (by omega)]; simp
          have z2 : Z.size + xs[i].size ≤ 9223372036854775807 := by omega
          simp [z2]
          subst hI
          refine Less_mk (m - 1) (by omega) ⟨i + 1, by omega, ?_⟩
          rw [wrNext i (by omega), hS', hcut]
          rfl
      · simp at a
        have hil : i = xs.length := by omega
        have ht : List.take i xs = xs := List.take_of_length_le (by omega)
        rw [ht] at hZe
        subst hZe
        simp
        refine brn_app (fun b => ?_) (fun b => ?_)
        · simp at b
          simp [b]
        · simp at b
          have b' : ¬ ((catCut xs).size : Int) < lo := by omega
          have b2 : lo ≤ (catCut xs).size := b
          simp [hl0, b', b2]
theorem ok_within (n lo hi : Int) : CallOK Try.prog 65 [.c (pi n), .c (pi lo), .c (pi hi)] (.c (pb (decide (lo ≤ n ∧ n ≤ hi)))) [.c (pi n), .c (pi lo), .c (pi hi)] := by
  refine okS (fn := Try.f65) [] h0 Try.func65 (by kernel_rfl) rfl Try.ntmps65 Try.results65 (by simp) ?_
  simp
  refine gT (fun h => ?_) (fun h => ?_) <;> simp [h]
/-- Where a condition holds first, or -1. -/
def idxOf {α : Type} (p : α → Bool) (xs : List α) : Int := match xs.findIdx? p with | some i => i | none => -1
theorem idxOf_hit {α : Type} (p : α → Bool) (xs : List α) (i : Nat) (h : i < xs.length) (hp : p xs[i] = true) (hall : ∀ (j : Nat) (hj : j < i), p (xs[j]'(by omega)) = false) : idxOf p xs = i := by
  unfold idxOf
  rw [(List.findIdx?_eq_some_iff_getElem (i := i)).2 ⟨h, hp, fun j hj => by simp [hall j hj]⟩]
theorem idxOf_no {α : Type} (p : α → Bool) (xs : List α) (hall : ∀ (j : Nat) (hj : j < xs.length), p xs[j] = false) : idxOf p xs = -1 := by
  unfold idxOf
  rw [List.findIdx?_eq_none_iff.2 (fun s hs => by
    obtain ⟨j, hj, rfl⟩ := List.getElem_of_mem hs
    simp [hall j hj])]
theorem idxOf_any {α : Type} (p : α → Bool) (xs : List α) : decide (0 ≤ idxOf p xs) = xs.any p := by
  unfold idxOf
  cases h : xs.findIdx? p with
  | none =>
    rw [List.findIdx?_eq_none_iff] at h
    simp
    exact fun x hx => by simpa using h x hx
  | some i =>
    rw [List.findIdx?_eq_some_iff_getElem] at h
    obtain ⟨h1, h2, _⟩ := h
    simp
    exact ⟨_, List.getElem_mem h1, h2⟩
theorem ok_IndexFunc_String (k q g : Nat) (caps : List (List PT)) (p : ByteArray → Bool) (xs : List ByteArray) (ha : xs.length ≤ 140737488351232)
    (hg : ∀ x ∈ xs, CallOK Try.prog g (.c (ps x) :: caps.map (PV.ip q)) (.c (pb (p x))) (.c (ps x) :: caps.map (PV.ip q))) :
    CallOK Try.prog 98 [.c (rd k xs.length (xs.map ps)), .c (.fn q g caps)] (.c (pi (idxOf p xs))) [.c (rd k xs.length (xs.map ps)), .c (.fn q g caps)] := by
  refine okS (fn := Try.f98) [] h0 Try.func98 (by kernel_rfl) rfl Try.ntmps98 Try.results98 (by simp) ?_
  simp
  refine loopS [0, 1, 7, 8] [] (fun n st => ∃ (i : Nat), i + n = xs.length ∧ (∀ (j : Nat) (hj : j < i) (hj' : j < xs.length), p xs[j] = false) ∧ st = ⟨slOf 19 [(0, .t (rd k xs.length (xs.map ps))), (1, .t (.fn q g caps)), (7, .t (pi xs.length)), (8, .t (pi i))], ofL []⟩) xs.length ?_ ?_
  · rintro Inv hI
    simp
    subst hI
    exact ⟨0, by omega, by intro j hj; omega, rfl⟩
  · rintro Inv hI n st ⟨i, hi, hall, rfl⟩
    refine ewr_sound (M := []) h0 ?_
    simp
    refine brn_app (fun h => ?_) (fun h => ?_)
    · simp at h
      simp [h]
      refine Inv_intro (hg _ (List.getElem_mem h)) ?_
      simp
      refine brn_app (fun h2 => ?_) (fun h2 => ?_)
      · simp
        exact (idxOf_hit p xs i h h2 fun j hj => hall j hj (by omega)).symm
      · simp
        subst hI
        refine Less_mk (n - 1) (by omega) ⟨i + 1, by omega, ?_, by rw [wrNext i (by omega)]⟩
        intro j hj hj'
        by_cases hji : j = i
        · subst hji; exact h2
        · exact hall j (by omega) hj'
    · simp at h
      simp
      exact (idxOf_no p xs fun j hj => hall j (by omega) hj).symm
theorem ok_ContainsFunc_String (k q g : Nat) (caps : List (List PT)) (p : ByteArray → Bool) (xs : List ByteArray) (ha : xs.length ≤ 140737488351232)
    (hg : ∀ x ∈ xs, CallOK Try.prog g (.c (ps x) :: caps.map (PV.ip q)) (.c (pb (p x))) (.c (ps x) :: caps.map (PV.ip q))) :
    CallOK Try.prog 73 [.c (rd k xs.length (xs.map ps)), .c (.fn q g caps)] (.c (pb (xs.any p))) [.c (rd k xs.length (xs.map ps)), .c (.fn q g caps)] := by
  refine okS (fn := Try.f73) [] h0 Try.func73 (by kernel_rfl) rfl Try.ntmps73 Try.results73 (by simp) ?_
  simp
  refine Inv_intro (ok_IndexFunc_String k q g caps p xs ha hg) ?_
  simp [idxOf_any]
theorem ok_IndexFunc_Write (k q g : Nat) (caps : List (List PT)) (p : GWrite → Bool) (xs : List GWrite) (ha : xs.length ≤ 140737488351232)
    (hg : ∀ x ∈ xs, CallOK Try.prog g (.agg (GWrite.c x) :: caps.map (PV.ip q)) (.c (pb (p x))) (.agg (GWrite.c x) :: caps.map (PV.ip q))) :
    CallOK Try.prog 99 [.c (rd k xs.length (xs.flatMap GWrite.c)), .c (.fn q g caps)] (.c (pi (idxOf p xs))) [.c (rd k xs.length (xs.flatMap GWrite.c)), .c (.fn q g caps)] := by
  refine okS (fn := Try.f99) [] h0 Try.func99 (by kernel_rfl) rfl Try.ntmps99 Try.results99 (by simp) ?_
  simp
  refine loopS [0, 1, 7, 8] [] (fun n st => ∃ (i : Nat), i + n = xs.length ∧ (∀ (j : Nat) (hj : j < i) (hj' : j < xs.length), p xs[j] = false) ∧ st = ⟨slOf 19 [(0, .t (rd k xs.length (xs.flatMap GWrite.c))), (1, .t (.fn q g caps)), (7, .t (pi xs.length)), (8, .t (pi i))], ofL []⟩) xs.length ?_ ?_
  · rintro Inv hI
    simp
    subst hI
    exact ⟨0, by omega, by intro j hj; omega, rfl⟩
  · rintro Inv hI n st ⟨i, hi, hall, rfl⟩
    refine ewr_sound (M := []) h0 ?_
    simp
    refine brn_app (fun h => ?_) (fun h => ?_)
    · simp at h
      have hd := fm_drop GWrite.c 2 (fun _ => rfl) xs i h
      have hlen := fm_len GWrite.c 2 (fun _ => rfl) xs
      have hlt : i * 2 < xs.length * 2 := by omega
      simp [h, hd, hlen, hlt]
      refine Inv_intro (hg _ (List.getElem_mem h)) ?_
      simp
      refine brn_app (fun h2 => ?_) (fun h2 => ?_)
      · simp
        exact (idxOf_hit p xs i h h2 fun j hj => hall j hj (by omega)).symm
      · simp
        subst hI
        refine Less_mk (n - 1) (by omega) ⟨i + 1, by omega, ?_, by rw [wrNext i (by omega)]⟩
        intro j hj hj'
        by_cases hji : j = i
        · subst hji; exact h2
        · exact hall j (by omega) hj'
    · simp at h
      simp
      exact (idxOf_no p xs fun j hj => hall j (by omega) hj).symm
theorem ok_ContainsFunc_Write (k q g : Nat) (caps : List (List PT)) (p : GWrite → Bool) (xs : List GWrite) (ha : xs.length ≤ 140737488351232)
    (hg : ∀ x ∈ xs, CallOK Try.prog g (.agg (GWrite.c x) :: caps.map (PV.ip q)) (.c (pb (p x))) (.agg (GWrite.c x) :: caps.map (PV.ip q))) :
    CallOK Try.prog 76 [.c (rd k xs.length (xs.flatMap GWrite.c)), .c (.fn q g caps)] (.c (pb (xs.any p))) [.c (rd k xs.length (xs.flatMap GWrite.c)), .c (.fn q g caps)] := by
  refine okS (fn := Try.f76) [] h0 Try.func76 (by kernel_rfl) rfl Try.ntmps76 Try.results76 (by simp) ?_
  simp
  refine Inv_intro (ok_IndexFunc_Write k q g caps p xs ha hg) ?_
  simp [idxOf_any]
theorem any_not {α : Type} (p : α → Bool) (xs : List α) : xs.any (fun x => !p x) = !xs.all p := by
  induction xs with
  | nil => rfl
  | cons x xs ih => simp [ih]
def okWrite (w : GWrite) : Bool := decide (0 ≤ w.At ∧ w.At ≤ 9) && decide (w.Data.size ≤ 20)
def goodDisk (d : GDisk) : Bool := decide (d.Sectors.length = 10) && decide (d.Waiting.length ≤ 40) && d.Sectors.all (fun s => decide (s.size ≤ 20)) && d.Waiting.all okWrite
theorem ok_isSector (s : ByteArray) : CallOK Try.prog 75 [.c (ps s)] (.c (pb (decide (s.size ≤ 20)))) [.c (ps s)] := by
  refine okS (fn := Try.f75) [] h0 Try.func75 (by kernel_rfl) rfl Try.ntmps75 Try.results75 (by simp) ?_
  simp
  omega
theorem ok_GoodDisk1 (s : ByteArray) : CallOK Try.prog 74 [.c (ps s)] (.c (pb (!decide (s.size ≤ 20)))) [.c (ps s)] := by
  refine okS (fn := Try.f74) [] h0 Try.func74 (by kernel_rfl) rfl Try.ntmps74 Try.results74 (by simp) ?_
  simp
  refine Inv_intro (ok_isSector _) ?_
  simp
theorem ok_GoodDisk2 (w : GWrite) : CallOK Try.prog 77 [.agg w.c] (.c (pb (!okWrite w))) [.agg w.c] := by
  refine okS (fn := Try.f77) [] h0 Try.func77 (by kernel_rfl) rfl Try.ntmps77 Try.results77 (by simp) ?_
  simp
  refine Inv_intro (ok_within _ _ _) ?_
  simp
  refine gF (fun h => ?_) (fun h => ?_)
  · simp [h]
    refine Inv_intro (ok_isSector _) ?_
    simp at h
    simp [okWrite, h]
  · simp [h]
    simp at h
    simp [okWrite]
    omega
theorem ok_iGoodDisk (k : Nat) (d : GDisk) (h1 : d.Sectors.length ≤ 140737488351232) (h2 : d.Waiting.length ≤ 140737488351232) : CallOK Try.prog 34 [.agg (d.ci k)] (.c (pb (goodDisk d))) [.agg (d.ci k)] := by
  refine okS (fn := Try.f34) [] h0 Try.func34 (by kernel_rfl) rfl Try.ntmps34 Try.results34 (by simp) ?_
  simp
  refine gT (fun a1 => ?_) (fun a1 => ?_)
  · simp [a1]
    refine gT (fun a2 => ?_) (fun a2 => ?_)
    · simp [a2]
      refine Inv_intro (ok_ContainsFunc_String k 0 74 [] (fun s => !decide (s.size ≤ 20)) d.Sectors h1 fun x _ => ok_GoodDisk1 x) ?_
      simp
      refine gT (fun a3 => ?_) (fun a3 => ?_)
      · simp [a3]
        refine Inv_intro (ok_ContainsFunc_Write k 0 77 [] (fun w => !okWrite w) d.Waiting h2 fun x _ => ok_GoodDisk2 x) ?_
        simp
        rw [any_not] at a3 ⊢
        have c1 : d.Sectors.length = 10 := by simp at a1; omega
        have c2 : d.Waiting.length ≤ 40 := by simp at a2; omega
        have c3 : (d.Sectors.all fun s => decide (s.size ≤ 20)) = true := by simpa using a3
        unfold goodDisk
        rw [c3]
        simp [c1, c2]
      · simp [a3]
        rw [any_not] at a3
        have c3 : (d.Sectors.all fun s => decide (s.size ≤ 20)) = false := by simpa using a3
        unfold goodDisk
        rw [c3]
        simp
    · simp [a2]
      simp at a2
      unfold goodDisk
      simp
      omega
  · simp [a1]
    simp at a1
    unfold goodDisk
    simp
    omega
theorem ok_l1In (n lo hi : Int) : CallOK Try.prog 61 [.c (pi n), .c (pi lo), .c (pi hi)] (.c (pb (decide (lo ≤ n ∧ n ≤ hi)))) [.c (pi n), .c (pi lo), .c (pi hi)] := by
  refine okS (fn := Try.f61) [] h0 Try.func61 (by kernel_rfl) rfl Try.ntmps61 Try.results61 (by simp) ?_
  simp
  refine gT (fun h => ?_) (fun h => ?_) <;> simp [h]
theorem ok_sGoodDisk (k : Nat) (d : GDisk) (h1 : d.Sectors.length ≤ 140737488351232) (h2 : d.Waiting.length ≤ 140737488351232) : CallOK Try.prog 42 [.agg (d.ci k)] (.c (pb (goodDisk d))) [.agg (d.ci k)] := by
  refine okS (fn := Try.f42) [] h0 Try.func42 (by kernel_rfl) rfl Try.ntmps42 Try.results42 (by simp) ?_
  simp
  refine loopS [1, 8, 9, 10] [.op 0 0 0] (fun n st => ∃ (i : Nat), i + n = d.Sectors.length ∧ (d.Sectors.drop i).all (fun s => decide (s.size ≤ 20)) = d.Sectors.all (fun s => decide (s.size ≤ 20)) ∧ st = ⟨slOf 46 [(1, .ptr ⟨.op 0 0 0, []⟩ 0), (8, .t (rd k d.Sectors.length (d.Sectors.map ps))), (9, .t (pi d.Sectors.length)), (10, .t (pi i))], ofL [(.op 0 0 0, .sl 0 31 1 (d.ci k))]⟩) d.Sectors.length ?_ ?_
  · rintro Inv hI
    simp
    subst hI
    exact ⟨0, by omega, rfl, rfl⟩
  · rintro Inv hI n st ⟨i, hi, hall, rfl⟩
    refine ewr_sound (M := []) h0 ?_
    simp
    refine brn_app (fun h => ?_) (fun h => ?_)
    · simp at h
      rw [drop_step _ i h, List.all_cons] at hall
      simp [h]
      refine brn_app (fun a => ?_) (fun a => ?_)
      · simp
        simp at a
        have a' : ¬ (d.Sectors[i].size ≤ 20) := by omega
        rw [decide_eq_false a', Bool.false_and] at hall
        simp [goodDisk, ← hall]
      · simp
        simp at a
        have a' : d.Sectors[i].size ≤ 20 := by omega
        rw [decide_eq_true a', Bool.true_and] at hall
        subst hI
        exact Less_mk (n - 1) (by omega) ⟨i + 1, by omega, hall, by rw [wrNext i (by omega)]; rfl⟩
    · simp at h
      rw [List.drop_of_length_le (by omega), List.all_nil] at hall
      simp
      refine loopS [1, 19, 20, 21] [.op 0 0 0] (fun n st => ∃ (i : Nat), i + n = d.Waiting.length ∧ (d.Waiting.drop i).all okWrite = d.Waiting.all okWrite ∧ st = ⟨slOf 46 [(1, .ptr ⟨.op 0 0 0, []⟩ 0), (19, .t (rd k d.Waiting.length (d.Waiting.flatMap GWrite.c))), (20, .t (pi d.Waiting.length)), (21, .t (pi i))], ofL [(.op 0 0 0, .sl 0 31 1 (d.ci k))]⟩) d.Waiting.length ?_ ?_
      · rintro Inv hI
        simp
        subst hI
        exact ⟨0, by omega, rfl, rfl⟩
      · rintro Inv hI n st ⟨i, hi, hall2, rfl⟩
        refine ewr_sound (M := []) h0 ?_
        simp
        refine brn_app (fun h => ?_) (fun h => ?_)
        · simp at h
          rw [drop_step _ i h, List.all_cons] at hall2
          have hd := fm_drop GWrite.c 2 (fun _ => rfl) d.Waiting i h
          have hlt : i * 2 < d.Waiting.length * 2 := by omega
          simp [h, hd, hlt]
          refine Inv_intro (ok_l1In _ _ _) ?_
          simp
          refine gF (fun a => ?_) (fun a => ?_)
          · simp [a]
            refine brn_app (fun b => ?_) (fun b => ?_)
            · simp
              simp at a b
              have hw : okWrite d.Waiting[i] = false := by simp [okWrite]; omega
              rw [hw, Bool.false_and] at hall2
              simp [goodDisk, ← hall2]
            · simp
              simp at a b
              have hw : okWrite d.Waiting[i] = true := by simp [okWrite]; omega
              rw [hw, Bool.true_and] at hall2
              subst hI
              exact Less_mk (n - 1) (by omega) ⟨i + 1, by omega, hall2, by rw [wrNext i (by omega)]; rfl⟩
          · simp [a]
            simp at a
            have hw : okWrite d.Waiting[i] = false := by simp [okWrite]; omega
            rw [hw, Bool.false_and] at hall2
            simp [goodDisk, ← hall2]
        · simp at h
          rw [List.drop_of_length_le (by omega), List.all_nil] at hall2
          simp
          refine gT (fun a => ?_) (fun a => ?_)
          · simp [a]
            simp at a
            have c1 : d.Sectors.length = 10 := by omega
            rw [goodDisk, ← hall, ← hall2]
            simp [c1]
            omega
          · simp [a]
            simp at a
            have c1 : ¬ d.Sectors.length = 10 := by omega
            simp [goodDisk, c1]
def rLoadFrom (d : GDisk) : ByteArray × Int × Bool := if goodDisk d = true then loadR d.Sectors else (⟨#[]⟩, 0, false)
theorem goodDisk_secs {d : GDisk} (h : goodDisk d = true) : d.Sectors.length = 10 ∧ ∀ s ∈ d.Sectors, s.size ≤ 20 := by
  simp only [goodDisk, Bool.and_eq_true, decide_eq_true_eq, List.all_eq_true] at h
  exact ⟨h.1.1.1, h.1.2⟩
theorem law_iLoadFrom (v0 : GDisk) (hw0 : v0.wt ≤ 1048576) : CallOK Try.prog 12 [.agg (GDisk.ci 0 v0)] (.tup [.c (ps (rLoadFrom v0).1), .c (pi (rLoadFrom v0).2.1), .c (pb (rLoadFrom v0).2.2)]) [.agg (GDisk.ci 0 v0)] := by
  have hl := disk_len hw0
  refine okS (fn := Try.f12) [] h0 Try.func12 (by kernel_rfl) rfl Try.ntmps12 Try.results12 (by simp) ?_
  simp
  refine Inv_intro (ok_iGoodDisk 0 v0 (by omega) (by omega)) ?_
  cases c1 : goodDisk v0 with
  | false => simp [rLoadFrom, c1]
  | true =>
    obtain ⟨h10, hs⟩ := goodDisk_secs c1
    have er : rLoadFrom v0 = loadR v0.Sectors := by simp [rLoadFrom, c1]
    simp
    refine Inv_intro (ok_load 0 v0 h10 fun s hx => by have := hs s hx; omega) ?_
    simp [er]
theorem law_sLoadFrom (v0 : GDisk) (hw0 : v0.wt ≤ 1048576) : CallOK Try.prog 10 [.agg (GDisk.ci 0 v0)] (.tup [.c (ps (rLoadFrom v0).1), .c (pi (rLoadFrom v0).2.1), .c (pb (rLoadFrom v0).2.2)]) [.agg (GDisk.ci 0 v0)] := by
  have hl := disk_len hw0
  refine okS (fn := Try.f10) [] h0 Try.func10 (by kernel_rfl) rfl Try.ntmps10 Try.results10 (by simp) ?_
  simp
  refine Inv_intro (ok_sGoodDisk 0 v0 (by omega) (by omega)) ?_
  cases c1 : goodDisk v0 with
  | false => simp [rLoadFrom, c1]
  | true =>
    obtain ⟨h10, hs⟩ := goodDisk_secs c1
    have er : rLoadFrom v0 = loadR v0.Sectors := by simp [rLoadFrom, c1]
    simp
    refine Inv_intro (ok_l17Load 0 v0 h10 fun s hx => by have := hs s hx; omega) ?_
    simp [er]
theorem ok_eqStringS (k k' : Nat) (xs ys : List ByteArray) (ha : lens_StringS xs) (hb : lens_StringS ys) : CallOK Try.prog 25 [.c (rd k xs.length (xs.map ps)), .c (rd k' ys.length (ys.map ps))] (.c (pb (decide (xs = ys)))) [.c (rd k xs.length (xs.map ps)), .c (rd k' ys.length (ys.map ps))] := by
  obtain ⟨ha, hax⟩ := ha
  obtain ⟨hb, hbx⟩ := hb
  refine okS (fn := Try.f25) [] h0 Try.func25 (by kernel_rfl) rfl Try.ntmps25 Try.results25 (by simp) ?_
  simp
  refine brn_app (fun h => ?_) (fun h => ?_)
  · simp at h
    simp
    rintro rfl
    exact h rfl
  · simp at h
    have hl : ys.length = xs.length := by omega
    simp
    refine loopS [0, 1, 5] [] (fun n st => ∃ (i : Nat), i + n = xs.length ∧ (xs.drop i = ys.drop i ↔ xs = ys) ∧ st = ⟨slOf 26 [(0, .t (rd k xs.length (xs.map ps))), (1, .t (rd k' ys.length (ys.map ps))), (5, .t (pi i))], ofL []⟩) xs.length ?_ ?_
    · rintro Inv hI
      simp
      subst hI
      exact ⟨0, by omega, by simp, rfl⟩
    · rintro Inv hI n st ⟨i, hi, htk, rfl⟩
      refine ewr_sound (M := []) h0 ?_
      simp
      refine brn_app (fun h => ?_) (fun h => ?_)
      · simp at h
        have hib : i < ys.length := by omega
        rw [drop_step xs i h, drop_step ys i hib, List.cons.injEq] at htk
        simp
        refine drawP E0 [⟨[], allD 26, true⟩, ⟨[], allD 26, true⟩, ⟨[], allD 26, true⟩, ⟨[], allD 26, true⟩, ⟨[], allD 26, true⟩, ⟨[], allD 26, true⟩, ⟨[], allD 26, true⟩, ⟨[], allD 26, true⟩, ⟨[], allD 26, true⟩] h0 hm (E0_ok _) (by kernel_rfl) (by kernel_rfl) ?_
        simp [h, hib]
        refine brn_app (fun h2 => ?_) (fun h2 => ?_)
        · simp at h2
          simp
          intro he
          exact h2 (htk.2 he).1
        · simp at h2
          simp
          subst hI
          exact Less_mk (n - 1) (by omega) ⟨i + 1, by omega, ⟨fun h4 => htk.1 ⟨h2, h4⟩, fun h4 => (htk.2 h4).2⟩, by rw [wrNext i (by omega)]⟩
      · simp at h
        rw [List.drop_of_length_le (by omega), List.drop_of_length_le (by omega)] at htk
        simp
        exact htk.1 rfl
theorem ok_eqWrite (x y : GWrite) : CallOK Try.prog 59 [.agg (GWrite.c x), .agg (GWrite.c y)] (.c (pb (decide (x = y)))) [.agg (GWrite.c x), .agg (GWrite.c y)] := by
  refine okS (fn := Try.f59) [] h0 Try.func59 (by kernel_rfl) rfl Try.ntmps59 Try.results59 (by simp) ?_
  simp
  refine brn_app (fun a0 => ?_) (fun a0 => ?_)
  · simp at a0
    simp
    rintro rfl
    exact a0 rfl
  · simp at a0
    simp
    refine brn_app (fun a1 => ?_) (fun a1 => ?_)
    · simp at a1
      simp
      rintro rfl
      exact a1 rfl
    · simp at a1
      simp
      cases x
      cases y
      simp_all
theorem ok_eqWriteS (k k' : Nat) (xs ys : List GWrite) (ha : lens_WriteS xs) (hb : lens_WriteS ys) : CallOK Try.prog 16 [.c (rd k xs.length (xs.flatMap GWrite.c)), .c (rd k' ys.length (ys.flatMap GWrite.c))] (.c (pb (decide (xs = ys)))) [.c (rd k xs.length (xs.flatMap GWrite.c)), .c (rd k' ys.length (ys.flatMap GWrite.c))] := by
  obtain ⟨ha, hax⟩ := ha
  obtain ⟨hb, hbx⟩ := hb
  refine okS (fn := Try.f16) [] h0 Try.func16 (by kernel_rfl) rfl Try.ntmps16 Try.results16 (by simp) ?_
  simp
  refine brn_app (fun h => ?_) (fun h => ?_)
  · simp at h
    simp
    rintro rfl
    exact h rfl
  · simp at h
    have hl : ys.length = xs.length := by omega
    simp
    refine loopS [0, 1, 5] [] (fun n st => ∃ (i : Nat), i + n = xs.length ∧ (xs.drop i = ys.drop i ↔ xs = ys) ∧ st = ⟨slOf 27 [(0, .t (rd k xs.length (xs.flatMap GWrite.c))), (1, .t (rd k' ys.length (ys.flatMap GWrite.c))), (5, .t (pi i))], ofL []⟩) xs.length ?_ ?_
    · rintro Inv hI
      simp
      subst hI
      exact ⟨0, by omega, by simp, rfl⟩
    · rintro Inv hI n st ⟨i, hi, htk, rfl⟩
      refine ewr_sound (M := []) h0 ?_
      simp
      refine brn_app (fun h => ?_) (fun h => ?_)
      · simp at h
        have hib : i < ys.length := by omega
        rw [drop_step xs i h, drop_step ys i hib, List.cons.injEq] at htk
        simp
        have hd := fm_drop GWrite.c 2 (fun _ => rfl) xs i h
        have hd' := fm_drop GWrite.c 2 (fun _ => rfl) ys i hib
        have hlen := fm_len GWrite.c 2 (fun _ => rfl) xs
        have hlen' := fm_len GWrite.c 2 (fun _ => rfl) ys
        have hlt : i * 2 < xs.length * 2 := by omega
        have hlt' : i * 2 < ys.length * 2 := by omega
        have hE := ok_eqWrite xs[i] ys[i]
        refine drawP (tabEnv [] [(59, [.agg (GWrite.c xs[i]), .agg (GWrite.c ys[i])], .c (pb (decide (xs[i] = ys[i]))), [.agg (GWrite.c xs[i]), .agg (GWrite.c ys[i])])]) [⟨[], allD 27, true⟩, ⟨[], allD 27, true⟩, ⟨[], allD 27, true⟩, ⟨[], allD 27, true⟩, ⟨[], allD 27, true⟩, ⟨[], allD 27, true⟩, ⟨[], allD 27, true⟩, ⟨[], allD 27, true⟩, ⟨[], allD 27, false⟩, ⟨[], allD 27, true⟩] h0 hm (tabEnv_ok (by intro x hx; simp only [List.mem_singleton] at hx; subst hx; exact hE)) (by kernel_rfl) (by kernel_rfl) ?_
        simp [h, hib, hd, hd', hlen, hlen', hlt, hlt']
        refine brn_app (fun h2 => ?_) (fun h2 => ?_)
        · simp at h2
          simp
          intro he
          exact h2 (htk.2 he).1
        · simp at h2
          simp
          subst hI
          exact Less_mk (n - 1) (by omega) ⟨i + 1, by omega, ⟨fun h4 => htk.1 ⟨h2, h4⟩, fun h4 => (htk.2 h4).2⟩, by rw [wrNext i (by omega)]⟩
      · simp at h
        rw [List.drop_of_length_le (by omega), List.drop_of_length_le (by omega)] at htk
        simp
        exact htk.1 rfl
end Go.V
