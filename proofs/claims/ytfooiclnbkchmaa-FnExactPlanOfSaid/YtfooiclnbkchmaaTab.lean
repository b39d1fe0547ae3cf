/- What functions of the seat's program do, each proved of its code, under the bounds that its theorem names. -/
import Derived.Test.YtfooiclnbkchmaaTaa
import Derived.Shelf.Strings.Repeat
set_option linter.all false
namespace Go.V
open Go.Proofs
set_option maxHeartbeats 1000000
set_option maxRecDepth 10000
set_option linter.unusedSimpArgs false
set_option linter.unusedVariables false
def nwStep (h : Int × Int × Int) (k : Int) (t : Int × Int × Bool) : Int × Int × Int := if (t.2.2 && (decide (h.1 < 0) || decide (h.2.1 < t.1))) = true then (k, t.1, t.2.1) else h
def secAt (ss : List ByteArray) (i : Nat) : ByteArray := ss[i]?.getD ⟨#[]⟩
theorem secAt_get (ss : List ByteArray) (i : Nat) (h : i < ss.length) : secAt ss i = ss[i] := by simp [secAt, List.getElem?_eq_getElem h]
def nwI (ss : List ByteArray) : Nat → Int × Int × Int
  | 0 => (-1, 0, 0)
  | i + 1 => nwStep (nwI ss i) i (tellsR (secAt ss (8 + i)))
def newR (ss : List ByteArray) : Int × Int × Int := nwI ss 2
theorem ok_newest (k : Nat) (d : GDisk) (h10 : d.Sectors.length = 10) (hs : ∀ s ∈ d.Sectors, s.size ≤ 140737488355328) : CallOK Try.prog 94 [.agg (GDisk.ci k d)] (.tup [.c (pi (newR d.Sectors).1), .c (pi (newR d.Sectors).2.1), .c (pi (newR d.Sectors).2.2), .c (pb (decide (0 ≤ (newR d.Sectors).1)))]) [.agg (GDisk.ci k d)] := by
  refine okS (fn := Try.f94) [] h0 Try.func94 (by kernel_rfl) rfl Try.ntmps94 Try.results94 (by simp) ?_
  simp
  refine loopS [1, 6, 7, 8, 13] [.op 0 0 0] (fun m st => ∃ (i : Nat), i + m = 2 ∧ st = ⟨slOf 46 [(1, .ptr ⟨.op 0 0 0, []⟩ 0), (6, .t (pi (nwI d.Sectors i).1)), (7, .t (pi (nwI d.Sectors i).2.1)), (8, .t (pi (nwI d.Sectors i).2.2)), (13, .t (pi i))], ofL [(.op 0 0 0, .sl 0 31 1 (GDisk.ci k d))]⟩) 2 ?_ ?_
  · rintro Inv hI
    simp
    subst hI
    exact ⟨0, by omega, rfl⟩
  · rintro Inv hI m st ⟨i, hi, rfl⟩
    have hstep : nwI d.Sectors (i + 1) = nwStep (nwI d.Sectors i) i (tellsR (secAt d.Sectors (8 + i))) := rfl
    generalize hH : nwI d.Sectors i = H at hstep ⊢
    obtain ⟨H1, H2, H3⟩ := H
    refine ewr_sound (M := []) h0 ?_
    simp
    refine brn_app (fun a => ?_) (fun a => ?_)
    · simp at a
      obtain ⟨q, hq⟩ : ∃ q, q = 8 + i := ⟨_, rfl⟩
      rw [← hq] at hstep
      have hil : q < d.Sectors.length := by omega
      have hw : IntKind.wrap .i64 (8 + (i : Int)) = (q : Int) := (wrap64 (by omega) (by omega)).trans (by omega)
      rw [secAt_get _ _ hil] at hstep
      simp [hw, hil]
      refine Inv_intro (ok_tells d.Sectors[q] (hs _ (List.getElem_mem hil))) ?_
      generalize tellsR d.Sectors[q] = t at hstep ⊢
      obtain ⟨t1, t2, t3⟩ := t
      cases t3 with
      | false =>
        simp
        subst hI
        refine Less_mk (m - 1) (by omega) ⟨i + 1, by omega, ?_⟩
        rw [wrNext i (by omega), hstep]
        rfl
      | true =>
        simp
        by_cases c1 : H1 < 0
        · simp [c1]
          subst hI
          refine Less_mk (m - 1) (by omega) ⟨i + 1, by omega, ?_⟩
          rw [wrNext i (by omega), hstep]
          simp [nwStep, c1]
        · by_cases c2 : H2 < t1
          · simp [c1, c2]
            subst hI
            refine Less_mk (m - 1) (by omega) ⟨i + 1, by omega, ?_⟩
            rw [wrNext i (by omega), hstep]
            simp [nwStep, c1, c2]
          · simp [c1, c2]
            subst hI
            refine Less_mk (m - 1) (by omega) ⟨i + 1, by omega, ?_⟩
            rw [wrNext i (by omega), hstep]
            simp [nwStep, c1, c2]
    · simp at a
      have : i = 2 := by omega
      subst this
      have hn : newR d.Sectors = (H1, H2, H3) := hH
      simp [hn]
def swNew (ss : List ByteArray) : Int := if ((tellsR (secAt ss 8)).2.2 && (!(tellsR (secAt ss 9)).2.2 || decide ((tellsR (secAt ss 9)).1 ≤ (tellsR (secAt ss 8)).1))) = true then 0 else if (tellsR (secAt ss 9)).2.2 = true then 1 else -1
theorem swNew_eq (ss : List ByteArray) : swNew ss = (newR ss).1 := by
  have e : newR ss = nwStep (nwStep (-1, 0, 0) (0 : Nat) (tellsR (secAt ss 8))) (1 : Nat) (tellsR (secAt ss 9)) := rfl
  rw [e, swNew]
  generalize tellsR (secAt ss 8) = a
  generalize tellsR (secAt ss 9) = b
  obtain ⟨a1, a2, a3⟩ := a
  obtain ⟨b1, b2, b3⟩ := b
  cases a3 with
  | false => cases b3 <;> simp [nwStep]
  | true =>
    cases b3 with
    | false => simp [nwStep]
    | true =>
      by_cases c : b1 ≤ a1
      · have c' : ¬ a1 < b1 := by omega
        simp [nwStep, c, c']
      · have c' : a1 < b1 := by omega
        simp [nwStep, c, c']
theorem ok_l17Newest (k : Nat) (d : GDisk) (h10 : d.Sectors.length = 10) (hs : ∀ s ∈ d.Sectors, s.size ≤ 140737488355328) : CallOK Try.prog 91 [.agg (GDisk.ci k d)] (.c (pi (swNew d.Sectors))) [.agg (GDisk.ci k d)] := by
  have l8 : 8 < d.Sectors.length := by omega
  have l9 : 9 < d.Sectors.length := by omega
  refine okS (fn := Try.f91) [] h0 Try.func91 (by kernel_rfl) rfl Try.ntmps91 Try.results91 (by simp) ?_
  have f8 : (8 : Int) < d.Sectors.length := by omega
  have f9 : (9 : Int) < d.Sectors.length := by omega
  simp [l8, l9, f8, f9]
  refine Inv_intro (ok_l17Read d.Sectors[8] (hs _ (List.getElem_mem l8))) ?_
  simp [l8, l9, f8, f9]
  refine Inv_intro (ok_l17Read d.Sectors[9] (hs _ (List.getElem_mem l9))) ?_
  unfold swNew
  rw [secAt_get _ _ l8, secAt_get _ _ l9]
  generalize tellsR d.Sectors[8] = a
  generalize tellsR d.Sectors[9] = b
  obtain ⟨a1, a2, a3⟩ := a
  obtain ⟨b1, b2, b3⟩ := b
  cases a3 with
  | false => cases b3 <;> simp
  | true =>
    cases b3 with
    | false => simp
    | true =>
      by_cases c : b1 ≤ a1
      · simp [c]
      · simp [c]
theorem newR_cases (ss : List ByteArray) : (newR ss).1 = -1 ∨ (∃ h : Nat, h ≤ 1 ∧ newR ss = ((h : Int), (tellsR (secAt ss (8 + h))).1, (tellsR (secAt ss (8 + h))).2.1)) := by
  have e : newR ss = nwStep (nwStep (-1, 0, 0) (0 : Nat) (tellsR (secAt ss (8 + 0)))) (1 : Nat) (tellsR (secAt ss (8 + 1))) := rfl
  have key : ∀ a b : Int × Int × Bool, nwStep (nwStep (-1, 0, 0) (0 : Nat) a) (1 : Nat) b = (-1, 0, 0) ∨ nwStep (nwStep (-1, 0, 0) (0 : Nat) a) (1 : Nat) b = (((0 : Nat) : Int), a.1, a.2.1) ∨ nwStep (nwStep (-1, 0, 0) (0 : Nat) a) (1 : Nat) b = (((1 : Nat) : Int), b.1, b.2.1) := by
    rintro ⟨a1, a2, a3⟩ ⟨b1, b2, b3⟩
    cases a3 with
    | false => cases b3 <;> simp [nwStep]
    | true =>
      cases b3 with
      | false => simp [nwStep]
      | true => by_cases c : a1 < b1 <;> simp [nwStep, c]
  rw [e]
  rcases key (tellsR (secAt ss (8 + 0))) (tellsR (secAt ss (8 + 1))) with h | h | h
  · exact .inl (by rw [h])
  · exact .inr ⟨0, by omega, h⟩
  · exact .inr ⟨1, by omega, h⟩
theorem tellsR_long (s : ByteArray) : 0 ≤ (tellsR s).2.1 := by
  unfold tellsR
  split
  · exact (byteAt_bd _ _).1
  · exact Int.le_refl _
def cut18 (s : ByteArray) : ByteArray := s.extract 0 (min 18 s.size)
def catCut (l : List ByteArray) : ByteArray := l.foldl (fun t s => t ++ cut18 s) ByteArray.empty
theorem catCut_snoc (l : List ByteArray) (i : Nat) (h : i < l.length) : catCut (l.take (i + 1)) = catCut (l.take i) ++ cut18 l[i] := by
  unfold catCut
  rw [take_step l i h, List.foldl_append]
  rfl
theorem cut18_size (s : ByteArray) : (cut18 s).size ≤ 18 := by
  unfold cut18
  rw [ByteArray.size_extract]
  omega
theorem catCut_size : ∀ (l : List ByteArray) (i : Nat), i ≤ l.length → (catCut (l.take i)).size ≤ 18 * i
  | l, 0, _ => by simp [catCut]
  | l, i + 1, h => by
    have := catCut_size l i (by omega)
    have h2 := cut18_size l[i]
    rw [catCut_snoc l i (by omega), ByteArray.size_append]
    omega
def loadR (ss : List ByteArray) : ByteArray × Int × Bool := if (newR ss).1 < 0 then (⟨#[]⟩, 0, false) else if ((catCut ((ss.drop (4 * (newR ss).1.toNat)).take 4)).size : Int) < (newR ss).2.2 then (⟨#[]⟩, 0, false) else ((catCut ((ss.drop (4 * (newR ss).1.toNat)).take 4)).extract 0 (newR ss).2.2.toNat, (newR ss).2.1, true)
theorem ok_load (k : Nat) (d : GDisk) (h10 : d.Sectors.length = 10) (hs : ∀ s ∈ d.Sectors, s.size ≤ 140737488355328) : CallOK Try.prog 56 [.agg (GDisk.ci k d)] (.tup [.c (ps (loadR d.Sectors).1), .c (pi (loadR d.Sectors).2.1), .c (pb (loadR d.Sectors).2.2)]) [.agg (GDisk.ci k d)] := by
  refine okS (fn := Try.f56) [] h0 Try.func56 (by kernel_rfl) rfl Try.ntmps56 Try.results56 (by simp) ?_
  simp
  refine Inv_intro (ok_newest k d h10 hs) ?_
  simp
  rcases newR_cases d.Sectors with e | ⟨h, hh, e⟩
  · simp [e, loadR]
  · have hl0 := tellsR_long (secAt d.Sectors (8 + h))
    have er : loadR d.Sectors = if ((catCut ((d.Sectors.drop (4 * h)).take 4)).size : Int) < (tellsR (secAt d.Sectors (8 + h))).2.1 then (⟨#[]⟩, 0, false) else ((catCut ((d.Sectors.drop (4 * h)).take 4)).extract 0 (tellsR (secAt d.Sectors (8 + h))).2.1.toNat, (tellsR (secAt d.Sectors (8 + h))).1, true) := by
      have hn : ¬ (h : Int) < 0 := by omega
      simp [loadR, e, hn]
    rw [er]
    generalize (tellsR (secAt d.Sectors (8 + h))).1 = nu at *
    generalize (tellsR (secAt d.Sectors (8 + h))).2.1 = lo at *
    obtain ⟨xs, hxs⟩ : ∃ xs, xs = (d.Sectors.drop (4 * h)).take 4 := ⟨_, rfl⟩
    have hxl : xs.length = 4 := by rw [hxs]; simp; omega
    have hxm : (List.take 4 (List.drop (4 * h) (d.Sectors.map ps))) = xs.map ps := by rw [hxs, List.map_take, List.map_drop]
    have hxz : ∀ s ∈ xs, s.size ≤ 140737488355328 := fun s hsx => hs s (by rw [hxs] at hsx; exact List.mem_of_mem_drop (List.mem_of_mem_take hsx))
    rw [← hxs]
    obtain ⟨m4, hm4⟩ : ∃ m4, m4 = 4 * h := ⟨_, rfl⟩
    obtain ⟨n4, hn4⟩ : ∃ n4, n4 = m4 + 4 := ⟨_, rfl⟩
    rw [← hm4] at hxm
    have w1 : IntKind.wrap .i64 (4 * (h : Int)) = (m4 : Int) := (wrap64 (by omega) (by omega)).trans (by omega)
    have w2 : IntKind.wrap .i64 ((m4 : Int) + 4) = (n4 : Int) := (wrap64 (by omega) (by omega)).trans (by omega)
    have b1 : m4 ≤ n4 := by omega
    have b2 : n4 ≤ d.Sectors.length := by omega
    have b3 : n4 - m4 = 4 := by omega
    have hn : ¬ (h : Int) < 0 := by omega
    simp [e, hn, w1, w2, b1, b2, b3, hxm]
    refine loopS [6, 7, 9, 28, 29, 30] [] (fun m st => ∃ (i : Nat), i + m = xs.length ∧ st = ⟨slOf 50 [(6, .t (pi nu)), (7, .t (pi lo)), (9, .t (ps (catCut (xs.take i)))), (28, .t (rd k 4 (xs.map ps))), (29, .t (pi 4)), (30, .t (pi i))], ofL []⟩) xs.length ?_ ?_
    · rintro Inv hI
      simp
      subst hI
      exact ⟨0, by omega, rfl⟩
    · rintro Inv hI m st ⟨i, hi, rfl⟩
      have hZ := catCut_size xs i (by omega)
      have hS := catCut_snoc xs i
      generalize hZe : catCut (xs.take i) = Z at hZ hS ⊢
      refine ewr_sound (M := []) h0 ?_
      simp
      refine brn_app (fun a => ?_) (fun a => ?_)
      · simp at a
        have hil : i < xs.length := by omega
        have hx := hxz _ (List.getElem_mem hil)
        have hS' := hS hil
        by_cases c : xs[i].size < 18
        · have hcut : cut18 xs[i] = xs[i].extract 0 xs[i].size := by rw [cut18, Nat.min_eq_right (by omega)]
          have z1 : Z.size + (xs[i].extract 0 xs[i].size).size ≤ 9223372036854775807 := by rw [ByteArray.size_extract]; omega
          have c0 : (xs[i].size : Int) < 18 := by omega
          have z2 : Z.size + xs[i].size ≤ 9223372036854775807 := by omega
          simp [a, hil, c, c0, z1, z2]
          subst hI
          refine Less_mk (m - 1) (by omega) ⟨i + 1, by omega, ?_⟩
          rw [wrNext i (by omega), hS', hcut]
          try simp
        · have hcut : cut18 xs[i] = xs[i].extract 0 18 := by rw [cut18, Nat.min_eq_left (by omega)]
          have z1 : Z.size + (xs[i].extract 0 18).size ≤ 9223372036854775807 := by rw [ByteArray.size_extract]; omega
          have c' : 18 ≤ xs[i].size := by omega
          have c2 : (18 : Int) ≤ xs[i].size := by omega
          have c0 : ¬ (xs[i].size : Int) < 18 := by omega
          have z2 : Z.size + 18 ≤ 9223372036854775807 := by omega
          have z3 : Z.size + min 18 xs[i].size ≤ 9223372036854775807 := by omega
          simp [a, hil, c, c', c2, c0, z1, z2, z3]
          subst hI
          refine Less_mk (m - 1) (by omega) ⟨i + 1, by omega, ?_⟩
          rw [wrNext i (by omega), hS', hcut]
          try simp
      · simp at a
        have hil : i = xs.length := by omega
        have ht : List.take i xs = xs := List.take_of_length_le (by omega)
        rw [ht] at hZe
        subst hZe
        simp
        refine brn_app (fun b => ?_) (fun b => ?_)
        · simp at b
          simp [b]
        · simp at b
          have b' : ¬ ((catCut xs).size : Int) < lo := by omega
          have b2 : lo ≤ (catCut xs).size := b
          simp [hl0, b', b2]
end Go.V
namespace Go.Proofs
open Go.Shelf
def Try.lays105_ren : Go.Shelf.Ren := ⟨fun | 105 => 95 | 212 => 105 | 99 => 106 | 165 => 107 | 166 => 108 | 170 => 109 | 169 => 110 | 263 => 111 | 264 => 112 | 206 => 113 | 240 => 114 | 241 => 115 | 276 => 116 | 277 => 117 | n => n, fun | 9 => 9 | 3 => 3 | 4 => 4 | 20 => 20 | 0 => 0 | 46 => 115 | 109 => 116 | 5 => 5 | 72 => 121 | 76 => 125 | 51 => 127 | 146 => 128 | 53 => 86 | 148 => 130 | 70 => 119 | 37 => 53 | 75 => 124 | 127 => 132 | 164 => 133 | 80 => 94 | n => n, fun | n => n⟩
theorem Try.lays105 : Go.Proofs.Lays.n105 Try.prog Try.lays105_ren := {
  mixed := by kernel_rfl
  f99 := Try.func106.trans (congrArg some (by kernel_rfl))
  f105 := Try.func95.trans (congrArg some (by kernel_rfl))
  f165 := Try.func107.trans (congrArg some (by kernel_rfl))
  f166 := Try.func108.trans (congrArg some (by kernel_rfl))
  f169 := Try.func110.trans (congrArg some (by kernel_rfl))
  f170 := Try.func109.trans (congrArg some (by kernel_rfl))
  f206 := Try.func113.trans (congrArg some (by kernel_rfl))
  f212 := Try.func105.trans (congrArg some (by kernel_rfl))
  f240 := Try.func114.trans (congrArg some (by kernel_rfl))
  f241 := Try.func115.trans (congrArg some (by kernel_rfl))
  f263 := Try.func111.trans (congrArg some (by kernel_rfl))
  f264 := Try.func112.trans (congrArg some (by kernel_rfl))
  f276 := Try.func116.trans (congrArg some (by kernel_rfl))
  f277 := Try.func117.trans (congrArg some (by kernel_rfl))
  t0 := Try.underlying0
  a0 := Try.isAgg0
  z0 := Try.sizeOf0
  v0 := Try.zeroValue0
  t3 := Try.underlying3
  a3 := Try.isAgg3
  z3 := Try.sizeOf3
  v3 := Try.zeroValue3
  t4 := Try.underlying4
  a4 := Try.isAgg4
  z4 := Try.sizeOf4
  v4 := Try.zeroValue4
  t5 := Try.underlying5
  a5 := Try.isAgg5
  z5 := Try.sizeOf5
  v5 := Try.zeroValue5
  t9 := Try.underlying9
  a9 := Try.isAgg9
  z9 := Try.sizeOf9
  v9 := Try.zeroValue9
  t20 := Try.underlying20
  a20 := Try.isAgg20
  z20 := Try.sizeOf20
  v20 := Try.zeroValue20
  t37 := Try.underlying53
  a37 := Try.isAgg53
  z37 := Try.sizeOf53
  v37 := Try.zeroValue53
  t46 := Try.underlying115
  a46 := Try.isAgg115
  z46 := Try.sizeOf115
  v46 := Try.zeroValue115
  t51 := Try.underlying127
  a51 := Try.isAgg127
  z51 := Try.sizeOf127
  v51 := Try.zeroValue127
  t53 := Try.underlying86
  a53 := Try.isAgg86
  z53 := Try.sizeOf86
  v53 := Try.zeroValue86
  t70 := Try.underlying119
  a70 := Try.isAgg119
  z70 := Try.sizeOf119
  v70 := Try.zeroValue119
  t72 := Try.underlying121
  a72 := Try.isAgg121
  z72 := Try.sizeOf121
  v72 := Try.zeroValue121
  t75 := Try.underlying124
  a75 := Try.isAgg124
  z75 := Try.sizeOf124
  v75 := Try.zeroValue124
  t76 := Try.underlying125
  a76 := Try.isAgg125
  z76 := Try.sizeOf125
  v76 := Try.zeroValue125
  t109 := Try.underlying116
  a109 := Try.isAgg116
  z109 := Try.sizeOf116
  v109 := Try.zeroValue116
  t127 := Try.underlying132
  a127 := Try.isAgg132
  z127 := Try.sizeOf132
  v127 := Try.zeroValue132
  t146 := Try.underlying128
  a146 := Try.isAgg128
  z146 := Try.sizeOf128
  v146 := Try.zeroValue128
  t148 := Try.underlying130
  a148 := Try.isAgg130
  z148 := Try.sizeOf130
  v148 := Try.zeroValue130
  t164 := Try.underlying133
  a164 := Try.isAgg133
  z164 := Try.sizeOf133
  v164 := Try.zeroValue133 }
theorem Try.Builder_Extra_105 : Builder.Extra Try.prog Try.lays105_ren := {
  sizeBuilder := by kernel_rfl
  liesBuilder := by kernel_rfl
  t5 := Try.underlying5
  a5 := Try.isAgg5
  z5 := Try.sizeOf5
  v5 := Try.zeroValue5
  infoByte := by kernel_rfl
  cellsByte := by kernel_rfl
  sizeByte := by kernel_rfl
  neB5 := by decide }
open Go.RowKit Go.Lib in
theorem Try.strings_Repeat_main (s : ByteArray) (c : Nat) (w : World) (hc2 : 2 ≤ c) (hc : c ≤ 9223372036854775807) (hlen : s.size * c ≤ 140737488355328) (h0 : 0 < s.size) :
    Calls Try.prog 95 #[.string s, .int .i64 c] w fun e w' => e = .returned (.string ⟨(Lib.repeatL s.data.toList c).toArray⟩) ∧ Below w.heap.size w w' := Any.strings_Repeat_main Try.lays105 Try.Builder_Extra_105 s c w hc2 hc hlen h0
open Go.RowKit Go.Lib in
theorem Try.strings_Repeat_zero (s : ByteArray) (w : World) :
    Calls Try.prog 95 #[.string s, .int .i64 0] w fun e w' => e = .returned (.string ⟨#[]⟩) ∧ w' = w := Any.strings_Repeat_zero Try.lays105 s w
open Go.RowKit Go.Lib in
theorem Try.strings_Repeat_one (s : ByteArray) (w : World) :
    Calls Try.prog 95 #[.string s, .int .i64 1] w fun e w' => e = .returned (.string s) ∧ w' = w := Any.strings_Repeat_one Try.lays105 s w
open Go.RowKit Go.Lib in
theorem Try.strings_Repeat_empty (s : ByteArray) (c : Nat) (w : World) (hc2 : 2 ≤ c) (hc : c ≤ 9223372036854775807) (h0 : s.size = 0) :
    Calls Try.prog 95 #[.string s, .int .i64 c] w fun e w' => e = .returned (.string ⟨#[]⟩) ∧ w' = w := Any.strings_Repeat_empty Try.lays105 s c w hc2 hc h0
open Go.RowKit Go.Lib in
theorem Try.strings_Repeat_negative (s : ByteArray) (c : Int) (w : World) (hc : c < 0) :
    Calls Try.prog 95 #[.string s, .int .i64 c] w fun e w' => e = .panicked [{ v := repeatPanic Try.lays105_ren "strings: negative Repeat count", recovered := false }] ∧ w' = w := Any.strings_Repeat_negative Try.lays105 s c w hc
open Go.RowKit Go.Lib in
theorem Try.strings_Repeat_overflow (s : ByteArray) (c : Nat) (w : World) (hc : c ≤ 9223372036854775807) (hs : s.size ≤ 9223372036854775807) (hbig : 9223372036854775807 < s.size * c) :
    Calls Try.prog 95 #[.string s, .int .i64 c] w fun e w' => e = .panicked [{ v := repeatPanic Try.lays105_ren "strings: Repeat output length overflow", recovered := false }] ∧ w' = w := Any.strings_Repeat_overflow Try.lays105 s c w hc hs hbig
open Go.RowKit Go.Lib in
theorem Try.strings_Repeat (s : ByteArray) (c : Nat) (w : World) (hc : c ≤ 9223372036854775807) (hlen : s.size * c ≤ 140737488355328) :
    Calls Try.prog 95 #[.string s, .int .i64 c] w fun e w' => e = .returned (.string ⟨(Lib.repeatL s.data.toList c).toArray⟩) ∧ Below w.heap.size w w' := Any.strings_Repeat Try.lays105 Try.Builder_Extra_105 s c w hc hlen
end Go.Proofs
namespace Go.V
open Go.Proofs
set_option maxHeartbeats 1000000
set_option maxRecDepth 10000
set_option linter.unusedSimpArgs false
set_option linter.unusedVariables false
def partK (text : ByteArray) (k : Nat) : ByteArray := text.extract (min (18 * k) text.size) (min (18 * k + 18) text.size)
def planN (text : ByteArray) (o k : Nat) : List GWrite := (List.range k).map fun j => ⟨(4 * o + j : Nat), partK text j⟩
theorem planN_succ (text : ByteArray) (o k : Nat) : planN text o (k + 1) = planN text o k ++ [⟨(4 * o + k : Nat), partK text k⟩] := by
  unfold planN
  rw [List.range_succ, List.map_append]
  rfl
theorem planN_len (text : ByteArray) (o k : Nat) : (planN text o k).length = k := by simp [planN]
theorem partK_size (text : ByteArray) (k : Nat) : (partK text k).size ≤ 18 := by
  unfold partK
  rw [ByteArray.size_extract]
  omega
def planL (ss : List ByteArray) (text : ByteArray) : List GWrite × Bool := if (!(loadR ss).2.2 || decide (999 ≤ (loadR ss).2.1) || decide (72 < text.size)) = true then ([], false) else (planN text (1 - (newR ss).1.toNat) 4 ++ [⟨(8 + (1 - (newR ss).1.toNat) : Nat), sealS (strOf [tb (IntKind.wrap .i64 ((loadR ss).2.1 + 1)) 1, tb (IntKind.wrap .i64 ((loadR ss).2.1 + 1)) 0, tb text.size 0])⟩], true)
theorem loadR_new {ss : List ByteArray} (h : (loadR ss).2.2 = true) : ∃ o : Nat, o ≤ 1 ∧ (newR ss).1 = ((1 - o : Nat) : Int) ∧ 1 - (newR ss).1.toNat = o := by
  rcases newR_cases ss with e | ⟨h', hh, e⟩
  · have hn : (newR ss).1 < 0 := by omega
    simp [loadR, hn] at h
  · refine ⟨1 - h', by omega, ?_, ?_⟩
    · rw [e]
      show (h' : Int) = _
      omega
    · rw [e]
      show 1 - (h' : Int).toNat = _
      omega
def blankS (n : Nat) : ByteArray := ⟨(Lib.repeatL [0] n).toArray⟩
theorem blankS_size (n : Nat) : (blankS n).size = n := by
  show (Lib.repeatL [0] n).toArray.size = n
  simp [Lib.repeatL_length]
theorem ok_Repeat (n : Nat) (hn : n ≤ 72) : CallOK Try.prog 95 [.c (ps ⟨#[0]⟩), .c (pi n)] (.c (ps (blankS n))) [.c (ps ⟨#[0]⟩), .c (pi n)] := by
  refine callOK_leafs (qs := [ps ⟨#[0]⟩, pi n]) (rv := .string (blankS n)) rfl (fun w I => by simp [Im]) (by simp [PT.isSl]) ?_
  intro I w vs hl hv hI
  obtain ⟨v0, v1, rfl⟩ : ∃ v0 v1, vs = [v0, v1] := by
    match vs, hl with
    | [a, b], _ => exact ⟨a, b, rfl⟩
  have h0 := hv 0 v0 _ rfl rfl
  have h1 := hv 1 v1 _ rfl rfl
  simp [Im] at h0 h1
  subst h0 h1
  refine CallsF.of_calls Try.func95 (by kernel_rfl) rfl ?_
  exact Try.strings_Repeat ⟨#[0]⟩ n w (by omega) (by show 1 * n ≤ _; omega)
theorem part_pad (text : ByteArray) (k m : Nat) (hk : k < 4) (ht : text.size ≤ 72) (hm : m = min 18 (text.size - 18 * k)) : ((text ++ blankS (72 - text.size)).extract (18 * k) (18 * k + 18)).extract 0 m = partK text k := by
  have hb := blankS_size (72 - text.size)
  have hs : (text ++ blankS (72 - text.size)).size = 72 := by rw [ByteArray.size_append, hb]; omega
  apply ByteArray.ext_getElem
  · simp only [ByteArray.size_extract, partK, hs]
    omega
  · intro i h1 h2
    simp only [ByteArray.size_extract, partK, hs] at h1 h2
    simp only [partK, ByteArray.getElem_extract]
    rw [ByteArray.getElem_append_left (by omega)]
    congr 1
    omega
theorem ok_planOf (k : Nat) (d : GDisk) (text : ByteArray) (h10 : d.Sectors.length = 10) (hs : ∀ s ∈ d.Sectors, s.size ≤ 140737488355328) (ht : text.size ≤ 140737488351232) : CallOK Try.prog 58 [.agg (GDisk.ci k d), .c (ps text)] (.tup [.c (.sl 0 61 (planL d.Sectors text).1.length ((planL d.Sectors text).1.flatMap GWrite.c)), .c (pb (planL d.Sectors text).2)]) [.agg (GDisk.ci k d), .c (ps text)] := by
  refine okS (fn := Try.f58) [] h0 Try.func58 (by kernel_rfl) rfl Try.ntmps58 Try.results58 (by simp) ?_
  simp
  refine Inv_intro (ok_load k d h10 hs) ?_
  simp
  have hnew := @loadR_new d.Sectors
  have hpl : ∀ a b c, loadR d.Sectors = (a, b, c) → planL d.Sectors text = if (!c || decide (999 ≤ b) || decide (72 < text.size)) = true then ([], false) else (planN text (1 - (newR d.Sectors).1.toNat) 4 ++ [⟨(8 + (1 - (newR d.Sectors).1.toNat) : Nat), sealS (strOf [tb (IntKind.wrap .i64 (b + 1)) 1, tb (IntKind.wrap .i64 (b + 1)) 0, tb text.size 0])⟩], true) := by
    intro a b c e
    simp [planL, e]
  generalize hL : loadR d.Sectors = L at *
  obtain ⟨L1, L2, L3⟩ := L
  have hpl := hpl L1 L2 L3 rfl
  cases L3 with
  | false => simp [hpl]
  | true =>
    by_cases c1 : 999 ≤ L2
    · simp [hpl, c1]
    · by_cases c2 : 72 < text.size
      · have c2' : 72 < (text.size : Int) := by omega
        simp [hpl, c1, c2, c2']
      · have c2' : ¬ 72 < (text.size : Int) := by omega
        obtain ⟨o, ho, hn1, hn2⟩ := hnew rfl
        have hpl : planL d.Sectors text = (planN text o 4 ++ [⟨(8 + o : Nat), sealS (strOf [tb (IntKind.wrap .i64 (L2 + 1)) 1, tb (IntKind.wrap .i64 (L2 + 1)) 0, tb text.size 0])⟩], true) := by
          rw [hpl, hn2]
          simp [c1, c2]
        rw [hpl]
        simp [c1, c2']
        refine Inv_intro (ok_newest k d h10 hs) ?_
        rw [hn1]
        have w0 : IntKind.wrap .i64 (1 - ((1 - o : Nat) : Int)) = (o : Int) := (wrap64 (by omega) (by omega)).trans (by omega)
        have w1 : IntKind.wrap .i64 (72 - (text.size : Int)) = ((72 - text.size : Nat) : Int) := (wrap64 (by omega) (by omega)).trans (by omega)
        simp [w0, w1]
        refine Inv_intro (ok_Repeat (72 - text.size) (by omega)) ?_
        have z1 := blankS_size (72 - text.size)
        have z2 : text.size + (blankS (72 - text.size)).size ≤ 9223372036854775807 := by omega
        simp [z2]
        refine ewp_sw (.op 7 0 0) (.op 12 18 0) rfl rfl ?_
        simp
        refine loopS [1, 7, 13, 14, 15, 52] [.op 12 18 0] (fun m st => ∃ (i : Nat), i + m = 4 ∧ st = ⟨slOf 91 [(1, .t (ps text)), (7, .t (pi L2)), (13, .t (pi o)), (14, .t (ps (text ++ blankS (72 - text.size)))), (15, .ref ⟨.op 12 18 0, []⟩ 0 i), (52, .t (pi i))], ofL [(.op 12 18 0, .sl 0 61 i ((planN text o i).flatMap GWrite.c))]⟩) 4 ?_ ?_
        · rintro Inv hI
          simp
          subst hI
          refine ⟨0, by omega, ?_⟩
          simp [planN]
        · rintro Inv hI m st ⟨i, hi, rfl⟩
          have hA : ((planN text o i).flatMap GWrite.c).length = i * 2 := by rw [fm_len GWrite.c 2 (fun _ => rfl), planN_len]
          have hAm : (planN text o (i + 1)).flatMap GWrite.c = (planN text o i).flatMap GWrite.c ++ GWrite.c ⟨(4 * o + i : Nat), partK text i⟩ := by rw [planN_succ, List.flatMap_append, List.flatMap_cons, List.flatMap_nil, List.append_nil]
          have hAf : i = 4 → (planN text o 4).flatMap GWrite.c = (planN text o i).flatMap GWrite.c := by rintro rfl; rfl
          generalize hAe : ((planN text o i).flatMap GWrite.c) = A at hA hAm hAf ⊢
          refine ewr_sound (M := []) h0 ?_
          simp
          refine brn_app (fun a => ?_) (fun a => ?_)
          · simp at a
            have hi4 : i < 4 := by omega
            obtain ⟨lo, hlo⟩ : ∃ lo, lo = 18 * i := ⟨_, rfl⟩
            obtain ⟨hi', hhi⟩ : ∃ hi', hi' = lo + 18 := ⟨_, rfl⟩
            obtain ⟨q, hq⟩ : ∃ q, q = min 18 (text.size - 18 * i) := ⟨_, rfl⟩
            obtain ⟨z0, hz0⟩ : ∃ z0, z0 = 4 * o := ⟨_, rfl⟩
            obtain ⟨z, hz⟩ : ∃ z, z = 4 * o + i := ⟨_, rfl⟩
            have hpp := part_pad text i q hi4 (by omega) hq
            have w2 : IntKind.wrap .i64 (18 * (i : Int)) = (lo : Int) := (wrap64 (by omega) (by omega)).trans (by omega)
            have w3 : IntKind.wrap .i64 ((lo : Int) + 18) = (hi' : Int) := (wrap64 (by omega) (by omega)).trans (by omega)
            have w4 : IntKind.wrap .i64 (4 * (o : Int)) = (z0 : Int) := (wrap64 (by omega) (by omega)).trans (by omega)
            have w5 : IntKind.wrap .i64 ((z0 : Int) + (i : Int)) = (z : Int) := (wrap64 (by omega) (by omega)).trans (by omega)
            have w6 : IntKind.wrap .i64 ((text.size : Int) - (lo : Int)) = (text.size : Int) - (lo : Int) := wrap64 (by omega) (by omega)
            have hPz : (text ++ blankS (72 - text.size)).size = 72 := by rw [ByteArray.size_append, z1]; omega
            rw [← hlo, ← hhi] at hpp
            rw [← hz] at hAm
            generalize hP : text ++ blankS (72 - text.size) = P at *
            have q1 : lo ≤ hi' := by omega
            have q2 : hi' ≤ P.size := by omega
            have q3 : (P.extract lo hi').size = 18 := by rw [ByteArray.size_extract]; omega
            have b1 : (i + 1) * 24 ≤ 140737488355328 := by omega
            have b2 : i ≤ 9223372036854775806 := by omega
            have hAt : A.take (i * 2) = A := List.take_of_length_le (by omega)
            have hX : (if (if lo < text.size then (text.size : Int) - lo else 0) < 18 then (if lo < text.size then (text.size : Int) - lo else 0) else 18) = (q : Int) := by split <;> split <;> omega
            have q4 : q ≤ 18 := by omega
            have s1 := pr_sliceH (P := Try.prog) (t := 9) (s := P.extract lo hi') (k := .i64) (b := (q : Int)) (by kernel_rfl) (by omega) (by rw [q3]; omega)
            have s3 : (q : Int).toNat = q := rfl
            rw [s3] at s1
            simp [w2, w3, w4, w5, w6, q1, q2, q3, hX, q4, s1, hpp, hA, b1, b2, hAt]
            subst hI
            refine Less_mk (m - 1) (by omega) ⟨i + 1, by omega, ?_⟩
            rw [wrNext i (by omega), hAm]
            rfl
          · simp at a
            have : i = 4 := by omega
            subst this
            have hAf := hAf rfl
            have w6 : IntKind.wrap .i64 (8 + (o : Int)) = ((8 + o : Nat) : Int) := (wrap64 (by omega) (by omega)).trans (by omega)
            have hAt : A.take (4 * 2) = A := List.take_of_length_le (by omega)
            have b1 : (4 + 1) * 24 ≤ 140737488355328 := by omega
            rw [hAf]
            simp [w6]
            refine Inv_intro (ok_iteller _ text.size) ?_
            have ht2 : ∀ x y : PT, List.take 10 (A ++ [x, y]) = A ++ [x, y] := fun x y => List.take_of_length_le (by simp [hA])
            simp [hA, b1, hAt, planN_len, ht2]
theorem disk_ok {d : GDisk} (h1 : d.Sectors.length ≤ 2097152) (h2 : d.Waiting.length ≤ 2097152) : d.lens ∧ GDisk.cnT d ≤ 1152921504606846976 := by
  refine ⟨⟨⟨by omega, fun _ _ => trivial⟩, ⟨by omega, fun _ _ => trivial⟩⟩, ?_⟩
  have := cn_len_StringS d.Sectors
  have := cn_len_WriteS d.Waiting
  unfold GDisk.cnT
  omega
theorem disk_len {d : GDisk} (h : d.wt ≤ 1048576) : d.Sectors.length ≤ 1048576 ∧ d.Waiting.length ≤ 1048576 := by
  have := len_wt_StringS d.Sectors
  have := len_wt_WriteS d.Waiting
  unfold GDisk.wt at h
  omega
theorem ok_l17Load (k : Nat) (d : GDisk) (h10 : d.Sectors.length = 10) (hs : ∀ s ∈ d.Sectors, s.size ≤ 140737488355328) : CallOK Try.prog 54 [.agg (GDisk.ci k d)] (.tup [.c (ps (loadR d.Sectors).1), .c (pi (loadR d.Sectors).2.1), .c (pb (loadR d.Sectors).2.2)]) [.agg (GDisk.ci k d)] := by
  refine okS (fn := Try.f54) [] h0 Try.func54 (by kernel_rfl) rfl Try.ntmps54 Try.results54 (by simp) ?_
  simp
  refine Inv_intro (ok_l17Newest k d h10 hs) ?_
  rw [swNew_eq]
  simp
  rcases newR_cases d.Sectors with e | ⟨h, hh, e⟩
  · simp [e, loadR]
  · have hl0 := tellsR_long (secAt d.Sectors (8 + h))
    obtain ⟨q8, hq8⟩ : ∃ q8, q8 = 8 + h := ⟨_, rfl⟩
    rw [← hq8] at e hl0
    have hq8l : q8 < d.Sectors.length := by omega
    have w8 : IntKind.wrap .i64 (8 + (h : Int)) = (q8 : Int) := (wrap64 (by omega) (by omega)).trans (by omega)
    have er : loadR d.Sectors = if ((catCut ((d.Sectors.drop (4 * h)).take 4)).size : Int) < (tellsR (secAt d.Sectors q8)).2.1 then (⟨#[]⟩, 0, false) else ((catCut ((d.Sectors.drop (4 * h)).take 4)).extract 0 (tellsR (secAt d.Sectors q8)).2.1.toNat, (tellsR (secAt d.Sectors q8)).1, true) := by
      have hn : ¬ (h : Int) < 0 := by omega
      simp [loadR, e, hn]
    rw [er]
    rw [secAt_get _ _ hq8l] at e hl0 ⊢
    have hn : ¬ (h : Int) < 0 := by omega
    simp [e, hn, w8, hq8l]
    refine Inv_intro (ok_l17Read d.Sectors[q8] (hs _ (List.getElem_mem hq8l))) ?_
    generalize (tellsR d.Sectors[q8]).1 = nu at *
    generalize (tellsR d.Sectors[q8]).2.1 = lo at *
    obtain ⟨xs, hxs⟩ : ∃ xs, xs = (d.Sectors.drop (4 * h)).take 4 := ⟨_, rfl⟩
    have hxl : xs.length = 4 := by rw [hxs]; simp; omega
    have hxg : ∀ (i q : Nat) (hi : i < xs.length) (hq : q < d.Sectors.length), q = 4 * h + i → d.Sectors[q] = xs[i] := by
      intro i q hi hq he
      subst he
      subst hxs
      simp
    have hxz : ∀ s ∈ xs, s.size ≤ 140737488355328 := fun s hsx => hs s (by rw [hxs] at hsx; exact List.mem_of_mem_drop (List.mem_of_mem_take hsx))
    rw [← hxs]
    simp
    refine loopS [1, 5, 6, 7, 9, 10] [.op 0 0 0] (fun m st => ∃ (i : Nat), i + m = xs.length ∧ st = ⟨slOf 55 [(1, .ptr ⟨.op 0 0 0, []⟩ 0), (5, .t (pi h)), (6, .t (pi nu)), (7, .t (pi lo)), (9, .t (ps (catCut (xs.take i)))), (10, .t (pi i))], ofL [(.op 0 0 0, .sl 0 31 1 (GDisk.ci k d))]⟩) xs.length ?_ ?_
    · rintro Inv hI
      simp
      subst hI
      exact ⟨0, by omega, rfl⟩
    · rintro Inv hI m st ⟨i, hi, rfl⟩
      have hZ := catCut_size xs i (by omega)
      have hS := catCut_snoc xs i
      generalize hZe : catCut (xs.take i) = Z at hZ hS ⊢
      refine ewr_sound (M := []) h0 ?_
      simp
      refine brn_app (fun a => ?_) (fun a => ?_)
      · simp at a
        have hil : i < xs.length := by omega
        obtain ⟨m4, hm4⟩ : ∃ m4, m4 = 4 * h := ⟨_, rfl⟩
        obtain ⟨q, hq⟩ : ∃ q, q = m4 + i := ⟨_, rfl⟩
        have hql : q < d.Sectors.length := by omega
        have w1 : IntKind.wrap .i64 (4 * (h : Int)) = (m4 : Int) := (wrap64 (by omega) (by omega)).trans (by omega)
        have w2 : IntKind.wrap .i64 ((m4 : Int) + i) = (q : Int) := (wrap64 (by omega) (by omega)).trans (by omega)
        have hx := hxz _ (List.getElem_mem hil)
        have hS' := hS hil
        have hg := hxg i q hil hql (by omega)
        simp [w1, w2, hql, hg]
        refine brn_app (fun c => ?_) (fun c => ?_)
        · simp at c
          have hcut : cut18 xs[i] = xs[i].extract 0 18 := by rw [cut18, Nat.min_eq_left (by omega)]
          have c' : (18 : Int) ≤ xs[i].size := by omega
          have c2 : 18 ≤ xs[i].size := by omega
          have z1 : Z.size + (xs[i].extract 0 18).size ≤ 9223372036854775807 := by rw [ByteArray.size_extract]; omega
          have z2 : Z.size + 18 ≤ 9223372036854775807 := by omega
          have z3 : Z.size + min 18 xs[i].size ≤ 9223372036854775807 := by omega
          simp [c', c2, z1, z2, z3]
          subst hI
          refine Less_mk (m - 1) (by omega) ⟨i + 1, by omega, ?_⟩
          rw [wrNext i (by omega), hS', hcut]
          rfl
        · simp at c
          have hcut : cut18 xs[i] = xs[i] := by rw [cut18, Nat.min_eq_right (by omega)]; simp
          have z2 : Z.size + xs[i].size ≤ 9223372036854775807 := by omega
          simp [z2]
          subst hI
          refine Less_mk (m - 1) (by omega) ⟨i + 1, by omega, ?_⟩
          rw [wrNext i (by omega), hS', hcut]
          rfl
      · simp at a
        have hil : i = xs.length := by omega
        have ht : List.take i xs = xs := List.take_of_length_le (by omega)
        rw [ht] at hZe
        subst hZe
        simp
        refine brn_app (fun b => ?_) (fun b => ?_)
        · simp at b
          simp [b]
        · simp at b
          have b' : ¬ ((catCut xs).size : Int) < lo := by omega
          have b2 : lo ≤ (catCut xs).size := b
          simp [hl0, b', b2]
end Go.V
