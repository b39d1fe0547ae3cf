/- What functions of the seat's program do, each proved of its code, under the bounds that its theorem names. -/
import Derived.Test.YtildjkidohpmbaaTac
import Derived.Shelf.Strings.Repeat
set_option linter.all false
namespace Go.V
open Go.Proofs
set_option maxHeartbeats 1000000
set_option maxRecDepth 10000
set_option linter.unusedSimpArgs false
set_option linter.unusedVariables false
end Go.V
namespace Go.Proofs
open Go.Shelf
def Try.lays105_ren : Go.Shelf.Ren := ⟨fun | 105 => 103 | 212 => 125 | 99 => 126 | 165 => 118 | 166 => 119 | 170 => 127 | 169 => 120 | 263 => 140 | 264 => 141 | 206 => 142 | 240 => 137 | 241 => 138 | 276 => 145 | 277 => 146 | n => n, fun | 9 => 9 | 3 => 3 | 4 => 4 | 20 => 20 | 0 => 0 | 46 => 118 | 109 => 136 | 5 => 5 | 72 => 126 | 76 => 130 | 51 => 145 | 146 => 146 | 53 => 75 | 148 => 148 | 70 => 124 | 37 => 22 | 75 => 129 | 127 => 144 | 164 => 151 | 80 => 88 | n => n, fun | n => n⟩
theorem Try.lays105 : Go.Proofs.Lays.n105 Try.prog Try.lays105_ren := {
  mixed := by kernel_rfl
  f99 := Try.func126.trans (congrArg some (by kernel_rfl))
  f105 := Try.func103.trans (congrArg some (by kernel_rfl))
  f165 := Try.func118.trans (congrArg some (by kernel_rfl))
  f166 := Try.func119.trans (congrArg some (by kernel_rfl))
  f169 := Try.func120.trans (congrArg some (by kernel_rfl))
  f170 := Try.func127.trans (congrArg some (by kernel_rfl))
  f206 := Try.func142.trans (congrArg some (by kernel_rfl))
  f212 := Try.func125.trans (congrArg some (by kernel_rfl))
  f240 := Try.func137.trans (congrArg some (by kernel_rfl))
  f241 := Try.func138.trans (congrArg some (by kernel_rfl))
  f263 := Try.func140.trans (congrArg some (by kernel_rfl))
  f264 := Try.func141.trans (congrArg some (by kernel_rfl))
  f276 := Try.func145.trans (congrArg some (by kernel_rfl))
  f277 := Try.func146.trans (congrArg some (by kernel_rfl))
  t0 := Try.underlying0
  a0 := Try.isAgg0
  z0 := Try.sizeOf0
  v0 := Try.zeroValue0
  t3 := Try.underlying3
  a3 := Try.isAgg3
  z3 := Try.sizeOf3
  v3 := Try.zeroValue3
  t4 := Try.underlying4
  a4 := Try.isAgg4
  z4 := Try.sizeOf4
  v4 := Try.zeroValue4
  t5 := Try.underlying5
  a5 := Try.isAgg5
  z5 := Try.sizeOf5
  v5 := Try.zeroValue5
  t9 := Try.underlying9
  a9 := Try.isAgg9
  z9 := Try.sizeOf9
  v9 := Try.zeroValue9
  t20 := Try.underlying20
  a20 := Try.isAgg20
  z20 := Try.sizeOf20
  v20 := Try.zeroValue20
  t37 := Try.underlying22
  a37 := Try.isAgg22
  z37 := Try.sizeOf22
  v37 := Try.zeroValue22
  t46 := Try.underlying118
  a46 := Try.isAgg118
  z46 := Try.sizeOf118
  v46 := Try.zeroValue118
  t51 := Try.underlying145
  a51 := Try.isAgg145
  z51 := Try.sizeOf145
  v51 := Try.zeroValue145
  t53 := Try.underlying75
  a53 := Try.isAgg75
  z53 := Try.sizeOf75
  v53 := Try.zeroValue75
  t70 := Try.underlying124
  a70 := Try.isAgg124
  z70 := Try.sizeOf124
  v70 := Try.zeroValue124
  t72 := Try.underlying126
  a72 := Try.isAgg126
  z72 := Try.sizeOf126
  v72 := Try.zeroValue126
  t75 := Try.underlying129
  a75 := Try.isAgg129
  z75 := Try.sizeOf129
  v75 := Try.zeroValue129
  t76 := Try.underlying130
  a76 := Try.isAgg130
  z76 := Try.sizeOf130
  v76 := Try.zeroValue130
  t109 := Try.underlying136
  a109 := Try.isAgg136
  z109 := Try.sizeOf136
  v109 := Try.zeroValue136
  t127 := Try.underlying144
  a127 := Try.isAgg144
  z127 := Try.sizeOf144
  v127 := Try.zeroValue144
  t146 := Try.underlying146
  a146 := Try.isAgg146
  z146 := Try.sizeOf146
  v146 := Try.zeroValue146
  t148 := Try.underlying148
  a148 := Try.isAgg148
  z148 := Try.sizeOf148
  v148 := Try.zeroValue148
  t164 := Try.underlying151
  a164 := Try.isAgg151
  z164 := Try.sizeOf151
  v164 := Try.zeroValue151 }
theorem Try.Builder_Extra_105 : Builder.Extra Try.prog Try.lays105_ren := {
  sizeBuilder := by kernel_rfl
  liesBuilder := by kernel_rfl
  t5 := Try.underlying5
  a5 := Try.isAgg5
  z5 := Try.sizeOf5
  v5 := Try.zeroValue5
  infoByte := by kernel_rfl
  cellsByte := by kernel_rfl
  sizeByte := by kernel_rfl
  neB5 := by decide }
open Go.RowKit Go.Lib in
theorem Try.strings_Repeat_main (s : ByteArray) (c : Nat) (w : World) (hc2 : 2 ≤ c) (hc : c ≤ 9223372036854775807) (hlen : s.size * c ≤ 140737488355328) (h0 : 0 < s.size) :
    Calls Try.prog 103 #[.string s, .int .i64 c] w fun e w' => e = .returned (.string ⟨(Lib.repeatL s.data.toList c).toArray⟩) ∧ Below w.heap.size w w' := Any.strings_Repeat_main Try.lays105 Try.Builder_Extra_105 s c w hc2 hc hlen h0
open Go.RowKit Go.Lib in
theorem Try.strings_Repeat_zero (s : ByteArray) (w : World) :
    Calls Try.prog 103 #[.string s, .int .i64 0] w fun e w' => e = .returned (.string ⟨#[]⟩) ∧ w' = w := Any.strings_Repeat_zero Try.lays105 s w
open Go.RowKit Go.Lib in
theorem Try.strings_Repeat_one (s : ByteArray) (w : World) :
    Calls Try.prog 103 #[.string s, .int .i64 1] w fun e w' => e = .returned (.string s) ∧ w' = w := Any.strings_Repeat_one Try.lays105 s w
open Go.RowKit Go.Lib in
theorem Try.strings_Repeat_empty (s : ByteArray) (c : Nat) (w : World) (hc2 : 2 ≤ c) (hc : c ≤ 9223372036854775807) (h0 : s.size = 0) :
    Calls Try.prog 103 #[.string s, .int .i64 c] w fun e w' => e = .returned (.string ⟨#[]⟩) ∧ w' = w := Any.strings_Repeat_empty Try.lays105 s c w hc2 hc h0
open Go.RowKit Go.Lib in
theorem Try.strings_Repeat_negative (s : ByteArray) (c : Int) (w : World) (hc : c < 0) :
    Calls Try.prog 103 #[.string s, .int .i64 c] w fun e w' => e = .panicked [{ v := repeatPanic Try.lays105_ren "strings: negative Repeat count", recovered := false }] ∧ w' = w := Any.strings_Repeat_negative Try.lays105 s c w hc
open Go.RowKit Go.Lib in
theorem Try.strings_Repeat_overflow (s : ByteArray) (c : Nat) (w : World) (hc : c ≤ 9223372036854775807) (hs : s.size ≤ 9223372036854775807) (hbig : 9223372036854775807 < s.size * c) :
    Calls Try.prog 103 #[.string s, .int .i64 c] w fun e w' => e = .panicked [{ v := repeatPanic Try.lays105_ren "strings: Repeat output length overflow", recovered := false }] ∧ w' = w := Any.strings_Repeat_overflow Try.lays105 s c w hc hs hbig
open Go.RowKit Go.Lib in
theorem Try.strings_Repeat (s : ByteArray) (c : Nat) (w : World) (hc : c ≤ 9223372036854775807) (hlen : s.size * c ≤ 140737488355328) :
    Calls Try.prog 103 #[.string s, .int .i64 c] w fun e w' => e = .returned (.string ⟨(Lib.repeatL s.data.toList c).toArray⟩) ∧ Below w.heap.size w w' := Any.strings_Repeat Try.lays105 Try.Builder_Extra_105 s c w hc hlen
end Go.Proofs
namespace Go.V
open Go.Proofs
set_option maxHeartbeats 1000000
set_option maxRecDepth 10000
set_option linter.unusedSimpArgs false
set_option linter.unusedVariables false
def partK (text : ByteArray) (k : Nat) : ByteArray := text.extract (min (18 * k) text.size) (min (18 * k + 18) text.size)
def planN (text : ByteArray) (o k : Nat) : List GWrite := (List.range k).map fun j => ⟨(4 * o + j : Nat), partK text j⟩
theorem planN_succ (text : ByteArray) (o k : Nat) : planN text o (k + 1) = planN text o k ++ [⟨(4 * o + k : Nat), partK text k⟩] := by
  unfold planN
  rw [List.range_succ, List.map_append]
  rfl
theorem planN_len (text : ByteArray) (o k : Nat) : (planN text o k).length = k := by simp [planN]
theorem partK_size (text : ByteArray) (k : Nat) : (partK text k).size ≤ 18 := by
  unfold partK
  rw [ByteArray.size_extract]
  omega
def planL (ss : List ByteArray) (text : ByteArray) : List GWrite × Bool := if (!(loadR ss).2.2 || decide (999 ≤ (loadR ss).2.1) || decide (72 < text.size)) = true then ([], false) else (planN text (1 - (newR ss).1.toNat) 4 ++ [⟨(8 + (1 - (newR ss).1.toNat) : Nat), sealS (strOf [tb (IntKind.wrap .i64 ((loadR ss).2.1 + 1)) 1, tb (IntKind.wrap .i64 ((loadR ss).2.1 + 1)) 0, tb text.size 0])⟩], true)
theorem loadR_new {ss : List ByteArray} (h : (loadR ss).2.2 = true) : ∃ o : Nat, o ≤ 1 ∧ (newR ss).1 = ((1 - o : Nat) : Int) ∧ 1 - (newR ss).1.toNat = o := by
  rcases newR_cases ss with e | ⟨h', hh, e⟩
  · have hn : (newR ss).1 < 0 := by omega
    simp [loadR, hn] at h
  · refine ⟨1 - h', by omega, ?_, ?_⟩
    · rw [e]
      show (h' : Int) = _
      omega
    · rw [e]
      show 1 - (h' : Int).toNat = _
      omega
def blankS (n : Nat) : ByteArray := ⟨(Lib.repeatL [0] n).toArray⟩
theorem blankS_size (n : Nat) : (blankS n).size = n := by
  show (Lib.repeatL [0] n).toArray.size = n
  simp [Lib.repeatL_length]
theorem ok_Repeat (n : Nat) (hn : n ≤ 72) : CallOK Try.prog 103 [.c (ps ⟨#[0]⟩), .c (pi n)] (.c (ps (blankS n))) [.c (ps ⟨#[0]⟩), .c (pi n)] := by
  refine callOK_leafs (qs := [ps ⟨#[0]⟩, pi n]) (rv := .string (blankS n)) rfl (fun w I => by simp [Im]) (by simp [PT.isSl]) ?_
  intro I w vs hl hv hI
  obtain ⟨v0, v1, rfl⟩ : ∃ v0 v1, vs = [v0, v1] := by
    match vs, hl with
    | [a, b], _ => exact ⟨a, b, rfl⟩
  have h0 := hv 0 v0 _ rfl rfl
  have h1 := hv 1 v1 _ rfl rfl
  simp [Im] at h0 h1
  subst h0 h1
  refine CallsF.of_calls Try.func103 (by kernel_rfl) rfl ?_
  exact Try.strings_Repeat ⟨#[0]⟩ n w (by omega) (by show 1 * n ≤ _; omega)
theorem part_pad (text : ByteArray) (k m : Nat) (hk : k < 4) (ht : text.size ≤ 72) (hm : m = min 18 (text.size - 18 * k)) : ((text ++ blankS (72 - text.size)).extract (18 * k) (18 * k + 18)).extract 0 m = partK text k := by
  have hb := blankS_size (72 - text.size)
  have hs : (text ++ blankS (72 - text.size)).size = 72 := by rw [ByteArray.size_append, hb]; omega
  apply ByteArray.ext_getElem
  · simp only [ByteArray.size_extract, partK, hs]
    omega
  · intro i h1 h2
    simp only [ByteArray.size_extract, partK, hs] at h1 h2
    simp only [partK, ByteArray.getElem_extract]
    rw [ByteArray.getElem_append_left (by omega)]
    congr 1
    omega
def okD (d : GDisk) (m : Nat) : Prop := d.Sectors.length = 10 ∧ (∀ s ∈ d.Sectors, s.size ≤ 20) ∧ d.Waiting.length ≤ m ∧ ∀ w ∈ d.Waiting, atOK 10 w ∧ w.Data.size ≤ 20
def okPl (pl : List GWrite) : Prop := pl.length = 5 ∧ ∀ w ∈ pl, atOK 10 w ∧ w.Data.size ≤ 20
def addW (d : GDisk) (w : GWrite) : GDisk := ⟨d.Sectors, d.Waiting ++ [w]⟩
def plAt (pl : List GWrite) (i : Nat) : GWrite := pl[i]?.getD ⟨0, ⟨#[]⟩⟩
theorem plAt_get (pl : List GWrite) (i : Nat) (h : i < pl.length) : plAt pl i = pl[i] := by simp [plAt, List.getElem?_eq_getElem h]
def stepS (pl : List GWrite) (d : GDisk) (i : Nat) : GDisk := if i < 4 then addW d (plAt pl i) else if i = 5 then addW d (plAt pl 4) else synced d
def saveN (pl : List GWrite) (d : GDisk) : Nat → GDisk
  | 0 => d
  | i + 1 => stepS pl (saveN pl d i) i
theorem applyW_size (keep : Nat → Bool) : ∀ (ws : List GWrite) (i : Nat) (ss : List ByteArray), (∀ s ∈ ss, s.size ≤ 20) → (∀ w ∈ ws, w.Data.size ≤ 20) → ∀ s ∈ applyW keep i ws ss, s.size ≤ 20
  | [], i, ss, h1, _ => h1
  | w :: ws, i, ss, h1, h2 => by
    unfold applyW
    refine applyW_size keep ws (i + 1) _ ?_ fun x hx => h2 x (List.mem_cons_of_mem _ hx)
    intro s hs
    split at hs
    · rcases List.mem_or_eq_of_mem_set hs with h | h
      · exact h1 s h
      · rw [h]; exact h2 w (List.mem_cons_self ..)
    · exact h1 s hs
theorem okD_add {d : GDisk} {m : Nat} {w : GWrite} (h : okD d m) (hw : atOK 10 w ∧ w.Data.size ≤ 20) : okD (addW d w) (m + 1) := by
  obtain ⟨a, b, c, e⟩ := h
  refine ⟨a, b, ?_, ?_⟩
  · show (d.Waiting ++ [w]).length ≤ m + 1
    simp
    omega
  · intro x hx
    rcases List.mem_append.1 hx with h | h
    · exact e x h
    · rw [List.mem_singleton.1 h]; exact hw
theorem okD_sync {d : GDisk} {m : Nat} (h : okD d m) : okD (synced d) (m + 1) := by
  obtain ⟨a, b, c, e⟩ := h
  refine ⟨?_, ?_, Nat.zero_le _, fun x hx => absurd hx (by simp [synced])⟩
  · show (applyW _ _ _ _).length = 10
    rw [applyW_len]
    exact a
  · exact applyW_size _ _ _ _ b fun w hw => (e w hw).2
theorem okD_crash {d : GDisk} {m : Nat} (kept : List Bool) (h : okD d m) : okD (crashed d kept) (m + 1) := by
  obtain ⟨a, b, c, e⟩ := h
  refine ⟨?_, ?_, Nat.zero_le _, fun x hx => absurd hx (by simp [crashed])⟩
  · show (applyW _ _ _ _).length = 10
    rw [applyW_len]
    exact a
  · exact applyW_size _ _ _ _ b fun w hw => (e w hw).2
theorem okPl_at {pl : List GWrite} (h : okPl pl) {i : Nat} (hi : i < 5) : atOK 10 (plAt pl i) ∧ (plAt pl i).Data.size ≤ 20 := by
  rw [plAt_get pl i (by have := h.1; omega)]
  exact h.2 _ (List.getElem_mem _)
theorem okD_save {pl : List GWrite} (hp : okPl pl) {d : GDisk} {m : Nat} (h : okD d m) : ∀ n, okD (saveN pl d n) (m + n)
  | 0 => h
  | n + 1 => by
    have ih := okD_save hp h n
    unfold saveN stepS
    split
    · exact okD_add ih (okPl_at hp (by omega))
    · split
      · exact okD_add ih (okPl_at hp (by omega))
      · exact okD_sync ih
theorem okPl_plan {ss : List ByteArray} {text : ByteArray} (h : (planL ss text).2 = true) : okPl (planL ss text).1 := by
  unfold planL at h ⊢
  split at h
  · simp at h
  · rename_i hc
    rw [if_neg hc]
    refine ⟨by simp [planN_len], ?_⟩
    intro w hw
    rcases List.mem_append.1 hw with h1 | h1
    · unfold planN at h1
      obtain ⟨j, hj, rfl⟩ := List.mem_map.1 h1
      have hj := List.mem_range.1 hj
      have hz := partK_size text j
      refine ⟨?_, by show (partK text j).size ≤ 20; omega⟩
      unfold atOK
      simp only
      omega
    · rw [List.mem_singleton.1 h1]
      refine ⟨?_, ?_⟩
      · unfold atOK
        simp only
        omega
      · show (sealS _).size ≤ 20
        rw [sealS_size, strOf_size]
        simp
def saveL (d : GDisk) (text : ByteArray) (n : Nat) : GDisk × Bool := if (planL d.Sectors text).2 = true then (saveN (planL d.Sectors text).1 d n, true) else (⟨[], []⟩, false)
theorem okD_saveL {d : GDisk} {m : Nat} (h : okD d m) (text : ByteArray) (n : Nat) : okD (saveL d text n).1 (m + n) ∨ (saveL d text n).2 = false := by
  unfold saveL
  split
  · rename_i hc
    exact .inl (okD_save (okPl_plan hc) h n)
  · exact .inr rfl
def disk0 : GDisk := ⟨[ByteArray.empty, ByteArray.empty, ByteArray.empty, ByteArray.empty, ByteArray.empty, ByteArray.empty, ByteArray.empty, ByteArray.empty, sealS (strOf [tb 0 1, tb 0 0, tb 0 0]), ByteArray.empty], []⟩
theorem okD_disk0 (m : Nat) : okD disk0 m := by
  refine ⟨rfl, ?_, Nat.zero_le _, fun w hw => absurd hw (by simp [disk0])⟩
  intro s hs
  have hz : (sealS (strOf [tb 0 1, tb 0 0, tb 0 0])).size ≤ 20 := by
    rw [sealS_size, strOf_size]
    simp
  have he : ByteArray.empty.size ≤ 20 := Nat.zero_le _
  simp only [disk0, List.mem_cons, List.not_mem_nil, or_false] at hs
  rcases hs with h | h | h | h | h | h | h | h | h | h <;> rw [h] <;> assumption
theorem ok_iNewDisk : CallOK Try.prog 31 [] (.agg disk0.co) [] := by
  refine okS (fn := Try.f31) [] h0 Try.func31 (by kernel_rfl) rfl Try.ntmps31 Try.results31 (by simp) ?_
  simp
  refine drawP (tabEnv [] _) [⟨[.op 1 2 0], allD 9, true⟩, ⟨[.op 1 2 0], allD 9, true⟩, ⟨[], allD 9, false⟩, ⟨[.op 1 2 0], allD 9, true⟩, ⟨[.op 1 2 0], [4, 5, 6, 7], false⟩] h0 hm (tabEnv_ok (tab_cons (ok_iteller 0 0) tab_nil)) (by kernel_rfl) (by kernel_rfl) ?_
  simp [disk0]
theorem ok_l17Empty : CallOK Try.prog 74 [] (.agg [.sl 0 9 10 ((List.replicate 10 ByteArray.empty).map ps), .sl 0 nilE 0 []]) [] := by
  refine okS (fn := Try.f74) [] h0 Try.func74 (by kernel_rfl) rfl Try.ntmps74 Try.results74 (by simp) ?_
  simp
theorem ok_sNewDisk : CallOK Try.prog 33 [] (.agg disk0.co) [] := by
  refine okS (fn := Try.f33) [] h0 Try.func33 (by kernel_rfl) rfl Try.ntmps33 Try.results33 (by simp) ?_
  simp
  refine Inv_intro ok_l17Empty ?_
  simp
  refine drawP (tabEnv [] _) [⟨[.op 1 1 0], allD 8, true⟩, ⟨[.op 1 1 0], allD 8, true⟩, ⟨[], allD 8, false⟩, ⟨[.op 1 1 0], allD 8, true⟩, ⟨[.op 1 1 0], [3, 4, 5, 6], false⟩] h0 hm (tabEnv_ok (tab_cons (ok_steller 0 0) tab_nil)) (by kernel_rfl) (by kernel_rfl) ?_
  simp [disk0]
theorem ok_planOf (k : Nat) (d : GDisk) (text : ByteArray) (h10 : d.Sectors.length = 10) (hs : ∀ s ∈ d.Sectors, s.size ≤ 140737488355328) (ht : text.size ≤ 140737488351232) : CallOK Try.prog 66 [.agg (GDisk.ci k d), .c (ps text)] (.tup [.c (.sl 0 43 (planL d.Sectors text).1.length ((planL d.Sectors text).1.flatMap GWrite.c)), .c (pb (planL d.Sectors text).2)]) [.agg (GDisk.ci k d), .c (ps text)] := by
  refine okS (fn := Try.f66) [] h0 Try.func66 (by kernel_rfl) rfl Try.ntmps66 Try.results66 (by simp) ?_
  simp
  refine Inv_intro (ok_load k d h10 hs) ?_
  simp
  have hnew := @loadR_new d.Sectors
  have hpl : ∀ a b c, loadR d.Sectors = (a, b, c) → planL d.Sectors text = if (!c || decide (999 ≤ b) || decide (72 < text.size)) = true then ([], false) else (planN text (1 - (newR d.Sectors).1.toNat) 4 ++ [⟨(8 + (1 - (newR d.Sectors).1.toNat) : Nat), sealS (strOf [tb (IntKind.wrap .i64 (b + 1)) 1, tb (IntKind.wrap .i64 (b + 1)) 0, tb text.size 0])⟩], true) := by
    intro a b c e
    simp [planL, e]
  generalize hL : loadR d.Sectors = L at *
  obtain ⟨L1, L2, L3⟩ := L
  have hpl := hpl L1 L2 L3 rfl
  cases L3 with
  | false => simp [hpl]
  | true =>
    by_cases c1 : 999 ≤ L2
    · simp [hpl, c1]
    · by_cases c2 : 72 < text.size
      · have c2' : 72 < (text.size : Int) := by omega
        simp [hpl, c1, c2, c2']
      · have c2' : ¬ 72 < (text.size : Int) := by omega
        obtain ⟨o, ho, hn1, hn2⟩ := hnew rfl
        have hpl : planL d.Sectors text = (planN text o 4 ++ [⟨(8 + o : Nat), sealS (strOf [tb (IntKind.wrap .i64 (L2 + 1)) 1, tb (IntKind.wrap .i64 (L2 + 1)) 0, tb text.size 0])⟩], true) := by
          rw [hpl, hn2]
          simp [c1, c2]
        rw [hpl]
        simp [c1, c2']
        refine Inv_intro (ok_newest k d h10 hs) ?_
        rw [hn1]
        have w0 : IntKind.wrap .i64 (1 - ((1 - o : Nat) : Int)) = (o : Int) := (wrap64 (by omega) (by omega)).trans (by omega)
        have w1 : IntKind.wrap .i64 (72 - (text.size : Int)) = ((72 - text.size : Nat) : Int) := (wrap64 (by omega) (by omega)).trans (by omega)
        simp [w0, w1]
        refine Inv_intro (ok_Repeat (72 - text.size) (by omega)) ?_
        have z1 := blankS_size (72 - text.size)
        have z2 : text.size + (blankS (72 - text.size)).size ≤ 9223372036854775807 := by omega
        simp [z2]
        refine ewp_sw (.op 7 0 0) (.op 12 18 0) rfl rfl ?_
        simp
        refine loopS [1, 7, 13, 14, 15, 52] [.op 12 18 0] (fun m st => ∃ (i : Nat), i + m = 4 ∧ st = ⟨slOf 91 [(1, .t (ps text)), (7, .t (pi L2)), (13, .t (pi o)), (14, .t (ps (text ++ blankS (72 - text.size)))), (15, .ref ⟨.op 12 18 0, []⟩ 0 i), (52, .t (pi i))], ofL [(.op 12 18 0, .sl 0 43 i ((planN text o i).flatMap GWrite.c))]⟩) 4 ?_ ?_
        · rintro Inv hI
          simp
          subst hI
          refine ⟨0, by omega, ?_⟩
          simp [planN]
        · rintro Inv hI m st ⟨i, hi, rfl⟩
          have hA : ((planN text o i).flatMap GWrite.c).length = i * 2 := by rw [fm_len GWrite.c 2 (fun _ => rfl), planN_len]
          have hAm : (planN text o (i + 1)).flatMap GWrite.c = (planN text o i).flatMap GWrite.c ++ GWrite.c ⟨(4 * o + i : Nat), partK text i⟩ := by rw [planN_succ, List.flatMap_append, List.flatMap_cons, List.flatMap_nil, List.append_nil]
          have hAf : i = 4 → (planN text o 4).flatMap GWrite.c = (planN text o i).flatMap GWrite.c := by rintro rfl; rfl
          generalize hAe : ((planN text o i).flatMap GWrite.c) = A at hA hAm hAf ⊢
          refine ewr_sound (M := []) h0 ?_
          simp
          refine brn_app (fun a => ?_) (fun a => ?_)
          · simp at a
            have hi4 : i < 4 := by omega
            obtain ⟨lo, hlo⟩ : ∃ lo, lo = 18 * i := ⟨_, rfl⟩
            obtain ⟨hi', hhi⟩ : ∃ hi', hi' = lo + 18 := ⟨_, rfl⟩
            obtain ⟨q, hq⟩ : ∃ q, q = min 18 (text.size - 18 * i) := ⟨_, rfl⟩
            obtain ⟨z0, hz0⟩ : ∃ z0, z0 = 4 * o := ⟨_, rfl⟩
            obtain ⟨z, hz⟩ : ∃ z, z = 4 * o + i := ⟨_, rfl⟩
            have hpp := part_pad text i q hi4 (by omega) hq
            have w2 : IntKind.wrap .i64 (18 * (i : Int)) = (lo : Int) := (wrap64 (by omega) (by omega)).trans (by omega)
            have w3 : IntKind.wrap .i64 ((lo : Int) + 18) = (hi' : Int) := (wrap64 (by omega) (by omega)).trans (by omega)
            have w4 : IntKind.wrap .i64 (4 * (o : Int)) = (z0 : Int) := (wrap64 (by omega) (by omega)).trans (by omega)
            have w5 : IntKind.wrap .i64 ((z0 : Int) + (i : Int)) = (z : Int) := (wrap64 (by omega) (by omega)).trans (by omega)
            have w6 : IntKind.wrap .i64 ((text.size : Int) - (lo : Int)) = (text.size : Int) - (lo : Int) := wrap64 (by omega) (by omega)
            have hPz : (text ++ blankS (72 - text.size)).size = 72 := by rw [ByteArray.size_append, z1]; omega
            rw [← hlo, ← hhi] at hpp
            rw [← hz] at hAm
            generalize hP : text ++ blankS (72 - text.size) = P at *
            have q1 : lo ≤ hi' := by omega
            have q2 : hi' ≤ P.size := by omega
            have q3 : (P.extract lo hi').size = 18 := by rw [ByteArray.size_extract]; omega
            have b1 : (i + 1) * 24 ≤ 140737488355328 := by omega
            have b2 : i ≤ 9223372036854775806 := by omega
            have hAt : A.take (i * 2) = A := List.take_of_length_le (by omega)
            have hX : (if (if lo < text.size then (text.size : Int) - lo else 0) < 18 then (if lo < text.size then (text.size : Int) - lo else 0) else 18) = (q : Int) := by split <;> split <;> omega
            have q4 : q ≤ 18 := by omega
            have s1 := pr_sliceH (P := Try.prog) (t := 9) (s := P.extract lo hi') (k := .i64) (b := (q : Int)) (by kernel_rfl) (by omega) (by rw [q3]; omega)
            have s3 : (q : Int).toNat = q := rfl
            rw [s3] at s1
            simp [w2, w3, w4, w5, w6, q1, q2, q3, hX, q4, s1, hpp, hA, b1, b2, hAt]
            subst hI
            refine Less_mk (m - 1) (by omega) ⟨i + 1, by omega, ?_⟩
            rw [wrNext i (by omega), hAm]
            rfl
          · simp at a
            have : i = 4 := by omega
            subst this
            have hAf := hAf rfl
            have w6 : IntKind.wrap .i64 (8 + (o : Int)) = ((8 + o : Nat) : Int) := (wrap64 (by omega) (by omega)).trans (by omega)
            have hAt : A.take (4 * 2) = A := List.take_of_length_le (by omega)
            have b1 : (4 + 1) * 24 ≤ 140737488355328 := by omega
            rw [hAf]
            simp [w6]
            refine Inv_intro (ok_iteller _ text.size) ?_
            have ht2 : ∀ x y : PT, List.take 10 (A ++ [x, y]) = A ++ [x, y] := fun x y => List.take_of_length_le (by simp [hA])
            simp [hA, b1, hAt, planN_len, ht2]
theorem ok_l17Load (k : Nat) (d : GDisk) (h10 : d.Sectors.length = 10) (hs : ∀ s ∈ d.Sectors, s.size ≤ 140737488355328) : CallOK Try.prog 104 [.agg (GDisk.ci k d)] (.tup [.c (ps (loadR d.Sectors).1), .c (pi (loadR d.Sectors).2.1), .c (pb (loadR d.Sectors).2.2)]) [.agg (GDisk.ci k d)] := by
  refine okS (fn := Try.f104) [] h0 Try.func104 (by kernel_rfl) rfl Try.ntmps104 Try.results104 (by simp) ?_
  simp
  refine Inv_intro (ok_l17Newest k d h10 hs) ?_
  rw [swNew_eq]
  simp
  rcases newR_cases d.Sectors with e | ⟨h, hh, e⟩
  · simp [e, loadR]
  · have hl0 := tellsR_long (secAt d.Sectors (8 + h))
    obtain ⟨q8, hq8⟩ : ∃ q8, q8 = 8 + h := ⟨_, rfl⟩
    rw [← hq8] at e hl0
    have hq8l : q8 < d.Sectors.length := by omega
    have w8 : IntKind.wrap .i64 (8 + (h : Int)) = (q8 : Int) := (wrap64 (by omega) (by omega)).trans (by omega)
    have er : loadR d.Sectors = if ((catCut ((d.Sectors.drop (4 * h)).take 4)).size : Int) < (tellsR (secAt d.Sectors q8)).2.1 then (⟨#[]⟩, 0, false) else ((catCut ((d.Sectors.drop (4 * h)).take 4)).extract 0 (tellsR (secAt d.Sectors q8)).2.1.toNat, (tellsR (secAt d.Sectors q8)).1, true) := by
      have hn : ¬ (h : Int) < 0 := by omega
      simp [loadR, e, hn]
    rw [er]
    rw [secAt_get _ _ hq8l] at e hl0 ⊢
    have hn : ¬ (h : Int) < 0 := by omega
    simp [e, hn, w8, hq8l]
    refine Inv_intro (ok_l17Read d.Sectors[q8] (hs _ (List.getElem_mem hq8l))) ?_
    generalize (tellsR d.Sectors[q8]).1 = nu at *
    generalize (tellsR d.Sectors[q8]).2.1 = lo at *
    obtain ⟨xs, hxs⟩ : ∃ xs, xs = (d.Sectors.drop (4 * h)).take 4 := ⟨_, rfl⟩
    have hxl : xs.length = 4 := by rw [hxs]; simp; omega
    have hxg : ∀ (i q : Nat) (hi : i < xs.length) (hq : q < d.Sectors.length), q = 4 * h + i → d.Sectors[q] = xs[i] := by
      intro i q hi hq he
      subst he
      subst hxs
      simp
    have hxz : ∀ s ∈ xs, s.size ≤ 140737488355328 := fun s hsx => hs s (by rw [hxs] at hsx; exact List.mem_of_mem_drop (List.mem_of_mem_take hsx))
    rw [← hxs]
    simp
    refine loopS [1, 5, 6, 7, 9, 10] [.op 0 0 0] (fun m st => ∃ (i : Nat), i + m = xs.length ∧ st = ⟨slOf 55 [(1, .ptr ⟨.op 0 0 0, []⟩ 0), (5, .t (pi h)), (6, .t (pi nu)), (7, .t (pi lo)), (9, .t (ps (catCut (xs.take i)))), (10, .t (pi i))], ofL [(.op 0 0 0, .sl 0 29 1 (GDisk.ci k d))]⟩) xs.length ?_ ?_
    · rintro Inv hI
      simp
      subst hI
      exact ⟨0, by omega, rfl⟩
    · rintro Inv hI m st ⟨i, hi, rfl⟩
      have hZ := catCut_size xs i (by omega)
      have hS := catCut_snoc xs i
      generalize hZe : catCut (xs.take i) = Z at hZ hS ⊢
      refine ewr_sound (M := []) h0 ?_
      simp
      refine brn_app (fun a => ?_) (fun a => ?_)
      · simp at a
        have hil : i < xs.length := by omega
        obtain ⟨m4, hm4⟩ : ∃ m4, m4 = 4 * h := ⟨_, rfl⟩
        obtain ⟨q, hq⟩ : ∃ q, q = m4 + i := ⟨_, rfl⟩
        have hql : q < d.Sectors.length := by omega
        have w1 : IntKind.wrap .i64 (4 * (h : Int)) = (m4 : Int) := (wrap64 (by omega) (by omega)).trans (by omega)
        have w2 : IntKind.wrap .i64 ((m4 : Int) + i) = (q : Int) := (wrap64 (by omega) (by omega)).trans (by omega)
        have hx := hxz _ (List.getElem_mem hil)
        have hS' := hS hil
        have hg := hxg i q hil hql (by omega)
        simp [w1, w2, hql, hg]
        refine brn_app (fun c => ?_) (fun c => ?_)
        · simp at c
          have hcut : cut18 xs[i] = xs[i].extract 0 18 := by rw [cut18, Nat.min_eq_left (by omega)]
          have c' : (18 : Int) ≤ xs[i].size := by omega
          have c2 : 18 ≤ xs[i].size := by omega
          have z1 : Z.size + (xs[i].extract 0 18).size ≤ 9223372036854775807 := by rw [ByteArray.size_extract]; omega
          have z2 : Z.size + 18 ≤ 9223372036854775807 := by omega
          have z3 : Z.size + min 18 xs[i].size ≤ 9223372036854775807 := by omega
          simp [c', c2, z1, z2, z3]
          subst hI
          refine Less_mk (m - 1) (by omega) ⟨i + 1, by omega, ?_⟩
          rw [wrNext i (by omega), hS', hcut]
          rfl
        · simp at c
          have hcut : cut18 xs[i] = xs[i] := by rw [cut18, Nat.min_eq_right (by omega)]; simp
          have z2 : Z.size + xs[i].size ≤ 9223372036854775807 := by omega
          simp [z2]
          subst hI
          refine Less_mk (m - 1) (by omega) ⟨i + 1, by omega, ?_⟩
          rw [wrNext i (by omega), hS', hcut]
          rfl
      · simp at a
        have hil : i = xs.length := by omega
        have ht : List.take i xs = xs := List.take_of_length_le (by omega)
        rw [ht] at hZe
        subst hZe
        simp
        refine brn_app (fun b => ?_) (fun b => ?_)
        · simp at b
          simp [b]
        · simp at b
          have b' : ¬ ((catCut xs).size : Int) < lo := by omega
          have b2 : lo ≤ (catCut xs).size := b
          simp [hl0, b', b2]
theorem ok_l17Plan (k : Nat) (d : GDisk) (text : ByteArray) (h10 : d.Sectors.length = 10) (hs : ∀ s ∈ d.Sectors, s.size ≤ 140737488355328) (ht : text.size ≤ 140737488351232) : CallOK Try.prog 67 [.agg (GDisk.ci k d), .c (ps text)] (.tup [.c (.sl 0 43 (planL d.Sectors text).1.length ((planL d.Sectors text).1.flatMap GWrite.c)), .c (pb (planL d.Sectors text).2)]) [.agg (GDisk.ci k d), .c (ps text)] := by
  refine okS (fn := Try.f67) [] h0 Try.func67 (by kernel_rfl) rfl Try.ntmps67 Try.results67 (by simp) ?_
  simp
  refine Inv_intro (ok_l17Load k d h10 hs) ?_
  simp
  have hnew := @loadR_new d.Sectors
  have hpl : ∀ a b c, loadR d.Sectors = (a, b, c) → planL d.Sectors text = if (!c || decide (999 ≤ b) || decide (72 < text.size)) = true then ([], false) else (planN text (1 - (newR d.Sectors).1.toNat) 4 ++ [⟨(8 + (1 - (newR d.Sectors).1.toNat) : Nat), sealS (strOf [tb (IntKind.wrap .i64 (b + 1)) 1, tb (IntKind.wrap .i64 (b + 1)) 0, tb text.size 0])⟩], true) := by
    intro a b c e
    simp [planL, e]
  generalize hL : loadR d.Sectors = L at *
  obtain ⟨L1, L2, L3⟩ := L
  have hpl := hpl L1 L2 L3 rfl
  cases L3 with
  | false => simp [hpl]
  | true =>
    by_cases c1 : 999 ≤ L2
    · simp [hpl, c1]
    · by_cases c2 : 72 < text.size
      · have c2' : 72 < (text.size : Int) := by omega
        simp [hpl, c1, c2, c2']
      · have c2' : ¬ 72 < (text.size : Int) := by omega
        obtain ⟨o, ho, hn1, hn2⟩ := hnew rfl
        have hpl : planL d.Sectors text = (planN text o 4 ++ [⟨(8 + o : Nat), sealS (strOf [tb (IntKind.wrap .i64 (L2 + 1)) 1, tb (IntKind.wrap .i64 (L2 + 1)) 0, tb text.size 0])⟩], true) := by
          rw [hpl, hn2]
          simp [c1, c2]
        rw [hpl]
        simp [c1, c2']
        refine Inv_intro (ok_l17Newest k d h10 hs) ?_
        rw [swNew_eq, hn1]
        have w0 : IntKind.wrap .i64 (1 - ((1 - o : Nat) : Int)) = (o : Int) := (wrap64 (by omega) (by omega)).trans (by omega)
        simp [w0]
        refine ewp_nil 10 (.op 13 10 0) 43 (by decide) rfl rfl rfl ?_
        refine loopS [1, 7, 9, 10, 11, 12] [.op 13 10 0] (fun m st => ∃ (i : Nat), i + m = 4 ∧ st = ⟨slOf 68 [(1, .t (ps text)), (7, .t (pi L2)), (9, .t (pi o)), (10, .ref ⟨.op 13 10 0, []⟩ 0 i), (11, .t (ps (text.extract (min (18 * i) text.size) text.size))), (12, .t (pi i))], ofL [(.op 13 10 0, .sl 0 43 i ((planN text o i).flatMap GWrite.c))]⟩) 4 ?_ ?_
        · rintro Inv hI
          simp
          subst hI
          refine ⟨0, by omega, ?_⟩
          simp [planN]
        · rintro Inv hI m st ⟨i, hi, rfl⟩
          have hA : ((planN text o i).flatMap GWrite.c).length = i * 2 := by rw [fm_len GWrite.c 2 (fun _ => rfl), planN_len]
          have hAm : (planN text o (i + 1)).flatMap GWrite.c = (planN text o i).flatMap GWrite.c ++ GWrite.c ⟨(4 * o + i : Nat), partK text i⟩ := by rw [planN_succ, List.flatMap_append, List.flatMap_cons, List.flatMap_nil, List.append_nil]
          have hAf : i = 4 → (planN text o 4).flatMap GWrite.c = (planN text o i).flatMap GWrite.c := by rintro rfl; rfl
          generalize hAe : ((planN text o i).flatMap GWrite.c) = A at hA hAm hAf ⊢
          refine ewr_sound (M := []) h0 ?_
          simp
          refine brn_app (fun a => ?_) (fun a => ?_)
          · simp at a
            have hi4 : i < 4 := by omega
            obtain ⟨R, hR⟩ : ∃ R, R = text.extract (min (18 * i) text.size) text.size := ⟨_, rfl⟩
            obtain ⟨q, hq⟩ : ∃ q, q = min 18 (text.size - 18 * i) := ⟨_, rfl⟩
            have hRz : R.size = text.size - min (18 * i) text.size := by rw [hR, ByteArray.size_extract]; omega
            have hRp : R.extract 0 q = partK text i := by
              apply ByteArray.ext_getElem
              · simp only [ByteArray.size_extract, partK, hRz]
                omega
              · intro j h1 h2
                simp only [ByteArray.size_extract, partK, hRz] at h1 h2
                subst hR
                simp only [partK, ByteArray.getElem_extract]
                congr 1
                omega
            have hRn : R.extract q R.size = text.extract (min (18 * (i + 1)) text.size) text.size := by
              apply ByteArray.ext_getElem
              · simp only [ByteArray.size_extract, hRz]
                omega
              · intro j h1 h2
                simp only [ByteArray.size_extract, hRz] at h1 h2
                subst hR
                simp only [ByteArray.getElem_extract]
                congr 1
                omega
            have hqR : q ≤ R.size := by omega
            have w4 : IntKind.wrap .i64 (4 * (o : Int)) = ((4 * o : Nat) : Int) := (wrap64 (by omega) (by omega)).trans (by omega)
            have w5 : IntKind.wrap .i64 (((4 * o : Nat) : Int) + (i : Int)) = ((4 * o + i : Nat) : Int) := (wrap64 (by omega) (by omega)).trans (by omega)
            have b1 : (i + 1) * 24 ≤ 140737488355328 := by omega
            have b2 : i ≤ 9223372036854775806 := by omega
            have hAt : A.take (i * 2) = A := List.take_of_length_le (by omega)
            rw [← hR]
            have hcond : ∀ q0 : Nat, q0 = q → IntKind.wrap .i64 (q0 : Int) = (q : Int) := by
              rintro _ rfl
              exact wrap64 (by omega) (by omega)
            generalize (4 * o + i : Nat) = z at *
            generalize (4 * o : Nat) = z0 at *
            simp
            refine brn_app (fun b => ?_) (fun b => ?_)
            · simp at b
              have hq18 : q = 18 := by omega
              subst hq18
              have b3 : 18 ≤ R.size := hqR
              have b4 : (18 : Int) ≤ R.size := by omega
              have s1 := pr_sliceH (P := Try.prog) (t := 9) (s := R) (k := .i64) (b := 18) (by kernel_rfl) (by decide) b4
              have s2 := pr_sliceL (P := Try.prog) (t := 9) (s := R) (k := .i64) (a := 18) (by kernel_rfl) (by decide) b4
              have s3 : (18 : Int).toNat = 18 := rfl
              rw [s3] at s1 s2
              simp [w4, w5, hA, b1, b2, b3, s1, s2, hRp, hRn, hAt]
              subst hI
              refine Less_mk (m - 1) (by omega) ⟨i + 1, by omega, ?_⟩
              rw [wrNext i (by omega), hAm]
              rfl
            · simp at b
              have hqR2 : q = R.size := by omega
              subst hqR2
              have hE : text.extract (min (18 * (i + 1)) text.size) text.size = ByteArray.empty := by
                rw [← hRn]
                simp
              simp [w4, w5, hA, b1, b2, hRp, hRn, hAt]
              subst hI
              refine Less_mk (m - 1) (by omega) ⟨i + 1, by omega, ?_⟩
              rw [wrNext i (by omega), hAm, hE]
              rfl
          · simp at a
            have : i = 4 := by omega
            subst this
            have hAf := hAf rfl
            have w6 : IntKind.wrap .i64 (8 + (o : Int)) = ((8 + o : Nat) : Int) := (wrap64 (by omega) (by omega)).trans (by omega)
            have hAt : A.take (4 * 2) = A := List.take_of_length_le (by omega)
            have b1 : (4 + 1) * 24 ≤ 140737488355328 := by omega
            rw [hAf]
            simp [w6]
            refine Inv_intro (ok_steller _ text.size) ?_
            have ht2 : ∀ x y : PT, List.take 10 (A ++ [x, y]) = A ++ [x, y] := fun x y => List.take_of_length_le (by simp [hA])
            simp [hA, b1, hAt, planN_len, ht2]
end Go.V
