/- What functions of the seat's program do, each proved of its code, under the bounds that its theorem names. -/
import Derived.Test.YtildjkidohpmbaaFacts
set_option linter.all false
namespace Go.V
open Go.Proofs
set_option maxHeartbeats 1000000
set_option maxRecDepth 10000
set_option linter.unusedSimpArgs false
set_option linter.unusedVariables false
theorem byteAt_list (s : ByteArray) (i : Nat) (h : i < s.size) : byteAt s i = ((s.data.toList[i]'(by simpa using h)).toNat : Int) := by
  unfold byteAt
  have : s[i]? = some s[i] := by simp [h]
  rw [this]
  rfl
def wb (c : Int) : Bool := decide (97 ≤ c ∧ c ≤ 122) || decide (48 ≤ c ∧ c ≤ 57) || decide (c = 45)
theorem ok_isWordByte (c : Int) : CallOK Try.prog 136 [.c (pu c)] (.c (pb (wb c))) [.c (pu c)] := by
  refine okS (fn := Try.f136) [] h0 Try.func136 (by kernel_rfl) rfl Try.ntmps136 Try.results136 (by simp) ?_
  simp
  refine gT (fun a => ?_) (fun a => ?_)
  · simp [a]
    refine gF (fun b => ?_) (fun b => ?_)
    · simp [b]
      refine gT (fun d => ?_) (fun d => ?_)
      · simp [d]
        refine gF (fun e => ?_) (fun e => ?_)
        · simp [e]
          simp only [decide_eq_true_eq, decide_eq_false_iff_not] at a b d e; simp [wb]; omega
        · simp [e]
          simp only [decide_eq_true_eq, decide_eq_false_iff_not] at a b d e; simp [wb]; omega
      · simp [d]
        simp only [decide_eq_true_eq, decide_eq_false_iff_not] at a b d; simp [wb]; omega
    · simp [b]
      simp only [decide_eq_true_eq, decide_eq_false_iff_not] at a b; simp [wb]; omega
  · simp [a]
    refine gT (fun d => ?_) (fun d => ?_)
    · simp [d]
      refine gF (fun e => ?_) (fun e => ?_)
      · simp [e]
        simp only [decide_eq_true_eq, decide_eq_false_iff_not] at a d e; simp [wb]; omega
      · simp [e]
        simp only [decide_eq_true_eq, decide_eq_false_iff_not] at a d e; simp [wb]; omega
    · simp [d]
      simp only [decide_eq_true_eq, decide_eq_false_iff_not] at a d; simp [wb]; omega
theorem ok_l15Byte (c : Int) : CallOK Try.prog 121 [.c (pu c)] (.c (pb (wb c))) [.c (pu c)] := by
  refine okS (fn := Try.f121) [] h0 Try.func121 (by kernel_rfl) rfl Try.ntmps121 Try.results121 (by simp) ?_
  simp
  refine gT (fun a => ?_) (fun a => ?_)
  · simp [a]
    refine gF (fun b => ?_) (fun b => ?_)
    · simp [b]
      refine gT (fun d => ?_) (fun d => ?_)
      · simp [d]
        refine gF (fun e => ?_) (fun e => ?_)
        · simp [e]
          simp only [decide_eq_true_eq, decide_eq_false_iff_not] at a b d e; simp [wb]; omega
        · simp [e]
          simp only [decide_eq_true_eq, decide_eq_false_iff_not] at a b d e; simp [wb]; omega
      · simp [d]
        simp only [decide_eq_true_eq, decide_eq_false_iff_not] at a b d; simp [wb]; omega
    · simp [b]
      simp only [decide_eq_true_eq, decide_eq_false_iff_not] at a b; simp [wb]; omega
  · simp [a]
    refine gT (fun d => ?_) (fun d => ?_)
    · simp [d]
      refine gF (fun e => ?_) (fun e => ?_)
      · simp [e]
        simp only [decide_eq_true_eq, decide_eq_false_iff_not] at a d e; simp [wb]; omega
      · simp [e]
        simp only [decide_eq_true_eq, decide_eq_false_iff_not] at a d e; simp [wb]; omega
    · simp [d]
      simp only [decide_eq_true_eq, decide_eq_false_iff_not] at a d; simp [wb]; omega

def wbs (s : ByteArray) (i : Nat) : Bool := wb (byteAt s i)
/-- How many bytes of words a text begins with. -/
def wlen (s : ByteArray) : Nat := (s.data.toList.takeWhile (fun b => wb b.toNat)).length
def wAll (s : ByteArray) : Bool := s.data.toList.all (fun b => wb b.toNat)
def isW (s : ByteArray) : Bool := decide ((1 : Int) ≤ s.size ∧ (s.size : Int) ≤ 8) && wAll s
def isP (p : List ByteArray) : Bool := decide ((1 : Int) ≤ p.length ∧ (p.length : Int) ≤ 5) && p.all isW
theorem wlen_drop (s : ByteArray) (i : Nat) (h : i < s.size) : (s.data.toList.drop i).takeWhile (fun b => wb b.toNat) = if wb (byteAt s i) = true then s.data.toList[i]'(by simpa using h) :: (s.data.toList.drop (i + 1)).takeWhile (fun b => wb b.toNat) else [] := by
  have hl : i < s.data.toList.length := by simpa using h
  rw [List.drop_eq_getElem_cons hl, List.takeWhile_cons, byteAt_list s i h]
theorem ok_wordAt (s : ByteArray) (hs : s.size ≤ 140737488355328) : CallOK Try.prog 117 [.c (ps s)] (.c (ps (s.extract 0 (wlen s)))) [.c (ps s)] := by
  refine okS (fn := Try.f117) [] h0 Try.func117 (by kernel_rfl) rfl Try.ntmps117 Try.results117 (by simp) ?_
  simp
  refine loopS [0, 3] [] (fun n st => ∃ (i : Nat), i + n = s.size ∧ i + ((s.data.toList.drop i).takeWhile (fun b => wb b.toNat)).length = wlen s ∧ st = ⟨slOf 19 [(0, .t (ps s)), (3, .t (pi i))], ofL []⟩) s.size ?_ ?_
  · rintro Inv hI
    simp
    subst hI
    exact ⟨0, by omega, by simp [wlen], rfl⟩
  · rintro Inv hI n st ⟨i, hi, hw, rfl⟩
    refine ewr_sound (M := []) h0 ?_
    simp
    refine gT (fun a => ?_) (fun a => ?_)
    · have a1 : i < s.size := by simpa using a
      simp [a, a1]
      rw [wlen_drop s i a1] at hw
      refine Inv_intro (ok_isWordByte _) ?_
      simp
      refine brn_app (fun b => ?_) (fun b => ?_)
      · simp
        rw [if_pos b, List.length_cons] at hw
        subst hI
        refine Less_mk (n - 1) (by omega) ⟨i + 1, by omega, by omega, by rw [wrNext i (by omega)]⟩
      · simp
        rw [if_neg (by simpa using b)] at hw
        have hw' : i = wlen s := hw
        subst hw'
        have hle : (wlen s : Int) ≤ s.size := by omega
        simp [hle]
    · simp [a]
      simp at a
      rw [List.drop_of_length_le (by simp; omega)] at hw
      have hw' : i = wlen s := hw
      subst hw'
      have hle : (wlen s : Int) ≤ s.size := by omega
      simp [hle]
def curP (code : List Int) (a s : Int) : PT := .sl 0 77 1 [rd 1 code.length (code.map pu), pi a, .raw (.int .u64 s)]
theorem nt_pu : ∀ l : List Int, PT.noTmpL (l.map pu) = true
  | [] => by simp [PT.noTmpL]
  | x :: l => by simp [PT.noTmpL, PT.noTmp, nt_pu l]
attribute [simp] nt_pu
def codeOK (code : List Int) : Prop := code.length ≤ 140737488351232 ∧ ∀ c ∈ code, 0 ≤ c ∧ c ≤ 255
def seedN (s b : Int) : Int := IntKind.wrap .u64 (IntKind.wrap .u64 (IntKind.wrap .u64 (s * 6364136223846793005) + IntKind.wrap .u64 b) + 1442695040888963407)
def codeN (x : Int) : Int := IntKind.i64.wrap (bitAnd IntKind.u64 (x.fdiv (2 ^ min 40 IntKind.u64.bits)) 255)
theorem and_range (y : Int) : 0 ≤ IntKind.i64.wrap (bitAnd IntKind.u64 y 255) ∧ IntKind.i64.wrap (bitAnd IntKind.u64 y 255) ≤ 255 := by
  have h1 : (BitVec.ofInt IntKind.u64.bits y &&& BitVec.ofInt IntKind.u64.bits 255).toNat ≤ 255 := by
    rw [BitVec.toNat_and]
    exact Nat.and_le_right
  have h2 : ∀ n : Fin 256, IntKind.i64.wrap (IntKind.u64.wrap (n.1 : Int)) = (n.1 : Int) := by decide
  unfold bitAnd
  generalize (BitVec.ofInt IntKind.u64.bits y &&& BitVec.ofInt IntKind.u64.bits 255).toNat = n at h1
  have h3 := h2 ⟨n, by omega⟩
  simp only at h3
  rw [h3]
  omega
theorem ok_next (code : List Int) (hc : codeOK code) (a s : Int) (ha : 0 ≤ a) (ha2 : a ≤ 4000000) : ∃ r s', (0 ≤ r ∧ r ≤ 255) ∧ CallOK Try.prog 102 [.bp (curP code a s)] (.c (pi r)) [.bp (curP code (a + 1) s')] := by
  obtain ⟨hl, hc⟩ := hc
  have w1 : IntKind.i64.wrap (a + 1) = a + 1 := wrap64 (by omega) (by omega)
  unfold curP
  by_cases c1 : a < code.length
  · have hat : a.toNat < code.length := by omega
    have hb := hc _ (List.getElem_mem hat)
    have hd : List.drop a.toNat (code.map pu) = pu code[a.toNat] :: List.drop (a.toNat + 1) (code.map pu) := by
      rw [List.drop_eq_getElem_cons (by rw [List.length_map]; exact hat), List.getElem_map]
    generalize code[a.toNat] = b at hb hd
    have wb : IntKind.i64.wrap b = b := wrap64 (by omega) (by omega)
    have c2 : a + 1 ≤ (code.length : Int) := by omega
    refine ⟨b, seedN s b, hb, ?_⟩
    refine okS (fn := Try.f102) [] h0 Try.func102 (by kernel_rfl) rfl Try.ntmps102 Try.results102 (by simp) ?_
    simp
    refine drawP (tabEnv [] []) [⟨[.arg 0 0], allD 62, true⟩, ⟨[.arg 0 0], allD 62, true⟩, ⟨[.arg 0 0], allD 62, true⟩, ⟨[.arg 0 0], allD 62, true⟩, ⟨[.arg 0 0], allD 62, true⟩, ⟨[.arg 0 0], allD 62, true⟩, ⟨[.arg 0 0], allD 62, true⟩, ⟨[.arg 0 0], allD 62, true⟩, ⟨[], allD 62, true⟩, ⟨[], allD 62, true⟩] h0 hm (tabEnv_ok tab_nil) (by kernel_rfl) (by kernel_rfl) ?_
    simp [c1]
    refine drawP (tabEnv [] []) [⟨[.arg 0 0], allD 62, true⟩, ⟨[.arg 0 0], allD 62, true⟩, ⟨[.arg 0 0], allD 62, true⟩, ⟨[.arg 0 0], allD 62, true⟩, ⟨[.arg 0 0], allD 62, true⟩, ⟨[.arg 0 0], allD 62, true⟩, ⟨[.arg 0 0], allD 62, true⟩, ⟨[.arg 0 0], allD 62, true⟩, ⟨[], allD 62, true⟩, ⟨[], allD 62, true⟩, ⟨[], allD 62, true⟩, ⟨[], allD 62, true⟩] h0 hm (tabEnv_ok tab_nil) (by kernel_rfl) (by kernel_rfl) ?_
    simp [c1, ha, hat, hd, wb, w1]
    refine drawP (tabEnv [] []) [⟨[.arg 0 0], allD 62, true⟩, ⟨[.arg 0 0], allD 62, true⟩, ⟨[.arg 0 0], allD 62, true⟩, ⟨[.arg 0 0], allD 62, true⟩, ⟨[.arg 0 0], allD 62, true⟩, ⟨[.arg 0 0], allD 62, true⟩, ⟨[.arg 0 0], allD 62, true⟩, ⟨[.arg 0 0], allD 62, true⟩, ⟨[], allD 62, true⟩, ⟨[], allD 62, true⟩] h0 hm (tabEnv_ok tab_nil) (by kernel_rfl) (by kernel_rfl) ?_
    simp [c2, seedN]
  · refine ⟨codeN (seedN s 0), seedN s 0, and_range _, ?_⟩
    have c2 : ¬ a + 1 ≤ (code.length : Int) := by omega
    refine okS (fn := Try.f102) [] h0 Try.func102 (by kernel_rfl) rfl Try.ntmps102 Try.results102 (by simp) ?_
    simp
    refine drawP (tabEnv [] []) [⟨[.arg 0 0], allD 62, true⟩, ⟨[.arg 0 0], allD 62, true⟩, ⟨[.arg 0 0], allD 62, true⟩, ⟨[.arg 0 0], allD 62, true⟩, ⟨[.arg 0 0], allD 62, true⟩, ⟨[.arg 0 0], allD 62, true⟩, ⟨[.arg 0 0], allD 62, true⟩, ⟨[.arg 0 0], allD 62, true⟩, ⟨[], allD 62, true⟩, ⟨[], allD 62, true⟩] h0 hm (tabEnv_ok tab_nil) (by kernel_rfl) (by kernel_rfl) ?_
    simp [c1, w1]
    refine drawP (tabEnv [] []) [⟨[.arg 0 0], allD 62, true⟩, ⟨[.arg 0 0], allD 62, true⟩, ⟨[.arg 0 0], allD 62, true⟩, ⟨[.arg 0 0], allD 62, true⟩, ⟨[.arg 0 0], allD 62, true⟩, ⟨[.arg 0 0], allD 62, true⟩, ⟨[.arg 0 0], allD 62, true⟩, ⟨[.arg 0 0], allD 62, true⟩, ⟨[], allD 62, true⟩, ⟨[], allD 62, true⟩] h0 hm (tabEnv_ok tab_nil) (by kernel_rfl) (by kernel_rfl) ?_
    simp [c2, seedN, codeN]
theorem ok_pick (code : List Int) (hc : codeOK code) (n : Int) (hn : n ≤ 200) (hn0 : 1 ≤ n) (a s : Int) (ha : 0 ≤ a) (ha2 : a ≤ 4000000) : ∃ r a' s', (0 ≤ r ∧ r ≤ n - 1) ∧ (a ≤ a' ∧ a' ≤ a + 1) ∧ CallOK Try.prog 63 [.bp (curP code a s), .c (pi n)] (.c (pi r)) [.bp (curP code a' s'), .c (pi n)] := by
  by_cases c1 : n ≤ 1
  · refine ⟨0, a, s, by omega, by omega, ?_⟩
    refine okS (fn := Try.f63) [(102, [1])] h0 Try.func63 (by kernel_rfl) rfl Try.ntmps63 Try.results63 (by simp) ?_
    simp [c1, curP]
  · obtain ⟨x, s', hx, hcall⟩ := ok_next code hc a s ha ha2
    have c2 : ¬ 200 < n := by omega
    have c3 : ¬ n = 0 := by omega
    have h1 : 0 ≤ x.tmod n := Int.tmod_nonneg n hx.1
    have h2 : x.tmod n < n := Int.tmod_lt_of_pos x (by omega)
    have w1 : IntKind.i64.wrap (x.tmod n) = x.tmod n := wrap64 (by omega) (by omega)
    refine ⟨x.tmod n, a + 1, s', by omega, by omega, ?_⟩
    refine okS (fn := Try.f63) [(102, [1])] h0 Try.func63 (by kernel_rfl) rfl Try.ntmps63 Try.results63 (by simp) ?_
    unfold curP at hcall ⊢
    simp [c1]
    refine Inv_intro hcall ?_
    simp [c2, c3, w1]
theorem ok_one (code : List Int) (hc : codeOK code) (n : Int) (hn : n ≤ 200) (hn0 : 1 ≤ n) (a s : Int) (ha : 0 ≤ a) (ha2 : a ≤ 4000000) : ∃ r a' s', (a ≤ a' ∧ a' ≤ a + 1) ∧ CallOK Try.prog 60 [.bp (curP code a s), .c (pi n)] (.c (pb r)) [.bp (curP code a' s'), .c (pi n)] := by
  obtain ⟨x, a', s', hx, ha', hcall⟩ := ok_pick code hc n hn hn0 a s ha ha2
  refine ⟨decide (x = 0), a', s', ha', ?_⟩
  refine okS (fn := Try.f60) [(63, [1])] h0 Try.func60 (by kernel_rfl) rfl Try.ntmps60 Try.results60 (by simp) ?_
  unfold curP at hcall ⊢
  simp
  refine Inv_intro hcall ?_
  simp
theorem ok_of (q : Nat) (code : List Int) (hc : codeOK code) (l : List ByteArray) (hl : l.length ≤ 200) (hl0 : 1 ≤ l.length) (a s : Int) (ha : 0 ≤ a) (ha2 : a ≤ 4000000) : ∃ r a' s', r ∈ l ∧ (a ≤ a' ∧ a' ≤ a + 1) ∧ CallOK Try.prog 69 [.bp (curP code a s), .c (rd q l.length (l.map ps))] (.c (ps r)) [.bp (curP code a' s'), .c (rd q l.length (l.map ps))] := by
  obtain ⟨x, a', s', hx, ha', hcall⟩ := ok_pick code hc (l.length : Int) (by omega) (by omega) a s ha ha2
  have hat : x.toNat < l.length := by omega
  have hd : List.drop x.toNat (l.map ps) = ps l[x.toNat] :: List.drop (x.toNat + 1) (l.map ps) := by
    rw [List.drop_eq_getElem_cons (by rw [List.length_map]; exact hat), List.getElem_map]
  have hm' := List.getElem_mem hat
  have hx2 : x < l.length := by omega
  generalize l[x.toNat] = r at hd hm'
  refine ⟨r, a', s', hm', ha', ?_⟩
  refine okS (fn := Try.f69) [(63, [1])] h0 Try.func69 (by kernel_rfl) rfl Try.ntmps69 Try.results69 (by simp) ?_
  unfold curP at hcall ⊢
  simp
  refine Inv_intro hcall ?_
  simp [hx.1, hx2, hat, hd]
theorem ok_among (q : Nat) (code : List Int) (hc : codeOK code) (l : List Int) (hl : l.length ≤ 200) (hl0 : 1 ≤ l.length) (a s : Int) (ha : 0 ≤ a) (ha2 : a ≤ 4000000) : ∃ r a' s', r ∈ l ∧ (a ≤ a' ∧ a' ≤ a + 1) ∧ CallOK Try.prog 101 [.bp (curP code a s), .c (rd q l.length (l.map pi))] (.c (pi r)) [.bp (curP code a' s'), .c (rd q l.length (l.map pi))] := by
  obtain ⟨x, a', s', hx, ha', hcall⟩ := ok_pick code hc (l.length : Int) (by omega) (by omega) a s ha ha2
  have hat : x.toNat < l.length := by omega
  have hd : List.drop x.toNat (l.map pi) = pi l[x.toNat] :: List.drop (x.toNat + 1) (l.map pi) := by
    rw [List.drop_eq_getElem_cons (by rw [List.length_map]; exact hat), List.getElem_map]
  have hm' := List.getElem_mem hat
  have hx2 : x < l.length := by omega
  generalize l[x.toNat] = r at hd hm'
  refine ⟨r, a', s', hm', ha', ?_⟩
  refine okS (fn := Try.f101) [(63, [1])] h0 Try.func101 (by kernel_rfl) rfl Try.ntmps101 Try.results101 (by simp) ?_
  unfold curP at hcall ⊢
  simp
  refine Inv_intro hcall ?_
  simp [hx.1, hx2, hat, hd]
theorem open_U8 {n : Nat} {qs : List PT} (h : TyC Try.prog (n + 1) 5 qs) : ∃ x : Int, qs = [pu x] ∧ (0 ≤ x ∧ x ≤ 255) := by
  unfold TyC at h
  rw [Try.underlying5] at h
  simp only at h
  obtain ⟨m, rfl, hm⟩ := h
  refine ⟨m, rfl, ?_⟩
  simp [Lit.wf] at hm
  have e1 : IntKind.u8.min = 0 := by decide
  have e2 : IntKind.u8.max = 255 := by decide
  rw [e1, e2] at hm
  exact hm
theorem open_each {α : Type} {f : α → List PT} {q : α → Prop} : ∀ {cells : List (List PT)}, (∀ c ∈ cells, ∃ x, c = f x ∧ q x) → ∃ xs : List α, cells = xs.map f ∧ ∀ x ∈ xs, q x
  | [], _ => ⟨[], rfl, by simp⟩
  | c :: cs, h => by
    obtain ⟨x, hx, hq⟩ := h c (by simp)
    obtain ⟨xs, hxs, hqs⟩ := open_each (cells := cs) fun d hd => h d (by simp [hd])
    refine ⟨x :: xs, by rw [hx, hxs]; rfl, fun y hy => ?_⟩
    rcases List.mem_cons.1 hy with rfl | hy
    · exact hq
    · exact hqs y hy
theorem open_flat {α : Type} (f : α → PT) : ∀ xs : List α, (xs.map fun x => [f x]).flatten = xs.map f
  | [] => rfl
  | x :: xs => by simp [open_flat f xs]
theorem open_ByteS {n : Nat} {qs : List PT} (h : TyC Try.prog (n + 2) 22 qs) : ∃ x : (List Int), qs = [rd 1 x.length (x.map pu)] ∧ codeOK x := by
  unfold TyC at h
  rw [Try.underlying22] at h
  simp only at h
  obtain ⟨cells, rfl, hl, hc⟩ := h
  obtain ⟨xs, rfl, hx⟩ := open_each (f := fun x : Int => [pu x]) (q := fun x => 0 ≤ x ∧ x ≤ 255) (fun c hcc => open_U8 (hc c hcc)) 
  refine ⟨xs, ?_, ?_⟩
  · simp only [List.length_map, open_flat]
  · have e1 : Try.prog.bytesOf 5 = 1 := by kernel_rfl
    rw [e1, List.length_map] at hl
    have e2 : reachBytes = 140737488351232 := rfl
    rw [e2] at hl
    exact ⟨by omega, hx⟩
theorem ok_Clone_String (k : Nat) (xs : List ByteArray) (hx : xs.length ≤ 1048576) : CallOK Try.prog 64 [.c (rd k xs.length (xs.map ps))] (.c (.sl 0 9 xs.length (xs.map ps))) [.c (rd k xs.length (xs.map ps))] := by
  refine okS (fn := Try.f64) [] h0 Try.func64 (by kernel_rfl) rfl Try.ntmps64 Try.results64 (by simp) ?_
  cases xs with
  | nil => simp
  | cons y ys =>
    simp only [List.length_cons] at hx
    have hb : (ys.length + 1) * 16 ≤ 140737488355328 ∧ ys.length + 1 ≤ 9223372036854775807 := by omega
    have hb2 : ys.length + 1 ≤ 9223372036854775807 := by omega
    have hb1 : (ys.length + 1) * 16 ≤ 140737488355328 := by omega
    simp [hb1, hb2]
def mtGo : Nat → Int → ByteArray → ByteArray
  | 0, _, s => s
  | n + 1, k, s => if 0 < k then mtGo n (IntKind.wrap .i64 (k.tdiv 10)) (strOf [IntKind.wrap .u8 (IntKind.wrap .i64 (48 + k.tmod 10))] ++ s) else s
/-- The text that marks a string. -/
def mtext (k : Int) : ByteArray := if k ≤ 0 then ⟨#[109, 48]⟩ else ⟨#[109]⟩ ++ mtGo k.toNat k ⟨#[]⟩
theorem mtGo_size : ∀ (n : Nat) (k : Int) (s : ByteArray), (mtGo n k s).size ≤ n + s.size
  | 0, _, s => by simp [mtGo]
  | n + 1, k, s => by
    unfold mtGo
    split
    · have := mtGo_size n (IntKind.wrap .i64 (k.tdiv 10)) (strOf [IntKind.wrap .u8 (IntKind.wrap .i64 (48 + k.tmod 10))] ++ s)
      have e : (strOf [IntKind.wrap .u8 (IntKind.wrap .i64 (48 + k.tmod 10))] ++ s).size = 1 + s.size := by
        rw [ByteArray.size_append]; rfl
      omega
    · omega
structure GWrite where
  At : Int
  Data : ByteArray
  deriving DecidableEq
def GWrite.c (x : GWrite) : List PT := [pi x.At, ps x.Data]
attribute [simp] GWrite.c
theorem GWrite.len (x : GWrite) : x.c.length = 2 := rfl
theorem GWrite.un (xs : List GWrite) : PT.unownL (xs.flatMap GWrite.c) = xs.flatMap GWrite.c := by
  rw [unownL_fm]
  congr 1
theorem GWrite.nt (xs : List GWrite) : PT.noTmpL (xs.flatMap GWrite.c) = true := noTmpL_fm _ xs fun _ => rfl
attribute [simp] GWrite.un GWrite.nt
theorem GWrite.lenR (xs : List GWrite) : (xs.flatMap GWrite.c).length = xs.length * 2 := fm_len _ 2 (fun _ => rfl) xs
theorem GWrite.tkR (xs : List GWrite) : (xs.flatMap GWrite.c).take (xs.length * 2) = xs.flatMap GWrite.c := List.take_of_length_le (by rw [GWrite.lenR]; exact Nat.le_refl _)
attribute [simp high] GWrite.lenR GWrite.tkR
def GWrite.wt (x : GWrite) : Nat := x.Data.size
def GWrite.fits (x : GWrite) : Prop := x.Data.size ≤ 140737488351232
def GWrite.mark (x : GWrite) (k : Int) : GWrite × Int := (⟨k, mtext (k + 1)⟩, ((k + 1) + 1))
def GWrite.cn (x : GWrite) : Nat := 1 + 1
theorem GWrite.mark_snd (x : GWrite) (k : Int) : (GWrite.mark x k).2 = k + GWrite.cn x := by
  simp only [GWrite.mark, GWrite.cn] <;> omega
theorem cnE_le_Write (x : GWrite) : GWrite.cn x ≤ 32 * GWrite.wt x + 16 := by
  unfold GWrite.cn
  omega
theorem ok_Clone_Write (k : Nat) (xs : List GWrite) (hx : xs.length ≤ 1048576) : CallOK Try.prog 65 [.c (rd k xs.length (xs.flatMap GWrite.c))] (.c (.sl 0 43 xs.length (xs.flatMap GWrite.c))) [.c (rd k xs.length (xs.flatMap GWrite.c))] := by
  refine okS (fn := Try.f65) [] h0 Try.func65 (by kernel_rfl) rfl Try.ntmps65 Try.results65 (by simp) ?_
  cases xs with
  | nil => simp
  | cons y ys =>
    simp only [List.length_cons] at hx
    have hb : (ys.length + 1) * 24 ≤ 140737488355328 ∧ ys.length + 1 ≤ 9223372036854775807 := by omega
    have hb2 : ys.length + 1 ≤ 9223372036854775807 := by omega
    have hb1 : (ys.length + 1) * 24 ≤ 140737488355328 := by omega
    have he : ys.length * 2 + 1 + 1 = (ys.length + 1) * 2 := by omega
    have ht : List.take ((ys.length + 1) * 2) (pi y.At :: ps y.Data :: ys.flatMap GWrite.c) = (pi y.At :: ps y.Data :: ys.flatMap GWrite.c) := GWrite.tkR (y :: ys)
    simp [hb1, hb2, he, ht]
abbrev cStringSo (xs : List ByteArray) : PT := .sl 0 9 xs.length (xs.map ps)
abbrev cStringSi (k : Nat) (xs : List ByteArray) : PT := rd k xs.length (xs.map ps)
def wt_StringS (xs : List ByteArray) : Nat := wtR ByteArray.size xs
theorem len_wt_StringS (xs : List ByteArray) : xs.length ≤ wt_StringS xs := by unfold wt_StringS wtR; omega
theorem mem_wt_StringS {xs : List ByteArray} {x : ByteArray} (h : x ∈ xs) : x.size ≤ wt_StringS xs := by
  have := wt_mem ByteArray.size h
  unfold wt_StringS wtR
  omega
def fits_StringS (xs : List ByteArray) : Prop := xs.length ≤ 140737488351232 ∧ ∀ x ∈ xs, x.size ≤ 140737488351232
def lens_StringS (xs : List ByteArray) : Prop := xs.length ≤ 140737488351232 ∧ ∀ x ∈ xs, True
def mk_StringS (xs : List ByteArray) (k : Int) : List ByteArray × Int := mkR (fun (_ : ByteArray) k => (mtext k, k + 1)) xs k
def cn_StringS (xs : List ByteArray) : Nat := cnR (fun (_ : ByteArray) => 1) xs
theorem mk_StringS_len (xs : List ByteArray) (k : Int) : (mk_StringS xs k).1.length = xs.length := mkR_len _ xs k
attribute [simp] mk_StringS_len
theorem mk_StringS_snd (xs : List ByteArray) (k : Int) : (mk_StringS xs k).2 = k + cn_StringS xs := mkR_snd (fun _ _ => rfl) xs k
theorem lens_of_StringS {xs : List ByteArray} (h : wt_StringS xs ≤ 1048576) : lens_StringS xs := by
  have hl := len_wt_StringS xs
  exact ⟨by omega, fun _ _ => trivial⟩
theorem cn_len_StringS (xs : List ByteArray) : cn_StringS xs ≤ 32 * xs.length := cnR_le0 (fun x => by omega) xs
theorem cn_le_StringS (xs : List ByteArray) : cn_StringS xs ≤ 32 * wt_StringS xs := cnR_le (fun _ => by omega) xs
abbrev cWriteSo (xs : List GWrite) : PT := .sl 0 43 xs.length (xs.flatMap GWrite.c)
abbrev cWriteSi (k : Nat) (xs : List GWrite) : PT := rd k xs.length (xs.flatMap GWrite.c)
def wt_WriteS (xs : List GWrite) : Nat := wtR GWrite.wt xs
theorem len_wt_WriteS (xs : List GWrite) : xs.length ≤ wt_WriteS xs := by unfold wt_WriteS wtR; omega
theorem mem_wt_WriteS {xs : List GWrite} {x : GWrite} (h : x ∈ xs) : GWrite.wt x ≤ wt_WriteS xs := by
  have := wt_mem GWrite.wt h
  unfold wt_WriteS wtR
  omega
def fits_WriteS (xs : List GWrite) : Prop := xs.length ≤ 140737488351232 ∧ ∀ x ∈ xs, GWrite.fits x
def lens_WriteS (xs : List GWrite) : Prop := xs.length ≤ 140737488351232 ∧ ∀ x ∈ xs, True
def mk_WriteS (xs : List GWrite) (k : Int) : List GWrite × Int := mkR GWrite.mark xs k
def cn_WriteS (xs : List GWrite) : Nat := cnR GWrite.cn xs
theorem mk_WriteS_len (xs : List GWrite) (k : Int) : (mk_WriteS xs k).1.length = xs.length := mkR_len _ xs k
attribute [simp] mk_WriteS_len
theorem mk_WriteS_snd (xs : List GWrite) (k : Int) : (mk_WriteS xs k).2 = k + cn_WriteS xs := mkR_snd (GWrite.mark_snd) xs k
theorem lens_of_WriteS {xs : List GWrite} (h : wt_WriteS xs ≤ 1048576) : lens_WriteS xs := by
  have hl := len_wt_WriteS xs
  exact ⟨by omega, fun _ _ => trivial⟩
theorem cn_len_WriteS (xs : List GWrite) : cn_WriteS xs ≤ 32 * xs.length := cnR_le0 (fun x => by simp only [GWrite.cn]; omega) xs
theorem cn_le_WriteS (xs : List GWrite) : cn_WriteS xs ≤ 32 * wt_WriteS xs := cnR_le (fun x => by have := cnE_le_Write x; omega) xs
structure GDisk where
  Sectors : (List ByteArray)
  Waiting : (List GWrite)
  deriving DecidableEq
def GDisk.co (x : GDisk) : List PT := [.sl 0 9 x.Sectors.length (x.Sectors.map ps), .sl 0 43 x.Waiting.length (x.Waiting.flatMap GWrite.c)]
def GDisk.ci (k : Nat) (x : GDisk) : List PT := [rd k x.Sectors.length (x.Sectors.map ps), rd k x.Waiting.length (x.Waiting.flatMap GWrite.c)]
attribute [simp] GDisk.co GDisk.ci
theorem GDisk.len_o (x : GDisk) : x.co.length = 2 := rfl
theorem GDisk.len_i (k : Nat) (x : GDisk) : (x.ci k).length = 2 := rfl
theorem GDisk.un1 (x : GDisk) : PT.unownL x.co = x.ci 0 := by simp [rd]
theorem GDisk.uni1 (k : Nat) (x : GDisk) : PT.unownL (x.ci k) = x.ci 0 := by simp [rd]
theorem GDisk.un (xs : List GDisk) : PT.unownL (xs.flatMap GDisk.co) = xs.flatMap (GDisk.ci 0) := by
  rw [unownL_fm]
  congr 1
  funext x
  exact GDisk.un1 x
theorem GDisk.uni (k : Nat) (xs : List GDisk) : PT.unownL (xs.flatMap (GDisk.ci k)) = xs.flatMap (GDisk.ci 0) := by
  rw [unownL_fm]
  congr 1
  funext x
  exact GDisk.uni1 k x
theorem GDisk.nt (xs : List GDisk) : PT.noTmpL (xs.flatMap GDisk.co) = true := noTmpL_fm _ xs fun x => by simp
theorem GDisk.nti (k : Nat) (xs : List GDisk) : PT.noTmpL (xs.flatMap (GDisk.ci (k + 1))) = true := noTmpL_fm _ xs fun x => by simp [rd]
attribute [simp] GDisk.un GDisk.uni GDisk.nt GDisk.nti
theorem GDisk.lenR (xs : List GDisk) : (xs.flatMap GDisk.co).length = xs.length * 2 := fm_len _ 2 (fun _ => rfl) xs
theorem GDisk.lenRi (k : Nat) (xs : List GDisk) : (xs.flatMap (GDisk.ci k)).length = xs.length * 2 := fm_len _ 2 (fun _ => rfl) xs
theorem GDisk.tkR (xs : List GDisk) : (xs.flatMap GDisk.co).take (xs.length * 2) = xs.flatMap GDisk.co := List.take_of_length_le (by rw [GDisk.lenR]; exact Nat.le_refl _)
theorem GDisk.tkRi (k : Nat) (xs : List GDisk) : (xs.flatMap (GDisk.ci k)).take (xs.length * 2) = xs.flatMap (GDisk.ci k) := List.take_of_length_le (by rw [GDisk.lenRi]; exact Nat.le_refl _)
attribute [simp high] GDisk.lenR GDisk.tkR GDisk.lenRi GDisk.tkRi
def GDisk.wt (x : GDisk) : Nat := wt_StringS x.Sectors + wt_WriteS x.Waiting
def GDisk.fits (x : GDisk) : Prop := fits_StringS x.Sectors ∧ fits_WriteS x.Waiting
def GDisk.lens (x : GDisk) : Prop := lens_StringS x.Sectors ∧ lens_WriteS x.Waiting
def GDisk.mark (x : GDisk) (k : Int) : GDisk × Int := (⟨(mk_StringS x.Sectors k).1, (mk_WriteS x.Waiting (mk_StringS x.Sectors k).2).1⟩, (mk_WriteS x.Waiting (mk_StringS x.Sectors k).2).2)
def GDisk.cn (x : GDisk) : Nat := cn_StringS x.Sectors + cn_WriteS x.Waiting
theorem GDisk.mark_snd (x : GDisk) (k : Int) : (GDisk.mark x k).2 = k + GDisk.cn x := by
  simp only [GDisk.mark, GDisk.cn, mk_StringS_snd, mk_WriteS_snd] <;> omega
def GDisk.markT (x : GDisk) (k : Int) : GDisk × Int := (⟨(mk_StringS x.Sectors k).1, (mk_WriteS x.Waiting (mk_StringS x.Sectors k).2).1⟩, (mk_WriteS x.Waiting (mk_StringS x.Sectors k).2).2)
def GDisk.cnT (x : GDisk) : Nat := cn_StringS x.Sectors + cn_WriteS x.Waiting
theorem GDisk.markT_snd (x : GDisk) (k : Int) : (GDisk.markT x k).2 = k + GDisk.cnT x := by
  simp only [GDisk.markT, GDisk.cnT, mk_StringS_snd, mk_WriteS_snd] <;> omega
theorem lens_of_Disk {x : GDisk} (h : GDisk.wt x ≤ 1048576) : GDisk.lens x := by
  unfold GDisk.wt at h
  exact ⟨lens_of_StringS (by omega), lens_of_WriteS (by omega)⟩
theorem cn_le_Disk (x : GDisk) : GDisk.cnT x ≤ 32 * GDisk.wt x := by
  unfold GDisk.cnT GDisk.wt
  have := cn_le_StringS x.Sectors
  have := cn_le_WriteS x.Waiting
  omega
theorem cnE_le_Disk (x : GDisk) : GDisk.cn x ≤ 32 * GDisk.wt x + 16 := by
  unfold GDisk.cn GDisk.wt
  have := cn_le_StringS x.Sectors
  have := cn_le_WriteS x.Waiting
  omega
/-- An element of a row is replaced. -/
theorem map_set {α : Type} (f : α → PT) (xs : List α) (i : Nat) (y : α) (h : i < xs.length) : (xs.map f).take i ++ f y :: (xs.map f).drop (i + 1) = (xs.set i y).map f := by
  rw [List.set_eq_take_append_cons_drop, if_pos h]
  simp
theorem ok_l17Own (k : Nat) (d : GDisk) (h1 : d.Sectors.length ≤ 1048576) (h2 : d.Waiting.length ≤ 1048576) : CallOK Try.prog 53 [.agg (d.ci k)] (.agg d.co) [.agg (d.ci k)] := by
  refine okS (fn := Try.f53) [] h0 Try.func53 (by kernel_rfl) rfl Try.ntmps53 Try.results53 (by simp) ?_
  simp
  refine drawP E0 [⟨[], allD 12, false⟩, ⟨[.op 0 0 0], allD 12, true⟩, ⟨[.op 0 0 0], allD 12, true⟩, ⟨[.op 1 0 0], [3, 4, 5, 6, 7, 8, 9, 10, 11], false⟩, ⟨[], allD 12, false⟩, ⟨[.op 0 0 0], allD 12, true⟩, ⟨[.op 0 0 0], allD 12, true⟩, ⟨[.op 1 4 0], [3, 4, 5, 6, 7, 8, 9, 10, 11], false⟩, ⟨[.op 1 0 0, .op 1 3 0, .op 1 4 0, .op 1 7 0], allD 12, true⟩, ⟨[.op 0 1 0, .op 1 0 0, .op 1 3 0, .op 1 4 0, .op 1 7 0], [3, 4, 5, 6, 7, 8, 9, 10, 11], false⟩] h0 hm (E0_ok _) (by kernel_rfl) (by kernel_rfl) ?_
  have b1 : d.Sectors.length * 16 ≤ 140737488355328 := by omega
  have b2 : d.Sectors.length ≤ 9223372036854775807 := by omega
  have b3 : d.Waiting.length * 24 ≤ 140737488355328 := by omega
  have b4 : d.Waiting.length ≤ 9223372036854775807 := by omega
  by_cases c1 : d.Sectors = []
  · by_cases c2 : d.Waiting = []
    · simp [c1, c2]
    · simp [c1, c2, b3, b4]
  · by_cases c2 : d.Waiting = []
    · simp [c1, c2, b1, b2]
    · simp [c1, c2, b1, b2, b3, b4]
theorem ok_waiting (k : Nat) (d : GDisk) (w : GWrite) (h1 : d.Sectors.length ≤ 1048576) (h2 : d.Waiting.length ≤ 1048576) : CallOK Try.prog 70 [.agg (d.ci k), .agg w.c] (.agg (GDisk.co ⟨d.Sectors, d.Waiting ++ [w]⟩)) [.agg (d.ci k), .agg w.c] := by
  refine okS (fn := Try.f70) [] h0 Try.func70 (by kernel_rfl) rfl Try.ntmps70 Try.results70 (by simp) ?_
  simp
  refine drawP (tabEnv [] _) [⟨[.op 0 0 0], allD 15, true⟩, ⟨[.op 0 0 0], allD 15, true⟩, ⟨[], allD 15, false⟩, ⟨[.op 0 0 0], allD 15, true⟩, ⟨[.op 0 0 0], allD 15, true⟩, ⟨[], allD 15, false⟩, ⟨[.op 0 1 0], allD 15, true⟩, ⟨[], allD 15, false⟩, ⟨[.op 1 5 0, .op 1 7 0], [5, 6, 7, 8, 9, 10, 11, 12, 13, 14], false⟩, ⟨[.op 1 2 0, .op 1 8 0], allD 15, true⟩, ⟨[.op 0 2 0, .op 1 2 0, .op 1 8 0], [5, 6, 7, 8, 9, 10, 11, 12, 13, 14], false⟩] h0 hm (tabEnv_ok (tab_cons (ok_Clone_String k d.Sectors h1) (tab_cons (ok_Clone_Write k d.Waiting h2) tab_nil))) (by kernel_rfl) (by kernel_rfl) ?_
  have b3 : (d.Waiting.length + 1) * 24 ≤ 140737488355328 := by omega
  have b4 : d.Waiting.length + 1 ≤ 9223372036854775807 := by omega
  simp [b3, b4]
/-- A disk behind some of the writes that wait. -/
def applyW (keep : Nat → Bool) : Nat → List GWrite → List ByteArray → List ByteArray
  | _, [], ss => ss
  | i, w :: ws, ss => applyW keep (i + 1) ws (if keep i = true then ss.set w.At.toNat w.Data else ss)
theorem applyW_len (keep : Nat → Bool) : ∀ (ws : List GWrite) (i : Nat) (ss : List ByteArray), (applyW keep i ws ss).length = ss.length
  | [], i, ss => rfl
  | w :: ws, i, ss => by
    unfold applyW
    rw [applyW_len]
    split <;> simp
theorem applyW_congr {f g : Nat → Bool} {n : Nat} (h : ∀ i, i < n → f i = g i) : ∀ (ws : List GWrite) (i : Nat) (ss : List ByteArray), i + ws.length ≤ n → applyW f i ws ss = applyW g i ws ss
  | [], i, ss, _ => rfl
  | w :: ws, i, ss, hi => by
    simp only [List.length_cons] at hi
    unfold applyW
    rw [h i (by omega), applyW_congr h ws (i + 1) _ (by omega)]
def atOK (n : Nat) (w : GWrite) : Prop := 0 ≤ w.At ∧ w.At < n
theorem ok_written (k q g : Nat) (caps : List (List PT)) (d : GDisk) (keep : Nat → Bool) (h1 : d.Sectors.length ≤ 1048576) (h2 : d.Waiting.length ≤ 1048576) (hat : ∀ w ∈ d.Waiting, atOK d.Sectors.length w)
    (hg : ∀ i : Nat, i < d.Waiting.length → CallOK Try.prog g (.c (pi i) :: caps.map (PV.ip q)) (.c (pb (keep i))) (.c (pi i) :: caps.map (PV.ip q))) :
    CallOK Try.prog 48 [.agg (d.ci k), .c (.fn q g caps)] (.agg (GDisk.co ⟨applyW keep 0 d.Waiting d.Sectors, []⟩)) [.agg (d.ci k), .c (.fn q g caps)] := by
  refine okS (fn := Try.f48) [] h0 Try.func48 (by kernel_rfl) rfl Try.ntmps48 Try.results48 (by simp) ?_
  simp
  refine Inv_intro (ok_Clone_String k d.Sectors h1) ?_
  simp
  refine loopS [1, 4, 5, 13, 14, 15] [.op 0 1 0, .op 1 4 0] (fun n st => ∃ (i : Nat) (ss : List ByteArray), i + n = d.Waiting.length ∧ ss.length = d.Sectors.length ∧ applyW keep i (d.Waiting.drop i) ss = applyW keep 0 d.Waiting d.Sectors ∧ st = ⟨slOf 32 [(1, .t (.fn q g caps)), (4, .ptr ⟨.op 0 1 0, []⟩ 0), (5, .ptr ⟨.op 1 4 0, []⟩ 0), (13, .t (rd k d.Waiting.length (d.Waiting.flatMap GWrite.c))), (14, .t (pi d.Waiting.length)), (15, .t (pi i))], ofL [(.op 0 1 0, .sl 0 29 1 [.sl 0 nilE 0 [], .sl 0 nilE 0 []]), (.op 1 4 0, .sl 0 29 1 [.sl 0 9 ss.length (ss.map ps), .sl 0 nilE 0 []])]⟩) d.Waiting.length ?_ ?_
  · rintro Inv hI
    simp
    subst hI
    exact ⟨0, d.Sectors, by omega, rfl, rfl, rfl⟩
  · rintro Inv hI n st ⟨i, ss, hi, hss, hap, rfl⟩
    refine ewr_sound (M := []) h0 ?_
    simp
    refine brn_app (fun h => ?_) (fun h => ?_)
    · simp at h
      have hd := fm_drop GWrite.c 2 (fun _ => rfl) d.Waiting i h
      have hlt : i * 2 < d.Waiting.length * 2 := by omega
      have hw := hat _ (List.getElem_mem h)
      unfold atOK at hw
      rw [drop_step _ i h, applyW] at hap
      simp [h, hd, hlt]
      refine Inv_intro (hg i h) ?_
      simp
      refine brn_app (fun a => ?_) (fun a => ?_)
      · rw [if_pos a] at hap
        have hn : d.Waiting[i].At.toNat < ss.length := by omega
        have hn2 : d.Waiting[i].At < ss.length := by omega
        have hn1 : d.Waiting[i].At.toNat + 1 ≤ ss.length := by omega
        have hs := map_set ps ss d.Waiting[i].At.toNat d.Waiting[i].Data hn
        simp [hw.1, hn2, hn1]
        subst hI
        refine Less_mk (n - 1) (by omega) ⟨i + 1, ss.set d.Waiting[i].At.toNat d.Waiting[i].Data, by omega, by simp [hss], hap, ?_⟩
        rw [wrNext i (by omega)]
        simp at hs
        simp [hs]
      · rw [if_neg (by simp [a])] at hap
        simp
        subst hI
        exact Less_mk (n - 1) (by omega) ⟨i + 1, ss, by omega, hss, hap, by rw [wrNext i (by omega)]⟩
    · simp at h
      rw [List.drop_of_length_le (by omega), applyW] at hap
      subst hap
      simp
end Go.V
