/- What functions of the seat's program do, each proved of its code, under the bounds that its theorem names. -/
import Derived.Test.YtildjkidohpmbaaFacts
set_option linter.all false
namespace Go.V
open Go.Proofs
set_option maxHeartbeats 1000000
set_option maxRecDepth 10000
set_option linter.unusedSimpArgs false
set_option linter.unusedVariables false
theorem byteAt_list (s : ByteArray) (i : Nat) (h : i < s.size) : byteAt s i = ((s.data.toList[i]'(by simpa using h)).toNat : Int) := by
  unfold byteAt
  have : s[i]? = some s[i] := by simp [h]
  rw [this]
  rfl
def wb (c : Int) : Bool := decide (97 ≤ c ∧ c ≤ 122) || decide (48 ≤ c ∧ c ≤ 57) || decide (c = 45)
theorem ok_isWordByte (c : Int) : CallOK Try.prog 136 [.c (pu c)] (.c (pb (wb c))) [.c (pu c)] := by
  refine okS (fn := Try.f136) [] h0 Try.func136 (by kernel_rfl) rfl Try.ntmps136 Try.results136 (by simp) ?_
  simp
  refine gT (fun a => ?_) (fun a => ?_)
  · simp [a]
    refine gF (fun b => ?_) (fun b => ?_)
    · simp [b]
      refine gT (fun d => ?_) (fun d => ?_)
      · simp [d]
        refine gF (fun e => ?_) (fun e => ?_)
        · simp [e]
          simp only [decide_eq_true_eq, decide_eq_false_iff_not] at a b d e; simp [wb]; omega
        · simp [e]
          simp only [decide_eq_true_eq, decide_eq_false_iff_not] at a b d e; simp [wb]; omega
      · simp [d]
        simp only [decide_eq_true_eq, decide_eq_false_iff_not] at a b d; simp [wb]; omega
    · simp [b]
      simp only [decide_eq_true_eq, decide_eq_false_iff_not] at a b; simp [wb]; omega
  · simp [a]
    refine gT (fun d => ?_) (fun d => ?_)
    · simp [d]
      refine gF (fun e => ?_) (fun e => ?_)
      · simp [e]
        simp only [decide_eq_true_eq, decide_eq_false_iff_not] at a d e; simp [wb]; omega
      · simp [e]
        simp only [decide_eq_true_eq, decide_eq_false_iff_not] at a d e; simp [wb]; omega
    · simp [d]
      simp only [decide_eq_true_eq, decide_eq_false_iff_not] at a d; simp [wb]; omega
theorem ok_l15Byte (c : Int) : CallOK Try.prog 121 [.c (pu c)] (.c (pb (wb c))) [.c (pu c)] := by
  refine okS (fn := Try.f121) [] h0 Try.func121 (by kernel_rfl) rfl Try.ntmps121 Try.results121 (by simp) ?_
  simp
  refine gT (fun a => ?_) (fun a => ?_)
  · simp [a]
    refine gF (fun b => ?_) (fun b => ?_)
    · simp [b]
      refine gT (fun d => ?_) (fun d => ?_)
      · simp [d]
        refine gF (fun e => ?_) (fun e => ?_)
        · simp [e]
          simp only [decide_eq_true_eq, decide_eq_false_iff_not] at a b d e; simp [wb]; omega
        · simp [e]
          simp only [decide_eq_true_eq, decide_eq_false_iff_not] at a b d e; simp [wb]; omega
      · simp [d]
        simp only [decide_eq_true_eq, decide_eq_false_iff_not] at a b d; simp [wb]; omega
    · simp [b]
      simp only [decide_eq_true_eq, decide_eq_false_iff_not] at a b; simp [wb]; omega
  · simp [a]
    refine gT (fun d => ?_) (fun d => ?_)
    · simp [d]
      refine gF (fun e => ?_) (fun e => ?_)
      · simp [e]
        simp only [decide_eq_true_eq, decide_eq_false_iff_not] at a d e; simp [wb]; omega
      · simp [e]
        simp only [decide_eq_true_eq, decide_eq_false_iff_not] at a d e; simp [wb]; omega
    · simp [d]
      simp only [decide_eq_true_eq, decide_eq_false_iff_not] at a d; simp [wb]; omega

def wbs (s : ByteArray) (i : Nat) : Bool := wb (byteAt s i)
/-- How many bytes of words a text begins with. -/
def wlen (s : ByteArray) : Nat := (s.data.toList.takeWhile (fun b => wb b.toNat)).length
def wAll (s : ByteArray) : Bool := s.data.toList.all (fun b => wb b.toNat)
def isW (s : ByteArray) : Bool := decide ((1 : Int) ≤ s.size ∧ (s.size : Int) ≤ 8) && wAll s
def isP (p : List ByteArray) : Bool := decide ((1 : Int) ≤ p.length ∧ (p.length : Int) ≤ 5) && p.all isW
theorem wlen_drop (s : ByteArray) (i : Nat) (h : i < s.size) : (s.data.toList.drop i).takeWhile (fun b => wb b.toNat) = if wb (byteAt s i) = true then s.data.toList[i]'(by simpa using h) :: (s.data.toList.drop (i + 1)).takeWhile (fun b => wb b.toNat) else [] := by
  have hl : i < s.data.toList.length := by simpa using h
  rw [List.drop_eq_getElem_cons hl, List.takeWhile_cons, byteAt_list s i h]
theorem ok_wordAt (s : ByteArray) (hs : s.size ≤ 140737488355328) : CallOK Try.prog 117 [.c (ps s)] (.c (ps (s.extract 0 (wlen s)))) [.c (ps s)] := by
  refine okS (fn := Try.f117) [] h0 Try.func117 (by kernel_rfl) rfl Try.ntmps117 Try.results117 (by simp) ?_
  simp
  refine loopS [0, 3] [] (fun n st => ∃ (i : Nat), i + n = s.size ∧ i + ((s.data.toList.drop i).takeWhile (fun b => wb b.toNat)).length = wlen s ∧ st = ⟨slOf 19 [(0, .t (ps s)), (3, .t (pi i))], ofL []⟩) s.size ?_ ?_
  · rintro Inv hI
    simp
    subst hI
    exact ⟨0, by omega, by simp [wlen], rfl⟩
  · rintro Inv hI n st ⟨i, hi, hw, rfl⟩
    refine ewr_sound (M := []) h0 ?_
    simp
    refine gT (fun a => ?_) (fun a => ?_)
    · have a1 : i < s.size := by simpa using a
      simp [a, a1]
      rw [wlen_drop s i a1] at hw
      refine Inv_intro (ok_isWordByte _) ?_
      simp
      refine brn_app (fun b => ?_) (fun b => ?_)
      · simp
        rw [if_pos b, List.length_cons] at hw
        subst hI
        refine Less_mk (n - 1) (by omega) ⟨i + 1, by omega, by omega, by rw [wrNext i (by omega)]⟩
      · simp
        rw [if_neg (by simpa using b)] at hw
        have hw' : i = wlen s := hw
        subst hw'
        have hle : (wlen s : Int) ≤ s.size := by omega
        simp [hle]
    · simp [a]
      simp at a
      rw [List.drop_of_length_le (by simp; omega)] at hw
      have hw' : i = wlen s := hw
      subst hw'
      have hle : (wlen s : Int) ≤ s.size := by omega
      simp [hle]
def curP (code : List Int) (a s : Int) : PT := .sl 0 77 1 [rd 1 code.length (code.map pu), pi a, .raw (.int .u64 s)]
theorem nt_pu : ∀ l : List Int, PT.noTmpL (l.map pu) = true
  | [] => by simp [PT.noTmpL]
  | x :: l => by simp [PT.noTmpL, PT.noTmp, nt_pu l]
attribute [simp] nt_pu
def codeOK (code : List Int) : Prop := code.length ≤ 140737488351232 ∧ ∀ c ∈ code, 0 ≤ c ∧ c ≤ 255
def seedN (s b : Int) : Int := IntKind.wrap .u64 (IntKind.wrap .u64 (IntKind.wrap .u64 (s * 6364136223846793005) + IntKind.wrap .u64 b) + 1442695040888963407)
def codeN (x : Int) : Int := IntKind.i64.wrap (bitAnd IntKind.u64 (x.fdiv (2 ^ min 40 IntKind.u64.bits)) 255)
theorem and_range (y : Int) : 0 ≤ IntKind.i64.wrap (bitAnd IntKind.u64 y 255) ∧ IntKind.i64.wrap (bitAnd IntKind.u64 y 255) ≤ 255 := by
  have h1 : (BitVec.ofInt IntKind.u64.bits y &&& BitVec.ofInt IntKind.u64.bits 255).toNat ≤ 255 := by
    rw [BitVec.toNat_and]
    exact Nat.and_le_right
  have h2 : ∀ n : Fin 256, IntKind.i64.wrap (IntKind.u64.wrap (n.1 : Int)) = (n.1 : Int) := by decide
  unfold bitAnd
  generalize (BitVec.ofInt IntKind.u64.bits y &&& BitVec.ofInt IntKind.u64.bits 255).toNat = n at h1
  have h3 := h2 ⟨n, by omega⟩
  simp only at h3
  rw [h3]
  omega
theorem ok_next (code : List Int) (hc : codeOK code) (a s : Int) (ha : 0 ≤ a) (ha2 : a ≤ 4000000) : ∃ r s', (0 ≤ r ∧ r ≤ 255) ∧ CallOK Try.prog 102 [.bp (curP code a s)] (.c (pi r)) [.bp (curP code (a + 1) s')] := by
  obtain ⟨hl, hc⟩ := hc
  have w1 : IntKind.i64.wrap (a + 1) = a + 1 := wrap64 (by omega) (by omega)
  unfold curP
  by_cases c1 : a < code.length
  · have hat : a.toNat < code.length := by omega
    have hb := hc _ (List.getElem_mem hat)
    have hd : List.drop a.toNat (code.map pu) = pu code[a.toNat] :: List.drop (a.toNat + 1) (code.map pu) := by
      rw [List.drop_eq_getElem_cons (by rw [List.length_map]; exact hat), List.getElem_map]
    generalize code[a.toNat] = b at hb hd
    have wb : IntKind.i64.wrap b = b := wrap64 (by omega) (by omega)
    have c2 : a + 1 ≤ (code.length : Int) := by omega
    refine ⟨b, seedN s b, hb, ?_⟩
    refine okS (fn := Try.f102) [] h0 Try.func102 (by kernel_rfl) rfl Try.ntmps102 Try.results102 (by simp) ?_
    simp
    refine drawP (tabEnv [] []) [⟨[.arg 0 0], allD 62, true⟩, ⟨[.arg 0 0], allD 62, true⟩, ⟨[.arg 0 0], allD 62, true⟩, ⟨[.arg 0 0], allD 62, true⟩, ⟨[.arg 0 0], allD 62, true⟩, ⟨[.arg 0 0], allD 62, true⟩, ⟨[.arg 0 0], allD 62, true⟩, ⟨[.arg 0 0], allD 62, true⟩, ⟨[], allD 62, true⟩, ⟨[], allD 62, true⟩] h0 hm (tabEnv_ok tab_nil) (by kernel_rfl) (by kernel_rfl) ?_
    simp [c1]
    refine drawP (tabEnv [] []) [⟨[.arg 0 0], allD 62, true⟩, ⟨[.arg 0 0], allD 62, true⟩, ⟨[.arg 0 0], allD 62, true⟩, ⟨[.arg 0 0], allD 62, true⟩, ⟨[.arg 0 0], allD 62, true⟩, ⟨[.arg 0 0], allD 62, true⟩, ⟨[.arg 0 0], allD 62, true⟩, ⟨[.arg 0 0], allD 62, true⟩, ⟨[], allD 62, true⟩, ⟨[], allD 62, true⟩, ⟨[], allD 62, true⟩, ⟨[], allD 62, true⟩] h0 hm (tabEnv_ok tab_nil) (by kernel_rfl) (by kernel_rfl) ?_
    simp [c1, ha, hat, hd, wb, w1]
    refine drawP (tabEnv [] []) [⟨[.arg 0 0], allD 62, true⟩, ⟨[.arg 0 0], allD 62, true⟩, ⟨[.arg 0 0], allD 62, true⟩, ⟨[.arg 0 0], allD 62, true⟩, ⟨[.arg 0 0], allD 62, true⟩, ⟨[.arg 0 0], allD 62, true⟩, ⟨[.arg 0 0], allD 62, true⟩, ⟨[.arg 0 0], allD 62, true⟩, ⟨[], allD 62, true⟩, ⟨[], allD 62, true⟩] h0 hm (tabEnv_ok tab_nil) (by kernel_rfl) (by kernel_rfl) ?_
    simp [c2, seedN]
  · refine ⟨codeN (seedN s 0), seedN s 0, and_range _, ?_⟩
    have c2 : ¬ a + 1 ≤ (code.length : Int) := by omega
    refine okS (fn := Try.f102) [] h0 Try.func102 (by kernel_rfl) rfl Try.ntmps102 Try.results102 (by simp) ?_
    simp
    refine drawP (tabEnv [] []) [⟨[.arg 0 0], allD 62, true⟩, ⟨[.arg 0 0], allD 62, true⟩, ⟨[.arg 0 0], allD 62, true⟩, ⟨[.arg 0 0], allD 62, true⟩, ⟨[.arg 0 0], allD 62, true⟩, ⟨[.arg 0 0], allD 62, true⟩, ⟨[.arg 0 0], allD 62, true⟩, ⟨[.arg 0 0], allD 62, true⟩, ⟨[], allD 62, true⟩, ⟨[], allD 62, true⟩] h0 hm (tabEnv_ok tab_nil) (by kernel_rfl) (by kernel_rfl) ?_
    simp [c1, w1]
    refine drawP (tabEnv [] []) [⟨[.arg 0 0], allD 62, true⟩, ⟨[.arg 0 0], allD 62, true⟩, ⟨[.arg 0 0], allD 62, true⟩, ⟨[.arg 0 0], allD 62, true⟩, ⟨[.arg 0 0], allD 62, true⟩, ⟨[.arg 0 0], allD 62, true⟩, ⟨[.arg 0 0], allD 62, true⟩, ⟨[.arg 0 0], allD 62, true⟩, ⟨[], allD 62, true⟩, ⟨[], allD 62, true⟩] h0 hm (tabEnv_ok tab_nil) (by kernel_rfl) (by kernel_rfl) ?_
    simp [c2, seedN, codeN]
theorem ok_pick (code : List Int) (hc : codeOK code) (n : Int) (hn : n ≤ 200) (hn0 : 1 ≤ n) (a s : Int) (ha : 0 ≤ a) (ha2 : a ≤ 4000000) : ∃ r a' s', (0 ≤ r ∧ r ≤ n - 1) ∧ (a ≤ a' ∧ a' ≤ a + 1) ∧ CallOK Try.prog 63 [.bp (curP code a s), .c (pi n)] (.c (pi r)) [.bp (curP code a' s'), .c (pi n)] := by
  by_cases c1 : n ≤ 1
  · refine ⟨0, a, s, by omega, by omega, ?_⟩
    refine okS (fn := Try.f63) [(102, [1])] h0 Try.func63 (by kernel_rfl) rfl Try.ntmps63 Try.results63 (by simp) ?_
    simp [c1, curP]
  · obtain ⟨x, s', hx, hcall⟩ := ok_next code hc a s ha ha2
    have c2 : ¬ 200 < n := by omega
    have c3 : ¬ n = 0 := by omega
    have h1 : 0 ≤ x.tmod n := Int.tmod_nonneg n hx.1
    have h2 : x.tmod n < n := Int.tmod_lt_of_pos x (by omega)
    have w1 : IntKind.i64.wrap (x.tmod n) = x.tmod n := wrap64 (by omega) (by omega)
    refine ⟨x.tmod n, a + 1, s', by omega, by omega, ?_⟩
    refine okS (fn := Try.f63) [(102, [1])] h0 Try.func63 (by kernel_rfl) rfl Try.ntmps63 Try.results63 (by simp) ?_
    unfold curP at hcall ⊢
    simp [c1]
    refine Inv_intro hcall ?_
    simp [c2, c3, w1]
theorem ok_one (code : List Int) (hc : codeOK code) (n : Int) (hn : n ≤ 200) (hn0 : 1 ≤ n) (a s : Int) (ha : 0 ≤ a) (ha2 : a ≤ 4000000) : ∃ r a' s', (a ≤ a' ∧ a' ≤ a + 1) ∧ CallOK Try.prog 60 [.bp (curP code a s), .c (pi n)] (.c (pb r)) [.bp (curP code a' s'), .c (pi n)] := by
  obtain ⟨x, a', s', hx, ha', hcall⟩ := ok_pick code hc n hn hn0 a s ha ha2
  refine ⟨decide (x = 0), a', s', ha', ?_⟩
  refine okS (fn := Try.f60) [(63, [1])] h0 Try.func60 (by kernel_rfl) rfl Try.ntmps60 Try.results60 (by simp) ?_
  unfold curP at hcall ⊢
  simp
  refine Inv_intro hcall ?_
  simp
theorem ok_of (q : Nat) (code : List Int) (hc : codeOK code) (l : List ByteArray) (hl : l.length ≤ 200) (hl0 : 1 ≤ l.length) (a s : Int) (ha : 0 ≤ a) (ha2 : a ≤ 4000000) : ∃ r a' s', r ∈ l ∧ (a ≤ a' ∧ a' ≤ a + 1) ∧ CallOK Try.prog 69 [.bp (curP code a s), .c (rd q l.length (l.map ps))] (.c (ps r)) [.bp (curP code a' s'), .c (rd q l.length (l.map ps))] := by
  obtain ⟨x, a', s', hx, ha', hcall⟩ := ok_pick code hc (l.length : Int) (by omega) (by omega) a s ha ha2
  have hat : x.toNat < l.length := by omega
  have hd : List.drop x.toNat (l.map ps) = ps l[x.toNat] :: List.drop (x.toNat + 1) (l.map ps) := by
    rw [List.drop_eq_getElem_cons (by rw [List.length_map]; exact hat), List.getElem_map]
  have hm' := List.getElem_mem hat
  have hx2 : x < l.length := by omega
  generalize l[x.toNat] = r at hd hm'
  refine ⟨r, a', s', hm', ha', ?_⟩
  refine okS (fn := Try.f69) [(63, [1])] h0 Try.func69 (by kernel_rfl) rfl Try.ntmps69 Try.results69 (by simp) ?_
  unfold curP at hcall ⊢
  simp
  refine Inv_intro hcall ?_
  simp [hx.1, hx2, hat, hd]
theorem ok_among (q : Nat) (code : List Int) (hc : codeOK code) (l : List Int) (hl : l.length ≤ 200) (hl0 : 1 ≤ l.length) (a s : Int) (ha : 0 ≤ a) (ha2 : a ≤ 4000000) : ∃ r a' s', r ∈ l ∧ (a ≤ a' ∧ a' ≤ a + 1) ∧ CallOK Try.prog 101 [.bp (curP code a s), .c (rd q l.length (l.map pi))] (.c (pi r)) [.bp (curP code a' s'), .c (rd q l.length (l.map pi))] := by
  obtain ⟨x, a', s', hx, ha', hcall⟩ := ok_pick code hc (l.length : Int) (by omega) (by omega) a s ha ha2
  have hat : x.toNat < l.length := by omega
  have hd : List.drop x.toNat (l.map pi) = pi l[x.toNat] :: List.drop (x.toNat + 1) (l.map pi) := by
    rw [List.drop_eq_getElem_cons (by rw [List.length_map]; exact hat), List.getElem_map]
  have hm' := List.getElem_mem hat
  have hx2 : x < l.length := by omega
  generalize l[x.toNat] = r at hd hm'
  refine ⟨r, a', s', hm', ha', ?_⟩
  refine okS (fn := Try.f101) [(63, [1])] h0 Try.func101 (by kernel_rfl) rfl Try.ntmps101 Try.results101 (by simp) ?_
  unfold curP at hcall ⊢
  simp
  refine Inv_intro hcall ?_
  simp [hx.1, hx2, hat, hd]
theorem open_U8 {n : Nat} {qs : List PT} (h : TyC Try.prog (n + 1) 5 qs) : ∃ x : Int, qs = [pu x] ∧ (0 ≤ x ∧ x ≤ 255) := by
  unfold TyC at h
  rw [Try.underlying5] at h
  simp only at h
  obtain ⟨m, rfl, hm⟩ := h
  refine ⟨m, rfl, ?_⟩
  simp [Lit.wf] at hm
  have e1 : IntKind.u8.min = 0 := by decide
  have e2 : IntKind.u8.max = 255 := by decide
  rw [e1, e2] at hm
  exact hm
theorem open_each {α : Type} {f : α → List PT} {q : α → Prop} : ∀ {cells : List (List PT)}, (∀ c ∈ cells, ∃ x, c = f x ∧ q x) → ∃ xs : List α, cells = xs.map f ∧ ∀ x ∈ xs, q x
  | [], _ => ⟨[], rfl, by simp⟩
  | c :: cs, h => by
    obtain ⟨x, hx, hq⟩ := h c (by simp)
    obtain ⟨xs, hxs, hqs⟩ := open_each (cells := cs) fun d hd => h d (by simp [hd])
    refine ⟨x :: xs, by rw [hx, hxs]; rfl, fun y hy => ?_⟩
    rcases List.mem_cons.1 hy with rfl | hy
    · exact hq
    · exact hqs y hy
theorem open_flat {α : Type} (f : α → PT) : ∀ xs : List α, (xs.map fun x => [f x]).flatten = xs.map f
  | [] => rfl
  | x :: xs => by simp [open_flat f xs]
theorem open_ByteS {n : Nat} {qs : List PT} (h : TyC Try.prog (n + 2) 22 qs) : ∃ x : (List Int), qs = [rd 1 x.length (x.map pu)] ∧ codeOK x := by
  unfold TyC at h
  rw [Try.underlying22] at h
  simp only at h
  obtain ⟨cells, rfl, hl, hc⟩ := h
  obtain ⟨xs, rfl, hx⟩ := open_each (f := fun x : Int => [pu x]) (q := fun x => 0 ≤ x ∧ x ≤ 255) (fun c hcc => open_U8 (hc c hcc)) 
  refine ⟨xs, ?_, ?_⟩
  · simp only [List.length_map, open_flat]
  · have e1 : Try.prog.bytesOf 5 = 1 := by kernel_rfl
    rw [e1, List.length_map] at hl
    have e2 : reachBytes = 140737488351232 := rfl
    rw [e2] at hl
    exact ⟨by omega, hx⟩
def sLt (u v : ByteArray) : Bool := Op.bytesLess u.toList v.toList
theorem bless_irr : ∀ l : List UInt8, Op.bytesLess l l = false
  | [] => rfl
  | a :: l => by
    unfold Op.bytesLess
    rw [bless_irr l]
    simp
theorem sl_irr (u : ByteArray) : sLt u u = false := bless_irr _
def cmpS (u v : ByteArray) : Int := if sLt u v = true then -1 else if u = v then 0 else 1
theorem cmpS_eq (u : ByteArray) : cmpS u u = 0 := by simp [cmpS, sl_irr]
theorem cmpS_ne {u v : ByteArray} (h : ¬ u = v) : ¬ cmpS u v = 0 := by
  unfold cmpS
  split
  · omega
  · simp [h]
theorem cmpS_z {u v : ByteArray} (h : cmpS u v = 0) : u = v := Classical.byContradiction fun hn => cmpS_ne hn h
def cmpP : List ByteArray → List ByteArray → Int
  | [], [] => 0
  | [], _ :: _ => -1
  | _ :: _, [] => 1
  | a :: us, b :: vs => if cmpS a b = 0 then cmpP us vs else cmpS a b
def lessP : List ByteArray → List ByteArray → Bool
  | [], [] => false
  | [], _ :: _ => true
  | _ :: _, [] => false
  | a :: us, b :: vs => if a = b then lessP us vs else sLt a b
def begP : List ByteArray → List ByteArray → Bool
  | [], _ => true
  | _ :: _, [] => false
  | a :: us, b :: vs => decide (a = b) && begP us vs
theorem cmpP_less : ∀ a b : List ByteArray, decide (0 ≤ cmpP a b) = !lessP a b
  | [], [] => rfl
  | [], _ :: _ => rfl
  | _ :: _, [] => rfl
  | a :: us, b :: vs => by
    unfold cmpP lessP
    by_cases h : a = b
    · subst h
      rw [cmpS_eq, if_pos rfl, if_pos rfl]
      exact cmpP_less us vs
    · rw [if_neg (cmpS_ne h), if_neg h]
      unfold cmpS
      cases hs : sLt a b <;> simp [h]
theorem begP_take : ∀ a b : List ByteArray, a.length ≤ b.length → begP a b = decide (a = b.take a.length)
  | [], _, _ => by simp [begP]
  | _ :: _, [], h => by simp at h
  | a :: us, b :: vs, h => by
    have := begP_take us vs (by simpa using h)
    simp [begP, this]
theorem begP_long : ∀ a b : List ByteArray, b.length < a.length → begP a b = false
  | [], _, h => by simp at h
  | _ :: _, [], _ => rfl
  | a :: us, b :: vs, h => by simp [begP, begP_long us vs (by simpa using h)]
theorem ok_isNaN (s : ByteArray) : CallOK Try.prog 139 [.c (ps s)] (.c (pb false)) [.c (ps s)] := by
  refine okS (fn := Try.f139) [] h0 Try.func139 (by kernel_rfl) rfl Try.ntmps139 Try.results139 (by simp) ?_
  simp
theorem ok_cmpS (u v : ByteArray) : CallOK Try.prog 122 [.c (ps u), .c (ps v)] (.c (pi (cmpS u v))) [.c (ps u), .c (ps v)] := by
  refine okS (fn := Try.f122) [] h0 Try.func122 (by kernel_rfl) rfl Try.ntmps122 Try.results122 (by simp) ?_
  simp
  refine Inv_intro (ok_isNaN u) ?_
  simp
  refine Inv_intro (ok_isNaN v) ?_
  simp
  refine brn_app (fun a => ?_) (fun a => ?_)
  · have a' : sLt u v = true := a
    simp [cmpS, a']
  · have a' : sLt u v = false := a
    simp
    refine brn_app (fun b => ?_) (fun b => ?_)
    · have b' : u ≠ v := by
        rintro rfl
        simp at b
      simp [cmpS, a', b']
    · have b' : u = v := by
        have e : Op.bytesLess u.toList v.toList = false := a
        rw [e] at b
        simp at b
        exact bytes_toList_inj b
      subst b'
      simp [cmpS, a']
theorem ok_cmpP (k k' : Nat) (xs ys : List ByteArray) (ha : xs.length ≤ 140737488351232) (hb : ys.length ≤ 140737488351232) : CallOK Try.prog 94 [.c (rd k xs.length (xs.map ps)), .c (rd k' ys.length (ys.map ps))] (.c (pi (cmpP xs ys))) [.c (rd k xs.length (xs.map ps)), .c (rd k' ys.length (ys.map ps))] := by
  refine okS (fn := Try.f94) [] h0 Try.func94 (by kernel_rfl) rfl Try.ntmps94 Try.results94 (by simp) ?_
  simp
  refine loopS [0, 1, 9, 10, 11] [] (fun n st => ∃ (i : Nat), i + n = xs.length ∧ i ≤ ys.length ∧ cmpP (xs.drop i) (ys.drop i) = cmpP xs ys ∧ st = ⟨slOf 36 [(0, .t (rd k xs.length (xs.map ps))), (1, .t (rd k' ys.length (ys.map ps))), (9, .t (rd k xs.length (xs.map ps))), (10, .t (pi xs.length)), (11, .t (pi i))], ofL []⟩) xs.length ?_ ?_
  · rintro Inv hI
    simp
    subst hI
    exact ⟨0, by omega, by omega, rfl, rfl⟩
  · rintro Inv hI n st ⟨i, hi, hiy, hc, rfl⟩
    refine ewr_sound (M := []) h0 ?_
    simp
    refine brn_app (fun h => ?_) (fun h => ?_)
    · simp at h
      rw [drop_step xs i h] at hc
      simp [h]
      refine brn_app (fun h2 => ?_) (fun h2 => ?_)
      · simp at h2
        rw [List.drop_of_length_le (show ys.length ≤ i by omega), cmpP] at hc
        simp [← hc]
      · simp at h2
        rw [drop_step ys i h2, cmpP] at hc
        simp [h2]
        refine Inv_intro (ok_cmpS _ _) ?_
        simp
        refine brn_app (fun h3 => ?_) (fun h3 => ?_)
        · simp at h3
          rw [if_neg h3] at hc
          simp [hc]
        · simp at h3
          rw [if_pos h3] at hc
          simp
          subst hI
          exact Less_mk (n - 1) (by omega) ⟨i + 1, by omega, by omega, hc, by rw [wrNext i (by omega)]⟩
    · simp at h
      rw [List.drop_of_length_le (by omega)] at hc
      simp
      refine brn_app (fun h2 => ?_) (fun h2 => ?_)
      · simp at h2
        rw [drop_step ys i (by omega), cmpP] at hc
        simp [← hc]
      · simp at h2
        rw [List.drop_of_length_le (by omega), cmpP] at hc
        simp [← hc]
theorem ok_l15Less (k k' : Nat) (xs ys : List ByteArray) (ha : xs.length ≤ 140737488351232) (hb : ys.length ≤ 140737488351232) : CallOK Try.prog 111 [.c (rd k xs.length (xs.map ps)), .c (rd k' ys.length (ys.map ps))] (.c (pb (lessP xs ys))) [.c (rd k xs.length (xs.map ps)), .c (rd k' ys.length (ys.map ps))] := by
  refine okS (fn := Try.f111) [] h0 Try.func111 (by kernel_rfl) rfl Try.ntmps111 Try.results111 (by simp) ?_
  simp
  refine loopS [0, 1, 7, 8] [] (fun n st => ∃ (i : Nat), i + n = xs.length ∧ i ≤ ys.length ∧ lessP (xs.drop i) (ys.drop i) = lessP xs ys ∧ st = ⟨slOf 39 [(0, .t (rd k xs.length (xs.map ps))), (1, .t (rd k' ys.length (ys.map ps))), (7, .t (pi xs.length)), (8, .t (pi i))], ofL []⟩) xs.length ?_ ?_
  · rintro Inv hI
    simp
    subst hI
    exact ⟨0, by omega, by omega, rfl, rfl⟩
  · rintro Inv hI n st ⟨i, hi, hiy, hc, rfl⟩
    refine ewr_sound (M := []) h0 ?_
    simp
    refine brn_app (fun h => ?_) (fun h => ?_)
    · simp at h
      rw [drop_step xs i h] at hc
      simp
      refine brn_app (fun h2 => ?_) (fun h2 => ?_)
      · simp at h2
        rw [List.drop_of_length_le (show ys.length ≤ i by omega), lessP] at hc
        simp [← hc]
      · simp at h2
        have hib : i < ys.length := by omega
        rw [drop_step ys i hib, lessP] at hc
        simp
        refine drawP E0 [⟨[], allD 39, true⟩, ⟨[], allD 39, true⟩, ⟨[], allD 39, true⟩, ⟨[], allD 39, true⟩, ⟨[], allD 39, true⟩, ⟨[], allD 39, true⟩, ⟨[], allD 39, true⟩, ⟨[], allD 39, true⟩, ⟨[], allD 39, true⟩] h0 hm (E0_ok _) (by kernel_rfl) (by kernel_rfl) ?_
        simp [h, hib]
        refine brn_app (fun h3 => ?_) (fun h3 => ?_)
        · simp at h3
          rw [if_neg h3] at hc
          simp
          refine drawP E0 [⟨[], allD 39, true⟩, ⟨[], allD 39, true⟩, ⟨[], allD 39, true⟩, ⟨[], allD 39, true⟩, ⟨[], allD 39, true⟩, ⟨[], allD 39, true⟩, ⟨[], allD 39, true⟩, ⟨[], allD 39, true⟩, ⟨[], allD 39, true⟩, ⟨[], allD 39, true⟩] h0 hm (E0_ok _) (by kernel_rfl) (by kernel_rfl) ?_
          simp [h, hib, ← hc, sLt]
        · simp at h3
          rw [if_pos h3] at hc
          simp
          subst hI
          exact Less_mk (n - 1) (by omega) ⟨i + 1, by omega, by omega, hc, by rw [wrNext i (by omega)]⟩
    · simp at h
      rw [List.drop_of_length_le (by omega)] at hc
      simp
      by_cases h2 : i < ys.length
      · rw [drop_step ys i (by omega), lessP] at hc
        have : xs.length < ys.length := by omega
        simp [← hc, this]
      · rw [List.drop_of_length_le (by omega), lessP] at hc
        have : ¬ xs.length < ys.length := by omega
        simp [← hc, this]
theorem ok_l15Begins (k k' : Nat) (xs ys : List ByteArray) (ha : xs.length ≤ 140737488351232) (hb : ys.length ≤ 140737488351232) : CallOK Try.prog 108 [.c (rd k xs.length (xs.map ps)), .c (rd k' ys.length (ys.map ps))] (.c (pb (begP xs ys))) [.c (rd k xs.length (xs.map ps)), .c (rd k' ys.length (ys.map ps))] := by
  refine okS (fn := Try.f108) [] h0 Try.func108 (by kernel_rfl) rfl Try.ntmps108 Try.results108 (by simp) ?_
  simp
  refine loopS [0, 1, 7, 8] [] (fun n st => ∃ (i : Nat), i + n = xs.length ∧ i ≤ ys.length ∧ begP (xs.drop i) (ys.drop i) = begP xs ys ∧ st = ⟨slOf 27 [(0, .t (rd k xs.length (xs.map ps))), (1, .t (rd k' ys.length (ys.map ps))), (7, .t (pi xs.length)), (8, .t (pi i))], ofL []⟩) xs.length ?_ ?_
  · rintro Inv hI
    simp
    subst hI
    exact ⟨0, by omega, by omega, rfl, rfl⟩
  · rintro Inv hI n st ⟨i, hi, hiy, hc, rfl⟩
    refine ewr_sound (M := []) h0 ?_
    simp
    refine brn_app (fun h => ?_) (fun h => ?_)
    · simp at h
      rw [drop_step xs i h] at hc
      simp
      by_cases h2 : i < ys.length
      · rw [drop_step ys i h2, begP] at hc
        have h2' : ¬ (ys.length : Int) ≤ i := by omega
        refine drawP E0 [⟨[], allD 27, true⟩, ⟨[], allD 27, true⟩, ⟨[], allD 27, true⟩, ⟨[], allD 27, true⟩, ⟨[], allD 27, true⟩, ⟨[], allD 27, true⟩, ⟨[], allD 27, true⟩, ⟨[], allD 27, true⟩, ⟨[], allD 27, true⟩, ⟨[], allD 27, true⟩, ⟨[], allD 27, true⟩, ⟨[], allD 27, true⟩, ⟨[], allD 27, true⟩, ⟨[], allD 27, true⟩, ⟨[], allD 27, true⟩] h0 hm (E0_ok _) (by kernel_rfl) (by kernel_rfl) ?_
        simp [h, h2, h2']
        refine brn_app (fun h3 => ?_) (fun h3 => ?_)
        · simp at h3
          simp [h3] at hc
          simp [hc]
        · simp at h3
          simp [h3] at hc
          simp
          subst hI
          exact Less_mk (n - 1) (by omega) ⟨i + 1, by omega, by omega, hc, by rw [wrNext i (by omega)]⟩
      · have h2' : (ys.length : Int) ≤ i := by omega
        rw [List.drop_of_length_le (show ys.length ≤ i by omega), begP] at hc
        refine drawP E0 [⟨[], allD 27, true⟩, ⟨[], allD 27, true⟩, ⟨[], allD 27, true⟩, ⟨[], allD 27, true⟩, ⟨[], allD 27, true⟩, ⟨[], allD 27, true⟩, ⟨[], allD 27, true⟩, ⟨[], allD 27, true⟩, ⟨[], allD 27, true⟩, ⟨[], allD 27, true⟩, ⟨[], allD 27, true⟩, ⟨[], allD 27, true⟩, ⟨[], allD 27, true⟩, ⟨[], allD 27, true⟩, ⟨[], allD 27, true⟩] h0 hm (E0_ok _) (by kernel_rfl) (by kernel_rfl) ?_
        simp [h2', ← hc]
    · simp at h
      rw [List.drop_of_length_le (by omega), begP] at hc
      simp [← hc]
theorem ok_EqualS (k k' : Nat) (xs ys : List ByteArray) (ha : xs.length ≤ 140737488351232) (hb : ys.length ≤ 140737488351232) : CallOK Try.prog 123 [.c (rd k xs.length (xs.map ps)), .c (rd k' ys.length (ys.map ps))] (.c (pb (decide (xs = ys)))) [.c (rd k xs.length (xs.map ps)), .c (rd k' ys.length (ys.map ps))] := by
  refine okS (fn := Try.f123) [] h0 Try.func123 (by kernel_rfl) rfl Try.ntmps123 Try.results123 (by simp) ?_
  simp
  refine brn_app (fun h => ?_) (fun h => ?_)
  · simp at h
    simp
    rintro rfl
    exact h rfl
  · simp at h
    have hl : ys.length = xs.length := by omega
    simp
    refine loopS [0, 1, 12, 13] [] (fun n st => ∃ (i : Nat), i + n = xs.length ∧ (xs.drop i = ys.drop i ↔ xs = ys) ∧ st = ⟨slOf 26 [(0, .t (rd k xs.length (xs.map ps))), (1, .t (rd k' ys.length (ys.map ps))), (12, .t (pi xs.length)), (13, .t (pi i))], ofL []⟩) xs.length ?_ ?_
    · rintro Inv hI
      simp
      subst hI
      exact ⟨0, by omega, by simp, rfl⟩
    · rintro Inv hI n st ⟨i, hi, htk, rfl⟩
      refine ewr_sound (M := []) h0 ?_
      simp
      refine brn_app (fun h => ?_) (fun h => ?_)
      · simp at h
        have hib : i < ys.length := by omega
        rw [drop_step xs i h, drop_step ys i hib, List.cons.injEq] at htk
        simp
        refine drawP E0 [⟨[], allD 26, true⟩, ⟨[], allD 26, true⟩, ⟨[], allD 26, true⟩, ⟨[], allD 26, true⟩, ⟨[], allD 26, true⟩, ⟨[], allD 26, true⟩, ⟨[], allD 26, true⟩, ⟨[], allD 26, true⟩, ⟨[], allD 26, true⟩] h0 hm (E0_ok _) (by kernel_rfl) (by kernel_rfl) ?_
        simp [h, hib]
        refine brn_app (fun h2 => ?_) (fun h2 => ?_)
        · simp at h2
          simp
          intro he
          exact h2 (htk.2 he).1
        · simp at h2
          simp
          subst hI
          exact Less_mk (n - 1) (by omega) ⟨i + 1, by omega, ⟨fun h4 => htk.1 ⟨h2, h4⟩, fun h4 => (htk.2 h4).2⟩, by rw [wrNext i (by omega)]⟩
      · simp at h
        rw [List.drop_of_length_le (by omega), List.drop_of_length_le (by omega)] at htk
        simp
        exact htk.1 rfl
theorem ok_begins (k k' : Nat) (xs ys : List ByteArray) (ha : xs.length ≤ 140737488351232) (hb : ys.length ≤ 140737488351232) : CallOK Try.prog 95 [.c (rd k xs.length (xs.map ps)), .c (rd k' ys.length (ys.map ps))] (.c (pb (begP xs ys))) [.c (rd k xs.length (xs.map ps)), .c (rd k' ys.length (ys.map ps))] := by
  refine okS (fn := Try.f95) [] h0 Try.func95 (by kernel_rfl) rfl Try.ntmps95 Try.results95 (by simp) ?_
  simp
  refine gT (fun a => ?_) (fun a => ?_)
  · have a1 : xs.length ≤ ys.length := by simpa using a
    simp [a, a1]
    have hc := ok_EqualS k k' xs (ys.take xs.length) ha (by simp; omega)
    simp [a1] at hc
    refine Inv_intro hc ?_
    simp [begP_take _ _ a1]
  · have a1 : ys.length < xs.length := by simpa using a
    simp [a, begP_long _ _ a1]
def mtGo : Nat → Int → ByteArray → ByteArray
  | 0, _, s => s
  | n + 1, k, s => if 0 < k then mtGo n (IntKind.wrap .i64 (k.tdiv 10)) (strOf [IntKind.wrap .u8 (IntKind.wrap .i64 (48 + k.tmod 10))] ++ s) else s
/-- The text that marks a string. -/
def mtext (k : Int) : ByteArray := if k ≤ 0 then ⟨#[109, 48]⟩ else ⟨#[109]⟩ ++ mtGo k.toNat k ⟨#[]⟩
theorem mtGo_size : ∀ (n : Nat) (k : Int) (s : ByteArray), (mtGo n k s).size ≤ n + s.size
  | 0, _, s => by simp [mtGo]
  | n + 1, k, s => by
    unfold mtGo
    split
    · have := mtGo_size n (IntKind.wrap .i64 (k.tdiv 10)) (strOf [IntKind.wrap .u8 (IntKind.wrap .i64 (48 + k.tmod 10))] ++ s)
      have e : (strOf [IntKind.wrap .u8 (IntKind.wrap .i64 (48 + k.tmod 10))] ++ s).size = 1 + s.size := by
        rw [ByteArray.size_append]; rfl
      omega
    · omega
abbrev cStringSo (xs : List ByteArray) : PT := .sl 0 9 xs.length (xs.map ps)
abbrev cStringSi (k : Nat) (xs : List ByteArray) : PT := rd k xs.length (xs.map ps)
def wt_StringS (xs : List ByteArray) : Nat := wtR ByteArray.size xs
theorem len_wt_StringS (xs : List ByteArray) : xs.length ≤ wt_StringS xs := by unfold wt_StringS wtR; omega
theorem mem_wt_StringS {xs : List ByteArray} {x : ByteArray} (h : x ∈ xs) : x.size ≤ wt_StringS xs := by
  have := wt_mem ByteArray.size h
  unfold wt_StringS wtR
  omega
def fits_StringS (xs : List ByteArray) : Prop := xs.length ≤ 140737488351232 ∧ ∀ x ∈ xs, x.size ≤ 140737488351232
def lens_StringS (xs : List ByteArray) : Prop := xs.length ≤ 140737488351232 ∧ ∀ x ∈ xs, True
def mk_StringS (xs : List ByteArray) (k : Int) : List ByteArray × Int := mkR (fun (_ : ByteArray) k => (mtext k, k + 1)) xs k
def cn_StringS (xs : List ByteArray) : Nat := cnR (fun (_ : ByteArray) => 1) xs
theorem mk_StringS_len (xs : List ByteArray) (k : Int) : (mk_StringS xs k).1.length = xs.length := mkR_len _ xs k
attribute [simp] mk_StringS_len
theorem mk_StringS_snd (xs : List ByteArray) (k : Int) : (mk_StringS xs k).2 = k + cn_StringS xs := mkR_snd (fun _ _ => rfl) xs k
theorem lens_of_StringS {xs : List ByteArray} (h : wt_StringS xs ≤ 1048576) : lens_StringS xs := by
  have hl := len_wt_StringS xs
  exact ⟨by omega, fun _ _ => trivial⟩
theorem cn_len_StringS (xs : List ByteArray) : cn_StringS xs ≤ 32 * xs.length := cnR_le0 (fun x => by omega) xs
theorem cn_le_StringS (xs : List ByteArray) : cn_StringS xs ≤ 32 * wt_StringS xs := cnR_le (fun _ => by omega) xs
end Go.V
