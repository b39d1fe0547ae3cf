/- What functions of the seat's program do, each proved of its code, under the bounds that its theorem names. -/
import Derived.Test.YtildjkidohpmbaaTai
import Derived.Deep.AppendSrc
import Derived.Laws.Externs
import Derived.Laws.IdiomCopy
import Derived.Lib.AppendZeros
import Derived.Lib.AppendZerosOnto
import Derived.Lib.JoinLaws
import Derived.Lib.Overlaps
import Derived.Lib.SliceRun
import Derived.Lib.Walk
import Derived.Shelf.Spec.SlicesInsert
import Derived.Shelf.Spec.SlicesInsertGrow
import Derived.WalkKit
set_option linter.all false
namespace Go.V
open Go.Proofs
set_option maxHeartbeats 1000000
set_option maxRecDepth 10000
set_option linter.unusedSimpArgs false
set_option linter.unusedVariables false
def begL (p : List ByteArray) (x : GLeaf) : Bool := begP p x.Path
def delL (p : List ByteArray) (l : List GLeaf) : List GLeaf := l.filter fun x => !begL p x
theorem delL_len (p : List ByteArray) (l : List GLeaf) : (delL p l).length ≤ l.length := List.length_filter_le _ _
def rDeleteAt (l : List GLeaf) (p : List ByteArray) : List GLeaf × Bool := if (goodC l && isP p && !decide ((delL p l).length = l.length)) = true then (delL p l, true) else ([], false)
theorem ok_DeleteAt1 (q k k' : Nat) (x : GLeaf) (p : List ByteArray) (hx : x.Path.length ≤ 140737488351232) (hp : p.length ≤ 140737488351232) : CallOK Try.prog 115 [.agg (GLeaf.ci k x), .ip q [rd k' p.length (p.map ps)]] (.c (pb (begL p x))) [.agg (GLeaf.ci k x), .ip q [rd k' p.length (p.map ps)]] := by
  refine okS (fn := Try.f115) [] h0 Try.func115 (by kernel_rfl) rfl Try.ntmps115 Try.results115 (by simp) ?_
  simp
  refine Inv_intro (ok_begins k' k p x.Path hp hx) ?_
  simp [begL]
theorem ok_iDeleteAt (k k' : Nat) (l : List GLeaf) (p : List ByteArray) (hl : l.length ≤ 1048576) (hx : ∀ x ∈ l, x.Path.length ≤ 1048576) (hlo : confOK l) (hp : strsOK p) : CallOK Try.prog 85 [.c (rd k l.length (l.flatMap (GLeaf.ci k))), .c (rd k' p.length (p.map ps))] (.tup [.c (.sl 0 103 (rDeleteAt l p).1.length ((rDeleteAt l p).1.flatMap GLeaf.co)), .c (pb (rDeleteAt l p).2)]) [.c (rd k l.length (l.flatMap (GLeaf.ci k))), .c (rd k' p.length (p.map ps))] := by
  refine okS (fn := Try.f85) [(114, [2])] h0 Try.func85 (by kernel_rfl) rfl Try.ntmps85 Try.results85 (by simp) ?_
  simp
  refine Inv_intro (ok_iGoodConfig k l hlo) ?_
  simp
  cases c1 : goodC l with
  | false => simp [rDeleteAt, c1]
  | true =>
    simp
    refine Inv_intro (ok_areWords k' p hp.1 hp.2) ?_
    simp
    cases c2 : isP p with
    | false => simp [rDeleteAt, c2]
    | true =>
      simp
      refine Inv_intro (ok_ownConfig k l hl hx) ?_
      simp
      refine Inv_intro (ok_DeleteFunc_Leaf 1 115 [[rd 0 p.length (p.map ps)]] (begL p) l hlo.1 (fun x hx => ok_DeleteAt1 1 0 0 x p (hlo.2 x hx).1.1 hp.1)) ?_
      have hdl : l.filter (fun x => !begL p x) = delL p l := rfl
      have hll := delL_len p l
      rw [hdl]
      simp
      refine brn_app (fun a => ?_) (fun a => ?_)
      · simp at a
        have h : (delL p l).length = l.length := by omega
        simp [rDeleteAt, h]
      · simp at a
        have h : ¬ (delL p l).length = l.length := by omega
        have er : rDeleteAt l p = (delL p l, true) := by simp [rDeleteAt, c1, c2, h]
        rw [er]
        simp
theorem ok_setAt2 (k k' : Nat) (x : GLeaf) (p : List ByteArray) (hx : x.Path.length ≤ 140737488351232) (hp : p.length ≤ 140737488351232) : CallOK Try.prog 134 [.agg (GLeaf.ci k x), .c (rd k' p.length (p.map ps))] (.c (pi (cmpP x.Path p))) [.agg (GLeaf.ci k x), .c (rd k' p.length (p.map ps))] := by
  refine okS (fn := Try.f134) [] h0 Try.func134 (by kernel_rfl) rfl Try.ntmps134 Try.results134 (by simp) ?_
  simp
  refine Inv_intro (ok_cmpP k k' x.Path p hx hp) ?_
  simp
def clashB (p : List ByteArray) (x : GLeaf) : Bool := begP x.Path p || begP p x.Path
theorem ok_setAt1 (q k k' : Nat) (x : GLeaf) (p : List ByteArray) (hx : x.Path.length ≤ 140737488351232) (hp : p.length ≤ 140737488351232) : CallOK Try.prog 132 [.agg (GLeaf.ci k x), .ip q [rd k' p.length (p.map ps)]] (.c (pb (clashB p x))) [.agg (GLeaf.ci k x), .ip q [rd k' p.length (p.map ps)]] := by
  refine okS (fn := Try.f132) [] h0 Try.func132 (by kernel_rfl) rfl Try.ntmps132 Try.results132 (by simp) ?_
  simp
  refine Inv_intro (ok_begins k k' x.Path p hx hp) ?_
  simp
  cases h : begP x.Path p with
  | true => simp [clashB, h]
  | false =>
    simp
    refine Inv_intro (ok_begins k' k p x.Path hp hx) ?_
    simp [clashB, h]
theorem ok_BS_Leaf (k k' : Nat) (xs : List GLeaf) (p : List ByteArray) (hl : confOK xs) (hp : p.length ≤ 140737488351232) (hmono : ∀ (i j : Nat) (hij : i < j) (hj : j < xs.length), cmpP xs[j].Path p < 0 → cmpP xs[i].Path p < 0) :
    CallOK Try.prog 133 [.c (rd k xs.length (xs.flatMap (GLeaf.ci k))), .c (rd k' p.length (p.map ps)), .c (.fn 0 134 [])] (.tup [.c (pi (bsI (fun o : GLeaf => cmpP o.Path p) xs)), .c (pb (bsF (fun o : GLeaf => cmpP o.Path p) xs))]) [.c (rd k xs.length (xs.flatMap (GLeaf.ci k))), .c (rd k' p.length (p.map ps)), .c (.fn 0 134 [])] := by
  refine okS (fn := Try.f133) [] h0 Try.func133 (by kernel_rfl) rfl Try.ntmps133 Try.results133 (by simp) ?_
  simp
  have hxl := hl.1
  refine loopS [0, 1, 2, 8, 9, 10] [] (fun m st => ∃ (i j : Nat), i + m = j ∧ j ≤ xs.length ∧ (∀ (q : Nat) (hq : q < i) (hl : q < xs.length), cmpP xs[q].Path p < 0) ∧ (∀ (q : Nat) (hq : j ≤ q) (hl : q < xs.length), 0 ≤ cmpP xs[q].Path p) ∧ st = ⟨slOf 49 [(0, .t (rd k xs.length (xs.flatMap (GLeaf.ci k)))), (1, .t (rd k' p.length (p.map ps))), (2, .t (.fn 0 134 [])), (8, .t (pi xs.length)), (9, .t (pi i)), (10, .t (pi j))], ofL []⟩) xs.length ?_ ?_
  · rintro Inv hI
    simp
    subst hI
    exact ⟨0, xs.length, by omega, by omega, by intro q hq; omega, by intro q hq h; omega, rfl⟩
  · rintro Inv hI m st ⟨i, j, hm, hj, hlo, hhi, rfl⟩
    refine ewr_sound (M := []) h0 ?_
    simp
    refine brn_app (fun a => ?_) (fun a => ?_)
    · simp at a
      have hw0 : IntKind.wrap .i64 ((i : Int) + j) = (i : Int) + j := wrap64 (by omega) (by omega)
      have hw := half_u64 i j (by omega)
      obtain ⟨h, hh⟩ : ∃ h, h = (i + j) / 2 := ⟨_, rfl⟩
      rw [← hh] at hw
      have hb : h < xs.length := by omega
      have hd := fm_drop (GLeaf.ci k) 2 (fun _ => rfl) xs h hb
      have hlen := fm_len (GLeaf.ci k) 2 (fun _ => rfl) xs
      have hlt : h * 2 < xs.length * 2 := by omega
      simp [hw0, hw, hb, hd, hlen, hlt]
      refine Inv_intro (ok_setAt2 k k' xs[h] p (hl.2 _ (List.getElem_mem hb)).1.1 hp) ?_
      simp
      refine brn_app (fun b => ?_) (fun b => ?_)
      · simp at b
        have hn1 : IntKind.wrap .i64 ((h : Int) + 1) = ((h + 1 : Nat) : Int) := wrNext h (by omega)
        simp
        subst hI
        refine Less_mk (j - (h + 1)) (by omega) ⟨h + 1, j, by omega, hj, ?_, hhi, by rw [hn1]⟩
        intro q hq hql
        rcases Nat.lt_or_ge q h with h' | h'
        · exact hmono q h h' hb b
        · have : q = h := by omega
          subst this
          exact b
      · simp at b
        simp
        subst hI
        refine Less_mk (h - i) (by omega) ⟨i, h, by omega, by omega, hlo, ?_, rfl⟩
        intro q hq hql
        rcases Nat.eq_or_lt_of_le hq with h' | h'
        · subst h'
          exact b
        · exact Int.not_lt.1 fun hc => by have := hmono h q h' hql hc; omega
    · simp at a
      have hij : i = j := by omega
      subst hij
      have e1 : bsI (fun o : GLeaf => cmpP o.Path p) xs = i := bsI_eq _ xs i hj hlo fun h => hhi i (Nat.le_refl _) h
      simp
      by_cases hb : i < xs.length
      · have hd := fm_drop (GLeaf.ci k) 2 (fun _ => rfl) xs i hb
        have hlen := fm_len (GLeaf.ci k) 2 (fun _ => rfl) xs
        have hlt : i * 2 < xs.length * 2 := by omega
        have e2 : bsF (fun o : GLeaf => cmpP o.Path p) xs = decide (cmpP xs[i].Path p = 0) := by simp only [bsF, e1, List.getElem?_eq_getElem hb]
        simp [hb, hd, hlen, hlt]
        refine Inv_intro (ok_setAt2 k k' xs[i] p (hl.2 _ (List.getElem_mem hb)).1.1 hp) ?_
        simp [e1, e2]
      · have e2 : bsF (fun o : GLeaf => cmpP o.Path p) xs = false := by simp only [bsF, e1, List.getElem?_eq_none (Nat.le_of_not_lt hb)]
        simp [hb, e1, e2]
theorem bless_trans : ∀ a b c : List UInt8, Op.bytesLess a b = true → Op.bytesLess b c = true → Op.bytesLess a c = true
  | [], [], _, h, _ => by simp [Op.bytesLess] at h
  | [], _ :: _, [], _, h => by simp [Op.bytesLess] at h
  | [], _ :: _, _ :: _, _, _ => by simp [Op.bytesLess]
  | _ :: _, [], _, h, _ => by simp [Op.bytesLess] at h
  | _ :: _, _ :: _, [], _, h => by simp [Op.bytesLess] at h
  | a :: ar, b :: br, c :: cr, h1, h2 => by
    have ih := bless_trans ar br cr
    unfold Op.bytesLess at h1 h2 ⊢
    simp only [Bool.or_eq_true, Bool.and_eq_true, decide_eq_true_eq, beq_iff_eq] at h1 h2 ⊢
    rcases h1 with h1 | ⟨rfl, h1⟩
    · rcases h2 with h2 | ⟨rfl, h2⟩
      · exact .inl (UInt8.lt_trans h1 h2)
      · exact .inl h1
    · rcases h2 with h2 | ⟨rfl, h2⟩
      · exact .inl h2
      · exact .inr ⟨rfl, ih h1 h2⟩
theorem sLt_trans {u v w : ByteArray} (h1 : sLt u v = true) (h2 : sLt v w = true) : sLt u w = true := bless_trans _ _ _ h1 h2
theorem lessP_trans : ∀ a b c : List ByteArray, lessP a b = true → lessP b c = true → lessP a c = true
  | [], [], _, h, _ => by simp [lessP] at h
  | [], _ :: _, [], _, h => by simp [lessP] at h
  | [], _ :: _, _ :: _, _, _ => by simp [lessP]
  | _ :: _, [], _, h, _ => by simp [lessP] at h
  | _ :: _, _ :: _, [], _, h => by simp [lessP] at h
  | a :: ar, b :: br, c :: cr, h1, h2 => by
    have ih := lessP_trans ar br cr
    unfold lessP at h1 h2 ⊢
    by_cases e1 : a = b
    · subst e1
      rw [if_pos rfl] at h1
      by_cases e2 : a = c
      · subst e2
        rw [if_pos rfl] at h2
        rw [if_pos rfl]
        exact ih h1 h2
      · rw [if_neg e2] at h2
        rw [if_neg e2]
        exact h2
    · rw [if_neg e1] at h1
      by_cases e2 : b = c
      · subst e2
        rw [if_neg e1]
        exact h1
      · rw [if_neg e2] at h2
        have h3 := sLt_trans h1 h2
        have e3 : ¬ a = c := by
          rintro rfl
          rw [sl_irr] at h3
          cases h3
        rw [if_neg e3]
        exact h3
theorem goodG_pair : ∀ (l : List GLeaf) (q : Option GLeaf), goodG q l = true → l.Pairwise (fun x y => lessP x.Path y.Path = true) ∧ ∀ y, q = some y → ∀ x ∈ l, lessP y.Path x.Path = true
  | [], q, _ => ⟨List.Pairwise.nil, fun _ _ _ h => absurd h (by simp)⟩
  | x :: l, q, h => by
    simp only [goodG, Bool.and_eq_true] at h
    obtain ⟨h1, h2⟩ := goodG_pair l (some x) h.2
    have hx := h2 x rfl
    refine ⟨List.pairwise_cons.2 ⟨hx, h1⟩, ?_⟩
    rintro y rfl z hz
    have hyx : lessP y.Path x.Path = true := by
      have := h.1.2
      simp only [adjC, Bool.and_eq_true] at this
      exact this.1
    rcases List.mem_cons.1 hz with rfl | hz
    · exact hyx
    · exact lessP_trans _ _ _ hyx (hx z hz)
theorem goodC_pair {l : List GLeaf} (h : goodC l = true) : l.Pairwise (fun x y => lessP x.Path y.Path = true) := by
  simp only [goodC, Bool.and_eq_true] at h
  exact (goodG_pair l none h.1).1
theorem cmpP_neg (a b : List ByteArray) : cmpP a b < 0 ↔ lessP a b = true := by
  have h := cmpP_less a b
  constructor
  · intro hc
    have : decide (0 ≤ cmpP a b) = false := by simp; omega
    rw [this] at h
    simpa using h.symm
  · intro hl
    rw [hl] at h
    simp at h
    omega
theorem pair_mono {m : List GLeaf} (h : m.Pairwise (fun x y => lessP x.Path y.Path = true)) (p : List ByteArray) (i j : Nat) (hij : i < j) (hj : j < m.length) : cmpP m[j].Path p < 0 → cmpP m[i].Path p < 0 := by
  rw [cmpP_neg, cmpP_neg]
  exact lessP_trans _ _ _ (List.pairwise_iff_getElem.1 h i j (by omega) hj hij)
theorem alloc_kp (bs : List Nat) (w : World) (blk : Obj) : Kp bs w (w.alloc blk) := ⟨rfl, rfl, rfl, by show w.heap.size ≤ (w.heap.push blk).size; rw [Array.size_push]; omega, fun k hk _ => by
  show (w.heap.push blk)[k]? = w.heap[k]?
  rw [Array.getElem?_push]
  rw [if_neg (by omega)]⟩
theorem alloc_at (w : World) (blk : Obj) : (w.alloc blk).heap[w.heap.size]? = some blk := by
  show (w.heap.push blk)[w.heap.size]? = some blk
  simp
/-- The cells of a row behind an insertion. -/
def insV (S i : Nat) (cv vv : List Value) : List Value := cv.take (i * S) ++ vv ++ cv.drop (i * S)
theorem insV_len (S i : Nat) (cv vv : List Value) : (insV S i cv vv).length = cv.length + vv.length := by
  unfold insV
  simp only [List.length_append, List.length_take, List.length_drop]
  omega
theorem insV_at (S i : Nat) (cv vv : List Value) (hv : vv.length = S) (hi : i * S ≤ cv.length) (j : Nat) : (insV S i cv vv)[j]? = if j < i * S then cv[j]? else if j < i * S + S then vv[j - i * S]? else cv[j - S]? := by
  have hl : (cv.take (i * S)).length = i * S := by rw [List.length_take]; omega
  unfold insV
  rw [List.append_assoc, List.getElem?_append, hl]
  split
  · rename_i h
    rw [List.getElem?_take, if_pos h]
  · rename_i h
    rw [List.getElem?_append, hv]
    split
    · rw [if_pos (by omega)]
    · rw [if_neg (by omega), List.getElem?_drop]
      congr 1
      omega
theorem getv {l : List Value} {j : Nat} {u : Value} (h : l[j]? = some u) : j < l.length := (List.getElem?_eq_some_iff.1 h).1
/-- A road of slices.Insert: at the end. -/
theorem ins_end (base : Option Addr) (vb n c vc : Nat) (w w1 : World) (r : Value) (hn : n ≤ c)
    (hr : ∀ ty, (Builtin.append_ #[58, 58] ty #[.slice base n c, .slice (some ⟨vb, 0, none⟩) 1 vc]).run Try.prog w = .ok r w1) :
    Calls Try.prog 135 #[.slice base n c, .int .i64 n, .slice (some ⟨vb, 0, none⟩) 1 vc] w fun e w' => e = .returned r ∧ w' = w1 := by
  have mixed : Try.prog.follows .mixedOrders = true := by kernel_rfl
  have tS : Try.prog.underlying 58 = some (.slice 103) := by kernel_rfl
  have uS := run_underlying tS
  have zE : ∀ w, (Go.sizeOf 103).run Try.prog w = .ok 2 w := fun w => by kernel_rfl
  have zS : ∀ w, (Go.sizeOf 58).run Try.prog w = .ok 1 w := fun w => by kernel_rfl
  have aS : ∀ w, (isAgg 58).run Try.prog w = .ok false w := fun w => by kernel_rfl
  have t3 : Try.prog.underlying 3 = some (.int .i64) := by kernel_rfl
  have u3 := run_underlying t3
  have a3 : ∀ w, (isAgg 3).run Try.prog w = .ok false w := fun w => by kernel_rfl
  have z3 : ∀ w, (Go.sizeOf 3).run Try.prog w = .ok 1 w := fun w => by kernel_rfl
  go_enter Try.func135, Try.ntmps135
  go_wp2_with (at_builtin; refine Lib.wpList_append_run _ rfl _ _ _ _ rfl _ _ rfl rfl _ _ (hr _) ?_)
  all_goals (go_ret; exact ⟨rfl, rfl⟩)
theorem run_copy_n {P : Program} (w : World) (dT sT ty elem : TypeId) (b o dLen dCap : Nat) (a : Addr) (sLen sCap sz : Nat) (cs : List Value)
    (hu : P.underlying dT = some (.slice elem)) (hs : (P.info? elem).map (·.size) = some sz) (hn : cs.length = Nat.min sLen dLen * sz)
    (hsrc : ∀ j v, cs[j]? = some v → w.cell? (a.add j) = some v) (hc : ∀ j, j < cs.length → (w.cell? ⟨b, o + j, none⟩).isSome = true) (hf : ∀ j, j < cs.length → w.frozen? ⟨b, o + j, none⟩ = false) (h1 : ∀ v ∈ cs, v.oneCell' = true) :
    (Builtin.copy_ #[dT, sT] ty #[.slice (some ⟨b, o, none⟩) dLen dCap, .slice (some a) sLen sCap]).run P w = .ok (goInt (Nat.min sLen dLen)) (w.setCells b o cs) := by
  have hl := run_loadCells_list (P := P) w a cs hsrc
  have hst := run_storeCells_cells (P := P) b o cs 0 w (by simpa using hc) (by simpa using hf) h1
  cases hq : P.info? elem with
  | none => simp [hq] at hs
  | some i =>
    have hi : i.size = sz := by simpa [hq] using hs
    simp [Builtin.copy_, run_underlying hu, Builtin.lenOf, Builtin.firstCells, sizeOf, typeInfo, hq, hi, ← hn, hl, hst]
/-- A road of slices.Insert: ahead of the end, with room. -/
theorem ins_shift (b vb n c i vc : Nat) (w w1 w2 : World) (x1 x2 : Value) (hi : i < n) (hn63 : n < 9223372036854775807) (hroom : n + 1 ≤ c)
    (hov : ∀ lb cb, (callFunc 143 #[.slice (some ⟨vb, 0, none⟩) 1 vc, .slice (some ⟨b, (i + 1) * 2, none⟩) lb cb]).run Try.prog w = .ok (.value (.bool false)) w)
    (hc1 : ∀ ty dc sc, (Builtin.copy_ #[58, 58] ty #[.slice (some ⟨b, (i + 1) * 2, none⟩) (n - i) dc, .slice (some ⟨b, i * 2, none⟩) (n + 1 - i) sc]).run Try.prog w.drew = .ok x1 w1)
    (hc2 : ∀ ty dc, (Builtin.copy_ #[58, 58] ty #[.slice (some ⟨b, i * 2, none⟩) (n + 1 - i) dc, .slice (some ⟨vb, 0, none⟩) 1 vc]).run Try.prog w1 = .ok x2 w2) :
    Calls Try.prog 135 #[.slice (some ⟨b, 0, none⟩) n c, .int .i64 i, .slice (some ⟨vb, 0, none⟩) 1 vc] w fun e w' => e = .returned (.slice (some ⟨b, 0, none⟩) (n + 1) c) ∧ w' = w2 := by
  have mixed : Try.prog.follows .mixedOrders = true := by kernel_rfl
  have tS : Try.prog.underlying 58 = some (.slice 103) := by kernel_rfl
  have uS := run_underlying tS
  have zE : ∀ w, (Go.sizeOf 103).run Try.prog w = .ok 2 w := fun w => by kernel_rfl
  have zS : ∀ w, (Go.sizeOf 58).run Try.prog w = .ok 1 w := fun w => by kernel_rfl
  have aS : ∀ w, (isAgg 58).run Try.prog w = .ok false w := fun w => by kernel_rfl
  have t3 : Try.prog.underlying 3 = some (.int .i64) := by kernel_rfl
  have u3 := run_underlying t3
  have a3 : ∀ w, (isAgg 3).run Try.prog w = .ok false w := fun w => by kernel_rfl
  have z3 : ∀ w, (Go.sizeOf 3).run Try.prog w = .ok 1 w := fun w => by kernel_rfl
  have hz2 : ¬ ((i : Int) = (n : Int)) := by omega
  have hw1 : IntKind.i64.wrap ((i : Int) + 1) = (i : Int) + 1 := by rw [IntKind.wrap_i64]; omega
  have hb1 : (0 : Int) ≤ (i : Int) + 1 := by omega
  have hin : i ≤ n := by omega
  have htn : ((i : Int) + 1).toNat = i + 1 := by omega
  have hb2 : ¬ (c = i + 1) := by omega
  have hb3 : (i : Int) ≤ (n : Int) + 1 := by omega
  have hb4 : ¬ (c = i) := by omega
  go_enter Try.func135, Try.ntmps135
  go_wp2_with (simp only [hov])
  go_region_law_o (refine step_copy_runI rfl _ _ 58 58 rfl _ _ (by simp [Act.eval, Act.put]) (by simp [Act.eval, Act.put]) (hc1 _ _ _) ?_)
  go_wp2_with (at_builtin; refine wpList_copy_runI _ rfl _ _ 58 58 rfl _ _ rfl rfl (hc2 _ _) ?_)
  go_ret
  exact ⟨rfl, rfl⟩
/-- A road of slices.Insert: ahead of the end, no room. -/
theorem ins_grow (b vb n c i vc N G : Nat) (w w1 w2 w3 : World) (x1 x2 : Value) (hi : i < n) (hn63 : n < 9223372036854775807) (hnc : n ≤ c) (hroom : c < n + 1) (hG : n + 1 ≤ G)
    (hr : ∀ ty, (Builtin.append_ #[58, 3] ty #[.slice (some ⟨b, 0, none⟩) i c, .int .i64 ((n : Int) + 1 - (i : Int))]).run Try.prog w = .ok (.slice (some ⟨N, 0, none⟩) (n + 1) G) w1)
    (hc1 : ∀ ty dc, (Builtin.copy_ #[58, 58] ty #[.slice (some ⟨N, i * 2, none⟩) (n + 1 - i) dc, .slice (some ⟨vb, 0, none⟩) 1 vc]).run Try.prog w1 = .ok x1 w2)
    (hc2 : ∀ ty dc sc, (Builtin.copy_ #[58, 58] ty #[.slice (some ⟨N, (i + 1) * 2, none⟩) (n - i) dc, .slice (some ⟨b, i * 2, none⟩) (n - i) sc]).run Try.prog w2.drew = .ok x2 w3) :
    Calls Try.prog 135 #[.slice (some ⟨b, 0, none⟩) n c, .int .i64 i, .slice (some ⟨vb, 0, none⟩) 1 vc] w fun e w' => e = .returned (.slice (some ⟨N, 0, none⟩) (n + 1) G) ∧ w' = w3 := by
  have mixed : Try.prog.follows .mixedOrders = true := by kernel_rfl
  have tS : Try.prog.underlying 58 = some (.slice 103) := by kernel_rfl
  have uS := run_underlying tS
  have zE : ∀ w, (Go.sizeOf 103).run Try.prog w = .ok 2 w := fun w => by kernel_rfl
  have zS : ∀ w, (Go.sizeOf 58).run Try.prog w = .ok 1 w := fun w => by kernel_rfl
  have aS : ∀ w, (isAgg 58).run Try.prog w = .ok false w := fun w => by kernel_rfl
  have t3 : Try.prog.underlying 3 = some (.int .i64) := by kernel_rfl
  have u3 := run_underlying t3
  have a3 : ∀ w, (isAgg 3).run Try.prog w = .ok false w := fun w => by kernel_rfl
  have z3 : ∀ w, (Go.sizeOf 3).run Try.prog w = .ok 1 w := fun w => by kernel_rfl
  have hz2 : ¬ ((i : Int) = (n : Int)) := by omega
  have hz3 : (c : Int) < (n : Int) + 1 := by omega
  have hw0 : IntKind.i64.wrap ((n : Int) + 1) = (n : Int) + 1 := by rw [IntKind.wrap_i64]; omega
  have hw1 : IntKind.i64.wrap ((i : Int) + 1) = (i : Int) + 1 := by rw [IntKind.wrap_i64]; omega
  have hw2 : IntKind.i64.wrap ((n : Int) + 1 - (i : Int)) = (n : Int) + 1 - (i : Int) := by rw [IntKind.wrap_i64]; omega
  have hb1 : (0 : Int) ≤ (i : Int) + 1 := by omega
  have hin : i ≤ n := by omega
  have htn : ((i : Int) + 1).toNat = i + 1 := by omega
  have hGi : ¬ (G = i) := by omega
  have hGim : ¬ (G = i + 1) := by omega
  have hci : ¬ (c = i) := by omega
  have hb3 : (i : Int) ≤ (n : Int) := by omega
  go_enter Try.func135, Try.ntmps135
  go_wp2_with (first
    | (at_builtin; refine Lib.wpList_append_run _ rfl _ _ _ _ rfl _ _ rfl rfl _ _ (hr _) ?_)
    | (at_builtin; refine wpList_copy_runI _ rfl _ _ 58 58 rfl _ _ rfl rfl (hc1 _ _) ?_))
  go_region_law_o (refine step_copy_runI rfl _ _ 58 58 rfl _ _ (by simp [Act.eval, Act.put]) (by simp [Act.eval, Act.put]) (hc2 _ _ _) ?_)
  go_wp2
  go_ret
  exact ⟨rfl, rfl⟩
theorem ins_world (b vb n c i vc : Nat) (w : World) (arr va : Array Value) (cv vv : List Value) (hba : w.heap[b]? = some (.cells arr 103 (0, 0))) (hvb : w.heap[vb]? = some (.cells va 103 (0, 0))) (hne : vb ≠ b)
    (hcl : cv.length = n * 2) (hvl : vv.length = 2) (hca : c * 2 ≤ arr.size) (hva : 2 ≤ va.size) (hnc : n ≤ c) (hi : i ≤ n)
    (hcv : ∀ (j : Nat) u, cv[j]? = some u → arr[j]? = some u) (hvv : ∀ (j : Nat) u, vv[j]? = some u → va[j]? = some u) (h1c : ∀ v ∈ cv, v.oneCell' = true) (h1v : ∀ v ∈ vv, v.oneCell' = true)
    (hbig : (n + 1) * 40 ≤ 140737488355328) :
    ∃ (b' c' : Nat) (arr' : Array Value) (w' : World), Calls Try.prog 135 #[.slice (some ⟨b, 0, none⟩) n c, .int .i64 i, .slice (some ⟨vb, 0, none⟩) 1 vc] w (fun e w'' => e = .returned (.slice (some ⟨b', 0, none⟩) (n + 1) c') ∧ w'' = w') ∧
      w'.heap[b']? = some (.cells arr' 103 (0, 0)) ∧ c' * 2 ≤ arr'.size ∧ n + 1 ≤ c' ∧ (∀ (j : Nat) u, (insV 2 i cv vv)[j]? = some u → arr'[j]? = some u) ∧ (b' = b ∨ w.heap.size ≤ b') ∧ Kp [b] w w' := by
  have tS : Try.prog.underlying 58 = some (.slice 103) := by kernel_rfl
  have t3 : Try.prog.underlying 3 = some (.int .i64) := by kernel_rfl
  have zE : ∀ w, (Go.sizeOf 103).run Try.prog w = .ok 2 w := fun w => by kernel_rfl
  obtain ⟨inf, hinf⟩ := tsz_info (P := Try.prog) (t := 103) (by simp)
  have hsz : inf.size = 2 := by
    have h1 : tsz Try.prog 103 = inf.size := by simp only [tsz, hinf]
    have h2 : tsz Try.prog 103 = 2 := by kernel_rfl
    omega
  have hby : inf.bytes = 40 := by
    have h1 : tby Try.prog 103 = inf.bytes := by simp only [tby, hinf]
    have h2 : tby Try.prog 103 = 40 := by kernel_rfl
    omega
  have hszs : (Try.prog.info? 103).map (·.size) = some 2 := by rw [hinf, Option.map_some, hsz]
  obtain ⟨z, hz⟩ : ∃ z, inf.zero = some z := by
    have h2 : (tzero Try.prog 103).isSome = true := by kernel_rfl
    have h1 : tzero Try.prog 103 = inf.zero := by simp only [tzero, hinf]
    rw [h1] at h2
    exact Option.isSome_iff_exists.1 h2
  have hzs : z.cells.size = 2 := by
    have h2 : (tzero Try.prog 103).map (fun z => z.cells.size) = some 2 := by kernel_rfl
    have h1 : tzero Try.prog 103 = inf.zero := by simp only [tzero, hinf]
    rw [h1, hz] at h2
    simpa using h2
  have hcellb : ∀ (k : Nat) u, cv[k]? = some u → w.cell? ⟨b, k, none⟩ = some u := fun k u h => by rw [cell_at hba]; exact hcv k u h
  have hcellv : ∀ (k : Nat) u, vv[k]? = some u → w.cell? ⟨vb, k, none⟩ = some u := fun k u h => by rw [cell_at hvb]; exact hvv k u h
  have hvlt : vb < w.heap.size := (Array.getElem?_eq_some_iff.1 hvb).1
  have hblt : b < w.heap.size := (Array.getElem?_eq_some_iff.1 hba).1
  by_cases hin : i = n
  · subst hin
    have hins : insV 2 i cv vv = cv ++ vv := by
      unfold insV
      rw [List.take_of_length_le (by omega), List.drop_of_length_le (by omega), List.append_nil]
    rw [hins]
    by_cases hroom : i + 1 ≤ c
    · have hr : ∀ ty, (Builtin.append_ #[58, 58] ty #[.slice (some ⟨b, 0, none⟩) i c, .slice (some ⟨vb, 0, none⟩) 1 vc]).run Try.prog w = .ok (.slice (some ⟨b, 0, none⟩) (i + 1) c) (w.setCells b (i * 2) vv) := fun ty => by
        have h := run_append_room_cells (P := Try.prog) w 58 ty 103 inf tS hinf b 0 i c ⟨vb, 0, none⟩ 1 vc vv (by rw [hsz, hvl]) (fun j u hj => by rw [Addr.add_lit, Nat.zero_add]; exact hcellv j u hj) h1v hroom
          (fun j hj => by rw [cell_at hba, hsz, Array.getElem?_eq_getElem (by omega)]; rfl) (fun j hj => by simp [World.frozen?, hba])
        rw [hsz, Nat.zero_add] at h
        exact h
      obtain ⟨arr', r1, r2, r3⟩ := setCells_heap vv (i * 2) w arr hba
      refine ⟨b, c, arr', _, ins_end (some ⟨b, 0, none⟩) vb i c vc w _ _ hnc hr, r1, by omega, hroom, ?_, .inl rfl, setCells_kp b vv _ w⟩
      intro j u hj
      rw [r3]
      rw [List.getElem?_append] at hj
      split at hj
      · rw [if_neg (by omega)]
        exact hcv j u hj
      · have := getv hj
        rw [if_pos (by omega), ← hcl]
        exact hj
    · have hr : ∀ ty, (Builtin.append_ #[58, 58] ty #[.slice (some ⟨b, 0, none⟩) i c, .slice (some ⟨vb, 0, none⟩) 1 vc]).run Try.prog w = .ok (.slice (some ⟨w.heap.size, 0, none⟩) (i + 1) (grownCap w (i + 1) c 103)) (w.drew.alloc (.cells (cv.toArray ++ vv.toArray ++ Builtin.zeroCells z.cells (grownCap w (i + 1) c 103 - (i + 1))) 103)) := fun ty =>
        run_append_grow (P := Try.prog) w 58 ty 103 inf z tS hinf hz ⟨b, 0, none⟩ i c cv (by rw [hsz, hcl]) (fun j u hj => by rw [Addr.add_lit, Nat.zero_add]; exact hcellb j u hj) ⟨vb, 0, none⟩ 1 vc vv (by rw [hsz, hvl]) (fun j u hj => by rw [Addr.add_lit, Nat.zero_add]; exact hcellv j u hj) (by omega) (by omega) (growslice_fits (by omega) (by rw [hby]; exact hbig))
      have hge := grownCap_ge w (i + 1) c 103
      refine ⟨w.heap.size, _, _, _, ins_end (some ⟨b, 0, none⟩) vb i c vc w _ _ hnc hr, alloc_at w.drew _, ?_, hge, ?_, .inr (Nat.le_refl _), (Kp.of_below (drew_below w)).trans (alloc_kp [] w.drew _) (by simp)⟩
      · simp only [Array.size_append, List.size_toArray, size_zeroCells, hzs, hcl, hvl]
        omega
      · intro j u hj
        have hjl := getv hj
        rw [List.length_append] at hjl
        rw [Array.getElem?_append_left (by simpa using hjl)]
        simpa using hj
  · have hin' : i < n := by omega
    have hdl : (cv.drop (i * 2)).length = (n - i) * 2 := by rw [List.length_drop, hcl]; omega
    have hdat : ∀ (j : Nat) u, (cv.drop (i * 2))[j]? = some u → cv[i * 2 + j]? = some u := fun j u h => by rwa [List.getElem?_drop] at h
    by_cases hroom : n + 1 ≤ c
    · obtain ⟨arr1, p1, p2, p3⟩ := setCells_heap (cv.drop (i * 2)) ((i + 1) * 2) w.drew arr hba
      have hk1 := setCells_kp b (cv.drop (i * 2)) ((i + 1) * 2) w.drew
      have hc1 : ∀ ty dc sc, (Builtin.copy_ #[58, 58] ty #[.slice (some ⟨b, (i + 1) * 2, none⟩) (n - i) dc, .slice (some ⟨b, i * 2, none⟩) (n + 1 - i) sc]).run Try.prog w.drew = .ok (goInt (Nat.min (n + 1 - i) (n - i))) (w.drew.setCells b ((i + 1) * 2) (cv.drop (i * 2))) := fun ty dc sc =>
        run_copy_n w.drew _ _ ty 103 b ((i + 1) * 2) (n - i) dc ⟨b, i * 2, none⟩ (n + 1 - i) sc 2 (cv.drop (i * 2)) tS hszs (by rw [hdl, show Nat.min (n + 1 - i) (n - i) = n - i from Nat.min_eq_right (by omega)])
          (fun j v hj => by rw [Addr.add_lit]; exact hcellb _ v (hdat j v hj))
          (fun j hj => by
            show (w.cell? ⟨b, _, none⟩).isSome = true
            rw [cell_at hba, Array.getElem?_eq_getElem (by omega)]; rfl)
          (fun j hj => by
            show w.frozen? ⟨b, _, none⟩ = false
            simp [World.frozen?, hba]) (fun v hv => h1c v (List.mem_of_mem_drop hv))
      generalize w.drew.setCells b ((i + 1) * 2) (cv.drop (i * 2)) = W1 at p1 hk1 hc1
      obtain ⟨arr2, q1, q2, q3⟩ := setCells_heap vv (i * 2) W1 arr1 p1
      have hk2 := setCells_kp b vv (i * 2) W1
      have hvW : W1.heap[vb]? = some (.cells va 103 (0, 0)) := (hk1.block vb hvlt (by simpa using hne)).trans hvb
      have hc2 : ∀ ty dc, (Builtin.copy_ #[58, 58] ty #[.slice (some ⟨b, i * 2, none⟩) (n + 1 - i) dc, .slice (some ⟨vb, 0, none⟩) 1 vc]).run Try.prog W1 = .ok (goInt (Nat.min 1 (n + 1 - i))) (W1.setCells b (i * 2) vv) := fun ty dc =>
        run_copy_n W1 _ _ ty 103 b (i * 2) (n + 1 - i) dc ⟨vb, 0, none⟩ 1 vc 2 vv tS hszs (by rw [hvl, show Nat.min 1 (n + 1 - i) = 1 from Nat.min_eq_left (by omega)])
          (fun j v hj => by rw [Addr.add_lit, Nat.zero_add, cell_at hvW]; exact hvv j v hj)
          (fun j hj => by rw [cell_at p1, Array.getElem?_eq_getElem (by omega)]; rfl)
          (fun j hj => by simp [World.frozen?, p1]) h1v
      have hov : ∀ lb cb, (callFunc 143 #[.slice (some ⟨vb, 0, none⟩) 1 vc, .slice (some ⟨b, (i + 1) * 2, none⟩) lb cb]).run Try.prog w = .ok (.value (.bool false)) w := fun lb cb => by
        rw [run_callFunc_extern (f := 143) Try.func143 (by kernel_rfl) (by kernel_rfl) (by kernel_rfl) (e := Extern.SlicesOverlaps.overlaps #[58, 58] #[4]) (by kernel_rfl),
          Lib.run_overlaps_apart w 58 4 103 tS 2 zE ⟨vb, 0, none⟩ ⟨b, (i + 1) * 2, none⟩ 1 vc lb cb hne 103 103 va.size arr.size (by simp [World.shape?, hvb]) (by simp [World.shape?, hba]) (by omega) (by simp [World.frozen?, hvb]) (by simp [World.frozen?, hvb])]
        rfl
      refine ⟨b, c, arr2, _, ins_shift b vb n c i vc w W1 _ _ _ hin' (by omega) hroom hov hc1 hc2, q1, by omega, hroom, ?_, .inl rfl, ((Kp.of_below (drew_below w)).trans hk1 (by intro y hy; exact .inl hy)).trans hk2 (by intro y hy; exact .inl hy)⟩
      intro j u hj
      rw [insV_at _ _ _ _ hvl (by omega)] at hj
      rw [q3]
      split at hj
      · have := getv hj
        rw [if_neg (by omega), p3, if_neg (by omega)]
        exact hcv j u hj
      · split at hj
        · rw [if_pos (by omega)]
          exact hj
        · have := getv hj
          rw [if_neg (by omega), p3, if_pos (by omega), List.getElem?_drop]
          have e : i * 2 + (j - (i + 1) * 2) = j - 2 := by omega
          rw [e]
          exact hj
    · have hold : (Builtin.firstCells inf.size i (.slice (some ⟨b, 0, none⟩) i c)).run Try.prog w.drew = .ok (cv.take (i * 2)).toArray w.drew :=
        run_firstCells_some w.drew inf.size i ⟨b, 0, none⟩ i c (cv.take (i * 2)) (by rw [List.length_take, hsz]; omega) (fun j v hj => by
          rw [Addr.add_lit, Nat.zero_add]
          rw [List.getElem?_take] at hj
          split at hj
          · exact hcellb j v hj
          · cases hj)
      obtain ⟨G, hG⟩ : ∃ G, G = grownCap w (n + 1) c 103 := ⟨_, rfl⟩
      have hge := grownCap_ge w (n + 1) c 103
      rw [← hG] at hge
      obtain ⟨ROW, hROW⟩ : ∃ ROW : Array Value, ROW = (cv.take (i * 2)).toArray ++ Builtin.zeroCells z.cells (n + 1 - i) ++ Builtin.zeroCells z.cells (G - (n + 1)) := ⟨_, rfl⟩
      have hRs : ROW.size = G * 2 := by
        rw [hROW]
        simp only [Array.size_append, List.size_toArray, size_zeroCells, hzs, List.length_take, hcl]
        omega
      have hRa : ∀ (j : Nat), j < i * 2 → ROW[j]? = cv[j]? := by
        intro j hj
        have h1 : j < (cv.take (i * 2)).toArray.size := by simp only [List.size_toArray, List.length_take]; omega
        rw [hROW, Array.append_assoc, Array.getElem?_append_left h1]
        simp only [List.getElem?_toArray, List.getElem?_take, if_pos hj]
      have hr : ∀ ty, (Builtin.append_ #[58, 3] ty #[.slice (some ⟨b, 0, none⟩) i c, .int .i64 ((n : Int) + 1 - (i : Int))]).run Try.prog w = .ok (.slice (some ⟨w.heap.size, 0, none⟩) (n + 1) G) (w.drew.alloc (.cells ROW 103)) := fun ty => by
        have hik : i + (n + 1 - i) = n + 1 := by omega
        have hkk : (n : Int) + 1 - (i : Int) = ((n + 1 - i : Nat) : Int) := by omega
        have h := Lib.run_append_grow_zeros w 58 3 ty 103 inf z .i64 .i64 tS t3 hinf hz (some ⟨b, 0, none⟩) i c (cv.take (i * 2)) hold (n + 1 - i) (by omega) (by omega) (by omega) (by omega) (by rw [hby]; omega) (by rw [hby, hik]; exact growslice_fits (by omega) hbig)
        rw [hik, ← hG, ← hROW] at h
        rw [hkk]
        exact h
      obtain ⟨N, hN⟩ : ∃ N, N = w.heap.size := ⟨_, rfl⟩
      have hN0 : (w.drew.alloc (.cells ROW 103)).heap[N]? = some (.cells ROW 103 (0, 0)) := by rw [hN]; exact alloc_at w.drew _
      have hk0 : Kp [] w (w.drew.alloc (.cells ROW 103)) := (Kp.of_below (drew_below w)).trans (alloc_kp [] w.drew _) (by simp)
      rw [← hN] at hr
      generalize w.drew.alloc (.cells ROW 103) = W0 at hr hN0 hk0
      obtain ⟨arr1, p1, p2, p3⟩ := setCells_heap vv (i * 2) W0 ROW hN0
      have hk1 := setCells_kp N vv (i * 2) W0
      have hv0 : W0.heap[vb]? = some (.cells va 103 (0, 0)) := (hk0.block vb hvlt (by simp)).trans hvb
      have hb0 : W0.heap[b]? = some (.cells arr 103 (0, 0)) := (hk0.block b hblt (by simp)).trans hba
      have hc1 : ∀ ty dc, (Builtin.copy_ #[58, 58] ty #[.slice (some ⟨N, i * 2, none⟩) (n + 1 - i) dc, .slice (some ⟨vb, 0, none⟩) 1 vc]).run Try.prog W0 = .ok (goInt (Nat.min 1 (n + 1 - i))) (W0.setCells N (i * 2) vv) := fun ty dc =>
        run_copy_n W0 _ _ ty 103 N (i * 2) (n + 1 - i) dc ⟨vb, 0, none⟩ 1 vc 2 vv tS hszs (by rw [hvl, show Nat.min 1 (n + 1 - i) = 1 from Nat.min_eq_left (by omega)])
          (fun j v hj => by rw [Addr.add_lit, Nat.zero_add, cell_at hv0]; exact hvv j v hj)
          (fun j hj => by rw [cell_at hN0, Array.getElem?_eq_getElem (by omega)]; rfl)
          (fun j hj => by simp [World.frozen?, hN0]) h1v
      have hb1 : (W0.setCells N (i * 2) vv).heap[b]? = some (.cells arr 103 (0, 0)) := by
        rw [hk1.block b (Nat.lt_of_lt_of_le hblt hk0.size) (by simp; omega)]
        exact hb0
      generalize W0.setCells N (i * 2) vv = W1 at p1 hk1 hc1 hb1
      have p1d : W1.drew.heap[N]? = some (.cells arr1 103 (0, 0)) := p1
      obtain ⟨arr2, q1, q2, q3⟩ := setCells_heap (cv.drop (i * 2)) ((i + 1) * 2) W1.drew arr1 p1d
      have hk2 := setCells_kp N (cv.drop (i * 2)) ((i + 1) * 2) W1.drew
      have hc2 : ∀ ty dc sc, (Builtin.copy_ #[58, 58] ty #[.slice (some ⟨N, (i + 1) * 2, none⟩) (n - i) dc, .slice (some ⟨b, i * 2, none⟩) (n - i) sc]).run Try.prog W1.drew = .ok (goInt (Nat.min (n - i) (n - i))) (W1.drew.setCells N ((i + 1) * 2) (cv.drop (i * 2))) := fun ty dc sc =>
        run_copy_n W1.drew _ _ ty 103 N ((i + 1) * 2) (n - i) dc ⟨b, i * 2, none⟩ (n - i) sc 2 (cv.drop (i * 2)) tS hszs (by rw [hdl, show Nat.min (n - i) (n - i) = n - i from Nat.min_self _])
          (fun j v hj => by
            rw [Addr.add_lit]
            show W1.cell? ⟨b, _, none⟩ = some v
            rw [cell_at hb1]
            exact hcv _ v (hdat j v hj))
          (fun j hj => by
            show (W1.cell? ⟨N, _, none⟩).isSome = true
            rw [cell_at p1, Array.getElem?_eq_getElem (by omega)]; rfl)
          (fun j hj => by
            show W1.frozen? ⟨N, _, none⟩ = false
            simp [World.frozen?, p1]) (fun v hv => h1c v (List.mem_of_mem_drop hv))
      refine ⟨N, G, arr2, _, ins_grow b vb n c i vc N G w W0 W1 _ _ _ hin' (by omega) hnc (by omega) hge hr hc1 hc2, q1, by omega, hge, ?_, .inr (by omega), ?_⟩
      · intro j u hj
        rw [insV_at _ _ _ _ hvl (by omega)] at hj
        rw [q3]
        split at hj
        · have := getv hj
          rw [if_neg (by omega), p3, if_neg (by omega), hRa j (by omega)]
          exact hj
        · split at hj
          · have := getv hj
            rw [if_neg (by omega), p3, if_pos (by omega)]
            exact hj
          · have := getv hj
            rw [if_pos (by omega), List.getElem?_drop]
            have e : i * 2 + (j - (i + 1) * 2) = j - 2 := by omega
            rw [e]
            exact hj
      · have hk1' : Kp [] w W1 := hk0.trans hk1 (by simp; omega)
        have hk2' : Kp [] w (W1.drew.setCells N ((i + 1) * 2) (cv.drop (i * 2))) := (hk1'.trans (Kp.of_below (bs := []) (drew_below W1)) (by simp)).trans hk2 (by simp; omega)
        exact Kp.of_below hk2'.below
end Go.V
