/- The road V: code reckoned over trees of values, proved sound against the model once. No conditions. -/
import Derived.Test.YtfooiclnbkchmaaVe
set_option linter.all false
namespace Go.V
open Go.RowKit
set_option linter.unusedSimpArgs false
set_option linter.unusedVariables false

/-! ### a drawn region that calls one function more than once -/
def fnEnv (f : FuncId) (F : List PV → Option (PV × List PV)) (E : Env) : Env := ⟨E.mode, fun g as => if g = f then F as else E.call g as⟩
section
variable {P : Program} {f g : FuncId} {F : List PV → Option (PV × List PV)} {E : Env} {as : List PV}
theorem fnEnv_mode : (fnEnv f F E).mode = E.mode := by unfold fnEnv; rfl
theorem fnEnv_hit : (fnEnv f F E).call f as = F as := by simp [fnEnv]
theorem fnEnv_miss (h : g ≠ f) : (fnEnv f F E).call g as = E.call g as := by simp [fnEnv, h]
theorem fnEnv_ok (hE : EnvOK P E) (hF : ∀ as r os, F as = some (r, os) → CallOK P f as r os) : EnvOK P (fnEnv f F E) := by
  intro g as r os h
  by_cases hg : g = f
  · subst hg
    rw [fnEnv_hit] at h
    exact hF as r os h
  · rw [fnEnv_miss hg] at h
    exact hE g as r os h
def fI1 (G : Int → PT) : List PV → Option (PV × List PV)
  | [.c (.raw (.int .i64 a))] => some (.c (G a), [.c (pi a)])
  | _ => none
def fI2 (G : Int → Int → PT) : List PV → Option (PV × List PV)
  | [.c (.raw (.int .i64 a)), .c (.raw (.int .i64 b))] => some (.c (G a b), [.c (pi a), .c (pi b)])
  | _ => none
def fI3 (G : Int → Int → Int → PT) : List PV → Option (PV × List PV)
  | [.c (.raw (.int .i64 a)), .c (.raw (.int .i64 b)), .c (.raw (.int .i64 c))] => some (.c (G a b c), [.c (pi a), .c (pi b), .c (pi c)])
  | _ => none
theorem fI1_at {G : Int → PT} {a : Int} : fI1 G [.c (pi a)] = some (.c (G a), [.c (pi a)]) := by unfold fI1; rfl
theorem fI2_at {G : Int → Int → PT} {a b : Int} : fI2 G [.c (pi a), .c (pi b)] = some (.c (G a b), [.c (pi a), .c (pi b)]) := by unfold fI2; rfl
theorem fI3_at {G : Int → Int → Int → PT} {a b c : Int} : fI3 G [.c (pi a), .c (pi b), .c (pi c)] = some (.c (G a b c), [.c (pi a), .c (pi b), .c (pi c)]) := by unfold fI3; rfl
theorem fI1_ok {G : Int → PT} (h : ∀ a, CallOK P f [.c (pi a)] (.c (G a)) [.c (pi a)]) : ∀ as r os, fI1 G as = some (r, os) → CallOK P f as r os := by
  intro as r os he
  unfold fI1 at he
  split at he
  · cases he; exact h _
  · simp at he
theorem fI2_ok {G : Int → Int → PT} (h : ∀ a b, CallOK P f [.c (pi a), .c (pi b)] (.c (G a b)) [.c (pi a), .c (pi b)]) : ∀ as r os, fI2 G as = some (r, os) → CallOK P f as r os := by
  intro as r os he
  unfold fI2 at he
  split at he
  · cases he; exact h _ _
  · simp at he
theorem fI3_ok {G : Int → Int → Int → PT} (h : ∀ a b c, CallOK P f [.c (pi a), .c (pi b), .c (pi c)] (.c (G a b c)) [.c (pi a), .c (pi b), .c (pi c)]) : ∀ as r os, fI3 G as = some (r, os) → CallOK P f as r os := by
  intro as r os he
  unfold fI3 at he
  split at he
  · cases he; exact h _ _ _
  · simp at he
end
theorem range1 : List.range 1 = [0] := by decide
theorem range2 : List.range 2 = [0, 1] := by decide
theorem range3 : List.range 3 = [0, 1, 2] := by decide
theorem range4 : List.range 4 = [0, 1, 2, 3] := by decide
theorem range5 : List.range 5 = [0, 1, 2, 3, 4] := by decide
theorem range6 : List.range 6 = [0, 1, 2, 3, 4, 5] := by decide
attribute [simp] range1 range2 range3 range4 range5 range6
attribute [simp] fnEnv_mode fnEnv_hit fnEnv_miss fI1_at fI2_at fI3_at
end Go.V

namespace Go.V
open Go.RowKit
set_option linter.unusedSimpArgs false
set_option linter.unusedVariables false

/-! ### a function of a row of numbers, called more than once in a drawn region -/
def intsOf : List PT → Option (List Int)
  | [] => some []
  | .raw (.int .i64 n) :: cs => (intsOf cs).map (n :: ·)
  | _ => none
theorem intsOf_pi : ∀ xs : List Int, intsOf (xs.map pi) = some xs
  | [] => rfl
  | x :: xs => by simp [intsOf, intsOf_pi xs]
theorem intsOf_eq : ∀ {cs : List PT} {xs : List Int}, intsOf cs = some xs → cs = xs.map pi
  | [], xs, h => by simp only [intsOf, Option.some.injEq] at h; subst h; rfl
  | c :: cs, xs, h => by
    unfold intsOf at h
    split at h
    · simp at *
    · rename_i n cs' heq
      simp only [List.cons.injEq] at heq
      obtain ⟨rfl, rfl⟩ := heq
      simp only [Option.map_eq_some_iff] at h
      obtain ⟨ys, h1, rfl⟩ := h
      rw [intsOf_eq h1]
      rfl
    · simp at h
def fL1 (B : Nat) (G : List Int → PT) : List PV → Option (PV × List PV)
  | [.c (.sl (k + 1) 0 n cs)] => match intsOf cs with
    | some xs => if n = xs.length ∧ xs.length ≤ B then some (.c (G xs), [.c (.sl (k + 1) 0 n cs)]) else none
    | none => none
  | _ => none
theorem fL1_at {B : Nat} {G : List Int → PT} {k : Nat} {xs : List Int} (h : xs.length ≤ B) : fL1 B G [.c (.sl (k + 1) 0 xs.length (xs.map pi))] = some (.c (G xs), [.c (.sl (k + 1) 0 xs.length (xs.map pi))]) := by
  unfold fL1
  simp [intsOf_pi, h]
theorem fL1_ok {P : Program} {f : FuncId} {B : Nat} {G : List Int → PT} (h : ∀ k (xs : List Int), xs.length ≤ B → CallOK P f [.c (rd k xs.length (xs.map pi))] (.c (G xs)) [.c (rd k xs.length (xs.map pi))]) : ∀ as r os, fL1 B G as = some (r, os) → CallOK P f as r os := by
  intro as r os he
  unfold fL1 at he
  split at he
  · rename_i k n cs
    split at he
    · rename_i xs hxs
      split at he
      · rename_i hc
        cases he
        obtain ⟨rfl, hb⟩ := hc
        have := intsOf_eq hxs
        subst this
        exact h k xs hb
      · simp at he
    · simp at he
  · simp at he
attribute [simp] fL1_at
/-! ### where a search by halves ends -/
def bsI {α : Type} (c : α → Int) (xs : List α) : Nat := (xs.takeWhile fun x => decide (c x < 0)).length
def bsF {α : Type} (c : α → Int) (xs : List α) : Bool := match xs[bsI c xs]? with
  | some x => decide (c x = 0)
  | none => false
theorem bsI_eq {α : Type} (c : α → Int) : ∀ (xs : List α) (i : Nat), i ≤ xs.length → (∀ (m : Nat) (hm : m < i) (hl : m < xs.length), c xs[m] < 0) → (∀ (h : i < xs.length), 0 ≤ c xs[i]) → bsI c xs = i
  | [], i, hi, _, _ => by simp at hi; subst hi; rfl
  | x :: xs, 0, _, _, h => by
    have := h (by simp)
    simp only [List.getElem_cons_zero] at this
    have h2 : ¬ c x < 0 := by omega
    simp [bsI, List.takeWhile_cons, h2]
  | x :: xs, i + 1, hi, h1, h2 => by
    have h0 := h1 0 (by omega) (by simp)
    simp only [List.getElem_cons_zero] at h0
    have ih := bsI_eq c xs i (by simpa using hi) (fun m hm hl => h1 (m + 1) (by omega) (by simpa using hl)) (fun h => h2 (by simpa using h))
    unfold bsI at ih ⊢
    simp [List.takeWhile_cons, h0, ih]
theorem half_u64 (i j : Nat) (h : i + j ≤ 9223372036854775807) : IntKind.wrap .i64 ((IntKind.wrap .u64 ((i : Int) + j)).fdiv (2 ^ min 1 IntKind.u64.bits)) = (((i + j) / 2 : Nat) : Int) := by
  have h0 : (2 : Int) ^ min 1 IntKind.u64.bits = 2 := rfl
  have h1 : IntKind.wrap .u64 ((i : Int) + j) = (i : Int) + j := by
    show ((i : Int) + j) % 18446744073709551616 = _
    omega
  have h2 : ((i : Int) + j).fdiv 2 = (((i + j) / 2 : Nat) : Int) := by
    rw [Int.fdiv_eq_ediv_of_nonneg _ (by omega)]
    omega
  rw [h0, h1, h2]
  exact wrap64 (by omega) (by omega)
end Go.V

namespace Go.V
open Go.RowKit
set_option linter.unusedSimpArgs false
set_option linter.unusedVariables false
section
variable {P : Program} {tys : Array TypeId} {ty : TypeId} {k k' : IntKind} {a b : Int}
theorem pr_min2 : pureRun P (Builtin.min_ tys ty #[.int k a, .int k' b]) = some (.int k (if b < a then b else a)) := by
  simp [Builtin.min_, Builtin.min2, pureRun_bind, pureRun_pure]
theorem pr_max2 : pureRun P (Builtin.max_ tys ty #[.int k a, .int k' b]) = some (.int k (if a < b then b else a)) := by
  simp [Builtin.max_, Builtin.max2, pureRun_bind, pureRun_pure]
end
attribute [simp] pr_min2 pr_max2
end Go.V

namespace Go.V
open Go.RowKit
set_option linter.unusedSimpArgs false
set_option linter.unusedVariables false

/-! ### loops whose rounds leave a row under another name -/
def swSt (x y : Id) (st : St) : St := ⟨SV.swL x y st.sl, fun id => st.hp (Id.sw x y id)⟩
def LessW (J : Nat → St → Prop) (m : Nat) (keep : List Nat) (ids : List Id) (st : St) : Prop := ∃ m', m' < m ∧ ∃ x y : Id, x.isOp = true ∧ y.isOp = true ∧ J m' ((swSt x y st).drop keep ids)
def RndW (J : Nat → St → Prop) (m : Nat) (keep : List Nat) (big ids : List Id) (st : St) : Prop := LessW J m keep ids (st.drop keep big)
theorem RndW_eq {J : Nat → St → Prop} {m : Nat} {keep : List Nat} {big ids : List Id} {st : St} : RndW J m keep big ids st = LessW J m keep ids (st.drop keep big) := rfl
section
variable {P : Program} {Q : Exit → St → Prop} {c : Code} {n : Nat}
theorem ewp_swG {st : St} (x y : Id) (hx : x.isOp = true) (hy : y.isOp = true) (h : ewp P c Q (swSt x y st)) : ewp P c Q st := by
  intro I bs A w0 a w L hs
  exact h I bs A w0 a w _ (hs.sw (Id.isOp_ne hx) (Id.isOp_ne hy))
theorem loopW (keep : List Nat) (big ids : List Id) (J : Nat → St → Prop) (m : Nat) {st : St} (h : ∀ Inv, Inv = J → Head Inv m (st.drop keep ids)) (round : ∀ Inv, Inv = J → ∀ m st, J m st → ewp P c (eThen (RndW Inv m keep big ids) Q) st) : ewp P (.loop c) Q st := by
  refine ewp_loop (fun n st => J n (st.drop keep ids) ∨ ∃ x y : Id, x.isOp = true ∧ y.isOp = true ∧ J n ((swSt x y (st.drop keep big)).drop keep ids)) m (.inl (h J rfl)) fun n st hi => ?_
  have key : ∀ st, J n st → ewp P c (eThen (fun st' => ∃ m, m < n ∧ (J m (st'.drop keep ids) ∨ ∃ x y : Id, x.isOp = true ∧ y.isOp = true ∧ J m ((swSt x y (st'.drop keep big)).drop keep ids))) Q) st := fun st hj =>
    ewp_mono (round J rfl n st hj) fun e st' h => by
      cases e <;> simp only [eThen] at h ⊢ <;> first
        | exact h
        | (obtain ⟨m', hm, x, y, hx, hy, hJ⟩ := h; exact ⟨m', hm, .inr ⟨x, y, hx, hy, hJ⟩⟩)
  rcases hi with hi | ⟨x, y, hx, hy, hi⟩
  · exact ewp_drop keep ids (key _ hi)
  · exact ewp_drop keep big (ewp_swG x y hx hy (ewp_drop keep ids (key _ hi)))
theorem LessW_mk {J : Nat → St → Prop} {m : Nat} {keep : List Nat} {ids : List Id} {l : List (Nat × SV)} {hp : List (Id × PT)} (m' : Nat) (x y : Id) (hm : m' < m) (hx : x.isOp = true) (hy : y.isOp = true) (h : Head J m' (St.drop ⟨slOf n (swS x y l), ofL (swN x y hp)⟩ keep ids)) : LessW J m keep ids ⟨slOf n l, ofL hp⟩ := by
  refine ⟨m', hm, x, y, hx, hy, ?_⟩
  have e : swSt x y ⟨slOf n l, ofL hp⟩ = ⟨slOf n (swS x y l), ofL (swN x y hp)⟩ := by
    unfold swSt
    rw [slOf_sw]
    congr 1
    funext id
    exact swN_ofL x y hp id
  rw [e]
  exact h
end
attribute [simp] RndW_eq
end Go.V

namespace Go.V
open Go.RowKit
set_option linter.unusedSimpArgs false
set_option linter.unusedVariables false

/-! ### rows of one's own, lent for a while -/
def frzC : PT → PT
  | .sl 0 e m ds => if ds.all PT.flat = true then .sl 1 0 m ds else .sl 0 e m ds
  | p => p
def frzT : PT → PT
  | .sl 0 e n cs => .sl 0 e n (cs.map frzC)
  | p => p
def frzL : LT → LT
  | .own b cap e m ds => if (ds.map LT.erase).all PT.flat = true then .leaf (.slice (some ⟨b, 0, none⟩) m cap) (.sl 1 0 m (ds.map LT.erase)) else .own b cap e m ds
  | .leaf v p => .leaf v (frzC p)
def frzB : LT → List Nat
  | .own b _ _ _ ds => if (ds.map LT.erase).all PT.flat = true then [b] else []
  | .leaf _ _ => []
theorem frzL_erase : ∀ t : LT, (frzL t).erase = frzC t.erase
  | .leaf v p => by simp only [frzL, LT.erase]
  | .own b cap e m ds => by
    simp only [frzL, LT.erase, frzC]
    split <;> simp only [LT.erase]
theorem frzL_val : ∀ t : LT, (frzL t).val = t.val
  | .leaf v p => by simp only [frzL, LT.val]
  | .own b cap e m ds => by
    simp only [frzL]
    split <;> simp only [LT.val]
theorem frzB_sub : ∀ t : LT, ∀ y ∈ frzB t, y ∈ t.blocks
  | .leaf v p, y, h => by simp [frzB] at h
  | .own b cap e m ds, y, h => by
    simp only [frzB] at h
    split at h
    · simp only [List.mem_singleton] at h
      subst h
      simp [LT.blocks]
    · simp at h
theorem frzL_sub : ∀ t : LT, (frzL t).blocks.Sublist t.blocks
  | .leaf v p => by simp [frzL, LT.blocks]
  | .own b cap e m ds => by
    simp only [frzL]
    split
    · simp [LT.blocks]
    · exact List.Sublist.refl _
theorem frzB_not : ∀ t : LT, ∀ y ∈ frzB t, y ∉ (frzL t).blocks
  | .leaf v p, y, h => by simp [frzB] at h
  | .own b cap e m ds, y, h => by
    simp only [frzB] at h
    split at h
    · rename_i hc
      simp only [frzL, hc, if_true, LT.blocks]
      simp
    · simp at h
section
variable {sz : Nat → Nat} {I I' : Nat → Nat → Prop} {bs : List Nat} {A : Nat → Nat → Option Value} {w0 w w' : World} {st st' : St} {a : Act} {L : Loc} {P : Program}
theorem imL_flat {b : Nat} {arr : Array Value} {e : Nat} {f : Nat × Nat} (hb : w.heap[b]? = some (.cells arr e f)) (hI : I' 1 b) : ∀ (ds : List LT) (j : Nat), (∀ d ∈ ds, d.erase.flat = true ∧ d.holds sz w I) → (∀ (i : Nat) d, ds[i]? = some d → arr[j + i]? = some d.val) → ImL w I' 1 (some ⟨b, 0, none⟩) j (ds.map LT.erase)
  | [], j, _, _ => by simp [ImL]
  | d :: ds, j, h1, h2 => by
    simp only [List.map_cons, ImL]
    obtain ⟨hf, hh⟩ := h1 d (List.mem_cons_self ..)
    refine ⟨⟨⟨b, 0, none⟩, d.val, rfl, hI, ?_, LT.holds_one hh, ?_⟩, imL_flat hb hI ds (j + 1) (fun d' hd => h1 d' (List.mem_cons_of_mem _ hd)) fun i d' hd => ?_⟩
    · rw [Addr.add_lit, Nat.zero_add, cell_at hb]
      simpa using h2 0 d rfl
    · cases d with
      | leaf v p =>
        cases p with
        | raw u => simp only [LT.holds, Im, LT.val, LT.erase] at hh ⊢; exact hh.1
        | _ => simp [LT.erase, PT.flat] at hf
      | own _ _ _ _ _ => simp [LT.erase, PT.flat] at hf
    · have := h2 (i + 1) d' (by simpa using hd)
      rw [show j + 1 + i = j + (i + 1) by omega]
      exact this
theorem frzL_holds (hI : ∀ k b, I k b → I' k b) : ∀ t : LT, t.holds sz w I → (∀ y ∈ frzB t, I' 1 y) → (frzL t).holds sz w I'
  | .leaf v p, h, _ => by
    have h2 := LT.holds_frame hI (fun _ _ _ => rfl) (.leaf v p) h (fun _ _ => rfl)
    simp only [frzL, LT.holds] at h2 ⊢
    refine ⟨?_, h2.2⟩
    have h3 := h2.1
    unfold frzC
    split
    · rename_i e m ds
      split
      · simp only [Im] at h3 ⊢
        obtain ⟨rfl, rfl, ad, rfl⟩ := h3
        exact ⟨ad, 0, rfl, Nat.le_refl _, trivial⟩
      · exact h3
    · exact h3
  | .own b cap e m ds, h, hB => by
    simp only [frzL]
    split
    · rename_i hc
      have hb : I' 1 b := hB b (by simp [frzB, hc])
      simp only [LT.holds] at h ⊢
      obtain ⟨⟨arr, q1, q2, q3⟩, q4, q5, q6, q7⟩ := h
      refine ⟨?_, rfl⟩
      simp only [Im]
      refine ⟨_, _, rfl, q5, imL_flat q1 hb ds 0 (fun d hd => ⟨?_, q7 d hd⟩) fun i d hd => by rw [Nat.zero_add]; exact q3 i d hd⟩
      exact List.all_eq_true.1 hc _ (List.mem_map_of_mem hd)
    · exact LT.holds_frame hI (fun _ _ _ => rfl) _ h (fun _ _ => rfl)
def inCell (x : Id) (pl : Pl) : Bool := decide (pl.id = x) && !pl.path.isEmpty
def frzSt (x : Id) (t : PT) (st : St) : St := ⟨st.sl.map (SV.kill (inCell x)), updF st.hp x (some (frzT t))⟩
def SV.quiet : SV → Bool
  | .junk => true
  | .ptr _ _ => true
  | .ref _ _ _ => true
  | .t p => p.noTmp
  | _ => false
theorem quiet_sound {w : World} {I I' : Nat → Nat → Prop} (hI : ∀ k b, k ≠ 1 → I' k b → I k b) {v : Value} : ∀ {s : SV}, s.quiet = true → SVR sz L w I' v s → SVR sz L w I v s
  | .junk, _, h => h
  | .ptr _ _, _, h => by simpa only [SVR] using h
  | .ref _ _ _, _, h => by simpa only [SVR] using h
  | .t p, hq, h => by
    simp only [SVR] at h ⊢
    exact (Im.noTmp hI).1 _ _ hq h
  | .ip _ _, hq, _ => by simp [SV.quiet] at hq
  | .fnc _ _, hq, _ => by simp [SV.quiet] at hq
  | .agg _, hq, _ => by simp [SV.quiet] at hq
  | .tup _, hq, _ => by simp [SV.quiet] at hq
/-- Rows in a cell of one's own are lent from here on. -/
theorem Sim.freeze (h : Sim sz I bs A w0 st a w L []) {x : Id} (hx : x.isOp = true) {e n : Nat} {cs : List PT} (ht : st.hp x = some (.sl 0 e n cs)) (hn : 0 < n) : ∃ (I' : Nat → Nat → Prop) (bs' : List Nat) (L' : Loc), Sim sz I' bs' A w (frzSt x (.sl 0 e n cs) st) a w L' [] ∧ (∀ k b, k ≠ 1 → I' k b → I k b) ∧ ∀ y ∈ bs', y ∈ bs ∨ w0.heap.size ≤ y := by
  classical
  have her := h.er x
  rw [ht, Option.map_eq_some_iff] at her
  obtain ⟨T, hT, hTe⟩ := her
  cases T with
  | leaf v p =>
    simp only [LT.erase] at hTe
    subst hTe
    have := h.holds x _ hT
    simp only [LT.holds, Im] at this
    omega
  | own b cap e' n' ls =>
    simp only [LT.erase, PT.sl.injEq, true_and] at hTe
    obtain ⟨rfl, rfl, rfl⟩ := hTe
    have hTh := h.holds x _ hT
    have hTn := h.nodup x _ hT
    obtain ⟨T', hT'⟩ : ∃ T', T' = LT.own b cap e' n' (ls.map frzL) := ⟨_, rfl⟩
    have hsub : T'.blocks.Sublist (LT.own b cap e' n' ls).blocks := by
      rw [hT']
      simp only [LT.blocks]
      refine List.Sublist.cons_cons _ ?_
      clear hTh hTn hT hT' h ht
      induction ls with
      | nil => exact List.Sublist.refl _
      | cons c ls ih =>
        simp only [List.map_cons, List.flatMap_cons]
        exact List.Sublist.append (frzL_sub c) ih
    have hFz : ∀ c ∈ ls, ∀ y ∈ frzB c, y ∈ (LT.own b cap e' n' ls).blocks ∧ y ∉ T'.blocks := by
      intro c hc y hy
      have hyc := frzB_sub c y hy
      have hmem : y ∈ ls.flatMap LT.blocks := List.mem_flatMap.2 ⟨c, hc, hyc⟩
      refine ⟨by simp only [LT.blocks]; exact List.mem_cons_of_mem _ hmem, ?_⟩
      rw [hT']
      simp only [LT.blocks] at hTn ⊢
      have hn1 := List.nodup_cons.1 hTn
      intro hy2
      rcases List.mem_cons.1 hy2 with rfl | hy2
      · exact hn1.1 hmem
      · obtain ⟨c', hc', hy3⟩ := List.mem_flatMap.1 hy2
        obtain ⟨c2, hc2, rfl⟩ := List.mem_map.1 hc'
        by_cases hcc : c = c2
        · subst hcc
          exact frzB_not c y hy hy3
        · have hy4 := (frzL_sub c2).subset hy3
          -- two elements that share a block
          obtain ⟨i, hi, rfl⟩ := List.mem_iff_getElem.1 hc
          obtain ⟨j, hj, rfl⟩ := List.mem_iff_getElem.1 hc2
          have hij : i ≠ j := by rintro rfl; exact hcc rfl
          have hnp : (ls.flatMap LT.blocks).Nodup := hn1.2
          unfold List.Nodup at hnp
          rw [List.pairwise_flatMap] at hnp
          have hpw := List.pairwise_iff_getElem.1 hnp.2
          rcases Nat.lt_or_ge i j with hlt | hge
          · exact hpw i j hi hj hlt y hyc y hy4 rfl
          · exact hpw j i hj hi (by omega) y hy4 y hyc rfl
    obtain ⟨I', hI'⟩ : ∃ I' : Nat → Nat → Prop, I' = fun k y => I k y ∨ (k = 1 ∧ ∃ c ∈ ls, y ∈ frzB c) := ⟨_, rfl⟩
    have hII : ∀ k y, I k y → I' k y := fun k y hy => by rw [hI']; exact .inl hy
    have hTh' : T'.holds sz w I' := by
      rw [hT']
      simp only [LT.holds] at hTh ⊢
      obtain ⟨⟨arr, q1, q2, q3⟩, q4, q5, q6, q7⟩ := hTh
      refine ⟨⟨arr, q1, q2, fun j c hc => ?_⟩, by rw [List.length_map]; exact q4, q5, q6, fun c hc => ?_⟩
      · rw [List.getElem?_map, Option.map_eq_some_iff] at hc
        obtain ⟨d, hd, rfl⟩ := hc
        rw [frzL_val]
        exact q3 j d hd
      · obtain ⟨d, hd, rfl⟩ := List.mem_map.1 hc
        exact frzL_holds hII d (q7 d hd) fun y hy => by rw [hI']; exact .inr ⟨rfl, d, hd, hy⟩
    obtain ⟨L', hL'⟩ : ∃ L', L' = updF L x (some T') := ⟨_, rfl⟩
    have hcase : ∀ id t, L' id = some t → (id = x ∧ t = T') ∨ (id ≠ x ∧ L id = some t) := by
      intro id t hid
      rw [hL'] at hid
      by_cases hxx : id = x
      · subst hxx; rw [updF_same] at hid; cases hid; exact .inl ⟨rfl, rfl⟩
      · rw [updF_ne _ _ hxx] at hid; exact .inr ⟨hxx, hid⟩
    have hown : ∀ id t, L' id = some t → ∀ y ∈ t.blocks, y ∈ bs ∨ w0.heap.size ≤ y := by
      intro id t hid y hy
      rcases hcase id t hid with ⟨rfl, rfl⟩ | ⟨hne, hid⟩
      · exact h.own _ _ hT y (hsub.subset hy)
      · exact h.own _ _ hid y hy
    have hholds : ∀ id t, L' id = some t → t.holds sz w I' := by
      intro id t hid
      rcases hcase id t hid with ⟨rfl, rfl⟩ | ⟨hne, hid⟩
      · exact hTh'
      · exact LT.holds_frame hII (fun _ _ _ => rfl) t (h.holds _ _ hid) (fun _ _ => rfl)
    refine ⟨I', (List.range w.heap.size).filter (fun y => decide (∃ id t, L' id = some t ∧ y ∈ t.blocks)), L', ?_, ?_, ?_⟩
    · exact {
        keeps := Kp.refl _ _
        imm := by
          intro k y hy
          rw [hI'] at hy
          rcases hy with hy | ⟨rfl, c, hc, hy⟩
          · refine ⟨h.immw k y hy, fun hm => ?_⟩
            have hm := (List.mem_filter.1 hm).2
            simp only [decide_eq_true_eq] at hm
            obtain ⟨id, t, hid, hyt⟩ := hm
            have hne := h.imm_ne hy
            rcases hown id t hid y hyt with hq | hq
            · exact hne.1 hq
            · exact hne.2 hq
          · obtain ⟨h1, h2⟩ := hFz c hc y hy
            refine ⟨LT.blocks_lt _ hTh y h1, fun hm => ?_⟩
            have hm := (List.mem_filter.1 hm).2
            simp only [decide_eq_true_eq] at hm
            obtain ⟨id, t, hid, hyt⟩ := hm
            rcases hcase id t hid with ⟨rfl, rfl⟩ | ⟨hne, hid⟩
            · exact h2 hyt
            · exact h.apart _ _ _ _ (Ne.symm hne) hT hid y h1 hyt
        er := by
          intro id
          rw [hL']
          simp only [frzSt]
          by_cases hxx : id = x
          · subst hxx
            rw [updF_same, updF_same, hT']
            simp only [Option.map_some, LT.erase, frzT, List.map_map, Function.comp_def, frzL_erase]
          · rw [updF_ne _ _ hxx, updF_ne _ _ hxx]
            exact h.er id
        holds := hholds
        nodup := by
          intro id t hid
          rcases hcase id t hid with ⟨rfl, rfl⟩ | ⟨hne, hid⟩
          · exact hTn.sublist hsub
          · exact h.nodup _ _ hid
        own := by
          intro id t hid y hy
          refine .inl (List.mem_filter.2 ⟨List.mem_range.2 (LT.blocks_lt t (hholds id t hid) y hy), ?_⟩)
          simp only [decide_eq_true_eq]
          exact ⟨id, t, hid, hy⟩
        apart := by
          intro id id' t t' hne hid hid' y hy
          rcases hcase id t hid with ⟨rfl, rfl⟩ | ⟨h1, hid⟩
          · rcases hcase id' t' hid' with ⟨rfl, rfl⟩ | ⟨h2, hid'⟩
            · exact absurd rfl hne
            · exact h.apart _ _ _ _ hne hT hid' y (hsub.subset hy)
          · rcases hcase id' t' hid' with ⟨rfl, rfl⟩ | ⟨h2, hid'⟩
            · intro hy2
              exact h.apart _ _ _ _ hne hid hT y hy (hsub.subset hy2)
            · exact h.apart _ _ _ _ hne hid hid' y hy
        hholds := by simp
        hnodup := by simp
        hown := by simp
        hapart := by simp
        slots := by
          refine SVRL.kill (inCell x) ?_ hII (fun _ _ _ => rfl) h.slots
          intro pl node hf hr hl
          by_cases hxx : pl.id = x
          · have hp : pl.path = [] := by
              simp only [inCell, hxx, decide_true, Bool.true_and, Bool.not_eq_false', List.isEmpty_iff] at hf
              exact hf
            unfold look at hl ⊢
            rw [hxx, hT] at hl
            rw [hxx, hL', updF_same]
            rw [hp] at hl ⊢
            simp only [LT.get, Option.some.injEq] at hl ⊢
            subst hl
            refine ⟨T', rfl, ?_⟩
            rw [hT']
            exact ⟨_, _, rfl, by rw [List.length_map]; exact Nat.le_refl _⟩
          · refine ⟨node, ?_, Shp.refl _⟩
            unfold look at hl ⊢
            rw [hL', updF_ne _ _ hxx]
            exact hl
        nodef := h.nodef
        args := by
          intro i j v hv
          obtain ⟨t, ht1, ht2⟩ := h.args i j v hv
          refine ⟨t, ?_, ht2⟩
          rw [hL', updF_ne _ _ (Ne.symm (Id.isOp_ne hx i j))]
          exact ht1 }
    · intro k y hk hy
      rw [hI'] at hy
      rcases hy with hy | ⟨rfl, _⟩
      · exact hy
      · exact absurd rfl hk
    · intro y hy
      have hm := (List.mem_filter.1 hy).2
      simp only [decide_eq_true_eq] at hm
      obtain ⟨id, t, hid, hyt⟩ := hm
      exact hown id t hid y hyt
/-- What is left behind a while of lending: nothing that is lent. -/
def Thawed (K : Exit → St → Prop) (keep : List Nat) (ids : List Id) (e : Exit) (st : St) : Prop := e = .normal ∧ ∃ (n : Nat) (l : List (Nat × SV)) (hp : List (Id × PT)), st.drop keep ids = ⟨slOf n l, ofL hp⟩ ∧ (l.all fun p => p.2.quiet) = true ∧ (hp.all fun p => p.2.noTmp) = true ∧ K .normal ⟨slOf n l, ofL hp⟩
theorem ofL_all {f : PT → Bool} : ∀ {l : List (Id × PT)} {id : Id} {t : PT}, (l.all fun p => f p.2) = true → ofL l id = some t → f t = true
  | [], _, _, _, h => by simp [ofL] at h
  | (i, u) :: l, id, t, h, ht => by
    simp only [List.all_cons, Bool.and_eq_true] at h
    simp only [ofL] at ht
    split at ht
    · cases ht; exact h.1
    · exact ofL_all h.2 ht
theorem slGet_all {f : SV → Bool} (hj : f .junk = true) : ∀ {l : List (Nat × SV)} {k : Nat}, (l.all fun p => f p.2) = true → f (slGet l k) = true
  | [], k, _ => by simpa [slGet] using hj
  | (i, s) :: l, k, h => by
    simp only [List.all_cons, Bool.and_eq_true] at h
    simp only [slGet]
    split
    · exact h.1
    · exact slGet_all hj h.2
theorem ewp_freeze {c : Code} {K : Exit → St → Prop} (x : Id) (keep : List Nat) (ids : List Id) (hx : x.isOp = true) {e n : Nat} {cs : List PT} (ht : st.hp x = some (.sl 0 e n cs)) (hn : 0 < n) (h : ewp P c (Thawed K keep ids) (frzSt x (.sl 0 e n cs) st)) : ewp P c K st := by
  intro I bs A w0 a w L hs
  obtain ⟨I', bs', L', hs', hI1, hbs⟩ := hs.freeze hx ht hn
  refine wp_mono (h I' bs' A w a w L' hs') ?_
  rintro ex a' w' ⟨st', L2, h2, rfl, N, l, hp, hd, hl, hh, hK⟩
  obtain ⟨L3, h3⟩ := h2.lose keep ids
  rw [hd] at h3
  refine ⟨⟨slOf N l, ofL hp⟩, L3, ?_, hK⟩
  exact {
    keeps := hs.keeps.trans h3.keeps hbs
    imm := hs.imm
    er := h3.er
    holds := fun id t hid => LT.noTmp hI1 t (by
      have := h3.er id
      rw [hid] at this
      exact ofL_all (f := PT.noTmp) hh this.symm) (h3.holds id t hid)
    nodup := h3.nodup
    own := fun id t hid y hy => by
      rcases h3.own id t hid y hy with hq | hq
      · exact hbs y hq
      · exact .inr (Nat.le_trans hs.keeps.size hq)
    apart := h3.apart
    hholds := by simp
    hnodup := by simp
    hown := by simp
    hapart := by simp
    slots := by
      refine SVRL.of_at h3.slots.len ?_
      intro i v s hv hs2
      obtain ⟨v', hv', hr⟩ := h3.slots.at_ i s hs2
      rw [hv] at hv'
      cases hv'
      refine quiet_sound hI1 ?_ hr
      have hs3 : (slOf N l)[i]? = some s := hs2
      rw [slOf_at] at hs3
      split at hs3
      · cases hs3
        exact slGet_all (f := SV.quiet) rfl hl
      · cases hs3
    nodef := h3.nodef
    args := h3.args }
theorem frzSt_eq {x : Id} {t : PT} {n : Nat} {l : List (Nat × SV)} {hp : List (Id × PT)} : frzSt x t ⟨slOf n l, ofL hp⟩ = ⟨slOf n (killL (inCell x) l), ofL (setL hp x (frzT t))⟩ := by
  unfold frzSt
  rw [slOf_kill, updF_ofL]
  all_goals rfl
theorem Thawed_mk {K : Exit → St → Prop} {keep : List Nat} {ids : List Id} {n : Nat} {l : List (Nat × SV)} {hp : List (Id × PT)}
    (h : ((killL (fun q => match q.id with | .arg _ _ => false | id => !ids.contains id) (slPick l keep)).all fun p => p.2.quiet) = true ∧ ((dropL ids hp).all fun p => p.2.noTmp) = true ∧ K .normal ⟨slOf n (killL (fun q => match q.id with | .arg _ _ => false | id => !ids.contains id) (slPick l keep)), ofL (dropL ids hp)⟩) : Thawed K keep ids .normal ⟨slOf n l, ofL hp⟩ :=
  ⟨rfl, n, _, _, drop_slOf _ _ _ _, h.1, h.2.1, h.2.2⟩
end
attribute [simp] frzSt_eq frzT frzC inCell SV.quiet
end Go.V
