/- The road V: code reckoned over trees of values, proved sound against the model once. No conditions. -/
import Derived.Test.YtmodclnblmoeoaaVe
set_option linter.all false
namespace Go.V
open Go.RowKit
set_option linter.unusedSimpArgs false
set_option linter.unusedVariables false

/-! ### a drawn region that calls one function more than once -/
def fnEnv (f : FuncId) (F : List PV → Option (PV × List PV)) (E : Env) : Env := ⟨E.mode, fun g as => if g = f then F as else E.call g as⟩
section
variable {P : Program} {f g : FuncId} {F : List PV → Option (PV × List PV)} {E : Env} {as : List PV}
theorem fnEnv_mode : (fnEnv f F E).mode = E.mode := by unfold fnEnv; rfl
theorem fnEnv_hit : (fnEnv f F E).call f as = F as := by simp [fnEnv]
theorem fnEnv_miss (h : g ≠ f) : (fnEnv f F E).call g as = E.call g as := by simp [fnEnv, h]
theorem fnEnv_ok (hE : EnvOK P E) (hF : ∀ as r os, F as = some (r, os) → CallOK P f as r os) : EnvOK P (fnEnv f F E) := by
  intro g as r os h
  by_cases hg : g = f
  · subst hg
    rw [fnEnv_hit] at h
    exact hF as r os h
  · rw [fnEnv_miss hg] at h
    exact hE g as r os h
def fI1 (G : Int → PT) : List PV → Option (PV × List PV)
  | [.c (.raw (.int .i64 a))] => some (.c (G a), [.c (pi a)])
  | _ => none
def fI2 (G : Int → Int → PT) : List PV → Option (PV × List PV)
  | [.c (.raw (.int .i64 a)), .c (.raw (.int .i64 b))] => some (.c (G a b), [.c (pi a), .c (pi b)])
  | _ => none
def fI3 (G : Int → Int → Int → PT) : List PV → Option (PV × List PV)
  | [.c (.raw (.int .i64 a)), .c (.raw (.int .i64 b)), .c (.raw (.int .i64 c))] => some (.c (G a b c), [.c (pi a), .c (pi b), .c (pi c)])
  | _ => none
theorem fI1_at {G : Int → PT} {a : Int} : fI1 G [.c (pi a)] = some (.c (G a), [.c (pi a)]) := by unfold fI1; rfl
theorem fI2_at {G : Int → Int → PT} {a b : Int} : fI2 G [.c (pi a), .c (pi b)] = some (.c (G a b), [.c (pi a), .c (pi b)]) := by unfold fI2; rfl
theorem fI3_at {G : Int → Int → Int → PT} {a b c : Int} : fI3 G [.c (pi a), .c (pi b), .c (pi c)] = some (.c (G a b c), [.c (pi a), .c (pi b), .c (pi c)]) := by unfold fI3; rfl
theorem fI1_ok {G : Int → PT} (h : ∀ a, CallOK P f [.c (pi a)] (.c (G a)) [.c (pi a)]) : ∀ as r os, fI1 G as = some (r, os) → CallOK P f as r os := by
  intro as r os he
  unfold fI1 at he
  split at he
  · cases he; exact h _
  · simp at he
theorem fI2_ok {G : Int → Int → PT} (h : ∀ a b, CallOK P f [.c (pi a), .c (pi b)] (.c (G a b)) [.c (pi a), .c (pi b)]) : ∀ as r os, fI2 G as = some (r, os) → CallOK P f as r os := by
  intro as r os he
  unfold fI2 at he
  split at he
  · cases he; exact h _ _
  · simp at he
theorem fI3_ok {G : Int → Int → Int → PT} (h : ∀ a b c, CallOK P f [.c (pi a), .c (pi b), .c (pi c)] (.c (G a b c)) [.c (pi a), .c (pi b), .c (pi c)]) : ∀ as r os, fI3 G as = some (r, os) → CallOK P f as r os := by
  intro as r os he
  unfold fI3 at he
  split at he
  · cases he; exact h _ _ _
  · simp at he
end
theorem range1 : List.range 1 = [0] := by decide
theorem range2 : List.range 2 = [0, 1] := by decide
theorem range3 : List.range 3 = [0, 1, 2] := by decide
theorem range4 : List.range 4 = [0, 1, 2, 3] := by decide
theorem range5 : List.range 5 = [0, 1, 2, 3, 4] := by decide
theorem range6 : List.range 6 = [0, 1, 2, 3, 4, 5] := by decide
attribute [simp] range1 range2 range3 range4 range5 range6
attribute [simp] fnEnv_mode fnEnv_hit fnEnv_miss fI1_at fI2_at fI3_at
end Go.V

namespace Go.V
open Go.RowKit
set_option linter.unusedSimpArgs false
set_option linter.unusedVariables false

/-! ### a function of a row of numbers, called more than once in a drawn region -/
def intsOf : List PT → Option (List Int)
  | [] => some []
  | .raw (.int .i64 n) :: cs => (intsOf cs).map (n :: ·)
  | _ => none
theorem intsOf_pi : ∀ xs : List Int, intsOf (xs.map pi) = some xs
  | [] => rfl
  | x :: xs => by simp [intsOf, intsOf_pi xs]
theorem intsOf_eq : ∀ {cs : List PT} {xs : List Int}, intsOf cs = some xs → cs = xs.map pi
  | [], xs, h => by simp only [intsOf, Option.some.injEq] at h; subst h; rfl
  | c :: cs, xs, h => by
    unfold intsOf at h
    split at h
    · simp at *
    · rename_i n cs' heq
      simp only [List.cons.injEq] at heq
      obtain ⟨rfl, rfl⟩ := heq
      simp only [Option.map_eq_some_iff] at h
      obtain ⟨ys, h1, rfl⟩ := h
      rw [intsOf_eq h1]
      rfl
    · simp at h
def fL1 (B : Nat) (G : List Int → PT) : List PV → Option (PV × List PV)
  | [.c (.sl (k + 1) 0 n cs)] => match intsOf cs with
    | some xs => if n = xs.length ∧ xs.length ≤ B then some (.c (G xs), [.c (.sl (k + 1) 0 n cs)]) else none
    | none => none
  | _ => none
theorem fL1_at {B : Nat} {G : List Int → PT} {k : Nat} {xs : List Int} (h : xs.length ≤ B) : fL1 B G [.c (.sl (k + 1) 0 xs.length (xs.map pi))] = some (.c (G xs), [.c (.sl (k + 1) 0 xs.length (xs.map pi))]) := by
  unfold fL1
  simp [intsOf_pi, h]
theorem fL1_ok {P : Program} {f : FuncId} {B : Nat} {G : List Int → PT} (h : ∀ k (xs : List Int), xs.length ≤ B → CallOK P f [.c (rd k xs.length (xs.map pi))] (.c (G xs)) [.c (rd k xs.length (xs.map pi))]) : ∀ as r os, fL1 B G as = some (r, os) → CallOK P f as r os := by
  intro as r os he
  unfold fL1 at he
  split at he
  · rename_i k n cs
    split at he
    · rename_i xs hxs
      split at he
      · rename_i hc
        cases he
        obtain ⟨rfl, hb⟩ := hc
        have := intsOf_eq hxs
        subst this
        exact h k xs hb
      · simp at he
    · simp at he
  · simp at he
attribute [simp] fL1_at
/-! ### where a search by halves ends -/
def bsI {α : Type} (c : α → Int) (xs : List α) : Nat := (xs.takeWhile fun x => decide (c x < 0)).length
def bsF {α : Type} (c : α → Int) (xs : List α) : Bool := match xs[bsI c xs]? with
  | some x => decide (c x = 0)
  | none => false
theorem bsI_eq {α : Type} (c : α → Int) : ∀ (xs : List α) (i : Nat), i ≤ xs.length → (∀ (m : Nat) (hm : m < i) (hl : m < xs.length), c xs[m] < 0) → (∀ (h : i < xs.length), 0 ≤ c xs[i]) → bsI c xs = i
  | [], i, hi, _, _ => by simp at hi; subst hi; rfl
  | x :: xs, 0, _, _, h => by
    have := h (by simp)
    simp only [List.getElem_cons_zero] at this
    have h2 : ¬ c x < 0 := by omega
    simp [bsI, List.takeWhile_cons, h2]
  | x :: xs, i + 1, hi, h1, h2 => by
    have h0 := h1 0 (by omega) (by simp)
    simp only [List.getElem_cons_zero] at h0
    have ih := bsI_eq c xs i (by simpa using hi) (fun m hm hl => h1 (m + 1) (by omega) (by simpa using hl)) (fun h => h2 (by simpa using h))
    unfold bsI at ih ⊢
    simp [List.takeWhile_cons, h0, ih]
theorem half_u64 (i j : Nat) (h : i + j ≤ 9223372036854775807) : IntKind.wrap .i64 ((IntKind.wrap .u64 ((i : Int) + j)).fdiv (2 ^ min 1 IntKind.u64.bits)) = (((i + j) / 2 : Nat) : Int) := by
  have h0 : (2 : Int) ^ min 1 IntKind.u64.bits = 2 := rfl
  have h1 : IntKind.wrap .u64 ((i : Int) + j) = (i : Int) + j := by
    show ((i : Int) + j) % 18446744073709551616 = _
    omega
  have h2 : ((i : Int) + j).fdiv 2 = (((i + j) / 2 : Nat) : Int) := by
    rw [Int.fdiv_eq_ediv_of_nonneg _ (by omega)]
    omega
  rw [h0, h1, h2]
  exact wrap64 (by omega) (by omega)
end Go.V

namespace Go.V
open Go.RowKit
set_option linter.unusedSimpArgs false
set_option linter.unusedVariables false
section
variable {P : Program} {tys : Array TypeId} {ty : TypeId} {k k' : IntKind} {a b : Int}
theorem pr_min2 : pureRun P (Builtin.min_ tys ty #[.int k a, .int k' b]) = some (.int k (if b < a then b else a)) := by
  simp [Builtin.min_, Builtin.min2, pureRun_bind, pureRun_pure]
theorem pr_max2 : pureRun P (Builtin.max_ tys ty #[.int k a, .int k' b]) = some (.int k (if a < b then b else a)) := by
  simp [Builtin.max_, Builtin.max2, pureRun_bind, pureRun_pure]
end
attribute [simp] pr_min2 pr_max2
end Go.V

namespace Go.V
open Go.RowKit
set_option linter.unusedSimpArgs false
set_option linter.unusedVariables false

/-! ### loops whose rounds leave a row under another name -/
def swSt (x y : Id) (st : St) : St := ⟨SV.swL x y st.sl, fun id => st.hp (Id.sw x y id)⟩
def LessW (J : Nat → St → Prop) (m : Nat) (keep : List Nat) (ids : List Id) (st : St) : Prop := ∃ m', m' < m ∧ ∃ x y : Id, x.isOp = true ∧ y.isOp = true ∧ J m' ((swSt x y st).drop keep ids)
def RndW (J : Nat → St → Prop) (m : Nat) (keep : List Nat) (big ids : List Id) (st : St) : Prop := LessW J m keep ids (st.drop keep big)
theorem RndW_eq {J : Nat → St → Prop} {m : Nat} {keep : List Nat} {big ids : List Id} {st : St} : RndW J m keep big ids st = LessW J m keep ids (st.drop keep big) := rfl
section
variable {P : Program} {Q : Exit → St → Prop} {c : Code} {n : Nat}
theorem ewp_swG {st : St} (x y : Id) (hx : x.isOp = true) (hy : y.isOp = true) (h : ewp P c Q (swSt x y st)) : ewp P c Q st := by
  intro I bs A w0 a w L hs
  exact h I bs A w0 a w _ (hs.sw (Id.isOp_ne hx) (Id.isOp_ne hy))
theorem loopW (keep : List Nat) (big ids : List Id) (J : Nat → St → Prop) (m : Nat) {st : St} (h : ∀ Inv, Inv = J → Head Inv m (st.drop keep ids)) (round : ∀ Inv, Inv = J → ∀ m st, J m st → ewp P c (eThen (RndW Inv m keep big ids) Q) st) : ewp P (.loop c) Q st := by
  refine ewp_loop (fun n st => J n (st.drop keep ids) ∨ ∃ x y : Id, x.isOp = true ∧ y.isOp = true ∧ J n ((swSt x y (st.drop keep big)).drop keep ids)) m (.inl (h J rfl)) fun n st hi => ?_
  have key : ∀ st, J n st → ewp P c (eThen (fun st' => ∃ m, m < n ∧ (J m (st'.drop keep ids) ∨ ∃ x y : Id, x.isOp = true ∧ y.isOp = true ∧ J m ((swSt x y (st'.drop keep big)).drop keep ids))) Q) st := fun st hj =>
    ewp_mono (round J rfl n st hj) fun e st' h => by
      cases e <;> simp only [eThen] at h ⊢ <;> first
        | exact h
        | (obtain ⟨m', hm, x, y, hx, hy, hJ⟩ := h; exact ⟨m', hm, .inr ⟨x, y, hx, hy, hJ⟩⟩)
  rcases hi with hi | ⟨x, y, hx, hy, hi⟩
  · exact ewp_drop keep ids (key _ hi)
  · exact ewp_drop keep big (ewp_swG x y hx hy (ewp_drop keep ids (key _ hi)))
theorem LessW_mk {J : Nat → St → Prop} {m : Nat} {keep : List Nat} {ids : List Id} {l : List (Nat × SV)} {hp : List (Id × PT)} (m' : Nat) (x y : Id) (hm : m' < m) (hx : x.isOp = true) (hy : y.isOp = true) (h : Head J m' (St.drop ⟨slOf n (swS x y l), ofL (swN x y hp)⟩ keep ids)) : LessW J m keep ids ⟨slOf n l, ofL hp⟩ := by
  refine ⟨m', hm, x, y, hx, hy, ?_⟩
  have e : swSt x y ⟨slOf n l, ofL hp⟩ = ⟨slOf n (swS x y l), ofL (swN x y hp)⟩ := by
    unfold swSt
    rw [slOf_sw]
    congr 1
    funext id
    exact swN_ofL x y hp id
  rw [e]
  exact h
end
attribute [simp] RndW_eq
end Go.V
