/- The road V: code reckoned over trees of values, proved sound against the model once. No conditions. -/
import Derived.Test.YtcdlflmppicdjaaVe
set_option linter.all false
namespace Go.V
open Go.RowKit
set_option linter.unusedSimpArgs false
set_option linter.unusedVariables false

/-! ### a drawn region that calls one function more than once -/
def fnEnv (f : FuncId) (F : List PV → Option (PV × List PV)) (E : Env) : Env := ⟨E.mode, fun g as => if g = f then F as else E.call g as⟩
section
variable {P : Program} {f g : FuncId} {F : List PV → Option (PV × List PV)} {E : Env} {as : List PV}
theorem fnEnv_mode : (fnEnv f F E).mode = E.mode := by unfold fnEnv; rfl
theorem fnEnv_hit : (fnEnv f F E).call f as = F as := by simp [fnEnv]
theorem fnEnv_miss (h : g ≠ f) : (fnEnv f F E).call g as = E.call g as := by simp [fnEnv, h]
theorem fnEnv_ok (hE : EnvOK P E) (hF : ∀ as r os, F as = some (r, os) → CallOK P f as r os) : EnvOK P (fnEnv f F E) := by
  intro g as r os h
  by_cases hg : g = f
  · subst hg
    rw [fnEnv_hit] at h
    exact hF as r os h
  · rw [fnEnv_miss hg] at h
    exact hE g as r os h
def fI1 (G : Int → PT) : List PV → Option (PV × List PV)
  | [.c (.raw (.int .i64 a))] => some (.c (G a), [.c (pi a)])
  | _ => none
def fI2 (G : Int → Int → PT) : List PV → Option (PV × List PV)
  | [.c (.raw (.int .i64 a)), .c (.raw (.int .i64 b))] => some (.c (G a b), [.c (pi a), .c (pi b)])
  | _ => none
def fI3 (G : Int → Int → Int → PT) : List PV → Option (PV × List PV)
  | [.c (.raw (.int .i64 a)), .c (.raw (.int .i64 b)), .c (.raw (.int .i64 c))] => some (.c (G a b c), [.c (pi a), .c (pi b), .c (pi c)])
  | _ => none
theorem fI1_at {G : Int → PT} {a : Int} : fI1 G [.c (pi a)] = some (.c (G a), [.c (pi a)]) := by unfold fI1; rfl
theorem fI2_at {G : Int → Int → PT} {a b : Int} : fI2 G [.c (pi a), .c (pi b)] = some (.c (G a b), [.c (pi a), .c (pi b)]) := by unfold fI2; rfl
theorem fI3_at {G : Int → Int → Int → PT} {a b c : Int} : fI3 G [.c (pi a), .c (pi b), .c (pi c)] = some (.c (G a b c), [.c (pi a), .c (pi b), .c (pi c)]) := by unfold fI3; rfl
theorem fI1_ok {G : Int → PT} (h : ∀ a, CallOK P f [.c (pi a)] (.c (G a)) [.c (pi a)]) : ∀ as r os, fI1 G as = some (r, os) → CallOK P f as r os := by
  intro as r os he
  unfold fI1 at he
  split at he
  · cases he; exact h _
  · simp at he
theorem fI2_ok {G : Int → Int → PT} (h : ∀ a b, CallOK P f [.c (pi a), .c (pi b)] (.c (G a b)) [.c (pi a), .c (pi b)]) : ∀ as r os, fI2 G as = some (r, os) → CallOK P f as r os := by
  intro as r os he
  unfold fI2 at he
  split at he
  · cases he; exact h _ _
  · simp at he
theorem fI3_ok {G : Int → Int → Int → PT} (h : ∀ a b c, CallOK P f [.c (pi a), .c (pi b), .c (pi c)] (.c (G a b c)) [.c (pi a), .c (pi b), .c (pi c)]) : ∀ as r os, fI3 G as = some (r, os) → CallOK P f as r os := by
  intro as r os he
  unfold fI3 at he
  split at he
  · cases he; exact h _ _ _
  · simp at he
end
theorem range1 : List.range 1 = [0] := by decide
theorem range2 : List.range 2 = [0, 1] := by decide
theorem range3 : List.range 3 = [0, 1, 2] := by decide
theorem range4 : List.range 4 = [0, 1, 2, 3] := by decide
theorem range5 : List.range 5 = [0, 1, 2, 3, 4] := by decide
theorem range6 : List.range 6 = [0, 1, 2, 3, 4, 5] := by decide
attribute [simp] range1 range2 range3 range4 range5 range6
attribute [simp] fnEnv_mode fnEnv_hit fnEnv_miss fI1_at fI2_at fI3_at
end Go.V
