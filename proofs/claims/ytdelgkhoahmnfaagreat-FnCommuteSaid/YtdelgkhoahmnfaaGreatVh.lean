/- The road V: code reckoned over trees of values, proved sound against the model once. No conditions. -/
import Derived.Test.YtdelgkhoahmnfaaGreatVg
import Derived.OrdersIn
set_option linter.all false
namespace Go.V
open Go.RowKit
set_option linter.unusedSimpArgs false
set_option linter.unusedVariables false

/-! ### code within a round of a range over a function -/
def ewpR (P:Program) (c:Code) (Q:Exit → St → Prop) (st:St):Prop :=
  ∀ (lb n:Nat) (I:Nat → Nat → Prop) (bs:List Nat) (A:AD) (w0:World) (a:Act) (w:World) (L:Loc),Sim (tsz P) I bs A w0 st a w L [] →
    c.wpIn (wideR (some lb)) n P (fun e a' w' => ∃ st' L',Sim (tsz P) I bs A w0 st' a' w' L' [] ∧ Q e st') a w
section
variable {P:Program} {Q:Exit → St → Prop} {st st':St}
end
section
variable {P:Program} {M:List (FuncId × List Nat)} {K:St → Prop} {st st':St} {o:Oper}
end
section
variable {P:Program} {M:List (FuncId × List Nat)} {K:St → Prop} {Q:Exit → Act → World → Prop} {n:Nat} {l:Option Nat} {I:Nat → Nat → Prop} {bs:List Nat} {A:AD} {w0:World}
end
def ewrR (P:Program) (M:List (FuncId × List Nat)):Code → (Exit → St → Prop) → St → Prop
  | .skip,Q,st => Q .normal st
  | .seq a b,Q,st => ewrR P M a (eThen (ewrR P M b Q) Q) st
  | .cond c x y,Q,st => brn (opv st c) (app (ewrR P M x Q) st) (app (ewrR P M y Q) st)
  | .block id c,Q,st => ewrR P M c (eBlock id Q) st
  | .exit id,Q,st => Q (.exit id) st
  | .region id ops false,Q,st => runR P M id ops 0 ops.toList (Q .normal) st
  | .loop c,Q,st => ewpR P (.loop c) Q st
  | .region id ops true,Q,st => ewpR P (.region id ops true) Q st
  | _,_,_ => False
section
variable {P:Program} {M:List (FuncId × List Nat)} {Q:Exit → St → Prop} {K:St → Prop} {st st':St} {a b:Code} {c:Operand} {id:Nat} {ops:Array Oper}
theorem ewrR_skip:ewrR P M .skip Q st = Q .normal st:=rfl
theorem ewrR_seq:ewrR P M (.seq a b) Q st = ewrR P M a (eThen (ewrR P M b Q) Q) st:=rfl
theorem ewrR_cond:ewrR P M (.cond c a b) Q st = brn (opv st c) (app (ewrR P M a Q) st) (app (ewrR P M b Q) st):=rfl
theorem ewrR_block:ewrR P M (.block id a) Q st = ewrR P M a (eBlock id Q) st:=rfl
theorem ewrR_exit:ewrR P M (.exit id) Q st = Q (.exit id) st:=rfl
theorem ewrR_region:ewrR P M (.region id ops false) Q st = runR P M id ops 0 ops.toList (Q .normal) st:=rfl
theorem ewrR_draw:ewrR P M (.region id ops true) Q st = ewpR P (.region id ops true) Q st:=rfl
theorem ewrR_loop:ewrR P M (.loop a) Q st = ewpR P (.loop a) Q st:=rfl
theorem ewrR_congr (h:st = st'):ewrR P M a Q st = ewrR P M a Q st':=by rw [h]
theorem ewpR_congr (h:st = st'):ewpR P a Q st = ewpR P a Q st':=by rw [h]
end
attribute [congr] ewrR_congr ewpR_congr
attribute [simp] ewrR_skip ewrR_seq ewrR_cond ewrR_block ewrR_exit ewrR_region ewrR_draw ewrR_loop
/-! ### cuts and loops where ranges over functions stand -/
end Go.V
