/- The road V: code reckoned over trees of values, proved sound against the model once. No conditions. -/
import Derived.Test.YtfooiclnbkchmaaVc
import Derived.Carry
import Derived.ChangeArms
import Derived.ChangeOld
import Derived.ChangeShapes
import Derived.Handed
import Derived.Laws.BytesArg
import Derived.Laws.IdiomCopy
import Derived.Laws.IdiomStrings
import Derived.Laws.Strings
import Derived.OpenShut
import Derived.SizedLaws
import Derived.Still
import Derived.WideShapes
set_option linter.all false
namespace Go.V
open Go.RowKit
set_option linter.unusedSimpArgs false
set_option linter.unusedVariables false

def onSome (o : Option St) (f : St → Prop) : Prop := match o with
  | some st => f st
  | none => False
theorem onSome_some (st : St) (f : St → Prop) : onSome (some st) f = f st := by unfold onSome; rfl
theorem onSome_congr {o o' : Option St} {f : St → Prop} (h : o = o') : onSome o f = onSome o' f := by rw [h]
/-- A branch; what stands behind it is not looked at before it is told which. -/
def brn (c : Option SV) (x y : Prop) : Prop := match c with
  | some (.t (.raw (.bool b))) => (b = true → x) ∧ (b = false → y)
  | _ => False
theorem brn_congr {c c' : Option SV} {x y : Prop} (h : c = c') : brn c x y = brn c' x y := by rw [h]
theorem brn_true (x y : Prop) : brn (some (.t (.raw (.bool true)))) x y = x := by simp [brn]
theorem brn_false (x y : Prop) : brn (some (.t (.raw (.bool false)))) x y = y := by simp [brn]
theorem brn_of {b : Bool} {x y : Prop} (h1 : b = true → x) (h2 : b = false → y) : brn (some (.t (.raw (.bool b)))) x y := ⟨h1, h2⟩
/-- Code, reckoned as far as the first loops. -/
def ewc (E : Env) (P : Program) : Code → (Exit → St → Prop) → St → Prop
  | .skip, Q, st => Q .normal st
  | .seq a b, Q, st => ewc E P a (eThen (ewc E P b Q) Q) st
  | .cond c x y, Q, st => brn (opv st c) (app (ewc E P x Q) st) (app (ewc E P y Q) st)
  | .block id c, Q, st => ewc E P c (eBlock id Q) st
  | .exit id, Q, st => Q (.exit id) st
  | .ret, Q, st => Q .ret st
  | .region id ops false, Q, st => onSome (stRegion E P id ops st) (Q .normal)
  | .loop c, Q, st => ewp P (.loop c) Q st
  | .region id ops true, Q, st => ewp P (.region id ops true) Q st
  | _, _, _ => False
section
variable {E : Env} {P : Program} {Q : Exit → St → Prop} {K : St → Prop} {st : St} {a b : Code} {c : Operand} {id : Nat} {ops : Array Oper}
theorem ewc_skip : ewc E P .skip Q st = Q .normal st := rfl
theorem ewc_seq : ewc E P (.seq a b) Q st = ewc E P a (eThen (ewc E P b Q) Q) st := rfl
theorem ewc_cond : ewc E P (.cond c a b) Q st = brn (opv st c) (app (ewc E P a Q) st) (app (ewc E P b Q) st) := rfl
theorem ewc_block : ewc E P (.block id a) Q st = ewc E P a (eBlock id Q) st := rfl
theorem ewc_exit : ewc E P (.exit id) Q st = Q (.exit id) st := rfl
theorem ewc_ret : ewc E P .ret Q st = Q .ret st := rfl
theorem ewc_region : ewc E P (.region id ops false) Q st = onSome (stRegion E P id ops st) (Q .normal) := rfl
theorem ewc_draw : ewc E P (.region id ops true) Q st = ewp P (.region id ops true) Q st := rfl
theorem ewc_loop : ewc E P (.loop a) Q st = ewp P (.loop a) Q st := rfl
theorem eThen_normal : eThen K Q .normal st = K st := rfl
theorem eThen_exit : eThen K Q (.exit id) st = Q (.exit id) st := rfl
theorem eThen_ret : eThen K Q .ret st = Q .ret st := rfl
theorem eBlock_normal : eBlock id Q .normal st = Q .normal st := rfl
theorem eBlock_exit {id' : Nat} : eBlock id Q (.exit id') st = if id' = id then Q .normal st else Q (.exit id') st := rfl
theorem eBlock_ret : eBlock id Q .ret st = Q .ret st := rfl
theorem brn_t {f : St → Prop} {y : Prop} : brn (some (.t (.raw (.bool true)))) (app f st) y = f st := by simp [brn, app]
theorem brn_f {f : St → Prop} {y : Prop} : brn (some (.t (.raw (.bool false)))) y (app f st) = f st := by simp [brn, app]
theorem brn_app {v : Bool} {f g : St → Prop} (h1 : v = true → f st) (h2 : v = false → g st) : brn (some (.t (.raw (.bool v)))) (app f st) (app g st) := ⟨h1, h2⟩
end

section
variable {P : Program} {E : Env}
theorem ewc_sound (h0 : tsz P nilE = 0) (hE : EnvOK P E) : ∀ {c : Code} {Q : Exit → St → Prop} {st : St}, ewc E P c Q st → ewp P c Q st
  | .skip, _, _, h => ewp_skip (by simpa only [ewc] using h)
  | .seq a b, Q, st, h => by
    simp only [ewc] at h
    refine ewp_seq (ewp_mono (ewc_sound h0 hE h) ?_)
    intro e st' hx
    cases e <;> simp only [eThen] at hx ⊢
    · exact ewc_sound h0 hE hx
    all_goals exact hx
  | .cond c x y, Q, st, h => by
    simp only [ewc, brn] at h
    split at h
    · rename_i b hb
      exact ewp_cond hb (fun hx => ewc_sound h0 hE (h.1 hx)) (fun hx => ewc_sound h0 hE (h.2 hx))
    · exact h.elim
  | .block id c, Q, st, h => by
    simp only [ewc] at h
    exact ewp_block (ewc_sound h0 hE h)
  | .exit id, _, _, h => ewp_exit (by simpa only [ewc] using h)
  | .ret, _, _, h => ewp_ret (by simpa only [ewc] using h)
  | .region id ops false, Q, st, h => by
    simp only [ewc, onSome] at h
    split at h
    · rename_i st' hr
      exact ewp_region h0 hE hr h
    · exact h.elim
  | .loop c, Q, st, h => by simpa only [ewc] using h
  | .region id ops true, Q, st, h => by simpa only [ewc] using h
  | .rangeFunc _ _ _ _, _, _, h => by simp only [ewc] at h
  | .scope _, _, _, h => by simp only [ewc] at h
  | .label _, _, _, h => by simp only [ewc] at h
  | .goto _, _, _, h => by simp only [ewc] at h
  | .refuse _, _, _, h => by simp only [ewc] at h
end

/-- What stands where a body is left. -/
def Post (P : Program) (fn : Func) (args : List PV) (r : PV × List PV) : Exit → St → Prop
  | .normal, st => stRet P fn args st = some r
  | .ret, st => stRet P fn args st = some r
  | _, _ => False
theorem callOK_ewc {P : Program} {E : Env} {f : FuncId} {fn : Func} {c : Code} {args : List PV} {r : PV × List PV} (h0 : tsz P nilE = 0) (hE : EnvOK P E) (hf : P.funcs[f]? = some fn) (hn : (fn.name == "runtime.NumGoroutine") = false) (hb : fn.body = some c)
    (h : ewc E P c (Post P fn args r) ⟨entrySVs 0 args ++ List.replicate (fn.ntmps - args.length) (.t (.raw undef)), ofL (argL 0 args)⟩) : CallOK P f args r.1 r.2 := by
  rw [← entrySt_ofL] at h
  refine callOK_of hf hn hb (ewp_mono (ewc_sound h0 hE h) ?_)
  intro e st hx
  cases e <;> simp only [Post] at hx
  · exact ⟨.inr rfl, hx⟩
  · exact ⟨.inl rfl, hx⟩

/-! ### operators on what is told -/
theorem ofL_nil (id : V.Id) : ofL [] id = none := rfl
theorem ofL_cons (i : V.Id) (t : PT) (l : List (V.Id × PT)) (id : V.Id) : ofL ((i, t) :: l) id = if id = i then some t else ofL l id := rfl
section
variable {P : Program}
theorem bytes_toList_inj {a b : ByteArray} (h : a.toList = b.toList) : a = b := by
  rw [ByteArray.toList_eq, ByteArray.toList_eq] at h
  exact WideShapes.bytes_inj h
theorem pureRun_pure {α : Type} (a : α) : pureRun P (pure a) = some a := rfl
theorem pureRun_bind {α β : Type} (f : α → Sem β) : ∀ s : Sem α, pureRun P (s >>= f) = (pureRun P s).bind fun a => pureRun P (f a)
  | .pure a => rfl
  | .program k => pureRun_bind f (k P)
  | .mark _ k => pureRun_bind f k
  | .load _ _ _ => rfl
  | .store _ _ _ _ => rfl
  | .new _ _ => rfl
  | .shape _ _ => rfl
  | .freeze _ _ _ => rfl
  | .frozen _ _ => rfl
  | .getObj _ _ => rfl
  | .setObj _ _ _ => rfl
  | .choose _ _ => rfl
  | .sys _ _ => rfl
  | .halt _ => rfl
variable {t : TypeId} {x y : Operand} {k : IntKind} {a b : Int} {u v : ByteArray}
theorem pr_lss : pureRun P (do eqGuard .lss t x y (.int k a) (.int k b); binOp .lss t (.int k a) (.int k b)) = some (.bool (decide (a < b))) := by
  simp [pureRun_bind, pureRun_pure, eqGuard, binOp, Op.intCmp]
theorem pr_leq : pureRun P (do eqGuard .leq t x y (.int k a) (.int k b); binOp .leq t (.int k a) (.int k b)) = some (.bool (decide (a ≤ b))) := by
  simp [pureRun_bind, pureRun_pure, eqGuard, binOp, Op.intCmp]
theorem pr_gtr : pureRun P (do eqGuard .gtr t x y (.int k a) (.int k b); binOp .gtr t (.int k a) (.int k b)) = some (.bool (decide (b < a))) := by
  simp [pureRun_bind, pureRun_pure, eqGuard, binOp, Op.intCmp]
theorem pr_geq : pureRun P (do eqGuard .geq t x y (.int k a) (.int k b); binOp .geq t (.int k a) (.int k b)) = some (.bool (decide (b ≤ a))) := by
  simp [pureRun_bind, pureRun_pure, eqGuard, binOp, Op.intCmp]
theorem pr_eql : pureRun P (do eqGuard .eql t x y (.int k a) (.int k b); binOp .eql t (.int k a) (.int k b)) = some (.bool (decide (a = b))) := by
  simp [pureRun_bind, pureRun_pure, eqGuard, binOp, Op.intCmp]; rfl
theorem pr_neq : pureRun P (do eqGuard .neq t x y (.int k a) (.int k b); binOp .neq t (.int k a) (.int k b)) = some (.bool (!decide (a = b))) := by
  simp [pureRun_bind, pureRun_pure, eqGuard, binOp, Op.intCmp]; rfl
theorem pr_add : pureRun P (do eqGuard .add t x y (.int k a) (.int k b); binOp .add t (.int k a) (.int k b)) = some (.int k (k.wrap (a + b))) := by
  simp [pureRun_bind, pureRun_pure, eqGuard, binOp, Op.intArith]
theorem pr_sub : pureRun P (do eqGuard .sub t x y (.int k a) (.int k b); binOp .sub t (.int k a) (.int k b)) = some (.int k (k.wrap (a - b))) := by
  simp [pureRun_bind, pureRun_pure, eqGuard, binOp, Op.intArith]
theorem pr_mul : pureRun P (do eqGuard .mul t x y (.int k a) (.int k b); binOp .mul t (.int k a) (.int k b)) = some (.int k (k.wrap (a * b))) := by
  simp [pureRun_bind, pureRun_pure, eqGuard, binOp, Op.intArith]
theorem pr_eqlS : pureRun P (do eqGuard .eql t x y (.string u) (.string v); binOp .eql t (.string u) (.string v)) = some (.bool (decide (u = v))) := by
  simp [pureRun_bind, pureRun_pure, eqGuard, binOp, Op.stringOp]; by_cases h : u = v
  · simp [h]
  · have h2 : ¬ u.toList = v.toList := fun e => h (bytes_toList_inj e)
    simp [h, h2]
theorem pr_neqS : pureRun P (do eqGuard .neq t x y (.string u) (.string v); binOp .neq t (.string u) (.string v)) = some (.bool !(decide (u = v))) := by
  simp [pureRun_bind, pureRun_pure, eqGuard, binOp, Op.stringOp]; by_cases h : u = v
  · simp [h]
  · have h2 : ¬ u.toList = v.toList := fun e => h (bytes_toList_inj e)
    simp [h, h2]
theorem pr_not {c : Bool} : pureRun P (Op.unary .not (.bool c)) = some (.bool !c) := by
  simp [pureRun_pure, Op.unary]
theorem pr_neg : pureRun P (Op.unary .neg (.int k a)) = some (.int k (k.wrap (-a))) := by
  simp [pureRun_pure, Op.unary, Op.intArith]
end
/-- What an int64 can be. -/
theorem wrap64 {n : Int} (h1 : -9223372036854775808 ≤ n) (h2 : n ≤ 9223372036854775807) : IntKind.wrap .i64 n = n := by
  have e : IntKind.wrap .i64 n = if n % 18446744073709551616 ≥ 9223372036854775808 then n % 18446744073709551616 - 18446744073709551616 else n % 18446744073709551616 := by
    simp [IntKind.wrap, IntKind.bits, IntKind.signed]
  rw [e]
  split <;> omega

/-! ### what is reckoned by itself -/
attribute [congr] nxt_congr gte_congr oels_congr onSome_congr brn_congr
attribute [simp ↓] nxt_some gte_true gte_app oels_some oels_none onSome_some brn_t brn_f
attribute [simp] ofL_nil ofL_cons stOps_nil stOps_cons ewc_skip ewc_seq ewc_cond ewc_block ewc_exit ewc_ret ewc_region ewc_draw ewc_loop eThen_normal eThen_exit eThen_ret eBlock_normal eBlock_exit eBlock_ret
attribute [simp] gsl_b gsl_u gte_false stRegion guardSt stStep stPure stPlain stAddr stCut stLoad loadSV stStore stLook stBox stMake stAppend stAppFin appSrc PT.flat stBuild stCall calleeOf opvs stInvoke zipModes takeArgs takeArg takeCells takeCell clear lendArgs lendV lendP lendPs lendCaps AT.lendy SV.lendy SV.lendyL PT.unown PT.unownL PT.unownC PT.noTmp PT.noTmpL PT.noTmpC PT.emptyC PV.cells PV.cells.cellsL ownCells backsOf backArg backOne backCells putBack backHas setRoots resShape resOne resMany resCell resCells
attribute [simp] opv valv SV.toVal SV.ofV PT.ofV rawsOf St.set newRoot SV.kill SV.uses SV.usesL lookP PT.get PT.put cellSV cellsSV updF_ofL hputP_ofL setL entrySVs entrySV cellEntry cellEntries argL cellL slP PT.isSl comps SV.compsB SV.oneB takeAll takeSV Value.cells one cellsPre Pl.pre sizeVal opvParts fillSV
attribute [simp] pr_lss pr_leq pr_gtr pr_geq pr_eql pr_neq pr_add pr_sub pr_mul pr_eqlS pr_neqS pr_not pr_neg
attribute [simp] St.drop_ofL keepSl dropL Post stRet resSVs resSV regroup retPV outVs outV outP outPs
end Go.V

namespace Go.V
open Go.RowKit
set_option linter.unusedSimpArgs false
set_option linter.unusedVariables false

theorem uses_false : (∀ s : SV, s.uses (fun _ => false) = false) := by
  have key : ∀ n : Nat, (∀ s : SV, SizeOf.sizeOf s < n → s.uses (fun _ => false) = false) ∧ (∀ ss : List SV, SizeOf.sizeOf ss < n → SV.usesL (fun _ => false) ss = false) := by
    intro n
    induction n with
    | zero => exact ⟨fun _ h => by omega, fun _ h => by omega⟩
    | succ n ih =>
      refine ⟨fun s hs => ?_, fun ss hs => ?_⟩
      · cases s <;> simp only [SV.uses] <;> exact ih.2 _ (by simp at hs; omega)
      · cases ss with
        | nil => rfl
        | cons s ss => simp only [SV.usesL, Bool.or_eq_false_iff]; exact ⟨ih.1 _ (by simp at hs; omega), ih.2 _ (by simp at hs; omega)⟩
  exact fun s => (key (SizeOf.sizeOf s + 1)).1 s (Nat.lt_succ_self _)
theorem uses_mono {f g : Pl → Bool} (h : ∀ pl, f pl = true → g pl = true) : (∀ s : SV, s.uses g = false → s.uses f = false) := by
  have key : ∀ n : Nat, (∀ s : SV, SizeOf.sizeOf s < n → s.uses g = false → s.uses f = false) ∧ (∀ ss : List SV, SizeOf.sizeOf ss < n → SV.usesL g ss = false → SV.usesL f ss = false) := by
    intro n
    induction n with
    | zero => exact ⟨fun _ h => by omega, fun _ h => by omega⟩
    | succ n ih =>
      refine ⟨fun s hs hg => ?_, fun ss hs hg => ?_⟩
      · cases s with
        | ref pl off len => simp only [SV.uses] at hg ⊢; cases hf : f pl <;> simp_all
        | ptr pl off => simp only [SV.uses] at hg ⊢; cases hf : f pl <;> simp_all
        | fnc g' l => simp only [SV.uses] at hg ⊢; exact ih.2 _ (by simp at hs; omega) hg
        | agg l => simp only [SV.uses] at hg ⊢; exact ih.2 _ (by simp at hs; omega) hg
        | tup l => simp only [SV.uses] at hg ⊢; exact ih.2 _ (by simp at hs; omega) hg
        | _ => rfl
      · cases ss with
        | nil => rfl
        | cons s ss =>
          simp only [SV.usesL, Bool.or_eq_false_iff] at hg ⊢
          exact ⟨ih.1 _ (by simp at hs; omega) hg.1, ih.2 _ (by simp at hs; omega) hg.2⟩
  exact fun s => (key (SizeOf.sizeOf s + 1)).1 s (Nat.lt_succ_self _)
def SV.within (W : Id → Bool) (s : SV) : Bool := !s.uses fun pl => !W pl.id
def SV.inert (s : SV) : Bool := !s.uses fun _ => true
def SV.touch (W : Id → Bool) (s : SV) : Bool := s.uses fun pl => W pl.id
def SV.clean (W : Id → Bool) (s : SV) : SV := if s.within W = true then s else .junk

section
variable {sz : Nat → Nat} {I I' : Nat → Nat → Prop} {bs : List Nat} {A : Nat → Nat → Option Value} {w0 w w' : World} {st st' st1 st2 : St} {a : Act} {L L' L0 L1 L2 : Loc} {hand hand' : List LT} {P : Program} {o : Oper} {Q : Exit → Act → World → Prop} {E : Env}

theorem SVRL.of_at : ∀ {vs : List Value} {ss : List SV}, vs.length = ss.length → (∀ (i : Nat) v s, vs[i]? = some v → ss[i]? = some s → SVR sz L w I v s) → SVRL sz L w I vs ss
  | vs, [], h, _ => by simp only [List.length_nil, List.length_eq_zero_iff] at h; simp [SVRL, h]
  | [], s :: ss, h, _ => by simp at h
  | v :: vs, s :: ss, h, hs => by
    simp only [SVRL]
    exact ⟨v, vs, rfl, hs 0 v s rfl rfl, SVRL.of_at (by simpa using h) fun i v s h1 h2 => hs (i + 1) v s (by simpa using h1) (by simpa using h2)⟩
/-- What uses names of W alone, where these lead to the same. -/
theorem SVR.within {W : Id → Bool} (hW : ∀ id, W id = true → L' id = L id) (hI : ∀ k b, I k b → w'.heap[b]? = w.heap[b]?) {v : Value} {s : SV} (h : SVR sz L w I v s) (hs : s.within W = true) : SVR sz L' w' I v s := by
  refine (SVR.all (fun pl => !W pl.id) ?_ (fun _ _ hb => hb) hI).1 v s (by simpa [SV.within] using hs) h
  intro pl node hf _ hn
  refine ⟨node, ?_, Shp.refl _⟩
  unfold look at hn ⊢
  rw [hW _ (by simpa using hf)]
  exact hn
theorem SVR.clean {W : Id → Bool} (hW : ∀ id, W id = true → L' id = L id) (hI : ∀ k b, I k b → w'.heap[b]? = w.heap[b]?) {v : Value} {s : SV} (h : SVR sz L w I v s) : SVR sz L' w' I v (s.clean W) := by
  unfold SV.clean
  split
  · exact h.within hW hI (by assumption)
  · simp [SVR]

/-! ### a state cut down to what an operation looks at -/
def keepB (looks D : List Nat) (F : Id → Bool) (t : Nat) (s : SV) : Bool := (looks.contains t || (!D.contains t && !s.inert)) && s.within F
def restrSl (looks D : List Nat) (F : Id → Bool) : Nat → List SV → List SV
  | _, [] => []
  | t, s :: ss => (if keepB looks D F t s = true then s else .junk) :: restrSl looks D F (t + 1) ss
def restr (looks D : List Nat) (Fl : List Id) (st : St) : St := ⟨restrSl looks D (fun id => Fl.contains id) 0 st.sl, fun id => if Fl.contains id = true then st.hp id else none⟩
/-- What is put back: the operation's own slot, what was kept and may have turned; what is touched is told no more. -/
def mergeOne (looks D : List Nat) (F V W : Id → Bool) (p : Bool) (dst : Option Nat) (t : Nat) (x y : SV) : SV :=
  if dst = some t then y.clean V else if (!p && (keepB looks D F t x && !x.inert)) = true then (if y.inert = true then .junk else y.clean W) else if (!p && x.touch W) = true then .junk else x
def mergeSl (looks D : List Nat) (F V W : Id → Bool) (p : Bool) (dst : Option Nat) : Nat → List SV → List SV → List SV
  | _, [], _ => []
  | t, x :: xs, ys => mergeOne looks D F V W p dst t x (ys.getD 0 .junk) :: mergeSl looks D F V W p dst (t + 1) xs ys.tail
theorem restrSl_at (looks D : List Nat) (F : Id → Bool) : ∀ (ss : List SV) (t k : Nat), (restrSl looks D F t ss)[k]? = (ss[k]?).map fun s => if keepB looks D F (t + k) s = true then s else .junk
  | [], t, k => by simp [restrSl]
  | s :: ss, t, 0 => by simp [restrSl]
  | s :: ss, t, k + 1 => by
    have := restrSl_at looks D F ss (t + 1) k
    simp only [restrSl, List.getElem?_cons_succ]
    rw [this, show t + 1 + k = t + (k + 1) by omega]
theorem restrSl_len (looks D : List Nat) (F : Id → Bool) : ∀ (ss : List SV) (t : Nat), (restrSl looks D F t ss).length = ss.length
  | [], t => rfl
  | s :: ss, t => by simp [restrSl, restrSl_len looks D F ss]
theorem mergeSl_at (looks D : List Nat) (F V W : Id → Bool) (p : Bool) (dst : Option Nat) : ∀ (xs ys : List SV) (t k : Nat), (mergeSl looks D F V W p dst t xs ys)[k]? = (xs[k]?).map fun x => mergeOne looks D F V W p dst (t + k) x (ys.getD k .junk)
  | [], ys, t, k => by simp [mergeSl]
  | x :: xs, ys, t, 0 => by simp [mergeSl]
  | x :: xs, ys, t, k + 1 => by
    have := mergeSl_at looks D F V W p dst xs ys.tail (t + 1) k
    simp only [mergeSl, List.getElem?_cons_succ]
    rw [this, show t + 1 + k = t + (k + 1) by omega]
    congr 1
    funext z
    congr 1
    cases ys <;> simp
theorem mergeSl_len (looks D : List Nat) (F V W : Id → Bool) (p : Bool) (dst : Option Nat) : ∀ (xs ys : List SV) (t : Nat), (mergeSl looks D F V W p dst t xs ys).length = xs.length
  | [], ys, t => by simp [mergeSl]
  | x :: xs, ys, t => by simp [mergeSl, mergeSl_len looks D F V W p dst xs ys.tail (t + 1)]

/-- The blocks of some names. -/
def blk (L : Loc) (id : Id) : List Nat := match L id with
  | some t => t.blocks
  | none => []
theorem mem_blk {id : Id} {b : Nat} (h : b ∈ blk L id) : ∃ t, L id = some t ∧ b ∈ t.blocks := by
  unfold blk at h
  split at h
  · exact ⟨_, by assumption, h⟩
  · simp at h
theorem Sim.restr (h : Sim sz I bs A w0 st a w L []) (looks D : List Nat) (Fl : List Id) :
    Sim sz I (Fl.flatMap (blk L)) (fun i j => if Fl.contains (.arg i j) = true then A i j else none) w (V.restr looks D Fl st) a w (fun id => if Fl.contains id = true then L id else none) [] := by
  have hsub : ∀ id t, (if Fl.contains id = true then L id else none) = some t → L id = some t ∧ Fl.contains id = true := by
    intro id t ht
    split at ht
    · exact ⟨ht, by assumption⟩
    · simp at ht
  refine { keeps := Kp.refl _ _, imm := ?_, nodef := h.nodef, hholds := by simp, hnodup := by simp, hown := by simp, hapart := by simp, args := ?_, er := ?_, holds := fun id t ht => h.holds id t (hsub id t ht).1, nodup := fun id t ht => h.nodup id t (hsub id t ht).1, own := ?_, apart := fun id id' t t' hne ht ht' => h.apart id id' t t' hne (hsub id t ht).1 (hsub id' t' ht').1, slots := ?_ }
  all_goals first
    | (intro k b hb
       refine ⟨h.immw k b hb, fun hx => ?_⟩
       obtain ⟨id, hid, hbb⟩ := List.mem_flatMap.1 hx
       obtain ⟨t, ht, hbt⟩ := mem_blk hbb
       have hne := h.imm_ne hb
       exact (h.own id t ht b hbt).elim hne.1 hne.2)
    | skip
  · intro id
    simp only [V.restr]
    split
    · exact h.er id
    · rfl
  · intro id t ht b hb
    obtain ⟨h1, h2⟩ := hsub id t ht
    refine .inl (List.mem_flatMap.2 ⟨id, by simpa using h2, ?_⟩)
    simp only [blk, h1]
    exact hb
  · refine SVRL.of_at ?_ ?_
    · simp only [V.restr, restrSl_len]; exact h.slots.len
    · intro i v s hv hs
      simp only [V.restr, restrSl_at, Nat.zero_add, Option.map_eq_some_iff] at hs
      obtain ⟨s0, hs0, rfl⟩ := hs
      obtain ⟨v', hv', hr⟩ := h.slots.at_ i s0 hs0
      rw [hv] at hv'
      cases hv'
      split
      · rename_i hk
        simp only [keepB, Bool.and_eq_true] at hk
        refine hr.within (W := fun id => Fl.contains id) (fun id hid => ?_) (fun _ _ _ => rfl) hk.2
        rw [if_pos hid]
      · simp [SVR]
  · intro i j v hv
    split at hv
    · rename_i hc
      obtain ⟨t, ht, htv⟩ := h.args i j v hv
      exact ⟨t, by rw [if_pos hc]; exact ht, htv⟩
    · simp at hv

/-- What an operation did to the names that it was given is put back beside what it wasn't given. -/
theorem Sim.merge (h : Sim sz I bs A w0 st a w L []) (looks D : List Nat) (Fl : List Id) (V W : Id → Bool) (hFW : ∀ id, Fl.contains id = true → W id = true) (hVW : ∀ id, V id = true → W id = true) (hnew : ∀ i j, W (.arg i j) = true → Fl.contains (.arg i j) = true) {rs : St} {dst : Option Nat} {v : Value} {Lr : Loc}
    (hr : Sim sz I (Fl.flatMap (blk L)) (fun i j => if Fl.contains (.arg i j) = true then A i j else none) w rs (a.put dst v) w' Lr []) :
    Sim sz I bs A w0 ⟨mergeSl looks D (fun id => Fl.contains id) V W false dst 0 st.sl rs.sl, fun id => if W id = true then rs.hp id else st.hp id⟩ (a.put dst v) w' (fun id => if W id = true then Lr id else L id) [] := by
  have hbs : ∀ b ∈ Fl.flatMap (blk L), b ∈ bs ∨ w0.heap.size ≤ b := by
    intro b hb
    obtain ⟨id, _, hbb⟩ := List.mem_flatMap.1 hb
    obtain ⟨t, ht, hbt⟩ := mem_blk hbb
    exact h.own id t ht b hbt
  have hI : ∀ k b, I k b → w'.heap[b]? = w.heap[b]? := fun k b hb => hr.keeps.block b (hr.imm k b hb).1 (hr.imm k b hb).2
  have hout : ∀ id t, W id = false → L id = some t → ∀ b ∈ t.blocks, b < w.heap.size ∧ b ∉ Fl.flatMap (blk L) := by
    intro id t hW ht b hb
    refine ⟨LT.blocks_lt t (h.holds id t ht) b hb, fun hx => ?_⟩
    obtain ⟨id', hid', hbb⟩ := List.mem_flatMap.1 hx
    obtain ⟨t', ht', hbt'⟩ := mem_blk hbb
    have hne : id ≠ id' := by
      rintro rfl
      rw [hFW id (by simpa using hid')] at hW
      cases hW
    exact h.apart id id' t t' hne ht ht' b hb hbt'
  have hcase : ∀ id t, (if W id = true then Lr id else L id) = some t → (W id = true ∧ Lr id = some t) ∨ (W id = false ∧ L id = some t) := by
    intro id t ht
    cases hW : W id with
    | true => rw [hW, if_pos rfl] at ht; exact .inl ⟨rfl, ht⟩
    | false => rw [hW, if_neg (by simp)] at ht; exact .inr ⟨rfl, ht⟩
  have hlen : st.sl.length = rs.sl.length := by
    have h1 := h.slots.len
    have h2 := hr.slots.len
    have h3 : (a.put dst v).tmps.toList.length = a.tmps.toList.length := by cases dst <;> simp [Act.put]
    omega
  refine { keeps := h.keeps.trans hr.keeps hbs, imm := h.imm, nodef := hr.nodef, hholds := by simp, hnodup := by simp, hown := by simp, hapart := by simp, er := ?_, holds := ?_, nodup := ?_, own := ?_, apart := ?_, slots := ?_, args := ?_ }
  · intro id
    simp only
    split
    · exact hr.er id
    · exact h.er id
  · intro id t ht
    rcases hcase id t ht with ⟨_, ht⟩ | ⟨hW, ht⟩
    · exact hr.holds id t ht
    · exact LT.holds_frame (fun _ _ hb => hb) hI t (h.holds id t ht) fun b hb => hr.keeps.block b (hout id t hW ht b hb).1 (hout id t hW ht b hb).2
  · intro id t ht
    rcases hcase id t ht with ⟨_, ht⟩ | ⟨_, ht⟩
    · exact hr.nodup id t ht
    · exact h.nodup id t ht
  · intro id t ht b hb
    rcases hcase id t ht with ⟨_, ht⟩ | ⟨_, ht⟩
    · exact (hr.own id t ht b hb).elim (hbs b) fun hle => .inr (Nat.le_trans h.keeps.size hle)
    · exact h.own id t ht b hb
  · intro id id' t t' hne ht ht' b hb hb'
    rcases hcase id t ht with ⟨hW, ht⟩ | ⟨hW, ht⟩ <;> rcases hcase id' t' ht' with ⟨hW', ht'⟩ | ⟨hW', ht'⟩
    · exact hr.apart id id' t t' hne ht ht' b hb hb'
    · have := hout id' t' hW' ht' b hb'
      rcases hr.own id t ht b hb with h1 | h1
      · exact this.2 h1
      · omega
    · have := hout id t hW ht b hb
      rcases hr.own id' t' ht' b hb' with h1 | h1
      · exact this.2 h1
      · omega
    · exact h.apart id id' t t' hne ht ht' b hb hb'
  · refine SVRL.of_at ?_ ?_
    · rw [mergeSl_len, hr.slots.len, hlen]
    · intro k u s hu hs
      rw [mergeSl_at] at hs
      simp only [Option.map_eq_some_iff] at hs
      obtain ⟨x, hx, rfl⟩ := hs
      · have hk : k < rs.sl.length := by rw [← hlen]; exact (List.getElem?_eq_some_iff.1 hx).1
        have hy : rs.sl[k]? = some (rs.sl.getD k .junk) := by simp [List.getD, hk]
        generalize rs.sl.getD k .junk = y at hy ⊢
        obtain ⟨u', hu', hry⟩ := hr.slots.at_ k y hy
        rw [hu] at hu'
        cases hu'
        have hWr : ∀ X : Id → Bool, (∀ id, X id = true → W id = true) → ∀ id, X id = true → (if W id = true then Lr id else L id) = Lr id := fun X hX id hid => by rw [if_pos (hX id hid)]
        unfold mergeOne
        rw [Nat.zero_add]
        split
        · exact hry.clean (hWr V hVW) (fun _ _ _ => rfl)
        · rename_i hd
          split
          · split
            · simp [SVR]
            · exact hry.clean (hWr W fun _ h => h) (fun _ _ _ => rfl)
          · split
            · simp [SVR]
            · rename_i hnt
              obtain ⟨v0, hv0, hrx⟩ := h.slots.at_ k x hx
              have huv : v0 = u := by
                cases dst with
                | none => simp only [Act.put] at hu; rw [hu] at hv0; cases hv0; rfl
                | some d =>
                  have hdk : d ≠ k := fun e => hd (by rw [e])
                  simp only [Act.put, Array.toList_setIfInBounds] at hu
                  rw [List.getElem?_set_ne hdk] at hu
                  rw [hu] at hv0
                  cases hv0; rfl
              subst huv
              refine (SVR.all (fun pl => W pl.id) ?_ (fun _ _ hb => hb) hI).1 v0 x (by simpa [SV.touch] using hnt) hrx
              intro pl node hf _ hn
              refine ⟨node, ?_, Shp.refl _⟩
              unfold look at hn ⊢
              have hf' : W pl.id = false := hf
              simp only [hf', Bool.false_eq_true, if_false]
              exact hn
  · intro i j v' hv'
    by_cases hc : Fl.contains (.arg i j) = true
    · obtain ⟨t, ht, htv⟩ := hr.args i j v' (by rw [if_pos hc]; exact hv')
      exact ⟨t, by rw [if_pos (hFW _ hc)]; exact ht, htv⟩
    · obtain ⟨t, ht, htv⟩ := h.args i j v' hv'
      exact ⟨t, by rw [if_neg (fun hW => hc (hnew i j hW))]; exact ht, htv⟩
end
end Go.V

namespace Go.V
open Go.RowKit
set_option linter.unusedSimpArgs false
set_option linter.unusedVariables false

/-! ### an operation of a region that draws its order -/
def ownB (r i : Nat) : Id → Bool
  | .op r' i' _ => r' == r && i' == i
  | _ => false
/-- What is told of an operation: the names that it may use, the slots that others write at any time, whether it only looks. -/
structure OI where
  F : List Id
  D : List Nat
  p : Bool
def OI.V (x : OI) (r i : Nat) (id : Id) : Bool := x.F.contains id || (!x.p && ownB r i id)
def pureB (o : Oper) : Bool := match o.op with
  | .box _ _ => false
  | .alloc _ => false
  | .store _ _ _ => false
  | .makeSlice _ _ _ => false
  | .buildSlice _ _ _ => false
  | .call c => match c.callee with
    | .builtin .append => false
    | .builtin _ => true
    | _ => false
  | _ => true
def SV.isJunk : SV → Bool
  | .junk => true
  | _ => false
def stG (E : Env) (P : Program) (r : Nat) (ops : Array Oper) (i : Nat) (o : Oper) (st : St) : Option St := gte (guardSt ops st o) (stStep E P r i st o) (some (st.set o.dst (.t (.raw undef))))
def looksOK (looks : List Nat) (F : List Id) (st : St) : Bool := looks.all fun t => match st.sl[t]? with
  | some s => s.within (fun id => F.contains id) && !s.isJunk
  | none => false
def stM (E : Env) (P : Program) (r : Nat) (ops : Array Oper) (x : OI) (i : Nat) (o : Oper) (st : St) : Option St :=
  if looksOK (o.looksAt ops) x.F st = true ∧ (x.p = true → pureB o = true) then
    match stG E P r ops i o (restr (o.looksAt ops) x.D x.F st) with
    | some rs => some ⟨mergeSl (o.looksAt ops) x.D (fun id => x.F.contains id) (x.V r i) (x.V r i) x.p o.dst 0 st.sl rs.sl, fun id => if (!x.p && x.V r i id) = true then rs.hp id else st.hp id⟩
    | none => none
  else none

section
variable {sz : Nat → Nat} {I I' : Nat → Nat → Prop} {bs : List Nat} {A : Nat → Nat → Option Value} {w0 w w' : World} {st st' st1 st2 : St} {a : Act} {L L' L0 L1 L2 : Loc} {hand hand' : List LT} {P : Program} {o : Oper} {Q : Exit → Act → World → Prop} {E : Env} {r i : Nat} {ops : Array Oper} {x : OI}

theorem pureB_step (hp : pureB o = true) (h : stStep E P r i st o = some st') : stPure P st o = some st' := by
  unfold pureB at hp
  unfold stStep at h
  split at h
  all_goals first
    | (rename_i ho; rw [ho] at hp; simp at hp; done)
    | skip
  · rename_i c ho
    rw [ho] at hp
    simp only at hp
    split at h
    · rename_i hc; rw [hc] at hp; simp at hp
    · unfold stPure; rw [ho]; exact h
    · rename_i h1 h2
      split at hp
      · simp at hp
      · rename_i b hb hc; exact absurd hc (h2 b)
      · simp at hp
  · exact h
theorem wp_put {N : Act → World → Prop} (hd : a.defers = []) (hN : ∀ a' w', N a' w' → a'.defers = []) (h : o.wp P a w N Q) : o.wp P a w (fun a' w' => N a' w' ∧ ∃ v, a' = a.put o.dst v) Q := by
  unfold Oper.wp at *
  generalize (execOp a.eval o).run P w = res at *
  cases res with
  | ok n w' =>
    cases n <;> simp only [Oper.upon] at h ⊢
    case value v => exact ⟨h, v, rfl⟩
    case skip => exact ⟨h, _, rfl⟩
    case defer d =>
      have := hN _ _ h
      cases hdst : o.dst <;> simp [Act.put, hdst] at this
    case enter f args => exact h.mono fun e w'' he => by cases e <;> first | exact ⟨he, _, rfl⟩ | exact he
    case row => exact Rows.mono h fun v w'' hv => ⟨hv, v, rfl⟩
    all_goals exact h
  | halt x w' => cases x <;> simp only [Oper.upon] at h ⊢ <;> exact h
theorem stG_sound (h : Sim (tsz P) I bs A w0 st a w L []) (h0 : tsz P nilE = 0) (hE : EnvOK P E) (hi : ops[i]? = some o) (hg : stG E P r ops i o st = some st') {K : Act → World → Prop} (hK : ∀ v w' L', Sim (tsz P) I bs A w0 st' (a.put o.dst v) w' L' [] → K (a.put o.dst v) w') : wpOp P ops Q i K a w := by
  unfold stG gte at hg
  unfold wpOp
  simp only [hi]
  split at hg
  · rename_i hgd
    rw [guardSt_sound h hgd, if_pos rfl]
    refine .inl (Oper.wp_mono ?_ (wp_put (Q := Q) h.nodef (fun a' w' hx => by obtain ⟨L', hx⟩ := hx; exact hx.nodef) (stStep_sound (Q := Q) h h0 hE hg)))
    rintro a' w' ⟨⟨L', hs⟩, v, rfl⟩
    exact hK v w' L' hs
  · rename_i hgd
    rw [guardSt_sound h hgd, if_neg (by simp)]
    cases hg
    exact hK undef w L (h.setS _ (by simp [SVR, Im]))
  · simp at hg
theorem stG_pure (h : Sim (tsz P) I bs A w0 st a w L []) (hp : pureB o = true) (hi : ops[i]? = some o) (hg : stG E P r ops i o st = some st') {K : Act → World → Prop} (hK : ∀ v s, st' = st.set o.dst s → SVR (tsz P) L w I v s → K (a.put o.dst v) w) : wpOp P ops Q i K a w := by
  unfold stG gte at hg
  unfold wpOp
  simp only [hi]
  split at hg
  · rename_i hgd
    rw [guardSt_sound h hgd, if_pos rfl]
    refine .inl (Oper.wp_mono ?_ (stPure_sound (Q := Q) h (pureB_step hp hg)))
    rintro a' w' ⟨rfl, v, s, rfl, hst, hs⟩
    exact hK v s hst hs
  · rename_i hgd
    rw [guardSt_sound h hgd, if_neg (by simp)]
    cases hg
    exact hK undef _ rfl (by simp [SVR, Im])
  · simp at hg
theorem stM_sound (h : Sim (tsz P) I bs A w0 st a w L []) (h0 : tsz P nilE = 0) (hE : EnvOK P E) (hi : ops[i]? = some o) (hm : stM E P r ops x i o st = some st') : wpOp P ops Q i (fun a' w' => ∃ L', Sim (tsz P) I bs A w0 st' a' w' L' []) a w := by
  unfold stM at hm
  split at hm
  · rename_i hc
    split at hm
    · rename_i rs hg
      cases hm
      have hr := h.restr (o.looksAt ops) x.D x.F
      cases hp : x.p with
      | false =>
        refine stG_sound hr h0 hE hi hg ?_
        intro v w' Lr hs
        have hV : ∀ id, x.V r i id = (x.F.contains id || ownB r i id) := fun id => by simp [OI.V, hp]
        have := h.merge (o.looksAt ops) x.D x.F (x.V r i) (x.V r i) (fun id hid => by rw [hV, hid]; rfl) (fun _ h => h) (fun i' j' hx => by rw [hV] at hx; simpa [ownB] using hx) hs
        refine ⟨fun id => if x.V r i id = true then Lr id else L id, ?_⟩
        simp only [Bool.not_false, Bool.true_and]
        exact this
      | true =>
        refine stG_pure hr (hc.2 hp) hi hg ?_
        intro v s hrs hs
        refine ⟨L, ?_⟩
        have hVF : ∀ id, x.V r i id = x.F.contains id := fun id => by simp [OI.V, hp]
        have hlen : st.sl.length = rs.sl.length := by
          rw [hrs]
          cases o.dst <;> simp [St.set, V.restr, restrSl_len]
        have hsl : SVRL (tsz P) L w I (a.put o.dst v).tmps.toList (mergeSl (o.looksAt ops) x.D (fun id => x.F.contains id) (x.V r i) (x.V r i) true o.dst 0 st.sl rs.sl) := by
          refine SVRL.of_at ?_ ?_
          · rw [mergeSl_len]
            have := h.slots.len
            cases o.dst <;> simpa [Act.put] using this
          · intro k u y hu hy
            rw [mergeSl_at] at hy
            simp only [Option.map_eq_some_iff] at hy
            obtain ⟨x0, hx0, rfl⟩ := hy
            · have hk : k < rs.sl.length := by rw [← hlen]; exact (List.getElem?_eq_some_iff.1 hx0).1
              have hy0 : rs.sl[k]? = some (rs.sl.getD k .junk) := by simp [List.getD, hk]
              generalize rs.sl.getD k .junk = y0 at hy0 ⊢
              unfold mergeOne
              rw [Nat.zero_add]
              split
              · rename_i hd
                rw [hrs] at hy0
                simp only [hd, St.set] at hy0
                have hk : k < (V.restr (o.looksAt ops) x.D x.F st).sl.length := by
                  have := (List.getElem?_eq_some_iff.1 hy0).1
                  simpa using this
                rw [List.getElem?_set_self hk] at hy0
                cases hy0
                simp only [hd, Act.put, Array.toList_setIfInBounds] at hu
                have hk' : k < a.tmps.toList.length := by rw [h.slots.len]; simpa [V.restr, restrSl_len] using hk
                rw [List.getElem?_set_self hk'] at hu
                cases hu
                refine hs.clean (fun id hid => ?_) (fun _ _ _ => rfl)
                rw [hVF] at hid
                rw [if_pos hid]
              · rename_i hd
                simp only [Bool.not_true, Bool.false_and, Bool.false_eq_true, if_false]
                obtain ⟨v0, hv0, hrx⟩ := h.slots.at_ k x0 hx0
                have huv : v0 = u := by
                  cases hdst : o.dst with
                  | none => simp only [Act.put, hdst] at hu; rw [hu] at hv0; cases hv0; rfl
                  | some d =>
                    have hdk : d ≠ k := fun e => hd (by rw [hdst, e])
                    simp only [Act.put, hdst, Array.toList_setIfInBounds] at hu
                    rw [List.getElem?_set_ne hdk] at hu
                    rw [hu] at hv0
                    cases hv0; rfl
                rw [← huv]
                exact hrx
        have hnd : (a.put o.dst v).defers = [] := by
          have := h.nodef
          cases o.dst <;> simpa [Act.put] using this
        exact { h with slots := hsl, nodef := hnd, er := fun id => by simpa using h.er id }
    · simp at hm
  · simp at hm
end
end Go.V

namespace Go.V
open Go.RowKit
set_option linter.unusedSimpArgs false
set_option linter.unusedVariables false

theorem uses_or {f g h : Pl → Bool} (hh : ∀ pl, h pl = true → f pl = true ∨ g pl = true) : ∀ s : SV, s.uses f = false → s.uses g = false → s.uses h = false := by
  have key : ∀ n : Nat, (∀ s : SV, SizeOf.sizeOf s < n → s.uses f = false → s.uses g = false → s.uses h = false) ∧ (∀ ss : List SV, SizeOf.sizeOf ss < n → SV.usesL f ss = false → SV.usesL g ss = false → SV.usesL h ss = false) := by
    intro n
    induction n with
    | zero => exact ⟨fun _ h => by omega, fun _ h => by omega⟩
    | succ n ih =>
      refine ⟨fun s hs h1 h2 => ?_, fun ss hs h1 h2 => ?_⟩
      · cases s with
        | ref pl off len => simp only [SV.uses] at h1 h2 ⊢; cases hx : h pl with | false => rfl | true => rcases hh pl hx with h3 | h3 <;> simp_all
        | ptr pl off => simp only [SV.uses] at h1 h2 ⊢; cases hx : h pl with | false => rfl | true => rcases hh pl hx with h3 | h3 <;> simp_all
        | fnc g' l => simp only [SV.uses] at h1 h2 ⊢; exact ih.2 _ (by simp at hs; omega) h1 h2
        | agg l => simp only [SV.uses] at h1 h2 ⊢; exact ih.2 _ (by simp at hs; omega) h1 h2
        | tup l => simp only [SV.uses] at h1 h2 ⊢; exact ih.2 _ (by simp at hs; omega) h1 h2
        | _ => rfl
      · cases ss with
        | nil => rfl
        | cons s ss =>
          simp only [SV.usesL, Bool.or_eq_false_iff] at h1 h2 ⊢
          exact ⟨ih.1 _ (by simp at hs; omega) h1.1 h2.1, ih.2 _ (by simp at hs; omega) h1.2 h2.2⟩
  exact fun s => (key (SizeOf.sizeOf s + 1)).1 s (Nat.lt_succ_self _)
theorem touch_within {A B : Id → Bool} {s : SV} (h : s.within A = true) (hd : ∀ id, B id = true → A id = false) : s.touch B = false :=
  uses_mono (fun pl hp => by show (!A pl.id) = true; rw [hd pl.id hp]; rfl) s (by simpa [SV.within] using h)
theorem within_disj {A B : Id → Bool} {s : SV} (h : s.within A = true) (h' : s.within B = true) (hd : ∀ id, A id = true → B id = false) : s.inert = true := by
  simp only [SV.inert, Bool.not_eq_true']
  refine uses_or (f := fun pl => !A pl.id) (g := fun pl => !B pl.id) (fun pl _ => ?_) s (by simpa [SV.within] using h) (by simpa [SV.within] using h')
  cases ha : A pl.id with
  | false => exact .inl (by simp)
  | true => exact .inr (by simp [hd _ ha])
theorem inert_touch {B : Id → Bool} {s : SV} (h : s.inert = true) : s.touch B = false := uses_mono (fun _ _ => rfl) s (by simpa [SV.inert] using h)
theorem clean_within {W : Id → Bool} (s : SV) : (s.clean W).within W = true := by
  unfold SV.clean
  split
  · assumption
  · simp [SV.within, SV.uses]
theorem within_mono {A B : Id → Bool} {s : SV} (h : s.within A = true) (hd : ∀ id, A id = true → B id = true) : s.within B = true := by
  simp only [SV.within, Bool.not_eq_true'] at h ⊢
  refine uses_mono (fun pl hp => ?_) s h
  cases ha : A pl.id with
  | false => rfl
  | true => simp [hd _ ha] at hp

section
variable {E : Env} {P : Program} {r : Nat} {ops : Array Oper}
/-- Two operations that leave each other alone. -/
structure Sep (r : Nat) (ops : Array Oper) (i j : Nat) (oi oj : Oper) (xi xj : OI) : Prop where
  l1 : ∀ d, oi.dst = some d → (oj.looksAt ops).contains d = false
  l2 : ∀ d, oj.dst = some d → (oi.looksAt ops).contains d = false
  dd : ∀ d, oi.dst = some d → oj.dst ≠ some d
  d1 : ∀ d, oi.dst = some d → xj.D.contains d = true
  d2 : ∀ d, oj.dst = some d → xi.D.contains d = true
  w1 : xi.p = false → ∀ id, xi.V r i id = true → xj.V r j id = false
  w2 : xj.p = false → ∀ id, xj.V r j id = true → xi.V r i id = false
theorem Sep.symm {i j : Nat} {oi oj : Oper} {xi xj : OI} (h : Sep r ops i j oi oj xi xj) : Sep r ops j i oj oi xj xi := ⟨h.l2, h.l1, fun d hd he => h.dd d he hd, h.d2, h.d1, h.w2, h.w1⟩
theorem FV {x : OI} {i : Nat} {id : Id} (h : x.F.contains id = true) : x.V r i id = true := by simp only [OI.V, h, Bool.true_or]

abbrev mo (r : Nat) (ops : Array Oper) (x : OI) (i : Nat) (o : Oper) (t : Nat) (s y : SV) : SV := mergeOne (o.looksAt ops) x.D (fun id => x.F.contains id) (x.V r i) (x.V r i) x.p o.dst t s y

/-- What the other one may use alone is left alone. -/
theorem mo_keeps {i j : Nat} {oi oj : Oper} {xi xj : OI} (h : Sep r ops i j oi oj xi xj) {t : Nat} {s y : SV} (ht : oi.dst ≠ some t) (hs : s.within (fun id => xj.F.contains id) = true) : mo r ops xi i oi t s y = s := by
  unfold mo mergeOne
  rw [if_neg ht]
  cases hp : xi.p with
  | true => simp
  | false =>
    have hd : ∀ id, xi.V r i id = true → xj.F.contains id = false := fun id hid => by
      have := h.w1 hp id hid
      cases hc : xj.F.contains id with
      | false => rfl
      | true => rw [FV hc] at this; cases this
    have h1 : (keepB (oi.looksAt ops) xi.D (fun id => xi.F.contains id) t s && !s.inert) = false := by
      cases hk : keepB (oi.looksAt ops) xi.D (fun id => xi.F.contains id) t s with
      | false => rfl
      | true =>
        simp only [keepB, Bool.and_eq_true] at hk
        have := within_disj hk.2 hs (fun id hid => hd id (FV hid))
        simp [this]
    have h2 := touch_within (B := xi.V r i) hs (fun id hid => hd id hid)
    rw [h1, h2]
    simp
/-- What the other one can look at behind it is what it was. -/
theorem mo_back {i j : Nat} {oi oj : Oper} {xi xj : OI} (h : Sep r ops i j oi oj xi xj) {t : Nat} {s y : SV} (ht : oi.dst ≠ some t) (hz : (mo r ops xi i oi t s y).within (fun id => xj.F.contains id) = true) (hj : (mo r ops xi i oi t s y).isJunk = false) : mo r ops xi i oi t s y = s := by
  unfold mo mergeOne at hz hj ⊢
  rw [if_neg ht] at hz hj ⊢
  cases hp : xi.p with
  | true => simp
  | false =>
    rw [hp] at hz hj
    simp only [Bool.not_false, Bool.true_and] at hz hj ⊢
    split at hz
    · rename_i hk
      rw [if_pos hk] at hj
      exfalso
      split at hz
      · rename_i hy; rw [if_pos hy] at hj; simp [SV.isJunk] at hj
      · rename_i hy
        rw [if_neg hy] at hj
        have h1 := within_disj (clean_within (W := xi.V r i) y) hz (fun id hid => by
          have := h.w1 hp id hid
          cases hc : xj.F.contains id with
          | false => rfl
          | true => rw [FV hc] at this; cases this)
        unfold SV.clean at h1 hj
        split at h1
        · exact hy h1
        · rename_i hw; rw [if_neg hw] at hj; simp [SV.isJunk] at hj
    · rename_i hk
      rw [if_neg hk] at hj ⊢
      split at hz
      · rename_i hx; rw [if_pos hx] at hj; simp [SV.isJunk] at hj
      · rename_i hx; rw [if_neg hx]
/-- Whether the other one keeps a slot, and what of it, is the same behind it. -/
theorem mo_restr {i j : Nat} {oi oj : Oper} {xi xj : OI} (h : Sep r ops i j oi oj xi xj) {t : Nat} {s y : SV} (hl : (oj.looksAt ops).contains t = true → mo r ops xi i oi t s y = s) :
    (if keepB (oj.looksAt ops) xj.D (fun id => xj.F.contains id) t (mo r ops xi i oi t s y) = true then mo r ops xi i oi t s y else .junk) = (if keepB (oj.looksAt ops) xj.D (fun id => xj.F.contains id) t s = true then s else .junk) := by
  by_cases hlt : (oj.looksAt ops).contains t = true
  · rw [hl hlt]
  · have hlt' : (oj.looksAt ops).contains t = false := by simpa using hlt
    by_cases hd : oi.dst = some t
    · have := h.d1 t hd
      simp only [keepB, hlt', this, Bool.not_true, Bool.false_and, Bool.or_self, Bool.false_eq_true, if_false]
    · by_cases hs : s.within (fun id => xj.F.contains id) = true
      · rw [mo_keeps h hd hs]
      · have h1 : keepB (oj.looksAt ops) xj.D (fun id => xj.F.contains id) t s = false := by unfold keepB; rw [Bool.eq_false_iff.2 hs, Bool.and_false]
        rw [h1]
        simp only [Bool.false_eq_true, if_false]
        rw [if_neg]
        intro hk
        have hk' := hk
        simp only [keepB, hlt', Bool.false_or, Bool.and_eq_true, Bool.not_eq_true'] at hk
        have hj : (mo r ops xi i oi t s y).isJunk = false := by
          cases hq : mo r ops xi i oi t s y with
          | junk => rw [hq] at hk; simp [SV.inert, SV.uses] at hk
          | _ => rfl
        have := mo_back h hd hk.2 hj
        rw [this] at hk
        exact hs hk.2
theorem mo_comm {i j : Nat} {oi oj : Oper} {xi xj : OI} (h : Sep r ops i j oi oj xi xj) (t : Nat) (s yi yj : SV) : mo r ops xj j oj t (mo r ops xi i oi t s yi) yj = mo r ops xi i oi t (mo r ops xj j oj t s yj) yi := by
  have own : ∀ {i j : Nat} {oi oj : Oper} {xi xj : OI}, Sep r ops i j oi oj xi xj → oi.dst = some t → ∀ s yi yj, mo r ops xj j oj t (mo r ops xi i oi t s yi) yj = mo r ops xi i oi t (mo r ops xj j oj t s yj) yi := by
    intro i j oi oj xi xj h hd s yi yj
    have e : ∀ s, mo r ops xi i oi t s yi = yi.clean (xi.V r i) := fun s => by unfold mo mergeOne; rw [if_pos hd]
    rw [e, e]
    have hj : oj.dst ≠ some t := h.dd t hd
    unfold mo mergeOne
    rw [if_neg hj]
    have hk : keepB (oj.looksAt ops) xj.D (fun id => xj.F.contains id) t (yi.clean (xi.V r i)) = false := by
      have h1 := h.l1 t hd
      have h2 := h.d1 t hd
      simp only [keepB, h1, h2, Bool.not_true, Bool.false_and, Bool.or_self]
    rw [hk]
    cases hp : xj.p with
    | true => simp
    | false =>
      have := touch_within (B := xj.V r j) (clean_within (W := xi.V r i) yi) (fun id hid => h.w2 hp id hid)
      rw [this]
      simp
  by_cases hdi : oi.dst = some t
  · exact own h hdi s yi yj
  by_cases hdj : oj.dst = some t
  · exact (own h.symm hdj s yj yi).symm
  -- neither's own slot
  have junk_stays : ∀ (x : OI) (k : Nat) (o : Oper) (y : SV), o.dst ≠ some t → mo r ops x k o t .junk y = .junk := by
    intro x k o y hd
    unfold mo mergeOne
    rw [if_neg hd]
    have h1 : SV.inert .junk = true := rfl
    have h2 : SV.touch (x.V r k) .junk = false := rfl
    simp [h1, h2]
  -- what becomes of it: itself, or junk, or a value of the one's names
  have three : ∀ {i j : Nat} {oi oj : Oper} {xi xj : OI}, Sep r ops i j oi oj xi xj → oi.dst ≠ some t → oj.dst ≠ some t → ∀ s yi yj, (mo r ops xi i oi t s yi = s) ∨ (mo r ops xi i oi t s yi = .junk ∧ ((mo r ops xj j oj t s yj = s) ∨ mo r ops xj j oj t s yj = .junk)) ∨ (mo r ops xj j oj t s yj = s ∧ mo r ops xj j oj t (mo r ops xi i oi t s yi) yj = mo r ops xi i oi t s yi) := by
    intro i j oi oj xi xj h hdi hdj s yi yj
    cases hp : xi.p with
    | true => left; unfold mo mergeOne; rw [if_neg hdi]; simp [hp]
    | false =>
      by_cases hk : (keepB (oi.looksAt ops) xi.D (fun id => xi.F.contains id) t s && !s.inert) = true
      · right; right
        have hk' := hk
        simp only [Bool.and_eq_true, keepB] at hk
        have h1 : mo r ops xj j oj t s yj = s := mo_keeps h.symm hdj hk.1.2
        refine ⟨h1, ?_⟩
        have e : mo r ops xi i oi t s yi = if yi.inert = true then .junk else yi.clean (xi.V r i) := by
          unfold mo mergeOne
          rw [if_neg hdi, hp]
          simp only [Bool.not_false, Bool.true_and]
          rw [if_pos hk']
        rw [e]
        split
        · exact junk_stays xj j oj yj hdj
        · -- within the one's names alone
          unfold mo mergeOne
          rw [if_neg hdj]
          cases hpj : xj.p with
          | true => simp
          | false =>
            have hw := clean_within (W := xi.V r i) yi
            have ht := touch_within (B := xj.V r j) hw (fun id hid => h.w2 hpj id hid)
            have hkk : (keepB (oj.looksAt ops) xj.D (fun id => xj.F.contains id) t (yi.clean (xi.V r i)) && !(yi.clean (xi.V r i)).inert) = false := by
              cases hq : keepB (oj.looksAt ops) xj.D (fun id => xj.F.contains id) t (yi.clean (xi.V r i)) with
              | false => rfl
              | true =>
                simp only [keepB, Bool.and_eq_true] at hq
                have := within_disj hw hq.2 (fun id hid => by
                  have := h.w1 hp id hid
                  cases hc : xj.F.contains id with
                  | false => rfl
                  | true => rw [FV hc] at this; cases this)
                simp [this]
            rw [hkk, ht]
            simp
      · have e : mo r ops xi i oi t s yi = if s.touch (xi.V r i) = true then .junk else s := by
          unfold mo mergeOne
          rw [if_neg hdi, hp]
          simp only [Bool.not_false, Bool.true_and]
          rw [if_neg hk]
        rw [e]
        split
        · rename_i htc
          right
          cases hpj : xj.p with
          | true => left; refine ⟨rfl, .inl ?_⟩; unfold mo mergeOne; rw [if_neg hdj]; simp [hpj]
          | false =>
            by_cases hkj : (keepB (oj.looksAt ops) xj.D (fun id => xj.F.contains id) t s && !s.inert) = true
            · exfalso
              simp only [Bool.and_eq_true, keepB] at hkj
              have := touch_within (B := xi.V r i) hkj.1.2 (fun id hid => by
                have := h.w1 hp id hid
                cases hc : xj.F.contains id with
                | false => rfl
                | true => rw [FV hc] at this; cases this)
              rw [this] at htc
              cases htc
            · left
              refine ⟨rfl, ?_⟩
              have e2 : mo r ops xj j oj t s yj = if s.touch (xj.V r j) = true then .junk else s := by
                unfold mo mergeOne
                rw [if_neg hdj, hpj]
                simp only [Bool.not_false, Bool.true_and]
                rw [if_neg hkj]
              rw [e2]
              split
              · exact .inr rfl
              · exact .inl rfl
        · exact .inl rfl
  rcases three h hdi hdj s yi yj with h1 | ⟨h1, h2⟩ | ⟨h1, h2⟩
  · rw [h1]
    rcases three h.symm hdj hdi s yj yi with h3 | ⟨h3, h4⟩ | ⟨h3, h4⟩
    · rw [h3, h1]
    · rw [h3, junk_stays xi i oi yi hdi]
    · exact h4.symm
  · rw [h1, junk_stays xj j oj yj hdj]
    rcases h2 with h2 | h2
    · rw [h2, h1]
    · rw [h2, junk_stays xi i oi yi hdi]
  · rw [h2, h1]
end
end Go.V

namespace Go.V
open Go.RowKit
set_option linter.unusedSimpArgs false
set_option linter.unusedVariables false

section
variable {E : Env} {P : Program} {r : Nat} {ops : Array Oper}

theorem stM_comm {i j : Nat} {oi oj : Oper} {xi xj : OI} (h : Sep r ops i j oi oj xi xj) {st st1 st2 : St} (h1 : stM E P r ops xi i oi st = some st1) (h2 : stM E P r ops xj j oj st1 = some st2) :
    ∃ st', stM E P r ops xj j oj st = some st' ∧ stM E P r ops xi i oi st' = some st2 := by
  unfold stM at h1 h2
  split at h1
  · rename_i hc1
    split at h1
    · rename_i rs1 hg1
      cases h1
      split at h2
      · rename_i hc2
        split at h2
        · rename_i rs2 hg2
          cases h2
          -- the looked-at slots of j are what they were
          have hsl : ∀ t, (mergeSl (oi.looksAt ops) xi.D (fun id => xi.F.contains id) (xi.V r i) (xi.V r i) xi.p oi.dst 0 st.sl rs1.sl)[t]? = (st.sl[t]?).map fun s => mo r ops xi i oi t s (rs1.sl.getD t .junk) := fun t => by rw [mergeSl_at, Nat.zero_add]
          have hl2 : ∀ t s, (oj.looksAt ops).contains t = true → st.sl[t]? = some s → mo r ops xi i oi t s (rs1.sl.getD t .junk) = s := by
            intro t s ht hs
            have hok := List.all_eq_true.1 hc2.1 t (by simpa using ht)
            simp only [hsl, hs, Option.map_some, Bool.and_eq_true, Bool.not_eq_true'] at hok
            refine mo_back h (fun hd => ?_) hok.1 hok.2
            have := h.l1 t hd
            rw [ht] at this; cases this
          have hrestr : restr (oj.looksAt ops) xj.D xj.F ⟨mergeSl (oi.looksAt ops) xi.D (fun id => xi.F.contains id) (xi.V r i) (xi.V r i) xi.p oi.dst 0 st.sl rs1.sl, fun id => if (!xi.p && xi.V r i id) = true then rs1.hp id else st.hp id⟩ = restr (oj.looksAt ops) xj.D xj.F st := by
            unfold restr
            congr 1
            · apply List.ext_getElem?
              intro t
              rw [restrSl_at, restrSl_at, hsl, Nat.zero_add]
              cases hs : st.sl[t]? with
              | none => rfl
              | some s => simp only [Option.map_some]; rw [mo_restr h (fun ht => hl2 t s ht hs)]
            · funext id
              by_cases hF : xj.F.contains id = true
              · rw [if_pos hF, if_pos hF]
                have : (!xi.p && xi.V r i id) = false := by
                  cases hp : xi.p with
                  | true => rfl
                  | false =>
                    cases hv : xi.V r i id with
                    | false => rfl
                    | true => have := h.w1 hp id hv; rw [FV hF] at this; cases this
                simp only [this, Bool.false_eq_true, if_false]
              · rw [if_neg hF, if_neg hF]
          rw [hrestr] at hg2
          -- j first
          have hok2 : looksOK (oj.looksAt ops) xj.F st = true := by
            refine List.all_eq_true.2 fun t ht => ?_
            have hok := List.all_eq_true.1 hc2.1 t ht
            simp only [hsl] at hok
            cases hs : st.sl[t]? with
            | none => simp [hs] at hok
            | some s =>
              simp only [hs, Option.map_some] at hok
              rw [hl2 t s (by simpa using ht) hs] at hok
              exact hok
          have hsl2 : ∀ t, (mergeSl (oj.looksAt ops) xj.D (fun id => xj.F.contains id) (xj.V r j) (xj.V r j) xj.p oj.dst 0 st.sl rs2.sl)[t]? = (st.sl[t]?).map fun s => mo r ops xj j oj t s (rs2.sl.getD t .junk) := fun t => by rw [mergeSl_at, Nat.zero_add]
          have hl1 : ∀ t s, (oi.looksAt ops).contains t = true → st.sl[t]? = some s → mo r ops xj j oj t s (rs2.sl.getD t .junk) = s := by
            intro t s ht hs
            have hok := List.all_eq_true.1 hc1.1 t (by simpa using ht)
            simp only [hs, Bool.and_eq_true, Bool.not_eq_true'] at hok
            refine mo_keeps h.symm (fun hd => ?_) hok.1
            have := h.l2 t hd
            rw [ht] at this; cases this
          have hrestr2 : restr (oi.looksAt ops) xi.D xi.F ⟨mergeSl (oj.looksAt ops) xj.D (fun id => xj.F.contains id) (xj.V r j) (xj.V r j) xj.p oj.dst 0 st.sl rs2.sl, fun id => if (!xj.p && xj.V r j id) = true then rs2.hp id else st.hp id⟩ = restr (oi.looksAt ops) xi.D xi.F st := by
            unfold restr
            congr 1
            · apply List.ext_getElem?
              intro t
              rw [restrSl_at, restrSl_at, hsl2, Nat.zero_add]
              cases hs : st.sl[t]? with
              | none => rfl
              | some s => simp only [Option.map_some]; rw [mo_restr h.symm (fun ht => hl1 t s ht hs)]
            · funext id
              by_cases hF : xi.F.contains id = true
              · rw [if_pos hF, if_pos hF]
                have : (!xj.p && xj.V r j id) = false := by
                  cases hp : xj.p with
                  | true => rfl
                  | false =>
                    cases hv : xj.V r j id with
                    | false => rfl
                    | true => have := h.w2 hp id hv; rw [FV hF] at this; cases this
                simp only [this, Bool.false_eq_true, if_false]
              · rw [if_neg hF, if_neg hF]
          have hok1 : looksOK (oi.looksAt ops) xi.F ⟨mergeSl (oj.looksAt ops) xj.D (fun id => xj.F.contains id) (xj.V r j) (xj.V r j) xj.p oj.dst 0 st.sl rs2.sl, fun id => if (!xj.p && xj.V r j id) = true then rs2.hp id else st.hp id⟩ = true := by
            refine List.all_eq_true.2 fun t ht => ?_
            have hok := List.all_eq_true.1 hc1.1 t ht
            simp only [hsl2]
            cases hs : st.sl[t]? with
            | none => simp [hs] at hok
            | some s =>
              simp only [hs] at hok
              simp only [Option.map_some]
              rw [hl1 t s (by simpa using ht) hs]
              exact hok
          refine ⟨⟨mergeSl (oj.looksAt ops) xj.D (fun id => xj.F.contains id) (xj.V r j) (xj.V r j) xj.p oj.dst 0 st.sl rs2.sl, fun id => if (!xj.p && xj.V r j id) = true then rs2.hp id else st.hp id⟩, ?_, ?_⟩
          · unfold stM
            rw [if_pos ⟨hok2, hc2.2⟩, hg2]
          · unfold stM
            rw [if_pos ⟨hok1, hc1.2⟩, hrestr2, hg1]
            simp only [Option.some.injEq]
            congr 1
            · apply List.ext_getElem?
              intro t
              rw [mergeSl_at, mergeSl_at, mergeSl_at, mergeSl_at]
              simp only [Nat.zero_add]
              cases hs : st.sl[t]? with
              | none => rfl
              | some s =>
                simp only [Option.map_some, Option.some.injEq]
                exact (mo_comm h t s (rs1.sl.getD t .junk) (rs2.sl.getD t .junk)).symm
            · funext id
              have hx : ¬ ((!xi.p && xi.V r i id) = true ∧ (!xj.p && xj.V r j id) = true) := by
                rintro ⟨ha, hb⟩
                simp only [Bool.and_eq_true, Bool.not_eq_true'] at ha hb
                rw [h.w1 ha.1 id ha.2] at hb
                cases hb.2
              by_cases ha : (!xi.p && xi.V r i id) = true <;> by_cases hb : (!xj.p && xj.V r j id) = true
              · exact absurd ⟨ha, hb⟩ hx
              · simp only [if_pos ha, if_neg hb]
              · simp only [if_neg ha, if_pos hb]
              · simp only [if_neg ha, if_neg hb]
        · simp at h2
      · simp at h2
    · simp at h1
  · simp at h1

/-! ### every order -/
def waitsFor (ops : Array Oper) : Nat → Nat → Nat → Bool
  | 0, _, _ => false
  | n + 1, i, j => match ops[j]? with
    | some o => o.after.any fun e => Region.binds .any e && (e.on == i || waitsFor ops n i e.on)
    | none => false
def stMi (E : Env) (P : Program) (r : Nat) (ops : Array Oper) (xs : List OI) (i : Nat) (st : St) : Option St := match ops[i]?, xs[i]? with
  | some o, some x => stM E P r ops x i o st
  | _, _ => none
def anyV (E : Env) (P : Program) (r : Nat) (ops : Array Oper) (xs : List OI) (K : St → Prop) : Nat → Array Bool → St → Prop
  | 0, listed, st => Region.ready .any ops listed = [] ∧ K st
  | f + 1, listed, st => (Region.ready .any ops listed = [] → K st) ∧ ∀ i ∈ Region.ready .any ops listed, ∃ st', stMi E P r ops xs i st = some st' ∧ anyV E P r ops xs K f (listed.setIfInBounds i true) st'

theorem anyV_sound {xs : List OI} {K : St → Prop} {I : Nat → Nat → Prop} {bs : List Nat} {A : Nat → Nat → Option Value} {w0 : World} {Q : Exit → Act → World → Prop} (h0 : tsz P nilE = 0) (hE : EnvOK P E) (hK : ∀ st a w L, Sim (tsz P) I bs A w0 st a w L [] → K st → Q .normal a w) :
    ∀ (f : Nat) (listed : Array Bool) (st : St) (a : Act) (w : World) (L : Loc), Sim (tsz P) I bs A w0 st a w L [] → anyV E P r ops xs K f listed st → wpAny P .any ops Q f listed a w
  | 0, listed, st, a, w, L, h, hv => ⟨hv.1, hK st a w L h hv.2⟩
  | f + 1, listed, st, a, w, L, h, hv => by
    refine ⟨fun hr => hK st a w L h (hv.1 hr), fun i hi => ?_⟩
    obtain ⟨st', hm, hv'⟩ := hv.2 i hi
    unfold stMi at hm
    split at hm
    · rename_i o x ho hx
      refine wpOp_mono ?_ (stM_sound (Q := Q) h h0 hE ho hm)
      rintro a' w' ⟨L', h'⟩
      exact anyV_sound h0 hE hK f _ st' a' w' L' h' hv'
    · simp at hm

def Closed (ops : Array Oper) (listed : Array Bool) : Prop := ∀ m, listed.getD m false = true → ∀ o, ops[m]? = some o → ∀ e ∈ o.after, Region.binds .any e = true → listed.getD e.on false = true
theorem getD_tf {listed : Array Bool} {i : Nat} (h : listed.getD i true = false) : listed.getD i false = false := by
  rcases Nat.lt_or_ge i listed.size with h' | h'
  · simp [h'] at h ⊢; exact h
  · simp [Array.getElem?_eq_none h']
theorem not_waits {listed : Array Bool} (hc : Closed ops listed) {i : Nat} (hi : listed.getD i false = false) : ∀ (n m : Nat), listed.getD m false = true → waitsFor ops n i m = false
  | 0, m, _ => rfl
  | n + 1, m, hm => by
    unfold waitsFor
    split
    · rename_i o ho
      rw [Array.any_eq_false']
      intro e he hx
      simp only [Bool.and_eq_true, Bool.or_eq_true, beq_iff_eq] at hx
      have hl := hc m hm o ho e he hx.1
      rcases hx.2 with h1 | h1
      · rw [h1, hi] at hl; cases hl
      · rw [not_waits hc hi n e.on hl] at h1; cases h1
    · rfl
theorem ready_waits {listed : Array Bool} (hc : Closed ops listed) {i j : Nat} (hi : listed.getD i false = false) (hj : j ∈ Region.ready .any ops listed) : ∀ n, waitsFor ops n i j = false
  | 0 => rfl
  | n + 1 => by
    obtain ⟨_, o, ho, hall⟩ := mem_ready.1 hj
    unfold waitsFor
    rw [ho]
    simp only
    rw [Array.any_eq_false']
    intro e he hx
    simp only [Bool.and_eq_true, Bool.or_eq_true, beq_iff_eq] at hx
    have hl := hall e he hx.1
    rcases hx.2 with h1 | h1
    · rw [h1, hi] at hl; cases hl
    · rw [not_waits hc hi n e.on hl] at h1; cases h1
theorem Closed.add {listed : Array Bool} (hc : Closed ops listed) {j : Nat} (hj : j ∈ Region.ready .any ops listed) : Closed ops (listed.setIfInBounds j true) := by
  intro m hm o ho e he hb
  refine getD_set_true ?_
  by_cases hmj : j = m
  · subst hmj
    obtain ⟨_, o', ho', hall⟩ := mem_ready.1 hj
    rw [ho] at ho'
    cases ho'
    exact hall e he hb
  · rw [getD_set_ne false hmj] at hm
    exact hc m hm o ho e he hb

theorem anyV_first {xs : List OI} {K : St → Prop} {i n : Nat} : ∀ (f : Nat) (listed : Array Bool) (st st1 : St),
    (∀ j, j ≠ i → listed.getD j true = false → waitsFor ops n i j = false → ∀ st st1 st2, stMi E P r ops xs i st = some st1 → stMi E P r ops xs j st1 = some st2 → ∃ st', stMi E P r ops xs j st = some st' ∧ stMi E P r ops xs i st' = some st2) →
    Closed ops listed → i ∈ Region.ready .any ops listed → stMi E P r ops xs i st = some st1 → anyV E P r ops xs K f (listed.setIfInBounds i true) st1 → anyV E P r ops xs K (f + 1) listed st := by
  intro f
  induction f with
  | zero =>
    intro listed st st1 hcomm hc hr hm H
    refine ⟨fun h => (by rw [h] at hr; cases hr), fun j hj => ?_⟩
    by_cases hji : j = i
    · subst hji; exact ⟨st1, hm, H⟩
    · have := ready_mono hj hji
      rw [H.1] at this
      cases this
  | succ f ih =>
    intro listed st st1 hcomm hc hr hm H
    refine ⟨fun h => (by rw [h] at hr; cases hr), fun j hj => ?_⟩
    by_cases hji : j = i
    · subst hji; exact ⟨st1, hm, H⟩
    · obtain ⟨st2, h2, H2⟩ := H.2 j (ready_mono hj hji)
      have hi0 := getD_tf (mem_ready.1 hr).1
      obtain ⟨st', h3, h4⟩ := hcomm j hji (mem_ready.1 hj).1 (ready_waits hc hi0 hj n) st st1 st2 hm h2
      refine ⟨st', h3, ih (listed.setIfInBounds j true) st' st2 (fun k hki hun hw => ?_) (hc.add hj) (ready_mono hr (Ne.symm hji)) h4 ?_⟩
      · refine hcomm k hki ?_ hw
        by_cases hjk : j = k
        · subst hjk; exact (mem_ready.1 hj).1
        · rw [getD_set_ne true hjk] at hun; exact hun
      · rw [Array.setIfInBounds_comm _ _ hji]
        exact H2

def lexRun (E : Env) (P : Program) (r : Nat) (ops : Array Oper) (xs : List OI) : Nat → List Oper → St → Option St
  | _, [], st => some st
  | k, o :: rest, st => match xs[k]? with
    | some x => nxt (stM E P r ops x k o st) (lexRun E P r ops xs (k + 1) rest)
    | none => none
theorem anyV_lex {xs : List OI} {K : St → Prop} {n : Nat} {st' : St} (hK : K st')
    (hcomm : ∀ i j, i ≠ j → waitsFor ops n i j = false → waitsFor ops n j i = false → ∀ st st1 st2, stMi E P r ops xs i st = some st1 → stMi E P r ops xs j st1 = some st2 → ∃ st', stMi E P r ops xs j st = some st' ∧ stMi E P r ops xs i st' = some st2) :
    ∀ (l : List Oper) (k : Nat) (listed : Array Bool) (st : St), (∀ j, l[j]? = ops[k + j]?) → Region.lexFrom .any ops l.length k listed = true → Closed ops listed → lexRun E P r ops xs k l st = some st' → anyV E P r ops xs K l.length listed st
  | [], k, listed, st, _, hB, _, hl => by
    simp only [lexRun, Option.some.injEq] at hl
    subst hl
    exact ⟨by simpa [Region.lexFrom] using hB, hK⟩
  | o :: l, k, listed, st, hops, hB, hc, hl => by
    have ho : ops[k]? = some o := by simpa using (hops 0).symm
    simp only [List.length_cons, Region.lexFrom, Bool.and_eq_true] at hB
    obtain ⟨⟨hr, _⟩, hB'⟩ := hB
    have hr' : k ∈ Region.ready .any ops listed := by simpa using hr
    simp only [lexRun] at hl
    split at hl
    · rename_i x hx
      unfold nxt at hl
      split at hl
      · rename_i st1 hm
        have hmi : stMi E P r ops xs k st = some st1 := by unfold stMi; rw [ho, hx]; exact hm
        refine anyV_first (n := n) l.length listed st st1 (fun j hj hun hw => hcomm k j (Ne.symm hj) hw (ready_waits hc (getD_tf hun) hr' n)) hc hr' hmi ?_
        exact anyV_lex hK hcomm l (k + 1) _ st1 (fun j => by have := hops (j + 1); simpa [Nat.add_assoc, Nat.add_comm 1 j] using this) hB' (hc.add hr') hl
      · simp at hl
    · simp at hl

/-! ### what is asked of each two -/
def sepB (r : Nat) (ops : Array Oper) (i j : Nat) (oi oj : Oper) (xi xj : OI) : Bool :=
  (match oi.dst with | some d => !(oj.looksAt ops).contains d && xj.D.contains d && oj.dst != some d | none => true) &&
  (match oj.dst with | some d => !(oi.looksAt ops).contains d && xi.D.contains d | none => true) &&
  (xi.p || (xi.F.all (fun id => !xj.V r j id) && xj.F.all (fun id => !ownB r i id))) &&
  (xj.p || (xj.F.all (fun id => !xi.V r i id) && xi.F.all (fun id => !ownB r j id)))
theorem ownB_ne {i j : Nat} {id : Id} (hij : i ≠ j) (h : ownB r i id = true) : ownB r j id = false := by
  cases id with
  | arg a b => rfl
  | op a b c =>
    simp only [ownB, Bool.and_eq_true, beq_iff_eq] at h ⊢
    obtain ⟨rfl, rfl⟩ := h
    simp [hij]
theorem sepB_sound {i j : Nat} {oi oj : Oper} {xi xj : OI} (hij : i ≠ j) (h : sepB r ops i j oi oj xi xj = true) : Sep r ops i j oi oj xi xj := by
  simp only [sepB, Bool.and_eq_true, Bool.or_eq_true] at h
  obtain ⟨⟨⟨h1, h2⟩, h3⟩, h4⟩ := h
  have wv : ∀ {i j : Nat} {xi xj : OI}, i ≠ j → (xi.p = true ∨ (xi.F.all (fun id => !xj.V r j id) = true ∧ xj.F.all (fun id => !ownB r i id) = true)) → xi.p = false → ∀ id, xi.V r i id = true → xj.V r j id = false := by
    intro i j xi xj hij h hp id hv
    rcases h with h | ⟨ha, hb⟩
    · rw [hp] at h; cases h
    · simp only [OI.V, hp, Bool.not_false, Bool.true_and, Bool.or_eq_true] at hv
      rcases hv with hv | hv
      · simpa using List.all_eq_true.1 ha id (by simpa using hv)
      · simp only [OI.V, Bool.or_eq_false_iff]
        refine ⟨?_, by simp [ownB_ne hij hv]⟩
        cases hc : xj.F.contains id with
        | false => rfl
        | true =>
          have := List.all_eq_true.1 hb id (by simpa using hc)
          rw [hv] at this
          cases this
  refine ⟨fun d hd => ?_, fun d hd => ?_, fun d hd he => ?_, fun d hd => ?_, fun d hd => ?_, wv hij h3, wv (Ne.symm hij) h4⟩
  · rw [hd] at h1; simp only [Bool.and_eq_true, Bool.not_eq_true'] at h1; exact h1.1.1
  · rw [hd] at h2; simp only [Bool.and_eq_true, Bool.not_eq_true'] at h2; exact h2.1
  · rw [hd] at h1; simp only [Bool.and_eq_true, bne_iff_ne, ne_eq] at h1; exact h1.2 he
  · rw [hd] at h1; simp only [Bool.and_eq_true] at h1; exact h1.1.2
  · rw [hd] at h2; simp only [Bool.and_eq_true] at h2; exact h2.2
def pairsB (r : Nat) (ops : Array Oper) (xs : List OI) : Bool := (List.range ops.size).all fun i => (List.range ops.size).all fun j => i == j || waitsFor ops ops.size i j || waitsFor ops ops.size j i || match ops[i]?, ops[j]?, xs[i]?, xs[j]? with
  | some oi, some oj, some xi, some xj => sepB r ops i j oi oj xi xj
  | _, _, _, _ => false

theorem ewp_draw {id : Nat} {Q : Exit → St → Prop} {st st' : St} (xs : List OI) (h0 : tsz P nilE = 0) (hE : EnvOK P E) (hm : P.follows .mixedOrders = true) (hB : Region.lexB .any ops = true) (hp : pairsB id ops xs = true)
    (hr : lexRun E P id ops xs 0 ops.toList st = some st') (h : Q .normal st') : ewp P (.region id ops true) Q st := by
  intro I bs A w0 a w L hs
  simp only [Region.lexB, Bool.and_eq_true] at hB
  refine wp_region_any hm ?_
  have hd : Below w.heap.size w { w with drawn := w.drawn + 1 } := drew_below w
  have hs' := hs.grow hd
  refine anyV_sound (r := id) (xs := xs) (K := Q .normal) h0 hE (fun st a w L h1 h2 => ⟨st, L, h1, h2⟩) _ _ st a _ L hs' ?_
  have := anyV_lex (E := E) (P := P) (r := id) (ops := ops) (xs := xs) (K := Q .normal) (n := ops.size) h (by
    intro i j hij hw1 hw2 st st1 st2 h1 h2
    unfold stMi at h1 h2
    split at h1
    · rename_i oi xi hoi hxi
      split at h2
      · rename_i oj xj hoj hxj
        have hb := List.all_eq_true.1 (List.all_eq_true.1 hp i (by simpa using (Array.getElem?_eq_some_iff.1 hoi).1)) j (by simpa using (Array.getElem?_eq_some_iff.1 hoj).1)
        simp only [hoi, hoj, hxi, hxj, hw1, hw2, Bool.or_false, Bool.or_eq_true, beq_iff_eq, hij, false_or] at hb
        obtain ⟨st', h3, h4⟩ := stM_comm (sepB_sound hij hb) h1 h2
        exact ⟨st', by unfold stMi; rw [hoj, hxj]; exact h3, by unfold stMi; rw [hoi, hxi]; exact h4⟩
      · simp at h2
    · simp at h1) ops.toList 0 (Array.replicate ops.size false) st (fun j => by simp) (by simpa using hB.2) (by
    intro m hm
    exfalso
    rcases Nat.lt_or_ge m ops.size with h' | h' <;> simp [h'] at hm) hr
  simpa using this
end
end Go.V

namespace Go.V
open Go.RowKit
set_option linter.unusedSimpArgs false
set_option linter.unusedVariables false

/-! ### a law's arguments, as trees that are only read -/
/-- The fields lie one behind the other. -/
def laidB (P : Program) : List Field → Nat → Nat → Bool
  | [], off, total => off == total
  | f :: fs, off, total => f.offset == off && laidB P fs (off + P.cellsOf f.type) total
/-- Types of data alone: bool, int, string, slices and structs of these. -/
def plainT (P : Program) : Nat → TypeId → Bool
  | 0, _ => false
  | n + 1, t => match P.underlying t with
    | some .bool => P.cellsOf t == 1
    | some (.int _) => P.cellsOf t == 1
    | some .string => P.cellsOf t == 1
    | some (.slice e) => P.cellsOf t == 1 && decide (0 < P.cellsOf e) && plainT P n e
    | some (.struct fs) => laidB P fs.toList 0 (P.cellsOf t) && fs.toList.all fun f => plainT P n f.type
    | _ => false
def TyFs (T : TypeId → List PT → Prop) : List Field → List PT → Prop
  | [], ps => ps = []
  | f :: fs, ps => ∃ p q, ps = p ++ q ∧ T f.type p ∧ TyFs T fs q
/-- The cells of a value of such a type. -/
def TyC (P : Program) : Nat → TypeId → List PT → Prop
  | 0, _, _ => False
  | n + 1, t, ps => match P.underlying t with
    | some .bool => ∃ b, ps = [.raw (.bool b)]
    | some (.int k) => ∃ m, ps = [.raw (.int k m)] ∧ (Lit.int k m).wf = true
    | some .string => ∃ s : ByteArray, ps = [.raw (.string s)] ∧ s.size ≤ reachBytes
    | some (.slice e) => ∃ cells : List (List PT), ps = [.sl 2 0 cells.length cells.flatten] ∧ cells.length * P.bytesOf e ≤ reachBytes ∧ ∀ c ∈ cells, TyC P n e c
    | some (.struct fs) => TyFs (TyC P n) fs.toList ps
    | _ => False

/-- What stands in the world when a law is entered may be read. -/
def I2 (w : World) (k b : Nat) : Prop := k = 2 ∧ b < w.heap.size
def CellsIm (w : World) : List Value → List PT → Prop
  | [], ps => ps = []
  | v :: vs, ps => ∃ p q, ps = p :: q ∧ Im w (I2 w) v p ∧ one v = true ∧ CellsIm w vs q
theorem CellsIm.append {w : World} : ∀ {vs us : List Value} {ps qs : List PT}, CellsIm w vs ps → CellsIm w us qs → CellsIm w (vs ++ us) (ps ++ qs)
  | [], us, ps, qs, h, h' => by simp only [CellsIm] at h; subst h; simpa using h'
  | v :: vs, us, ps, qs, h, h' => by
    simp only [CellsIm] at h
    obtain ⟨p, q, rfl, h1, h2, h3⟩ := h
    simp only [List.cons_append, CellsIm]
    exact ⟨p, q ++ qs, rfl, h1, h2, h3.append h'⟩
theorem CellsIm.len {w : World} : ∀ {vs : List Value} {ps : List PT}, CellsIm w vs ps → ps.length = vs.length
  | [], ps, h => by simp only [CellsIm] at h; subst h; rfl
  | v :: vs, ps, h => by
    simp only [CellsIm] at h
    obtain ⟨p, q, rfl, h1, h2, h3⟩ := h
    simp [h3.len]
theorem cell_lt {w : World} {x : Addr} {v : Value} (h : w.cell? x = some v) : x.block < w.heap.size := by
  unfold World.cell? at h
  rcases Nat.lt_or_ge x.block w.heap.size with h' | h'
  · exact h'
  · simp [Array.getElem?_eq_none h'] at h
theorem CellsIm.imL {w : World} {x : Addr} : ∀ {vs : List Value} {ps : List PT} (j : Nat), CellsIm w vs ps → (∀ (i : Nat) v, vs[i]? = some v → w.cell? (x.add (j + i)) = some v) → ImL w (I2 w) 2 (some x) j ps
  | [], ps, j, h, _ => by simp only [CellsIm] at h; subst h; simp [ImL]
  | v :: vs, ps, j, h, hc => by
    simp only [CellsIm] at h
    obtain ⟨p, q, rfl, h1, h2, h3⟩ := h
    simp only [ImL]
    have h0 := hc 0 v rfl
    refine ⟨⟨x, v, rfl, ⟨rfl, ?_⟩, h0, h2, h1⟩, CellsIm.imL (j + 1) h3 fun i u hu => ?_⟩
    · have := cell_lt h0; rwa [add_block] at this
    · have := hc (i + 1) u (by simpa using hu)
      rwa [show j + 1 + i = j + (i + 1) by omega]

theorem mapM_range {α : Type} (f : Nat → Option α) : ∀ (n k : Nat) (l : List α), (List.range' k n).mapM f = some l → l.length = n ∧ ∀ i, i < n → f (k + i) = l[i]?
  | 0, k, l, h => by simp only [List.range'_zero, List.mapM_nil, Option.pure_def, Option.some.injEq] at h; subst h; simp
  | n + 1, k, l, h => by
    simp only [List.range'_succ, List.mapM_cons, Option.pure_def, Option.bind_eq_bind, Option.bind_eq_some_iff, Option.some.injEq] at h
    obtain ⟨a, ha, l', hl', rfl⟩ := h
    obtain ⟨h1, h2⟩ := mapM_range f n (k + 1) l' hl'
    refine ⟨by simp [h1], fun i hi => ?_⟩
    cases i with
    | zero => simpa using ha
    | succ i =>
      have := h2 i (by omega)
      rw [show k + (i + 1) = k + 1 + i by omega]
      simpa using this
theorem cells_at {w : World} {base n : Nat} {a : Addr} {vs : List Value} (h : w.cells? base a n = some vs) : vs.length = n ∧ ∀ i v, vs[i]? = some v → w.cell? (a.add i) = some v := by
  unfold World.cells? at h
  split at h
  · rw [List.range_eq_range'] at h
    obtain ⟨h1, h2⟩ := mapM_range _ n 0 vs h
    refine ⟨h1, fun i v hv => ?_⟩
    have hi : i < n := by rw [← h1]; exact (List.getElem?_eq_some_iff.1 hv).1
    have := h2 i hi
    rw [hv, Nat.zero_add] at this
    exact this
  · simp at h

section
variable {H : Type} {enc : TypeId × Value → H} {P : Program} {w : World} {base : Nat} {sp : Nat → Bool} {held : Bool}
theorem open_fields {cs : List Value} {T : TypeId → List PT → Prop} {total : Nat} (htot : cs.length = total) : ∀ (fs : List Field) (off : Nat), off ≤ total → laidB P fs off total = true →
    (∀ f ∈ fs, ∃ ps, T f.type ps ∧ CellsIm w ((cs.drop f.offset).take (P.cellsOf f.type)) ps) → ∃ ps, TyFs T fs ps ∧ CellsIm w (cs.drop off) ps
  | [], off, _, hl, _ => by
    simp only [laidB, beq_iff_eq] at hl
    refine ⟨[], rfl, ?_⟩
    rw [List.drop_of_length_le (by omega)]
    rfl
  | f :: fs, off, hle, hl, hf => by
    simp only [laidB, Bool.and_eq_true, beq_iff_eq] at hl
    obtain ⟨ho, hl⟩ := hl
    have hbound : ∀ (fs : List Field) (off : Nat), laidB P fs off total = true → off ≤ total := by
      intro fs
      induction fs with
      | nil => intro off h; simp only [laidB, beq_iff_eq] at h; omega
      | cons f fs ih => intro off h; simp only [laidB, Bool.and_eq_true] at h; have := ih _ h.2; omega
    obtain ⟨p, hp1, hp2⟩ := hf f (by simp)
    obtain ⟨q, hq1, hq2⟩ := open_fields htot fs _ (hbound _ _ hl) hl (fun g hg => hf g (by simp [hg]))
    refine ⟨p ++ q, ⟨p, q, rfl, hp1, hq1⟩, ?_⟩
    have := hp2.append hq2
    rw [ho] at this
    have e : (cs.drop off).take (P.cellsOf f.type) ++ cs.drop (off + P.cellsOf f.type) = cs.drop off := by
      rw [← List.drop_drop, List.take_append_drop]
    rwa [e] at this

theorem weights_all {e : TypeId} : ∀ {ds : List (DataW H)} {d : DataW H}, d ∈ ds → ∀ n ∈ d.weights P e, n ∈ DataW.weightsAll P e ds
  | d0 :: ds, d, h, n, hn => by
    simp only [DataW.weightsAll, List.mem_append]
    rcases List.mem_cons.1 h with rfl | h
    · exact .inl hn
    · exact .inr (weights_all h n hn)
theorem open_cells : ∀ (n fuel : Nat) (t : TypeId) (cs : List Value) (x : DataW H × List MemPlace), DataW.trod enc P w base sp held fuel t cs = some x → (∀ m ∈ x.1.weights P t, m ≤ reachBytes) → plainT P n t = true → ∃ ps, TyC P n t ps ∧ CellsIm w cs ps ∧ ps.length = P.cellsOf t
  | 0, _, _, _, _, _, _, hp => by simp [plainT] at hp
  | n + 1, fuel, t, cs, x, h, hw, hp => by
    unfold plainT at hp
    unfold TyC
    split at hp
    · rename_i ht
      obtain ⟨b, rfl, _⟩ := DataW.trod_bool ht h
      have hp' : P.cellsOf t = 1 := by simpa using hp
      exact ⟨_, ⟨b, rfl⟩, ⟨_, _, rfl, rfl, rfl, rfl⟩, by rw [hp']; rfl⟩
    · rename_i k ht
      obtain ⟨m, rfl, _, hwf⟩ := DataW.trod_int ht h
      have hp' : P.cellsOf t = 1 := by simpa using hp
      exact ⟨_, ⟨m, rfl, hwf⟩, ⟨_, _, rfl, rfl, rfl, rfl⟩, by rw [hp']; rfl⟩
    · rename_i ht
      obtain ⟨u, rfl, hx, _⟩ := DataW.trod_string ht h
      have hp' : P.cellsOf t = 1 := by simpa using hp
      have hu : u.size ≤ reachBytes := by
        have := hw u.data.toList.length (by rw [hx]; simp [DataW.weights])
        simpa using this
      exact ⟨_, ⟨u, rfl, hu⟩, ⟨_, _, rfl, rfl, rfl, rfl⟩, by rw [hp']; rfl⟩
    · -- slices
      rename_i e ht
      simp only [Bool.and_eq_true, beq_iff_eq, decide_eq_true_eq] at hp
      obtain ⟨⟨hc1, hce⟩, hpe⟩ := hp
      rcases DataW.trod_slice ht h with ⟨rfl, _⟩ | ⟨a, len, cap, elems, rest, m, _, rfl, hx, _, hl, hcap, hlen, hel, _⟩
      · refine ⟨_, ⟨[], rfl, by simp, by simp⟩, ?_, by simp [hc1]⟩
        simp only [CellsIm, List.flatten_nil, List.length_nil, Im, ImL]
        exact ⟨_, _, rfl, ⟨none, 0, rfl, Nat.le_refl _, trivial⟩, rfl, rfl⟩
      · -- the elements, one by one
        have hwe : ∀ y ∈ elems, ∀ q ∈ y.1.weights P e, q ≤ reachBytes := fun y hy q hq => hw q (by
          rw [hx]
          simp only [DataW.weights, ht, List.mem_cons, List.mem_append]
          exact .inr (.inl (weights_all (List.mem_map_of_mem hy) q hq)))
        have hwl : len * P.bytesOf e ≤ reachBytes := by
          have := hw ((elems.length + rest.length) * P.bytesOf e) (by rw [hx]; simp [DataW.weights, ht])
          rw [hlen, Nat.add_mul] at this
          omega
        have build : ∀ j, j ≤ len → ∃ cells : List (List PT), cells.length = j ∧ (∀ c ∈ cells, TyC P n e c) ∧ ∃ vs : List Value, vs.length = j * P.cellsOf e ∧ CellsIm w vs cells.flatten ∧ ∀ i v, vs[i]? = some v → w.cell? (a.add i) = some v := by
          intro j
          induction j with
          | zero => intro _; exact ⟨[], rfl, by simp, [], by simp, rfl, by simp⟩
          | succ j ih =>
            intro hj
            obtain ⟨cells, h1, h2, vs, h3, h4, h5⟩ := ih (by omega)
            have hE := hel j (by omega)
            obtain ⟨y, hy⟩ : ∃ y, elems[j]? = some y := ⟨_, List.getElem?_eq_getElem (by omega)⟩
            rw [hy, Option.bind_eq_some_iff] at hE
            obtain ⟨us, hu, hE⟩ := hE
            obtain ⟨u1, u2⟩ := cells_at hu
            obtain ⟨ps, p1, p2, p3⟩ := open_cells n m e us y hE (hwe y (List.mem_of_getElem? hy)) hpe
            refine ⟨cells ++ [ps], by simp [h1], ?_, vs ++ us, by rw [List.length_append, h3, u1, Nat.succ_mul], ?_, ?_⟩
            · intro c hc
              rcases List.mem_append.1 hc with hc | hc
              · exact h2 c hc
              · simp only [List.mem_singleton] at hc; subst hc; exact p1
            · rw [List.flatten_append]
              have : [ps].flatten = ps := by simp
              rw [this]
              exact h4.append p2
            · intro i v hv
              by_cases hi : i < vs.length
              · rw [List.getElem?_append_left hi] at hv; exact h5 i v hv
              · rw [List.getElem?_append_right (by omega)] at hv
                have := u2 _ v hv
                rw [add_add, h3, show j * P.cellsOf e + (i - j * P.cellsOf e) = i by omega] at this
                exact this
        obtain ⟨cells, h1, h2, vs, h3, h4, h5⟩ := build len (Nat.le_refl _)
        refine ⟨_, ⟨cells, rfl, by rw [h1]; exact hwl, h2⟩, ?_, by simp [hc1]⟩
        simp only [CellsIm, Im]
        exact ⟨_, _, rfl, ⟨some a, cap, by rw [h1], by omega, h4.imL 0 fun i v hv => by rw [Nat.zero_add]; exact h5 i v hv⟩, rfl, rfl⟩
    · -- structs
      rename_i fs ht
      simp only [Bool.and_eq_true] at hp
      obtain ⟨xs, m, _, hx0, hcl, hxl, hf⟩ := DataW.trod_struct ht h
      obtain ⟨ps, p1, p2⟩ := open_fields (w := w) (P := P) (T := TyC P n) hcl fs.toList 0 (Nat.zero_le _) hp.1 (by
        intro f hfm
        obtain ⟨i, hi⟩ := List.getElem?_of_mem hfm
        have hi' : fs[i]? = some f := by simpa using hi
        have hx := hf i f hi'
        obtain ⟨y, hy⟩ : ∃ y, xs[i]? = some y := ⟨_, List.getElem?_eq_getElem (by rw [hxl]; exact (Array.getElem?_eq_some_iff.1 hi').1)⟩
        rw [hy] at hx
        obtain ⟨ps, q1, q2, _⟩ := open_cells n m f.type _ y hx (fun q hq => hw q (by
          rw [hx0]
          simp only [DataW.weights, ht]
          exact DataW.weights_mem_each (j := i) (t := f.type) (d := y.1) (by simp [hi']) (by simp [hy]) q hq)) (List.all_eq_true.1 hp.2 f hfm)
        exact ⟨ps, q1, q2⟩)
      refine ⟨ps, p1, by simpa using p2, ?_⟩
      have := p2.len
      simpa [hcl] using this
    · simp at hp
end
end Go.V

namespace Go.V
open Go.RowKit Go.ChangeShapes Go.WideShapes
set_option linter.unusedSimpArgs false
set_option linter.unusedVariables false

/-- What a law is handed, of a plain type. -/
def TyV (P : Program) (n : Nat) (t : TypeId) (x : PV) : Prop := match P.underlying t with
  | some (.struct _) => ∃ ps, x = .agg ps ∧ TyC P n t ps
  | _ => ∃ p, x = .c p ∧ TyC P n t [p]
def TyVs (P : Program) (n : Nat) : List TypeId → List PV → Prop
  | [], [] => True
  | t :: ts, x :: xs => TyV P n t x ∧ TyVs P n ts xs
  | _, _ => False

section
variable {H : Type} {enc : TypeId × Value → H} {P : Program} {w : World} {sp : Nat → Bool} {held : Bool} {r : Reach} {b0 : Nat}

theorem leaves {w : World} : ∀ {vs : List Value} {ps : List PT}, CellsIm w vs ps → ∃ ts : List LT, ts.map LT.val = vs ∧ ts.map LT.erase = ps ∧ ts.flatMap LT.blocks = [] ∧ ∀ (sz : Nat → Nat), ∀ t ∈ ts, t.holds sz w (I2 w)
  | [], ps, h => by simp only [CellsIm] at h; subst h; exact ⟨[], by simp⟩
  | v :: vs, ps, h => by
    simp only [CellsIm] at h
    obtain ⟨p, q, rfl, h1, h2, h3⟩ := h
    obtain ⟨ts, g1, g2, g3, g4⟩ := leaves h3
    refine ⟨.leaf v p :: ts, by simp [LT.val, g1], by simp [LT.erase, g2], by simp [LT.blocks, g3], fun sz t ht => ?_⟩
    rcases List.mem_cons.1 ht with rfl | ht
    · simp only [LT.holds]; exact ⟨h1, h2⟩
    · exact g4 sz t ht
theorem open_arg {n : Nat} {t : TypeId} {v : Value} {d : DataW H} {ps : List MemPlace} (hp : plainT P n t = true) (hv : Value.okWide P w r b0 t v) (h : DataW.Trod enc P w 0 sp held t v d ps) (hw : ∀ m ∈ d.weights P t, m ≤ reachBytes) :
    ∃ la : LV, la.val = v ∧ TyV P n t la.erase ∧ la.blocks = [] ∧ la.holds (tsz P) w (I2 w) := by
  obtain ⟨fuel, hf⟩ := h
  obtain ⟨qs, h1, h2, h3⟩ := open_cells n fuel t _ _ hf hw hp
  have single : one v = true → (∀ fs, P.underlying t ≠ some (.struct fs)) → ∃ la : LV, la.val = v ∧ TyV P n t la.erase ∧ la.blocks = [] ∧ la.holds (tsz P) w (I2 w) := by
    intro ho hns
    rw [one_cells ho] at h2
    simp only [CellsIm] at h2
    obtain ⟨p, q, rfl, g1, g2, rfl⟩ := h2
    refine ⟨.c (.leaf v p), rfl, ?_, by simp [LV.blocks, LT.blocks], by simp only [LV.holds, LT.holds]; exact ⟨g1, g2⟩⟩
    unfold TyV
    split
    · rename_i fs ht; exact absurd ht (hns fs)
    · exact ⟨p, by simp [LV.erase, LT.erase], h1⟩
  cases n with
  | zero => simp [plainT] at hp
  | succ n =>
    unfold plainT at hp
    split at hp
    · rename_i ht; obtain ⟨b, rfl⟩ := okWide_bool ht hv; exact single rfl (fun fs he => by rw [ht] at he; cases he)
    · rename_i k ht; obtain ⟨m, rfl⟩ := okWide_int ht hv; exact single rfl (fun fs he => by rw [ht] at he; cases he)
    · rename_i ht; obtain ⟨s, rfl⟩ := okWide_string ht hv; exact single rfl (fun fs he => by rw [ht] at he; cases he)
    · rename_i e ht; obtain ⟨a, len, cap, rfl⟩ := okWide_slice ht hv; exact single rfl (fun fs he => by rw [ht] at he; cases he)
    · rename_i fs ht
      obtain ⟨cs, rfl, _⟩ := okWide_struct ht hv
      obtain ⟨ts, g1, g2, g3, g4⟩ := leaves (show CellsIm w cs.toList qs from h2)
      refine ⟨.agg ts, by simp [LV.val, g1], ?_, by simp [LV.blocks, g3], by simp only [LV.holds]; exact g4 _⟩
      unfold TyV
      rw [ht]
      exact ⟨qs, by simp [LV.erase, g2], h1⟩
    · simp at hp
theorem open_args {n : Nat} : ∀ {ts : List TypeId} {vs : List Value} {ds : List (DataW H)} {ps : List MemPlace}, (∀ t ∈ ts, plainT P n t = true) → (∀ (j : Nat) t v, ts[j]? = some t → vs[j]? = some v → Value.okWide P w r b0 t v) →
    DataW.TrodAll enc P w 0 sp held ts vs ds ps → (∀ m ∈ DataW.weightsEach P ts ds, m ≤ reachBytes) → ∃ las : List LV, las.map LV.val = vs ∧ TyVs P n ts (las.map LV.erase) ∧ las.flatMap LV.blocks = [] ∧ ∀ la ∈ las, la.holds (tsz P) w (I2 w)
  | [], vs, ds, ps, _, _, h, _ => by
    obtain ⟨rfl, _, _⟩ := trodAll_nil h
    exact ⟨[], by simp [TyVs]⟩
  | t :: ts, vs, ds, ps, hp, hv, h, hw => by
    obtain ⟨v, vs', d, ds', p, q, rfl, rfl, rfl, h1, h2⟩ := trodAll_cons h
    simp only [DataW.weightsEach, List.mem_append] at hw
    obtain ⟨la, g1, g2, g3, g4⟩ := open_arg (hp t (by simp)) (hv 0 t v rfl rfl) h1 (fun m hm => hw m (.inl hm))
    obtain ⟨las, f1, f2, f3, f4⟩ := open_args (fun u hu => hp u (by simp [hu])) (fun j u x hu hx => hv (j + 1) u x (by simpa using hu) (by simpa using hx)) h2 (fun m hm => hw m (.inr hm))
    refine ⟨la :: las, by simp [g1, f1], ⟨g2, f2⟩, by simp [g3, f3], fun l hl => ?_⟩
    rcases List.mem_cons.1 hl with rfl | hl
    · exact g4
    · exact f4 l hl
theorem trodAll_back (hl : laidOutB P = true) {w' : World} (hb : Below w.heap.size w w') : ∀ {ts : List TypeId} {vs : List Value} {ds : List (DataW H)} {ps : List MemPlace}, (∀ t ∈ ts, P.readableRec t = true ∧ t < P.types.size) →
    DataW.TrodAll enc P w 0 (fun _ => true) true ts vs ds ps → (∀ x ∈ ps, x.block < w.heap.size) → DataW.TrodAll enc P w' 0 (fun b => decide (b < w.heap.size)) true ts vs ds ps
  | [], vs, ds, ps, _, h, _ => by
    obtain ⟨rfl, rfl, rfl⟩ := trodAll_nil h
    rfl
  | t :: ts, vs, ds, ps, ht, h, hlt => by
    obtain ⟨v, vs', d, ds', p, q, rfl, rfl, rfl, h1, h2⟩ := trodAll_cons h
    exact trodAll_cons_mk (Below.trod hl (ht t (by simp)).1 (ht t (by simp)).2 h1 hb (fun x hx => hlt x (by simp [hx]))) (trodAll_back hl hb (fun u hu => ht u (by simp [hu])) h2 (fun x hx => hlt x (by simp [hx])))

/-- A law that is true of every input of its types. -/
theorem law_runs {C : Checked} {f : FuncId} {fn : Func} {n : Nat} {W : World} {base : Nat} {args : Array Value} {ds : List (DataW H)} {before : List MemPlace} (hf : C.prog.funcs[f]? = some fn) (hn : (fn.name == "runtime.NumGoroutine") = false) (hb : fn.body.isSome = true)
    (hp : fn.params.toList.all (plainT C.prog n) = true) (hok : ∀ xs, TyVs C.prog n fn.params.toList xs → ∃ outs, CallOK C.prog f xs (.c (.raw (.bool true))) outs)
    (hv : ∀ (j : Nat) t v, fn.params[j]? = some t → args[j]? = some v → Value.okWide C.prog W .any base t v) (hA : DataW.TrodAll enc C.prog W 0 (fun _ => true) true fn.params.toList args.toList ds before)
    (hw : ∀ m ∈ DataW.weightsEach C.prog fn.params.toList ds, m ≤ reachBytes) : Calls C.prog f args W fun e W' => e = .returned (.bool true) ∧ Below W.heap.size W W' := by
  obtain ⟨las, h1, h2, h3, h4⟩ := open_args (fun t ht => List.all_eq_true.1 hp t ht) (fun j t v ht hx => hv j t v (by simpa using ht) (by simpa using hx)) hA hw
  obtain ⟨outs, hc⟩ := hok _ h2
  have := hc (I2 W) W las rfl h4 (by rw [h3]; exact List.nodup_nil) (fun k b hb => ⟨hb.2, by rw [h3]; simp⟩)
  rw [h1] at this
  have ha : args.toList.toArray = args := Array.toArray_toList
  rw [ha] at this
  unfold CallsF at this
  obtain ⟨c, hcb⟩ := Option.isSome_iff_exists.1 hb
  have h5 : fn.name ≠ "runtime.NumGoroutine" := by simpa using hn
  have hrun : (callFunc f args).run C.prog W = .ok (.enter f args) W := by simp [callFunc, hf, h5, hcb]
  rw [hrun] at this
  refine this.mono ?_
  rintro e W' ⟨lr, los, rfl, hres, _, _, hlr, _, _, _, hk⟩
  rw [h3] at hk
  refine ⟨?_, hk.below⟩
  cases lr with
  | c t =>
    simp only [LV.erase, PV.c.injEq] at hres
    simp only [LV.holds] at hlr
    cases t with
    | leaf v p =>
      simp only [LT.erase] at hres
      subst hres
      simp only [LT.holds, Im] at hlr
      simp [LV.val, LT.val, hlr.1]
    | own b cap e n cs => simp [LT.erase] at hres
  | _ => simp [LV.erase] at hres
end
end Go.V

namespace Go.V
open Go.RowKit
set_option linter.unusedSimpArgs false
set_option linter.unusedVariables false

/-! ### a drawn region, reckoned with names told one by one -/
def filtL (V : Id → Bool) : List (Id × PT) → List (Id × PT)
  | [] => []
  | x :: l => if V x.1 = true then x :: filtL V l else filtL V l
theorem ofL_filt (V : Id → Bool) : ∀ (l : List (Id × PT)) (id : Id), ofL (filtL V l) id = if V id = true then ofL l id else none
  | [], id => by simp [filtL, ofL]
  | (i, t) :: l, id => by
    have ih := ofL_filt V l id
    simp only [filtL]
    by_cases hid : id = i
    · subst hid
      by_cases hv : V id = true
      · simp [hv, ofL]
      · simp only [hv] at ih ⊢
        simpa using ih
    · by_cases hv : V i = true
      · simp only [hv, if_true, ofL, if_neg hid]
        exact ih
      · simp only [hv, Bool.false_eq_true, if_false, ofL, if_neg hid]
        exact ih
def mergeHp (V : Id → Bool) (a b : Id → Option PT) : Id → Option PT := fun id => if V id = true then a id else b id
theorem mergeHp_ofL (V : Id → Bool) (a b : List (Id × PT)) : mergeHp V (ofL a) (ofL b) = ofL (filtL V a ++ filtL (fun id => !V id) b) := by
  funext id
  unfold mergeHp
  rw [ofL_append, ofL_filt, ofL_filt]
  by_cases hv : V id = true
  · simp only [hv, if_true, Bool.not_true, Bool.false_eq_true, if_false]
    cases ofL a id <;> rfl
  · simp [hv]
theorem restr_ofL (looks D : List Nat) (Fl : List Id) (sl : List SV) (l : List (Id × PT)) : restr looks D Fl ⟨sl, ofL l⟩ = ⟨restrSl looks D (fun id => Fl.contains id) 0 sl, ofL (filtL (fun id => Fl.contains id) l)⟩ := by
  unfold restr
  congr 1
  funext id
  rw [ofL_filt]
section
variable {E : Env} {P : Program} {r i : Nat} {ops : Array Oper} {F : List Id} {D : List Nat} {o : Oper} {st : St}
def onG (g : Option St) (f : St → St) : Option St := match g with
  | some rs => some (f rs)
  | none => none
theorem onG_some (st : St) (f : St → St) : onG (some st) f = some (f st) := by unfold onG; rfl
theorem onG_congr {o o' : Option St} {f : St → St} (h : o = o') : onG o f = onG o' f := by rw [h]
theorem stM_look : stM E P r ops ⟨F, D, true⟩ i o st = if looksOK (o.looksAt ops) F st = true ∧ pureB o = true then onG (stG E P r ops i o (restr (o.looksAt ops) D F st)) fun rs => ⟨mergeSl (o.looksAt ops) D (fun id => F.contains id) (fun id => F.contains id) (fun id => F.contains id) true o.dst 0 st.sl rs.sl, st.hp⟩ else none := by
  unfold stM onG
  have hV : ∀ id, (⟨F, D, true⟩ : OI).V r i id = F.contains id := fun id => by simp [OI.V]
  have hV' : (⟨F, D, true⟩ : OI).V r i = fun id => F.contains id := funext hV
  simp only [hV', forall_const, Bool.not_true, Bool.false_and, Bool.false_eq_true, if_false]
  all_goals rfl
theorem stM_turn : stM E P r ops ⟨F, D, false⟩ i o st = if looksOK (o.looksAt ops) F st = true then onG (stG E P r ops i o (restr (o.looksAt ops) D F st)) fun rs => ⟨mergeSl (o.looksAt ops) D (fun id => F.contains id) (fun id => F.contains id || ownB r i id) (fun id => F.contains id || ownB r i id) false o.dst 0 st.sl rs.sl, mergeHp (fun id => F.contains id || ownB r i id) rs.hp st.hp⟩ else none := by
  unfold stM onG mergeHp
  have hV' : (⟨F, D, false⟩ : OI).V r i = fun id => F.contains id || ownB r i id := funext fun id => by simp [OI.V]
  simp only [hV', Bool.not_false, Bool.true_and]
  simp
  all_goals rfl
theorem ewp_drawS {id : Nat} {Q : Exit → St → Prop} (xs : List OI) (h0 : tsz P nilE = 0) (hE : EnvOK P E) (hm : P.follows .mixedOrders = true) (hB : Region.lexB .any ops = true) (hp : pairsB id ops xs = true)
    (h : onSome (lexRun E P id ops xs 0 ops.toList st) (Q .normal)) : ewp P (.region id ops true) Q st := by
  unfold onSome at h
  split at h
  · rename_i st' hr; exact ewp_draw xs h0 hE hm hB hp hr h
  · exact h.elim
theorem lexRun_nil {xs : List OI} {k : Nat} : lexRun E P r ops xs k [] st = some st := rfl
theorem lexRun_cons {xs : List OI} {k : Nat} {x : OI} {rest : List Oper} (hx : xs[k]? = some x) : lexRun E P r ops xs k (o :: rest) st = nxt (stM E P r ops x k o st) (lexRun E P r ops xs (k + 1) rest) := by
  simp only [lexRun, hx]
end
attribute [congr] onG_congr
attribute [simp ↓] onG_some
attribute [simp] stM_look stM_turn restr_ofL mergeHp_ofL filtL lexRun_nil looksOK Oper.looksAt Op.operands SV.within SV.isJunk pureB stG restrSl keepB SV.inert mergeSl mergeOne SV.clean SV.touch ownB
end Go.V

namespace Go.V
open Go.RowKit
set_option linter.unusedSimpArgs false
set_option linter.unusedVariables false

/-! ### bytes to a string -/
def bytesOf : List PT → Option (List Int)
  | [] => some []
  | c :: cs => match c with
    | .raw (.int .u8 n) => match bytesOf cs with
      | some l => some (n :: l)
      | none => none
    | _ => none
/-- A string out of its bytes. -/
def strOf (l : List Int) : ByteArray := ⟨(l.map fun n => UInt8.ofNat n.toNat).toArray⟩
def isU8 (P : Program) (t : TypeId) : Bool := match P.underlying t with
  | some (.slice e) => match P.underlying e with
    | some (.int .u8) => true
    | _ => false
  | _ => false
def isStr (P : Program) (t : TypeId) : Bool := match P.underlying t with
  | some .string => true
  | _ => false
def stConv (P : Program) (st : St) (o : Oper) : Option St := match o.op with
  | .convert s d x => if isU8 P s = true ∧ isStr P d = true then match opv st x, telem P s with
      | some sv, some e => if tsz P e = 1 then match appSrc P st e sv with
          | some (m, news, false) => (bytesOf news).map fun l => st.set o.dst (.t (.raw (.string (strOf l))))
          | _ => none
        else none
      | _, _ => none
    else none
  | _ => none
section
variable {sz : Nat → Nat} {I : Nat → Nat → Prop} {bs : List Nat} {A : Nat → Nat → Option Value} {w0 w w' : World} {st st' st1 : St} {a : Act} {L L0 : Loc} {hand hand' : List LT} {P : Program} {o : Oper} {Q : Exit → Act → World → Prop}
theorem bytesOf_vals : ∀ {tn : List LT} {l : List Int}, bytesOf (tn.map LT.erase) = some l → (∀ d ∈ tn, d.holds sz w I) → tn.map LT.val = l.map (Value.int .u8)
  | [], l, h, _ => by simp only [List.map_nil, bytesOf, Option.some.injEq] at h; subst h; rfl
  | d :: tn, l, h, hh => by
    simp only [List.map_cons, bytesOf] at h
    split at h
    · rename_i n hd
      split at h
      · rename_i l' hl
        cases h
        have ih := bytesOf_vals hl (fun x hx => hh x (by simp [hx]))
        have hdh := hh d (by simp)
        cases d with
        | leaf v p =>
          simp only [LT.erase] at hd
          subst hd
          simp only [LT.holds, Im] at hdh
          simp [LT.val, hdh.1, ih]
        | own b cap e n cs => simp [LT.erase] at hd
      · simp at h
    · simp at h
theorem strOf_fold (l : List Int) : l.foldl (fun r n => r.push (UInt8.ofNat n.toNat)) ByteArray.empty = strOf l := by
  rw [foldl_push_bytes]
  simp [strOf]
theorem stConv_sound (h : Sim (tsz P) I bs A w0 st a w L []) (hst : stConv P st o = some st') : o.wp P a w (PurePost (tsz P) I w L st a o st') Q := by
  unfold stConv at hst
  split at hst
  · rename_i s d x ho
    split at hst
    · rename_i hc
      split at hst
      · rename_i sv e hx he
        split at hst
        · rename_i hsz
          split at hst
          · rename_i m news hs
            simp only [Option.map_eq_some_iff] at hst
            obtain ⟨l, hl, rfl⟩ := hst
            obtain ⟨ad, c, hv, tn, t1, t2, t3, t4⟩ := appSrc_copy h (opv_sound h hx) hs
            rw [← t1] at hl
            have hvals := bytesOf_vals hl (fun d hd => (t3 d hd).1)
            have hlen : l.length = m := by
              have := congrArg List.length hvals
              simp only [List.length_map] at this
              rw [← this, t2, hsz, Nat.mul_one]
            have hu : P.underlying s = some (.slice e) := telem_und he
            have hc1 : P.underlying e = some (.int .u8) := by
              have := hc.1
              unfold isU8 at this
              rw [hu] at this
              simp only at this
              split at this
              · assumption
              · cases this
            have hc2 : P.underlying d = some .string := by
              have := hc.2
              unfold isStr at this
              split at this
              · assumption
              · cases this
            refine wp_val (v := .string (strOf l)) ?_ ⟨rfl, _, _, rfl, rfl, (by simp [SVR, Im])⟩
            unfold execOp
            rw [ho]
            refine run_v ?_
            rw [hv]
            cases ad with
            | none =>
              have : l = [] := by
                rcases Nat.eq_zero_or_pos tn.length with h0 | h0
                · have : m = 0 := by rw [hsz, Nat.mul_one] at t2; omega
                  rw [this] at hlen
                  exact List.length_eq_zero_iff.1 hlen
                · obtain ⟨y, hy, _⟩ := t4 h0; cases hy
              subst this
              rw [run_convert_bytes_string w s d e none m c hu hc1 hc2]
              rfl
            | some y =>
              rw [run_convert_bytes_string w s d e (some y) m c hu hc1 hc2]
              rw [run_bytesToString w y m c l ?_, strOf_fold]
              have hcell : ∀ (j : Nat) u, (l.map (Value.int .u8))[j]? = some u → w.cell? (y.add j) = some u := by
                intro j u hj
                rw [← hvals] at hj
                have h0 : 0 < tn.length := by
                  have := (List.getElem?_eq_some_iff.1 hj).1
                  simp only [List.length_map] at this
                  omega
                obtain ⟨y', hy', hy2⟩ := t4 h0
                cases hy'
                exact hy2 j u hj
              have hr := run_loadCells_list (P := P) w y (l.map (Value.int .u8)) hcell
              rw [List.length_map, hlen] at hr
              exact hr
          · simp at hst
        · simp at hst
      · simp at hst
    · simp at hst
  · simp at hst
end

/-! ### a row against nil -/
/-- What is known of a row that is held against nil. -/
def nilK (s : SV) (F : Bool → Prop) : Prop := match s with
  | .t (.sl 0 _ _ _) => ∀ b, F b
  | .t (.sl _ _ _ cs) => ∀ b, (cs ≠ [] → b = false) → F b
  | .ref _ _ len => ∀ b, (0 < len → b = false) → F b
  | _ => False
def isSlT (P : Program) (t : TypeId) : Bool := match P.underlying t with
  | some (.slice _) => true
  | _ => false
def nilOp (o : Oper) : Option (TypeId × Operand × Bool) := match o.op with
  | .binOp .eql t x (.const (.slice none 0 0)) _ => some (t, x, false)
  | .binOp .neq t x (.const (.slice none 0 0)) _ => some (t, x, true)
  | _ => none
def nilCmp (P : Program) (st : St) (o : Oper) (K : St → Prop) : Prop := match nilOp o with
  | some (t, x, neg) => isSlT P t = true ∧ match opv st x with
    | some s => nilK s fun b => K (st.set o.dst (.t (.raw (.bool (b != neg)))))
    | none => False
  | none => False
section
variable {sz : Nat → Nat} {I : Nat → Nat → Prop} {bs : List Nat} {A : Nat → Nat → Option Value} {w0 w w' : World} {st st' st1 : St} {a : Act} {L L0 : Loc} {hand hand' : List LT} {P : Program} {o : Oper} {Q : Exit → Act → World → Prop} {K : St → Prop}
theorem nilK_sound {F : Bool → Prop} {v : Value} {s : SV} (hr : SVR sz L w I v s) (h : nilK s F) : ∃ ad n c, v = .slice ad n c ∧ F ad.isNone := by
  unfold nilK at h
  split at h
  · simp only [SVR, Im] at hr
    obtain ⟨_, _, ad, rfl⟩ := hr
    exact ⟨ad, 0, 0, rfl, h _⟩
  · rename_i k e n cs hk
    cases k with
    | zero => exact (hk rfl).elim
    | succ k =>
      simp only [SVR, Im] at hr
      obtain ⟨ad, cap, rfl, _, hl⟩ := hr
      refine ⟨ad, _, _, rfl, h _ fun hne => ?_⟩
      cases cs with
      | nil => exact absurd rfl hne
      | cons c cs =>
        simp only [ImL] at hl
        obtain ⟨⟨x, u, rfl, _⟩, _⟩ := hl
        rfl
  · rename_i pl off len
    simp only [SVR] at hr
    rcases hr with ⟨b, cap0, e, n, cs, o, cap, hl, rfl, h1, h2, h3, h4⟩ | ⟨e, hl, h1, h2, ad, rfl⟩
    · exact ⟨_, _, _, rfl, h _ fun _ => rfl⟩
    · exact ⟨ad, 0, 0, rfl, h _ fun h0 => by omega⟩
  · exact h.elim
theorem run_nilcmp {t : TypeId} (ht : isSlT P t = true) (ad : Option Addr) (n c : Nat) : (Op.equal t (.slice ad n c) (.slice none 0 0)).run P w = .ok ad.isNone w := by
  unfold isSlT at ht
  split at ht
  · rename_i e hu
    show (Op.equalIn (9999 + 1) t _ _).run P w = _
    unfold Op.equalIn
    rw [Sem.run_bind, run_underlying hu]
    cases ad <;> rfl
  · cases ht
theorem nilCmp_sound (h : Sim (tsz P) I bs A w0 st a w L []) (hst : nilCmp P st o K) : o.wp P a w (fun a' w' => ∃ st' L', Sim (tsz P) I bs A w0 st' a' w' L' [] ∧ K st') Q := by
  unfold nilCmp at hst
  split at hst
  · rename_i t x neg hop
    obtain ⟨ht, hst⟩ := hst
    split at hst
    · rename_i s hs
      obtain ⟨ad, n, c, hv, hF⟩ := nilK_sound (opv_sound h hs) hst
      refine wp_val (v := .bool (ad.isNone != neg)) (w' := w) ?_ ⟨_, L, h.setS (st := st) o.dst (v := .bool (ad.isNone != neg)) (s := .t (.raw (.bool (ad.isNone != neg)))) (by simp [SVR, Im]), hF⟩
      unfold nilOp at hop
      unfold execOp
      split at hop
      · rename_i t' x' yt ho
        simp only [Option.some.injEq, Prod.mk.injEq] at hop
        obtain ⟨rfl, rfl, rfl⟩ := hop
        rw [ho]
        refine run_v ?_
        rw [hv, show a.eval (.const (.slice none 0 0)) = .slice none 0 0 from rfl]
        show (do let z ← Op.equal t' (.slice ad n c) (.slice none 0 0); pure (Value.bool (z)) : Sem Value).run P w = _
        rw [Sem.run_bind, run_nilcmp ht]
        cases ad <;> rfl
      · rename_i t' x' yt ho
        simp only [Option.some.injEq, Prod.mk.injEq] at hop
        obtain ⟨rfl, rfl, rfl⟩ := hop
        rw [ho]
        refine run_v ?_
        rw [hv, show a.eval (.const (.slice none 0 0)) = .slice none 0 0 from rfl]
        show (do let z ← Op.equal t' (.slice ad n c) (.slice none 0 0); pure (Value.bool (!z)) : Sem Value).run P w = _
        rw [Sem.run_bind, run_nilcmp ht]
        cases ad <;> rfl
      · simp at hop
    · exact hst.elim
  · exact hst.elim
end
end Go.V

namespace Go.V
open Go.RowKit
set_option linter.unusedSimpArgs false
set_option linter.unusedVariables false

/-! ### cells of a row set from the hand -/
/-- What lies truly below a place. -/
def Pl.below (p q : Pl) : Bool := p.id == q.id && (p.path.isPrefixOf q.path && decide (p.path.length < q.path.length))
theorem below_cons (pl : Pl) (j : Nat) (r : List Nat) : pl.below ⟨pl.id, pl.path ++ j :: r⟩ = true := by
  have : pl.path.isPrefixOf (pl.path ++ j :: r) = true := by rw [List.isPrefixOf_iff_prefix]; exact ⟨_, rfl⟩
  simp [Pl.below, this]
section
variable {sz : Nat → Nat} {I : Nat → Nat → Prop} {bs : List Nat} {A : Nat → Nat → Option Value} {w0 w w' : World} {st st' st1 : St} {a : Act} {L L0 L1 : Loc} {hand hand' : List LT} {P : Program} {o : Oper} {Q : Exit → Act → World → Prop}
theorem Sim.splice {ts : List LT} {pl : Pl} {b cap0 e0 n1 c : Nat} {lcs : List LT} (g1 : Sim sz I bs A w0 st1 a w L1 ts) (hl1 : look L1 pl = some (.own b cap0 e0 n1 lcs)) (hfit' : c + ts.length ≤ lcs.length) :
    ∃ L2, Sim sz I bs A w0 ⟨st1.sl.map (SV.kill pl.below), hputP st1.hp pl (LT.own b cap0 e0 n1 (lcs.take c ++ ts ++ lcs.drop (c + ts.length))).erase⟩ a (w.setCells b c (ts.map LT.val)) L2 [] ∧
      look L2 pl = some (.own b cap0 e0 n1 (lcs.take c ++ ts ++ lcs.drop (c + ts.length))) ∧ (storeCells ⟨b, c, none⟩ (ts.map LT.val)).run P w = .ok () (w.setCells b c (ts.map LT.val)) ∧
      Stays pl.below L1 L2 := by
  have hh := g1.look_holds hl1
  have hh' := hh
  simp only [LT.holds] at hh'
  obtain ⟨⟨arr, q1, q2, q3⟩, q4, q5, q6, q7⟩ := hh'
  have harr : lcs.length ≤ arr.size := by rw [q4]; exact Nat.le_trans (Nat.mul_le_mul_right _ q5) q2
  obtain ⟨arr', r1, r2, r3⟩ := setCells_heap (ts.map LT.val) c w arr q1
  have hkp := setCells_kp b (ts.map LT.val) c w
  have hvl : (ts.map LT.val).length = ts.length := by rw [List.length_map]
  have h1 : ∀ u ∈ ts.map LT.val, one u = true := by
    intro u hu
    obtain ⟨d, hd, rfl⟩ := List.mem_map.1 hu
    exact LT.holds_one (g1.hholds d hd)
  have hbn : b ∉ ts.flatMap LT.blocks ∧ ∀ d ∈ lcs, b ∉ d.blocks := by
    have hl1' := hl1
    unfold look at hl1'
    cases hi : L1 pl.id with
    | none => simp [hi] at hl1'
    | some r =>
      simp only [hi] at hl1'
      obtain ⟨rest, p1, _⟩ := LT.split _ r pl.path hl1'
      refine ⟨g1.hapart _ _ hi b (p1.mem_iff.2 (by simp [LT.blocks])), fun d hd hb => ?_⟩
      have := p1.nodup_iff.1 (g1.nodup _ _ hi)
      simp only [LT.blocks, List.cons_append, List.nodup_cons, List.mem_append, not_or] at this
      exact this.1.1 (List.mem_flatMap.2 ⟨d, hd, hb⟩)
  have hIk : ∀ k b', I k b' → (w.setCells b c (ts.map LT.val)).heap[b']? = w.heap[b']? := fun k b' hb' => hkp.block b' (g1.immw k b' hb') (by
    intro hx
    simp only [List.mem_singleton] at hx
    subst hx
    have hne := g1.imm_ne hb'
    have hl1' := hl1
    unfold look at hl1'
    cases hi : L1 pl.id with
    | none => simp [hi] at hl1'
    | some r =>
      simp only [hi] at hl1'
      obtain ⟨rest, p1, _⟩ := LT.split _ r pl.path hl1'
      rcases g1.own _ _ hi _ (p1.mem_iff.2 (by simp [LT.blocks]) : b' ∈ r.blocks) with hq | hq
      · exact hne.1 hq
      · exact hne.2 hq)
  have hfr : ∀ d : LT, d.holds sz w I → b ∉ d.blocks → d.holds sz (w.setCells b c (ts.map LT.val)) I := fun d hd hb =>
    LT.holds_frame (fun _ _ hb => hb) hIk d hd fun b' hb' => hkp.block b' (LT.blocks_lt d hd b' hb') (by
      intro hx; simp only [List.mem_singleton] at hx; subst hx; exact hb hb')
  have hspl := splice_at lcs ts c hfit'
  have hmem : ∀ d ∈ lcs.take c ++ ts ++ lcs.drop (c + ts.length), d ∈ lcs ∨ d ∈ ts := by
    intro d hd
    simp only [List.mem_append] at hd
    rcases hd with (hd | hd) | hd
    · exact .inl (List.mem_of_mem_take hd)
    · exact .inr hd
    · exact .inl (List.mem_of_mem_drop hd)
  have hup := g1.update (hand' := []) (t' := .own b cap0 e0 n1 (lcs.take c ++ ts ++ lcs.drop (c + ts.length))) hl1 [b] hkp (by intro x hx; simp only [List.mem_singleton] at hx; subst hx; exact .inl (by simp [LT.blocks])) rfl ?_ (by simp) ?_ ?_ pl.below ?_
  · obtain ⟨L2, s1, s2, s3⟩ := hup
    refine ⟨L2, s1, s2, ?_, s3⟩
    have hstore := run_storeCells_cells (P := P) b c (ts.map LT.val) 0 w (fun j hj => by
      rw [List.length_map] at hj
      rw [cell_at q1, Array.getElem?_eq_getElem (by omega)]; rfl) (fun j hj => by simp [World.frozen?, q1]) (fun v hv => by rw [one_oneCell]; exact h1 v hv)
    exact hstore
  · simp only [LT.holds]
    refine ⟨⟨arr', r1, by omega, ?_⟩, by rw [splice_len _ _ _ hfit']; exact q4, q5, q6, ?_⟩
    · intro j d hd
      rw [hspl] at hd
      rw [r3]
      split at hd
      · rename_i hj
        rw [if_pos ⟨hj.1, by rw [hvl]; exact hj.2, by have := hj.2; omega⟩]
        exact map_at rfl _ d hd
      · rename_i hj
        rw [if_neg (by rw [hvl]; omega)]
        exact q3 j d hd
    · intro d hd
      rcases hmem d hd with hd | hd
      · exact hfr d (q7 d hd) (hbn.2 d hd)
      · exact hfr d (g1.hholds d hd) fun hb => hbn.1 (List.mem_flatMap.2 ⟨d, hd, hb⟩)
  · simp only [List.flatMap_nil, List.append_nil, LT.blocks, List.nodup_cons]
    have hl1' := hl1
    unfold look at hl1'
    cases hi : L1 pl.id with
    | none => simp [hi] at hl1'
    | some r =>
      simp only [hi] at hl1'
      obtain ⟨rest, p1, _⟩ := LT.split _ r pl.path hl1'
      have hnd := p1.nodup_iff.1 (g1.nodup _ _ hi)
      simp only [LT.blocks] at hnd
      have hnd1 := (List.nodup_append.1 hnd).1
      rw [List.nodup_cons] at hnd1
      refine ⟨fun hb => ?_, ?_⟩
      · obtain ⟨d, hd, hbd⟩ := List.mem_flatMap.1 hb
        rcases hmem d hd with hd | hd
        · exact hbn.2 d hd hbd
        · exact hbn.1 (List.mem_flatMap.2 ⟨d, hd, hbd⟩)
      · simp only [List.flatMap_append]
        have e1 : lcs.flatMap LT.blocks = (lcs.take c).flatMap LT.blocks ++ (lcs.drop c).flatMap LT.blocks := by rw [← List.flatMap_append, List.take_append_drop]
        have sub1 : ((lcs.take c).flatMap LT.blocks ++ (lcs.drop (c + ts.length)).flatMap LT.blocks).Sublist (lcs.flatMap LT.blocks) := by
          rw [e1]
          refine List.Sublist.append_left ?_ _
          rw [← List.drop_drop]
          exact flat_sub _ (List.drop_sublist _ _)
        have n1' := hnd1.2.sublist sub1
        have dis : ∀ x ∈ (lcs.take c).flatMap LT.blocks ++ (lcs.drop (c + ts.length)).flatMap LT.blocks, x ∉ ts.flatMap LT.blocks := by
          intro x hx
          have hxl := sub1.subset hx
          exact g1.hapart _ _ hi x (p1.mem_iff.2 (List.mem_append_left _ (by simp only [LT.blocks]; exact List.mem_cons_of_mem _ hxl)))
        have n2 : (((lcs.take c).flatMap LT.blocks ++ (lcs.drop (c + ts.length)).flatMap LT.blocks) ++ ts.flatMap LT.blocks).Nodup :=
          List.nodup_append.2 ⟨n1', g1.hnodup, fun x hx y hy hxy => dis x hx (hxy ▸ hy)⟩
        refine (List.Perm.nodup_iff ?_).1 n2
        rw [List.append_assoc, List.append_assoc]
        exact List.perm_append_comm.append_left _
  · intro x hx
    simp only [List.flatMap_nil, List.append_nil, LT.blocks, List.mem_cons] at hx
    rcases hx with rfl | hx
    · exact .inl (by simp [LT.blocks])
    · obtain ⟨d, hd, hbd⟩ := List.mem_flatMap.1 hx
      rcases hmem d hd with hd | hd
      · exact .inl (by simp only [LT.blocks]; exact List.mem_cons_of_mem _ (List.mem_flatMap.2 ⟨d, hd, hbd⟩))
      · exact .inr (.inl (List.mem_flatMap.2 ⟨d, hd, hbd⟩))
  · intro r node hf hrf hnode
    cases r with
    | nil =>
      simp only [LT.get, Option.some.injEq] at hnode
      subst hnode
      exact ⟨_, rfl, n1, _, rfl, by rw [splice_len _ _ _ hfit']; exact Nat.le_refl _⟩
    | cons j r =>
      rw [below_cons] at hf
      cases hf

/-- Cells with nothing of one's own in them, as trees. -/
theorem Sim.flats (h : Sim sz I bs A w0 st a w L []) {ts : List LT} (hh : ∀ t ∈ ts, t.holds sz w I ∧ t.blocks = []) : Sim sz I bs A w0 st a w L ts := by
  have hb : ts.flatMap LT.blocks = [] := List.flatMap_eq_nil_iff.2 fun t ht => (hh t ht).2
  exact h.rehand (fun t ht => (hh t ht).1) (by rw [hb]; exact List.nodup_nil) (by rw [hb]; simp)
end

/-! ### clear -/
def stClear (P : Program) (st : St) (o : Oper) : Option St := match o.op with
  | .call ⟨.builtin .clear, args, tys⟩ => match args.toList, tys.toList with
    | [x], [t] => match telem P t, opv st x with
      | some e, some s => match s with
        | .ref pl off len => match lookP st.hp pl, tzero P e with
          | some (.sl 0 e0 n cs), some z => if len = 0 then some (st.set o.dst (.tup [])) else
              if e0 = e ∧ z.cells.size = tsz P e ∧ 0 < tsz P e ∧ z.cells.toList.all one = true ∧ off + len * tsz P e ≤ cs.length then
                some ((⟨st.sl.map (SV.kill pl.below), hputP st.hp pl (.sl 0 e0 n (cs.take off ++ (List.replicate len (z.cells.toList.map PT.ofV)).flatten ++ cs.drop (off + len * tsz P e)))⟩ : St).set o.dst (.tup [])) else none
          | _, _ => none
        | .t (.sl 0 _ 0 []) => some (st.set o.dst (.tup []))
        | _ => none
      | _, _ => none
    | _, _ => none
  | _ => none
theorem zeroCells_toList (z : Array Value) (n : Nat) : (Builtin.zeroCells z n).toList = (List.replicate n z.toList).flatten := by
  apply List.ext_getElem?
  intro j
  rw [rep_at]
  simp only [Builtin.zeroCells, Array.toList_map, Array.toList_range, List.getElem?_map, Array.length_toList]
  by_cases hj : j < n * z.size
  · rw [List.getElem?_range hj, if_pos hj]
    have hz : 0 < z.size := by
      rcases Nat.eq_zero_or_pos z.size with h | h
      · rw [h] at hj; simp at hj
      · exact h
    have hm : j % z.size < z.size := Nat.mod_lt _ hz
    simp [hm]
  · rw [if_neg hj, List.getElem?_eq_none (by simpa using hj)]
    rfl
section
variable {sz : Nat → Nat} {I : Nat → Nat → Prop} {bs : List Nat} {A : Nat → Nat → Option Value} {w0 w w' : World} {st st' st1 : St} {a : Act} {L L0 L1 : Loc} {hand hand' : List LT} {P : Program} {o : Oper} {Q : Exit → Act → World → Prop}
theorem run_clear0 {t e ty : Nat} (ht : telem P t = some e) (ad : Option Addr) (cap : Nat) : (Builtin.clear_ #[t] ty #[.slice ad 0 cap]).run P w = .ok (.tuple #[]) w := by
  cases ad <;> simp [Builtin.clear_, run_underlying (telem_und ht), Result.andThen]
theorem zeros_leaf (z : List Value) (hz : z.all one = true) (n : Nat) : ∃ ts : List LT, ts.map LT.val = (List.replicate n z).flatten ∧ ts.map LT.erase = (List.replicate n (z.map PT.ofV)).flatten ∧ ts.length = n * z.length ∧ ∀ t ∈ ts, t.holds sz w I ∧ t.blocks = [] := by
  refine ⟨((List.replicate n z).flatten).map fun v => .leaf v (PT.ofV v), by simp [Function.comp_def, LT.val], ?_, by simp, ?_⟩
  · rw [List.map_map, show (LT.erase ∘ fun v => LT.leaf v (PT.ofV v)) = PT.ofV from funext fun v => by simp [LT.erase], List.map_flatten, List.map_replicate]
  · intro t ht
    obtain ⟨v, hv, rfl⟩ := List.mem_map.1 ht
    obtain ⟨l, hl, hvl⟩ := List.mem_flatten.1 hv
    have := (List.mem_replicate.1 hl).2
    subst this
    exact ⟨by simp only [LT.holds]; exact ⟨Im.ofV v, List.all_eq_true.1 hz v hvl⟩, by simp [LT.blocks]⟩
theorem stClear_sound (h : Sim (tsz P) I bs A w0 st a w L []) (hst : stClear P st o = some st') : o.wp P a w (fun a' w' => ∃ L', Sim (tsz P) I bs A w0 st' a' w' L' []) Q := by
  unfold stClear at hst
  split at hst
  · rename_i args tys ho
    split at hst
    · rename_i x t hargs htys
      have hargs' : args = #[x] := by cases args; simp_all
      have htys' : tys = #[t] := by cases tys; simp_all
      subst hargs' htys'
      split at hst
      · rename_i e s he hx
        have hv := opv_sound h hx
        have key : ∀ {v : Value} {w' : World} {L' : Loc} {st2 : St}, (Builtin.clear_ #[t] o.type #[a.eval x]).run P w = .ok v w' → v = .tuple #[] → Sim (tsz P) I bs A w0 st2 a w' L' [] → st2.set o.dst (.tup []) = st' → o.wp P a w (fun a' w' => ∃ L', Sim (tsz P) I bs A w0 st' a' w' L' []) Q := by
          intro v w' L' st2 hr hv2 hsim hst2
          subst hv2 hst2
          refine wp_val (v := .tuple #[]) (w' := w') ?_ ⟨L', hsim.setS (st := st2) o.dst (v := .tuple #[]) (s := .tup []) (by simp [SVR, SVRL])⟩
          unfold execOp
          rw [ho]
          simp only [resolve, invoke, builtin, Sem.run_bind, Sem.run_pure, Result.andThen_ok, List.map_toArray, List.map_cons, List.map_nil]
          rw [hr]
          rfl
        split at hst
        · rename_i pl off len
          split at hst
          · rename_i e0 n cs z hlp hz
            simp only [SVR] at hv
            split at hst
            · rename_i h0
              cases hst
              subst h0
              rcases hv with ⟨b, cap0, e1, n1, lcs, o1, cap, hl, hval, _⟩ | ⟨e1, hl, _, _, ad, hval⟩
              · exact key (by rw [hval]; exact run_clear0 he _ _) rfl h rfl
              · exact key (by rw [hval]; exact run_clear0 he _ _) rfl h rfl
            · rename_i h0
              split at hst
              · rename_i hc
                obtain ⟨rfl, c2, c3, c4, c5⟩ := hc
                cases hst
                rw [h.lookP, Option.map_eq_some_iff] at hlp
                obtain ⟨node, hnode, her⟩ := hlp
                rcases hv with ⟨b, cap0, e1, n1, lcs, o1, cap, hl, hval, hco, hle, hlen, hcap⟩ | ⟨e1, hl, _, hlen0, ad, hval⟩
                · rw [hl] at hnode
                  cases hnode
                  simp only [LT.erase, PT.sl.injEq, true_and] at her
                  obtain ⟨rfl, rfl, rfl⟩ := her
                  have hoo : o1 = off := by
                    rcases hco with hco | hco
                    · omega
                    · exact hco
                  subst hoo
                  obtain ⟨ts, t1, t2, t3, t4⟩ := zeros_leaf (sz := tsz P) (w := w) (I := I) z.cells.toList c4 len
                  have t3 : ts.length = len * tsz P e1 := by rw [t3, Array.length_toList, c2]
                  have g1 := h.flats t4
                  rw [List.length_map] at c5
                  obtain ⟨L2, s1, s2, s3, s4⟩ := Sim.splice (P := P) g1 hl (c := o1) (by rw [t3]; exact c5)
                  rw [t1] at s3
                  refine key (v := .tuple #[]) (w' := w.setCells b o1 (ts.map LT.val)) ?_ rfl s1 ?_
                  · rw [hval, t1]
                    have hzt := zeroCells_toList z.cells len
                    have hi : ∃ i, P.info? e1 = some i ∧ i.zero = some z := by
                      obtain ⟨i, hi⟩ := tsz_info c3
                      unfold tzero at hz
                      rw [hi] at hz
                      exact ⟨i, hi, hz⟩
                    obtain ⟨i, hi, hzi⟩ := hi
                    obtain ⟨k, rfl⟩ : ∃ k, len = k + 1 := ⟨len - 1, by omega⟩
                    simp [-Value.cells, Builtin.clear_, run_underlying (telem_und he), zeroValue, typeInfo, hi, hzi, Result.andThen, hzt]
                    rw [s3]
                  · rw [LT.erase]
                    simp only [List.map_append, List.map_take, List.map_drop, t2, t3]
                · omega
              · simp at hst
          · simp at hst
        · rename_i e0
          cases hst
          simp only [SVR, Im] at hv
          obtain ⟨_, _, ad, hval⟩ := hv
          exact key (by rw [hval]; exact run_clear0 he _ _) rfl h rfl
        · simp at hst
      · simp at hst
    · simp at hst
  · simp at hst
end

/-! ### cells taken out of a row -/
def PT.hollow (p : PT) : PT := if p.isSl = true then .hole else p
def LT.hollow (t : LT) : LT := if t.erase.isSl = true then .leaf t.val .hole else t
theorem LT.hollow_val (t : LT) : t.hollow.val = t.val := by unfold LT.hollow; split <;> rfl
theorem LT.hollow_erase (t : LT) : t.hollow.erase = t.erase.hollow := by unfold LT.hollow PT.hollow; split <;> simp [LT.erase]
theorem LT.hollow_blocks (t : LT) : t.hollow.blocks = [] := by
  unfold LT.hollow
  split
  · simp [LT.blocks]
  · rename_i h
    exact notSl_blocks h
section
variable {sz : Nat → Nat} {I : Nat → Nat → Prop} {bs : List Nat} {A : Nat → Nat → Option Value} {w0 w w' : World} {st st' st1 : St} {a : Act} {L L0 L1 : Loc} {hand hand' : List LT} {P : Program} {o : Oper} {Q : Exit → Act → World → Prop}
theorem LT.hollow_holds {t : LT} (h : t.holds sz w I) : t.hollow.holds sz w I := by
  unfold LT.hollow
  split
  · simp only [LT.holds, Im, true_and]
    exact LT.holds_one h
  · exact h
theorem Sim.takeCells (h : Sim sz I bs A w0 st a w L hand) {pl : Pl} {b cap e n off k : Nat} {lcs : List LT} (hl : look L pl = some (.own b cap e n lcs)) (hk : off + k ≤ lcs.length) :
    ∃ L', Sim sz I bs A w0 ⟨st.sl.map (SV.kill pl.below), hputP st.hp pl (.sl 0 e n ((lcs.map LT.erase).take off ++ (((lcs.map LT.erase).drop off).take k).map PT.hollow ++ (lcs.map LT.erase).drop (off + k)))⟩ a w L' (hand ++ (lcs.drop off).take k) ∧ Stays pl.below L L' := by
  have hh := h.look_holds hl
  have hh' := hh
  simp only [LT.holds] at hh'
  obtain ⟨⟨arr, q1, q2, q3⟩, q4, q5, q6, q7⟩ := hh'
  obtain ⟨rng, hrng⟩ : ∃ rng, rng = (lcs.drop off).take k := ⟨_, rfl⟩
  obtain ⟨cs', hcs'⟩ : ∃ cs', cs' = lcs.take off ++ rng.map LT.hollow ++ lcs.drop (off + k) := ⟨_, rfl⟩
  have hsplit : lcs = lcs.take off ++ rng ++ lcs.drop (off + k) := by
    rw [hrng, List.append_assoc, ← List.drop_drop, List.take_append_drop, List.take_append_drop]
  have hvals : cs'.map LT.val = lcs.map LT.val := by
    conv => rhs; rw [hsplit]
    rw [hcs']
    simp only [List.map_append, List.map_map]
    congr 2
    exact List.map_congr_left fun t _ => LT.hollow_val t
  have hlen : cs'.length = lcs.length := by simpa using congrArg List.length hvals
  have hblk : cs'.flatMap LT.blocks = (lcs.take off).flatMap LT.blocks ++ (lcs.drop (off + k)).flatMap LT.blocks := by
    have : (rng.map LT.hollow).flatMap LT.blocks = [] := by
      rw [List.flatMap_eq_nil_iff]
      intro t ht
      obtain ⟨d, _, rfl⟩ := List.mem_map.1 ht
      exact LT.hollow_blocks d
    rw [hcs', List.flatMap_append, List.flatMap_append, this, List.append_nil]
  have hl0 : lcs.flatMap LT.blocks = (lcs.take off).flatMap LT.blocks ++ rng.flatMap LT.blocks ++ (lcs.drop (off + k)).flatMap LT.blocks := by
    conv => lhs; rw [hsplit]
    rw [List.flatMap_append, List.flatMap_append]
  have hmem : ∀ d ∈ rng, d ∈ lcs := fun d hd => by rw [hrng] at hd; exact List.mem_of_mem_drop (List.mem_of_mem_take hd)
  have hper : ((b :: cs'.flatMap LT.blocks) ++ (hand ++ rng).flatMap LT.blocks).Perm ((b :: lcs.flatMap LT.blocks) ++ hand.flatMap LT.blocks) := by
    rw [hblk, hl0, List.flatMap_append]
    simp only [List.cons_append]
    refine List.Perm.cons _ ?_
    simp only [List.append_assoc]
    refine List.Perm.append_left _ ?_
    rw [← List.append_assoc]
    exact List.perm_append_comm
  have hup := h.update (w' := w) (hand' := hand ++ rng) (t' := .own b cap e n cs') hl [] (Kp.refl [] w) (by simp) rfl ?_ ?_ ?_ ?_ pl.below ?_
  · obtain ⟨L', s1, _, s3⟩ := hup
    refine ⟨L', ?_, s3⟩
    rw [LT.erase, hcs', hrng] at s1
    simpa [List.map_append, List.map_take, List.map_drop, Function.comp_def, LT.hollow_erase] using s1
  · simp only [LT.holds]
    refine ⟨⟨arr, q1, q2, ?_⟩, by rw [hlen]; exact q4, q5, q6, ?_⟩
    · intro j d hd
      have h1 : (cs'.map LT.val)[j]? = some d.val := by rw [List.getElem?_map, hd]; rfl
      rw [hvals, List.getElem?_map, Option.map_eq_some_iff] at h1
      obtain ⟨d', hd', hv⟩ := h1
      rw [← hv]
      exact q3 j d' hd'
    · intro d hd
      rw [hcs', List.mem_append, List.mem_append] at hd
      rcases hd with (hd | hd) | hd
      · exact q7 d (List.mem_of_mem_take hd)
      · obtain ⟨d', hd', rfl⟩ := List.mem_map.1 hd
        exact LT.hollow_holds (q7 d' (hmem d' hd'))
      · exact q7 d (List.mem_of_mem_drop hd)
  · intro x hx
    rcases List.mem_append.1 hx with hx | hx
    · exact h.hholds x hx
    · exact q7 x (hmem x hx)
  · rw [LT.blocks, hper.nodup_iff]
    have hl1' := hl
    unfold look at hl1'
    cases hi : L pl.id with
    | none => simp [hi] at hl1'
    | some r =>
      simp only [hi] at hl1'
      obtain ⟨rest, p1, _⟩ := LT.split _ r pl.path hl1'
      have hnd := p1.nodup_iff.1 (h.nodup _ _ hi)
      simp only [LT.blocks] at hnd
      refine List.nodup_append.2 ⟨(List.nodup_append.1 hnd).1, h.hnodup, fun x hx y hy hxy => ?_⟩
      subst hxy
      exact h.hapart _ _ hi x (p1.mem_iff.2 (List.mem_append_left _ (by simpa [LT.blocks] using hx))) hy
  · intro x hx
    rw [LT.blocks] at hx
    have := hper.mem_iff.1 hx
    rcases List.mem_append.1 this with hx | hx
    · exact .inl (by simpa [LT.blocks] using hx)
    · exact .inr (.inl hx)
  · intro r node hf hrf hnode
    cases r with
    | nil =>
      simp only [LT.get, Option.some.injEq] at hnode
      subst hnode
      exact ⟨_, rfl, n, _, rfl, by omega⟩
    | cons j r =>
      rw [below_cons] at hf
      cases hf
end

/-! ### append of a part of a row with rows in it -/
def isSliceV : Value → Bool
  | .slice _ _ _ => true
  | _ => false
def zRef (P : Program) (e : TypeId) : Bool := (tzero P e).any fun z => z.cells.toList.any isSliceV
def stAppendR (P : Program) (r i : Nat) (st : St) (o : Oper) : Option St := match o.op with
  | .call ⟨.builtin .append, args, tys⟩ => match args.toList, tys.toList with
    | [s, x], [t, t'] => if t = t' then match telem P t, opv st s, opv st x with
      | some e, some sv, some (.ref pl off m) => if zRef P e = true ∧ m ≠ 0 ∧ sv.oneB = true ∧ 0 < tsz P e then match takeSV (tsz P) st sv with
          | some (.sl 0 e0 n cs0, k, st1) => match lookP st1.hp pl with
            | some (.sl 0 e' n' cs) => if e' = e ∧ off + m * tsz P e ≤ cs.length ∧ k.toList.any (·.pre pl) = false then
                stAppFin P r i o ⟨st1.sl.map (SV.kill pl.below), hputP st1.hp pl (.sl 0 e' n' (cs.take off ++ ((cs.drop off).take (m * tsz P e)).map PT.hollow ++ cs.drop (off + m * tsz P e)))⟩ e e0 n m cs0 ((cs.drop off).take (m * tsz P e)) else none
            | _ => none
          | _ => none
        else none
      | _, _, _ => none
      else none
    | _, _ => none
  | _ => none
section
variable {sz : Nat → Nat} {I : Nat → Nat → Prop} {bs : List Nat} {A : Nat → Nat → Option Value} {w0 w w' : World} {st st' st1 : St} {a : Act} {L L0 L1 : Loc} {hand hand' : List LT} {P : Program} {o : Oper} {Q : Exit → Act → World → Prop}
theorem stAppendR_sound (h : Sim (tsz P) I bs A w0 st a w L []) (h0 : tsz P nilE = 0) {r i : Nat} (hst : stAppendR P r i st o = some st') : o.wp P a w (fun a' w' => ∃ L', Sim (tsz P) I bs A w0 st' a' w' L' []) Q := by
  unfold stAppendR at hst
  split at hst
  · rename_i args tys ho
    split at hst
    · rename_i s x t t' hargs htys
      have ea : args = #[s, x] := by rw [← Array.toArray_toList (xs := args), hargs]
      have et : tys = #[t, t'] := by rw [← Array.toArray_toList (xs := tys), htys]
      subst ea; subst et
      split at hst
      · rename_i htt
        subst htt
        split at hst
        · rename_i e sv pl off m he hs hx
          split at hst
          · rename_i hcond
            obtain ⟨_, hm, ho1, hsz⟩ := hcond
            split at hst
            · rename_i e0 n cs0 k st1 htk
              split at hst
              · rename_i e' n' cs hlp
                split at hst
                · rename_i hc
                  obtain ⟨rfl, c2, c3⟩ := hc
                  have hsv := opv_sound h hs
                  have hxv := opv_sound h hx
                  have hrun : ∀ {v' : Value} {w' : World}, (Builtin.append_ #[t, t] o.type #[a.eval s, a.eval x]).run P w = .ok v' w' → (execOp a.eval o).run P w = .ok (.value v') w' := by
                    intro v' w' hr
                    unfold execOp
                    rw [ho]
                    simp [resolve, invoke, builtin, hr, Result.andThen]
                  obtain ⟨L1, tsv, g1, g2, g3, g4⟩ := takeSV_sound h hsv (oneB_sound hsv ho1) htk
                  rw [List.nil_append] at g1
                  simp only [SVR] at hxv
                  rcases hxv with ⟨b, cap0, e1, n1, lcs0, o1, cap, hl, hval, hco, hle, hlen, hcap⟩ | ⟨e1, hl, _, hlen0, ad, hval⟩
                  · obtain ⟨node1, hl1, n2, lcs, rfl, hle1⟩ := g4 pl _ c3 (by trivial) hl
                    rw [g1.lookP, hl1] at hlp
                    simp only [Option.map_some, LT.erase, Option.some.injEq, PT.sl.injEq, true_and] at hlp
                    obtain ⟨rfl, rfl, rfl⟩ := hlp
                    have hoo : o1 = off := by
                      rcases hco with hco | hco
                      · omega
                      · exact hco
                    subst hoo
                    rw [List.length_map] at c2
                    obtain ⟨L2, s1, _⟩ := g1.takeCells hl1 c2
                    have hh := g1.look_holds hl1
                    simp only [LT.holds] at hh
                    obtain ⟨⟨arr, q1, q2, q3⟩, q4, q5, q6, q7⟩ := hh
                    have htn : ((lcs.drop o1).take (m * tsz P e1)).length = m * tsz P e1 := by simp; omega
                    unfold stAppFin at hst
                    split at hst
                    · rename_i hcc
                      cases hst
                      obtain ⟨d1, d2, d3, d4⟩ := hcc
                      rw [Option.any_eq_true] at d4
                      obtain ⟨z, hz, hzs⟩ := d4
                      obtain ⟨v', w', L', r1, r2, r3⟩ := append_core s1 h0 (t := t) (ty := o.type) (c := cap) (x := ⟨b, o1, none⟩) (.op r i 0) (by simp) he g3 d1 d2 d3 hsz hz (by simpa using hzs) htn (by omega) (by
                        intro j u hj
                        rw [List.getElem?_map, Option.map_eq_some_iff] at hj
                        obtain ⟨d, hd, rfl⟩ := hj
                        rw [List.getElem?_take] at hd
                        split at hd
                        · rw [List.getElem?_drop] at hd
                          rw [add_own, cell_at q1]
                          exact q3 _ d hd
                        · simp at hd)
                      have e2 : List.map LT.erase (List.take (m * tsz P e1) (List.drop o1 lcs)) = List.take (m * tsz P e1) (List.drop o1 (List.map LT.erase lcs)) := by rw [List.map_take, List.map_drop]
                      rw [e2] at r2
                      refine wp_val (hrun (by rw [hval, ← g2]; exact r1)) ⟨L', r2.setS _ r3⟩
                    · simp at hst
                  · omega
                · simp at hst
              · simp at hst
            · simp at hst
          · simp at hst
        · simp at hst
      · simp at hst
    · simp at hst
  · simp at hst
end
end Go.V
