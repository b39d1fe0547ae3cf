/- The road V: code reckoned over trees of values, proved sound against the model once. No conditions. -/
import Derived.Test.YtfooiclnbkchmaaVd
import Derived.Lib.Join
set_option linter.all false
namespace Go.V
open Go.RowKit
set_option linter.unusedSimpArgs false
set_option linter.unusedVariables false

/-! ### slots, told one by one -/
def slGet : List (Nat × SV) → Nat → SV
  | [], _ => .junk
  | (i, s) :: l, j => if j = i then s else slGet l j
def slOf (n : Nat) (l : List (Nat × SV)) : List SV := (List.range n).map (slGet l)
theorem slGet_nil (j : Nat) : slGet [] j = .junk := rfl
theorem slGet_cons (i : Nat) (s : SV) (l : List (Nat × SV)) (j : Nat) : slGet ((i, s) :: l) j = if j = i then s else slGet l j := rfl
theorem slOf_len (n : Nat) (l : List (Nat × SV)) : (slOf n l).length = n := by simp [slOf]
theorem slOf_at (n : Nat) (l : List (Nat × SV)) (j : Nat) : (slOf n l)[j]? = if j < n then some (slGet l j) else none := by
  unfold slOf
  rw [List.getElem?_map]
  by_cases h : j < n
  · simp [h]
  · simp [h, Nat.le_of_not_lt h]
theorem slOf_ext {n : Nat} {ss : List SV} {l : List (Nat × SV)} (hl : ss.length = n) (h : ∀ j, j < n → ss[j]? = some (slGet l j)) : ss = slOf n l := by
  apply List.ext_getElem?
  intro j
  rw [slOf_at]
  split
  · exact h j ‹_›
  · rw [List.getElem?_eq_none (by omega)]
theorem slOf_set (n : Nat) (l : List (Nat × SV)) (j : Nat) (s : SV) : (slOf n l).set j s = slOf n ((j, s) :: l) := by
  apply slOf_ext (by simp [slOf_len])
  intro k hk
  by_cases h : j = k
  · subst h; rw [List.getElem?_set_self (by simpa [slOf_len] using hk)]; simp [slGet]
  · rw [List.getElem?_set_ne h, slOf_at, if_pos hk]; simp [slGet, Ne.symm h]
def killL (f : Pl → Bool) : List (Nat × SV) → List (Nat × SV)
  | [] => []
  | (i, s) :: l => (i, s.kill f) :: killL f l
theorem slGet_kill (f : Pl → Bool) : ∀ (l : List (Nat × SV)) (j : Nat), slGet (killL f l) j = (slGet l j).kill f
  | [], j => by simp [killL, slGet, SV.kill, SV.uses]
  | (i, s) :: l, j => by
    simp only [killL, slGet]
    split
    · rfl
    · exact slGet_kill f l j
theorem slOf_kill (n : Nat) (f : Pl → Bool) (l : List (Nat × SV)) : (slOf n l).map (SV.kill f) = slOf n (killL f l) := by
  apply slOf_ext (by simp [slOf_len])
  intro k hk
  rw [List.getElem?_map, slOf_at, if_pos hk, slGet_kill]
  rfl
def slPick (l : List (Nat × SV)) : List Nat → List (Nat × SV)
  | [] => []
  | k :: ks => (k, slGet l k) :: slPick l ks
theorem slGet_pick (l : List (Nat × SV)) : ∀ (ks : List Nat) (j : Nat), slGet (slPick l ks) j = if ks.contains j = true then slGet l j else .junk
  | [], j => by simp [slPick, slGet]
  | k :: ks, j => by
    simp only [slPick, slGet, slGet_pick l ks j, List.contains_cons, Bool.or_eq_true, beq_iff_eq]
    by_cases h : j = k
    · subst h; simp
    · simp [h]
theorem keepSl_at (keep : List Nat) : ∀ (ss : List SV) (i k : Nat), (keepSl keep i ss)[k]? = (ss[k]?).map fun s => if keep.contains (i + k) = true then s else .junk
  | [], i, k => by simp [keepSl]
  | s :: ss, i, 0 => by simp [keepSl]
  | s :: ss, i, k + 1 => by
    have := keepSl_at keep ss (i + 1) k
    simp only [keepSl, List.getElem?_cons_succ]
    rw [this, show i + 1 + k = i + (k + 1) by omega]
theorem keepSl_len (keep : List Nat) : ∀ (ss : List SV) (i : Nat), (keepSl keep i ss).length = ss.length
  | [], i => rfl
  | s :: ss, i => by simp [keepSl, keepSl_len keep ss]
theorem slOf_keep (n : Nat) (keep : List Nat) (l : List (Nat × SV)) : keepSl keep 0 (slOf n l) = slOf n (slPick l keep) := by
  apply slOf_ext (by simp [slOf_len, keepSl_len])
  intro k hk
  rw [keepSl_at, slOf_at, if_pos hk, slGet_pick, Nat.zero_add]
  rfl
def restrL (looks D : List Nat) (F : Id → Bool) : List (Nat × SV) → List (Nat × SV)
  | [] => []
  | (t, s) :: l => (t, if keepB looks D F t s = true then s else .junk) :: restrL looks D F l
theorem slGet_restr (looks D : List Nat) (F : Id → Bool) : ∀ (l : List (Nat × SV)) (j : Nat), slGet (restrL looks D F l) j = if keepB looks D F j (slGet l j) = true then slGet l j else .junk
  | [], j => by simp [restrL, slGet]
  | (i, s) :: l, j => by
    simp only [restrL, slGet]
    by_cases h : j = i
    · subst h; simp
    · simp only [if_neg h]; exact slGet_restr looks D F l j
theorem slOf_restr (n : Nat) (looks D : List Nat) (F : Id → Bool) (l : List (Nat × SV)) : restrSl looks D F 0 (slOf n l) = slOf n (restrL looks D F l) := by
  apply slOf_ext (by simp [slOf_len, restrSl_len])
  intro k hk
  rw [restrSl_at, slOf_at, if_pos hk, slGet_restr, Nat.zero_add]
  rfl
def mergeN (looks D : List Nat) (F W : Id → Bool) (t : Nat) (x y : SV) : SV := if (keepB looks D F t x && !x.inert) = true then (if y.inert = true then .junk else y.clean W) else if x.touch W = true then .junk else x
def mergeR (looks D : List Nat) (F W : Id → Bool) (r : List (Nat × SV)) : List (Nat × SV) → List (Nat × SV)
  | [] => []
  | (t, x) :: l => (t, mergeN looks D F W t x (slGet r t)) :: mergeR looks D F W r l
def mergeL (looks D : List Nat) (F V W : Id → Bool) (p : Bool) (dst : Option Nat) (l r : List (Nat × SV)) : List (Nat × SV) :=
  match dst with
  | some d => (d, (slGet r d).clean V) :: (if p = true then l else mergeR looks D F W r l)
  | none => if p = true then l else mergeR looks D F W r l
theorem mergeN_junk (looks D : List Nat) (F W : Id → Bool) (t : Nat) (y : SV) : mergeN looks D F W t .junk y = .junk := by
  simp [mergeN, SV.inert, SV.touch, SV.uses]
theorem slGet_mergeR (looks D : List Nat) (F W : Id → Bool) (r : List (Nat × SV)) : ∀ (l : List (Nat × SV)) (j : Nat), slGet (mergeR looks D F W r l) j = mergeN looks D F W j (slGet l j) (slGet r j)
  | [], j => by simp [mergeR, slGet, mergeN_junk]
  | (i, s) :: l, j => by
    simp only [mergeR, slGet]
    by_cases h : j = i
    · subst h; simp
    · simp only [if_neg h]; exact slGet_mergeR looks D F W r l j
theorem slOf_merge (n : Nat) (looks D : List Nat) (F V W : Id → Bool) (p : Bool) (dst : Option Nat) (l r : List (Nat × SV)) : mergeSl looks D F V W p dst 0 (slOf n l) (slOf n r) = slOf n (mergeL looks D F V W p dst l r) := by
  apply slOf_ext (by simp [slOf_len, mergeSl_len])
  intro k hk
  have hg : (slOf n r).getD k .junk = slGet r k := by rw [List.getD_eq_getElem?_getD, slOf_at, if_pos hk]; rfl
  rw [mergeSl_at, slOf_at, if_pos hk, Nat.zero_add, hg]
  simp only [Option.map_some, Option.some.injEq]
  unfold mergeOne mergeL
  cases dst with
  | none =>
    cases p
    · simp only [reduceCtorEq, if_false, Bool.not_false, Bool.true_and, Bool.false_eq_true]
      rw [slGet_mergeR]
      rfl
    · simp
  | some d =>
    by_cases h : k = d
    · subst h; simp [slGet]
    · have hd : ¬ some d = some k := fun e => h (by cases e; rfl)
      simp only [if_neg hd, slGet, if_neg h]
      cases p
      · simp only [Bool.not_false, Bool.true_and, Bool.false_eq_true, if_false]
        rw [slGet_mergeR]
        rfl
      · simp
def entL : Nat → List PV → List (Nat × SV)
  | _, [] => []
  | i, x :: xs => (i, entrySV i x) :: entL (i + 1) xs
theorem slGet_ent : ∀ (args : List PV) (i j : Nat), slGet (entL i args) j = if i ≤ j then ((entrySVs i args)[j - i]?).getD .junk else .junk
  | [], i, j => by simp [entL, entrySVs, slGet]
  | x :: xs, i, j => by
    simp only [entL, entrySVs, slGet]
    by_cases h : j = i
    · subst h; simp
    · rw [if_neg h, slGet_ent xs (i + 1) j]
      by_cases h2 : i ≤ j
      · rw [if_pos h2, if_pos (by omega), show j - i = (j - (i + 1)) + 1 by omega, List.getElem?_cons_succ]
      · rw [if_neg h2, if_neg (by omega)]
theorem entrySVs_len : ∀ (args : List PV) (i : Nat), (entrySVs i args).length = args.length
  | [], _ => rfl
  | x :: xs, i => by simp [entrySVs, entrySVs_len xs]

section
variable {sz : Nat → Nat} {I I' : Nat → Nat → Prop} {bs : List Nat} {A : Nat → Nat → Option Value} {w0 w w' : World} {st st' st1 st2 : St} {a : Act} {L L' L0 L1 L2 : Loc} {hand hand' : List LT} {P : Program} {o : Oper} {Q : Exit → St → Prop} {E : Env} {c : Code}
theorem SVRL.weak {vs : List Value} {ss ss' : List SV} (h : SVRL sz L w I vs ss) (hl : ss'.length = ss.length) (hw : ∀ (j : Nat) s, ss'[j]? = some s → s = .junk ∨ ss[j]? = some s) : SVRL sz L w I vs ss' := by
  refine SVRL.of_at (by rw [h.len, hl]) ?_
  intro i v s hv hs
  rcases hw i s hs with rfl | hs'
  · simp [SVR]
  · obtain ⟨v', hv', hr⟩ := h.at_ i s hs'
    rw [hv] at hv'
    cases hv'
    exact hr
theorem ewp_weak {ss ss' : List SV} {hp : Id → Option PT} (hl : ss'.length = ss.length) (hw : ∀ (j : Nat) s, ss'[j]? = some s → s = .junk ∨ ss[j]? = some s) (h : ewp P c Q ⟨ss', hp⟩) : ewp P c Q ⟨ss, hp⟩ := by
  intro I bs A w0 a w L hs
  exact h I bs A w0 a w L { hs with slots := hs.slots.weak hl hw, er := hs.er }
theorem ewp_entry {args : List PV} {n : Nat} (hle : args.length ≤ n) (h : ewp P c Q ⟨slOf n (entL 0 args), ofL (argL 0 args)⟩) : ewp P c Q (entrySt args n) := by
  rw [entrySt_ofL]
  refine ewp_weak ?_ ?_ h
  · simp [slOf_len, entrySVs_len]; omega
  · intro j s hs
    rw [slOf_at] at hs
    split at hs
    · simp only [Option.some.injEq] at hs
      rw [slGet_ent, if_pos (Nat.zero_le _), Nat.sub_zero] at hs
      cases hj : (entrySVs 0 args)[j]? with
      | none => rw [hj] at hs; exact .inl hs.symm
      | some s' =>
        rw [hj] at hs
        simp only [Option.getD_some] at hs
        subst hs
        right
        rw [List.getElem?_append_left (List.getElem?_eq_some_iff.1 hj).1]
        exact hj
    · simp at hs
end

/-! ### a call, as far as its callee's word -/
structure CP where
  f : FuncId
  pvs : List PV
  ats : List AT
  ks : List Pl
  st1 : St
def mdGet : List (FuncId × List Nat) → FuncId → List Nat
  | [], _ => []
  | (g, m) :: l, f => if f = g then m else mdGet l f
def prepCall (sz : Nat → Nat) (M : List (FuncId × List Nat)) (st : St) (o : Oper) : Option CP := match o.op with
  | .call c => match c.callee with
    | .value x => match calleeOf st x with
      | some (g, caps) => match opvs st c.args.toList with
        | some ss => match takeArgs sz st [] (zipModes (ss ++ caps) (mdGet M g)) with
          | some (ats, ks, st1) => match lendArgs sz st1 ks ats with
            | some pvs => some ⟨g, pvs, ats, ks, st1⟩
            | none => none
          | none => none
        | none => none
      | none => none
    | _ => none
  | _ => none
def finCall (r i : Nat) (d : Option Tmp) (st : St) (ats : List AT) (ks : List Pl) (st1 : St) (res : PV) (outs : List PV) : Option St :=
  if (!ats.any AT.lendy || (PT.noTmpL res.cells && PT.noTmpL (ownCells ats outs))) = true then match backsOf ats outs with
    | none => none
    | some bl => match putBack st1.hp bl with
      | none => none
      | some hp2 => some ((setRoots r i 0 res.cells ⟨st.sl.map (SV.kill fun q => !backHas bl q && ks.any (·.pre q)), hp2⟩).set d (resShape r i res))
  else none
def Inv (P : Program) (f : FuncId) (pvs : List PV) (fin : PV → List PV → Option St) (K : St → Prop) : Prop := ∃ res outs, CallOK P f pvs res outs ∧ onSome (fin res outs) K
def onPrep (P : Program) (r i : Nat) (d : Option Tmp) (st : St) (c : Option CP) (K : St → Prop) : Prop := match c with
  | some c => Inv P c.f c.pvs (finCall r i d st c.ats c.ks c.st1) K
  | none => False
theorem Inv_intro {P : Program} {f : FuncId} {pvs outs : List PV} {res : PV} {fin : PV → List PV → Option St} {K : St → Prop} (h : CallOK P f pvs res outs) (h2 : onSome (fin res outs) K) : Inv P f pvs fin K := ⟨res, outs, h, h2⟩
theorem Inv_congr {P : Program} {f : FuncId} {pvs pvs' : List PV} {fin : PV → List PV → Option St} {K : St → Prop} (h : pvs = pvs') : Inv P f pvs fin K = Inv P f pvs' fin K := by rw [h]
theorem onPrep_congr {P : Program} {r i : Nat} {d : Option Tmp} {st : St} {c c' : Option CP} {K : St → Prop} (h : c = c') : onPrep P r i d st c K = onPrep P r i d st c' K := by rw [h]
theorem onPrep_some {P : Program} {r i : Nat} {d : Option Tmp} {st : St} {f : FuncId} {pvs : List PV} {ats : List AT} {ks : List Pl} {st1 : St} {K : St → Prop} : onPrep P r i d st (some ⟨f, pvs, ats, ks, st1⟩) K = Inv P f pvs (finCall r i d st ats ks st1) K := rfl

def isCall (o : Oper) : Bool := match o.op with
  | .call c => match c.callee with
    | .builtin _ => false
    | _ => true
  | _ => false
def E0 : Env := ⟨fun _ => [], fun _ _ => none⟩
theorem E0_ok (P : Program) : EnvOK P E0 := fun _ _ _ _ h => by simp [E0] at h
def stepR (P : Program) (M : List (FuncId × List Nat)) (r i : Nat) (o : Oper) (K : St → Prop) (st : St) : Prop :=
  if isCall o = true then onPrep P r i o.dst st (prepCall (tsz P) M st o) K else
  if (nilOp o).isSome = true then nilCmp P st o K else onSome (oels (stConv P st o) (oels (stClear P st o) (oels (stAppendR P r i st o) (stStep E0 P r i st o)))) K
def gslot (x : Option SV) (want : Bool) : Option (Bool × Bool) := match x with
  | some (.t (.raw (.bool b))) => some (b, want)
  | some (.t (.raw _)) => some (true, false)
  | _ => none
theorem gslot_b {b w : Bool} : gslot (some (.t (.raw (.bool b)))) w = some (b, w) := by unfold gslot; rfl
theorem gslot_u {w : Bool} : gslot (some (.t (.raw undef))) w = some (true, false) := by unfold gslot; rfl
/-- What a guard hangs on, and what it wants. -/
def gcond (ops : Array Oper) (st : St) (o : Oper) : Option (Bool × Bool) := match o.guard with
  | none => some (true, true)
  | some (j, want) => match (ops[j]?).bind (·.dst) with
    | none => some (true, false)
    | some d => gslot (st.sl[d]?) want
theorem gcond_eq (ops : Array Oper) (st : St) (o : Oper) : guardSt ops st o = (gcond ops st o).map fun x => x.1 == x.2 := by
  unfold guardSt gcond
  cases o.guard with
  | none => rfl
  | some x =>
    obtain ⟨j, want⟩ := x
    simp only
    cases (ops[j]?).bind (·.dst) with
    | none => rfl
    | some d =>
      simp only
      cases st.sl[d]? with
      | none => rfl
      | some s =>
        cases s with
        | t p =>
          cases p with
          | raw v => cases v <;> rfl
          | _ => rfl
        | _ => rfl
def grd (g : Option (Bool × Bool)) (x y : Prop) : Prop := match g with
  | some (b, w) => (b = w → x) ∧ (b = (!w) → y)
  | none => False
def runR (P : Program) (M : List (FuncId × List Nat)) (r : Nat) (ops : Array Oper) : Nat → List Oper → (St → Prop) → St → Prop
  | _, [], K, st => K st
  | i, o :: rest, K, st => grd (gcond ops st o) (app (stepR P M r i o (runR P M r ops (i + 1) rest K)) st) (app (runR P M r ops (i + 1) rest K) (st.set o.dst (.t (.raw undef))))
theorem runR_nil {P : Program} {M : List (FuncId × List Nat)} {r : Nat} {ops : Array Oper} {i : Nat} {K : St → Prop} {st : St} : runR P M r ops i [] K st = K st := rfl
theorem runR_cons {P : Program} {M : List (FuncId × List Nat)} {r : Nat} {ops : Array Oper} {i : Nat} {K : St → Prop} {st : St} {o : Oper} {rest : List Oper} : runR P M r ops i (o :: rest) K st = grd (gcond ops st o) (app (stepR P M r i o (runR P M r ops (i + 1) rest K)) st) (app (runR P M r ops (i + 1) rest K) (st.set o.dst (.t (.raw undef)))) := rfl
theorem grd_congr {g g' : Option (Bool × Bool)} {x y : Prop} (h : g = g') : grd g x y = grd g' x y := by rw [h]
theorem grd_tt {f : St → Prop} {st : St} {y : Prop} : grd (some (true, true)) (app f st) y = f st := by simp [grd, app]
theorem grd_ff {f : St → Prop} {st : St} {y : Prop} : grd (some (false, false)) (app f st) y = f st := by simp [grd, app]
theorem grd_tf {f : St → Prop} {st : St} {x : Prop} : grd (some (true, false)) x (app f st) = f st := by simp [grd, app]
theorem grd_ft {f : St → Prop} {st : St} {x : Prop} : grd (some (false, true)) x (app f st) = f st := by simp [grd, app]
/-- A guard that wants what is true. -/
theorem gT {b : Bool} {f g : St → Prop} {st st' : St} (h1 : b = true → f st) (h2 : b = false → g st') : grd (some (b, true)) (app f st) (app g st') := ⟨h1, h2⟩
/-- A guard that wants what is false. -/
theorem gF {b : Bool} {f g : St → Prop} {st st' : St} (h1 : b = false → f st) (h2 : b = true → g st') : grd (some (b, false)) (app f st) (app g st') := ⟨h1, h2⟩
theorem stepR_congr {P : Program} {M : List (FuncId × List Nat)} {r i : Nat} {o : Oper} {K : St → Prop} {st st' : St} (h : st = st') : stepR P M r i o K st = stepR P M r i o K st' := by rw [h]
theorem runR_congr {P : Program} {M : List (FuncId × List Nat)} {r : Nat} {ops : Array Oper} {i : Nat} {l : List Oper} {K : St → Prop} {st st' : St} (h : st = st') : runR P M r ops i l K st = runR P M r ops i l K st' := by rw [h]

def ewr (P : Program) (M : List (FuncId × List Nat)) : Code → (Exit → St → Prop) → St → Prop
  | .skip, Q, st => Q .normal st
  | .seq a b, Q, st => ewr P M a (eThen (ewr P M b Q) Q) st
  | .cond c x y, Q, st => brn (opv st c) (app (ewr P M x Q) st) (app (ewr P M y Q) st)
  | .block id c, Q, st => ewr P M c (eBlock id Q) st
  | .exit id, Q, st => Q (.exit id) st
  | .ret, Q, st => Q .ret st
  | .region id ops false, Q, st => runR P M id ops 0 ops.toList (Q .normal) st
  | .loop c, Q, st => ewp P (.loop c) Q st
  | .region id ops true, Q, st => ewp P (.region id ops true) Q st
  | _, _, _ => False
section
variable {P : Program} {M : List (FuncId × List Nat)} {Q : Exit → St → Prop} {K : St → Prop} {st st' : St} {a b : Code} {c : Operand} {id : Nat} {ops : Array Oper}
theorem ewr_skip : ewr P M .skip Q st = Q .normal st := rfl
theorem ewr_seq : ewr P M (.seq a b) Q st = ewr P M a (eThen (ewr P M b Q) Q) st := rfl
theorem ewr_cond : ewr P M (.cond c a b) Q st = brn (opv st c) (app (ewr P M a Q) st) (app (ewr P M b Q) st) := rfl
theorem ewr_block : ewr P M (.block id a) Q st = ewr P M a (eBlock id Q) st := rfl
theorem ewr_exit : ewr P M (.exit id) Q st = Q (.exit id) st := rfl
theorem ewr_ret : ewr P M .ret Q st = Q .ret st := rfl
theorem ewr_region : ewr P M (.region id ops false) Q st = runR P M id ops 0 ops.toList (Q .normal) st := rfl
theorem ewr_draw : ewr P M (.region id ops true) Q st = ewp P (.region id ops true) Q st := rfl
theorem ewr_loop : ewr P M (.loop a) Q st = ewp P (.loop a) Q st := rfl
theorem ewr_congr (h : st = st') : ewr P M a Q st = ewr P M a Q st' := by rw [h]
theorem ewp_congr (h : st = st') : ewp P a Q st = ewp P a Q st' := by rw [h]
end

section
variable {sz : Nat → Nat} {I I' : Nat → Nat → Prop} {bs : List Nat} {A : Nat → Nat → Option Value} {w0 w w' : World} {st st' st1 st2 : St} {a : Act} {L L' L0 L1 L2 : Loc} {hand hand' : List LT} {P : Program} {o : Oper} {Q : Exit → Act → World → Prop} {E : Env} {M : List (FuncId × List Nat)} {K : St → Prop}
open Classical in
noncomputable def oneEnv (M : List (FuncId × List Nat)) (f : FuncId) (pvs : List PV) (r : PV × List PV) : Env := ⟨mdGet M, fun f' as => if f' = f ∧ as = pvs then some r else none⟩
theorem oneEnv_ok {f : FuncId} {pvs outs : List PV} {res : PV} (h : CallOK P f pvs res outs) : EnvOK P (oneEnv M f pvs (res, outs)) := by
  intro f' as r' o' hc
  simp only [oneEnv] at hc
  split at hc
  · rename_i he
    obtain ⟨rfl, rfl⟩ := he
    cases hc
    exact h
  · simp at hc
theorem prep_sound {r i : Nat} (h : onPrep P r i o.dst st (prepCall (tsz P) M st o) K) : ∃ E st', EnvOK P E ∧ stCall E P r i st o = some st' ∧ K st' := by
  unfold onPrep at h
  split at h
  · rename_i c hc
    obtain ⟨res, outs, hok, hfin⟩ := h
    unfold onSome at hfin
    split at hfin
    · rename_i st' hst
      refine ⟨oneEnv M c.f c.pvs (res, outs), st', oneEnv_ok hok, ?_, hfin⟩
      unfold prepCall at hc
      split at hc
      · rename_i cl ho
        split at hc
        · rename_i x hx
          split at hc
          · rename_i g caps hcal
            split at hc
            · rename_i ss hss
              split at hc
              · rename_i ats ks st1 hta
                split at hc
                · rename_i pvs hla
                  cases hc
                  simp only at hok hst
                  unfold finCall at hst
                  unfold stCall
                  rw [ho]
                  simp only [hx, hcal, hss]
                  unfold stInvoke
                  have hm : (oneEnv M g pvs (res, outs)).mode g = mdGet M g := rfl
                  have hcc : (oneEnv M g pvs (res, outs)).call g pvs = some (res, outs) := by simp [oneEnv]
                  rw [hm, hta]
                  simp only [hla, hcc]
                  split at hst
                  · rename_i hcond
                    rw [if_pos hcond]
                    split at hst
                    · simp at hst
                    · rename_i bl hbl
                      split at hst
                      · simp at hst
                      · rename_i hp2 hpb
                        simp only [Option.some.injEq] at hst
                        rw [hbl]
                        simp only [hpb, hst]
                  · simp at hst
                · simp at hc
              · simp at hc
            · simp at hc
          · simp at hc
        · simp at hc
      · simp at hc
    · exact hfin.elim
  · exact h.elim
theorem stepR_sound (h : Sim (tsz P) I bs A w0 st a w L []) (h0 : tsz P nilE = 0) {r i : Nat} (hst : stepR P M r i o K st) : o.wp P a w (fun a' w' => ∃ st' L', Sim (tsz P) I bs A w0 st' a' w' L' [] ∧ K st') Q := by
  unfold stepR at hst
  split at hst
  · rename_i hc
    obtain ⟨E, st', hE, hs, hK⟩ := prep_sound hst
    exact Oper.wp_mono (fun a' w' ⟨L', h'⟩ => ⟨st', L', h', hK⟩) (stCall_sound (Q := Q) h hE hs)
  · split at hst
    · exact nilCmp_sound h hst
    · unfold onSome at hst
      split at hst
      · rename_i st' hs
        unfold oels at hs
        split at hs
        · rename_i st2 h2
          cases hs
          refine Oper.wp_mono (fun a' w' hp => ?_) (stConv_sound (Q := Q) h h2)
          obtain ⟨L', h'⟩ := PurePost.sim h hp
          exact ⟨_, L', h', hst⟩
        · split at hs
          · rename_i st2 h2
            cases hs
            exact Oper.wp_mono (fun a' w' ⟨L', h'⟩ => ⟨st', L', h', hst⟩) (stClear_sound (Q := Q) h h2)
          · split at hs
            · rename_i st2 h2
              cases hs
              exact Oper.wp_mono (fun a' w' ⟨L', h'⟩ => ⟨st', L', h', hst⟩) (stAppendR_sound (Q := Q) h h0 h2)
            · exact Oper.wp_mono (fun a' w' ⟨L', h'⟩ => ⟨st', L', h', hst⟩) (stStep_sound (Q := Q) h h0 (E0_ok P) hs)
      · exact hst.elim
theorem runR_sound {ops : Array Oper} {r : Nat} (h0 : tsz P nilE = 0) (hQ : ∀ st a' w' L', Sim (tsz P) I bs A w0 st a' w' L' [] → K st → Q .normal a' w') : ∀ (rest : List Oper) (i : Nat) {st : St} {a : Act} {w : World} {L : Loc}, Sim (tsz P) I bs A w0 st a w L [] → (∀ j, rest[j]? = ops[i + j]?) →
    runR P M r ops i rest K st → wpOps P ops Q (List.range' i rest.length) a w
  | [], i, st, a, w, L, h, _, hst => hQ st a w L h hst
  | o :: rest, i, st, a, w, L, h, hr, hst => by
    simp only [runR, app] at hst
    have hi : ops[i]? = some o := by simpa using (hr 0).symm
    have hr' : ∀ j, rest[j]? = ops[i + 1 + j]? := fun j => by have := hr (j + 1); rwa [List.getElem?_cons_succ, show i + (j + 1) = i + 1 + j by omega] at this
    simp only [List.length_cons, List.range'_succ, wpOps, hi]
    unfold grd at hst
    split at hst
    · rename_i b wn hg
      have hgs : guardSt ops st o = some (b == wn) := by rw [gcond_eq, hg]; rfl
      cases hbw : (b == wn)
      · rw [hbw] at hgs
        rw [guardSt_sound h hgs, if_neg (by simp)]
        exact runR_sound h0 hQ rest (i + 1) (h.setS _ (by simp [SVR, Im])) hr' (hst.2 (by cases b <;> cases wn <;> simp_all))
      · rw [hbw] at hgs
        rw [guardSt_sound h hgs, if_pos rfl]
        refine .inl (Oper.wp_mono (fun a' w' hh => ?_) (stepR_sound (Q := Q) h h0 (hst.1 (by simpa using hbw))))
        obtain ⟨st', L', h', hk⟩ := hh
        exact runR_sound h0 hQ rest (i + 1) h' hr' hk
    · exact hst.elim
end
section
variable {P : Program} {M : List (FuncId × List Nat)}
theorem ewr_sound (h0 : tsz P nilE = 0) : ∀ {c : Code} {Q : Exit → St → Prop} {st : St}, ewr P M c Q st → ewp P c Q st
  | .skip, _, _, h => ewp_skip (by simpa only [ewr] using h)
  | .seq a b, Q, st, h => by
    simp only [ewr] at h
    refine ewp_seq (ewp_mono (ewr_sound h0 h) ?_)
    intro e st' hx
    cases e <;> simp only [eThen] at hx ⊢
    · exact ewr_sound h0 hx
    all_goals exact hx
  | .cond c x y, Q, st, h => by
    simp only [ewr, brn] at h
    split at h
    · rename_i b hb
      exact ewp_cond hb (fun hx => ewr_sound h0 (h.1 hx)) (fun hx => ewr_sound h0 (h.2 hx))
    · exact h.elim
  | .block id c, Q, st, h => by
    simp only [ewr] at h
    exact ewp_block (ewr_sound h0 h)
  | .exit id, _, _, h => ewp_exit (by simpa only [ewr] using h)
  | .ret, _, _, h => ewp_ret (by simpa only [ewr] using h)
  | .region id ops false, Q, st, h => by
    simp only [ewr] at h
    intro I bs A w0 a w L hs
    refine wp_region ?_
    have := runR_sound (Q := fun e a' w' => ∃ st' L', Sim (tsz P) I bs A w0 st' a' w' L' [] ∧ Q e st') h0 (fun st a' w' L' h' hk => ⟨st, L', h', hk⟩) ops.toList 0 hs (fun j => by simp) h
    simpa [List.range_eq_range'] using this
  | .loop c, Q, st, h => by simpa only [ewr] using h
  | .region id ops true, Q, st, h => by simpa only [ewr] using h
  | .rangeFunc _ _ _ _, _, _, h => by simp only [ewr] at h
  | .scope _, _, _, h => by simp only [ewr] at h
  | .label _, _, _, h => by simp only [ewr] at h
  | .goto _, _, _, h => by simp only [ewr] at h
  | .refuse _, _, _, h => by simp only [ewr] at h
end
end Go.V

namespace Go.V
open Go.RowKit
set_option linter.unusedSimpArgs false
set_option linter.unusedVariables false

/-! ### a nil row is a row of any type -/
mutual
def PT.nle : PT → PT → Prop
  | .sl 0 e n cs, q => match q with
    | .sl 0 e' n' cs' => (e = nilE ∧ n = 0 ∧ cs = [] ∧ n' = 0 ∧ cs' = []) ∨ (e = e' ∧ n = n' ∧ PT.nleL cs cs')
    | _ => False
  | p, q => p = q
def PT.nleL : List PT → List PT → Prop
  | [], qs => qs = []
  | p :: ps, qs => match qs with
    | q :: qs => PT.nle p q ∧ PT.nleL ps qs
    | [] => False
end
theorem nle_own {e n e' n' : Nat} {cs cs' : List PT} : PT.nle (.sl 0 e n cs) (.sl 0 e' n' cs') = ((e = nilE ∧ n = 0 ∧ cs = [] ∧ n' = 0 ∧ cs' = []) ∨ (e = e' ∧ n = n' ∧ PT.nleL cs cs')) := by simp only [PT.nle]
theorem nle_raw {v : Value} {q : PT} : PT.nle (.raw v) q = (.raw v = q) := by simp only [PT.nle]
theorem nle_imm {k e n : Nat} {cs : List PT} {q : PT} : PT.nle (.sl (k + 1) e n cs) q = (.sl (k + 1) e n cs = q) := by simp only [PT.nle]
theorem nle_fn {k : Nat} {g : FuncId} {cs : List (List PT)} {q : PT} : PT.nle (.fn k g cs) q = (.fn k g cs = q) := by simp only [PT.nle]
theorem nle_hole {q : PT} : PT.nle .hole q = (.hole = q) := by simp only [PT.nle]
theorem nleL_nil {qs : List PT} : PT.nleL [] qs = (qs = []) := by simp only [PT.nleL]
theorem nleL_cons {p q : PT} {ps qs : List PT} : PT.nleL (p :: ps) (q :: qs) = (PT.nle p q ∧ PT.nleL ps qs) := by simp only [PT.nleL]
theorem nle_refl_all : (∀ p : PT, PT.nle p p) ∧ ∀ ps : List PT, PT.nleL ps ps := by
  have key : ∀ n : Nat, (∀ p : PT, SizeOf.sizeOf p < n → PT.nle p p) ∧ ∀ ps : List PT, SizeOf.sizeOf ps < n → PT.nleL ps ps := by
    intro n
    induction n with
    | zero => exact ⟨fun _ h => by omega, fun _ h => by omega⟩
    | succ n ih =>
      refine ⟨fun p hs => ?_, fun ps hs => ?_⟩
      · cases p with
        | sl k e m cs =>
          cases k with
          | zero => rw [nle_own]; exact .inr ⟨rfl, rfl, ih.2 _ (by simp at hs; omega)⟩
          | succ k => rw [nle_imm]
        | raw v => rw [nle_raw]
        | fn k g c => rw [nle_fn]
        | hole => rw [nle_hole]
      · cases ps with
        | nil => rw [nleL_nil]
        | cons p ps => rw [nleL_cons]; exact ⟨ih.1 _ (by simp at hs; omega), ih.2 _ (by simp at hs; omega)⟩
  exact ⟨fun p => (key _).1 p (Nat.lt_succ_self _), fun ps => (key _).2 ps (Nat.lt_succ_self _)⟩
theorem nle_refl (p : PT) : PT.nle p p = True := eq_true (nle_refl_all.1 p)
theorem nleL_refl (ps : List PT) : PT.nleL ps ps = True := eq_true (nle_refl_all.2 ps)
theorem nleL_of_eq {ps qs : List PT} (h : ps = qs) : PT.nleL ps qs := h ▸ nle_refl_all.2 ps
section
variable {sz : Nat → Nat} {I : Nat → Nat → Prop} {w : World}
theorem nleL_trees {P : LT → PT → LT → Prop} : ∀ {ts : List LT} {qs : List PT}, (∀ t ∈ ts, ∀ q, PT.nle t.erase q → ∃ t', P t q t') → PT.nleL (ts.map LT.erase) qs → ∃ us : List LT, us.length = ts.length ∧ qs.length = ts.length ∧ ∀ (i : Nat) t q u, ts[i]? = some t → qs[i]? = some q → us[i]? = some u → P t q u
  | [], qs, _, h => by simp only [List.map_nil, nleL_nil] at h; subst h; exact ⟨[], by simp⟩
  | t :: ts, [], _, h => by simp [PT.nleL] at h
  | t :: ts, q :: qs, hp, h => by
    simp only [List.map_cons, nleL_cons] at h
    obtain ⟨u, hu⟩ := hp t (by simp) q h.1
    obtain ⟨us, h1, h2, h3⟩ := nleL_trees (fun t ht => hp t (by simp [ht])) h.2
    refine ⟨u :: us, by simp [h1], by simp [h2], fun i t' q' u' ht hq hu' => ?_⟩
    cases i with
    | zero => simp only [List.getElem?_cons_zero, Option.some.injEq] at ht hq hu'; subst ht; subst hq; subst hu'; exact hu
    | succ i => exact h3 i t' q' u' (by simpa using ht) (by simpa using hq) (by simpa using hu')
def NleT (sz : Nat → Nat) (w : World) (I : Nat → Nat → Prop) (t : LT) (q : PT) (t' : LT) : Prop := t'.erase = q ∧ t'.val = t.val ∧ t'.blocks = t.blocks ∧ t'.holds sz w I
theorem nleL_lists {ts us : List LT} {qs : List PT} (h1 : us.length = ts.length) (h2 : qs.length = ts.length) (h : ∀ (i : Nat) t q u, ts[i]? = some t → qs[i]? = some q → us[i]? = some u → NleT sz w I t q u) :
    us.map LT.erase = qs ∧ us.map LT.val = ts.map LT.val ∧ us.flatMap LT.blocks = ts.flatMap LT.blocks ∧ ∀ u ∈ us, u.holds sz w I := by
  induction ts generalizing us qs with
  | nil =>
    simp only [List.length_nil, List.length_eq_zero_iff] at h1 h2
    subst h1; subst h2; simp
  | cons t ts ih =>
    cases us with
    | nil => simp at h1
    | cons u us =>
      cases qs with
      | nil => simp at h2
      | cons q qs =>
        obtain ⟨e1, e2, e3, e4⟩ := h 0 t q u rfl rfl rfl
        obtain ⟨f1, f2, f3, f4⟩ := ih (us := us) (qs := qs) (by simpa using h1) (by simpa using h2) (fun i t' q' u' a b c => h (i + 1) t' q' u' (by simpa using a) (by simpa using b) (by simpa using c))
        refine ⟨by simp [e1, f1], by simp [e2, f2], by simp [List.flatMap_cons, e3, f3], fun x hx => ?_⟩
        rcases List.mem_cons.1 hx with rfl | hx
        · exact e4
        · exact f4 x hx
theorem LT.nle (h0 : sz nilE = 0) : ∀ t : LT, t.holds sz w I → ∀ q, PT.nle t.erase q → ∃ t', NleT sz w I t q t' := by
  refine LT.ind ?_ ?_
  · intro v p h q hq
    simp only [LT.holds] at h
    simp only [LT.erase] at hq
    cases p with
    | sl k e n cs =>
      cases k with
      | zero =>
        obtain ⟨h1, h2⟩ := h
        simp only [Im] at h1
        obtain ⟨rfl, rfl, ad, rfl⟩ := h1
        have : ∃ e', q = .sl 0 e' 0 [] := by
          cases q with
          | sl k' e' n' cs' =>
            cases k' with
            | zero =>
              rw [nle_own] at hq
              rcases hq with ⟨_, _, _, rfl, rfl⟩ | ⟨_, rfl, h3⟩
              · exact ⟨_, rfl⟩
              · rw [nleL_nil] at h3; subst h3; exact ⟨_, rfl⟩
            | succ k' => simp [PT.nle] at hq
          | _ => simp [PT.nle] at hq
        obtain ⟨e', rfl⟩ := this
        refine ⟨.leaf (.slice ad 0 0) (.sl 0 e' 0 []), by simp [LT.erase], rfl, by simp [LT.blocks], ?_⟩
        simp only [LT.holds, Im]
        exact ⟨⟨trivial, trivial, ad, rfl⟩, rfl⟩
      | succ k => rw [nle_imm] at hq; subst hq; exact ⟨_, by simp only [LT.erase], rfl, rfl, by simpa only [LT.holds] using h⟩
    | raw u => rw [nle_raw] at hq; subst hq; exact ⟨_, by simp only [LT.erase], rfl, rfl, by simpa only [LT.holds] using h⟩
    | fn k g c => rw [nle_fn] at hq; subst hq; exact ⟨_, by simp only [LT.erase], rfl, rfl, by simpa only [LT.holds] using h⟩
    | hole => rw [nle_hole] at hq; subst hq; exact ⟨_, by simp only [LT.erase], rfl, rfl, by simpa only [LT.holds] using h⟩
  · intro b cap e n cs ih h q hq
    simp only [LT.holds] at h
    simp only [LT.erase] at hq
    obtain ⟨⟨arr, g1, g2, g3⟩, g4, g5, g6, g7⟩ := h
    cases q with
    | sl k e' n' cs' =>
      cases k with
      | zero =>
        rw [nle_own] at hq
        rcases hq with ⟨rfl, _⟩ | ⟨rfl, rfl, hl⟩
        · omega
        · obtain ⟨us, k1, k2, k3⟩ := nleL_trees (P := NleT sz w I) (fun t ht q hq => ih t ht (g7 t ht) q hq) hl
          obtain ⟨f1, f2, f3, f4⟩ := nleL_lists k1 k2 k3
          refine ⟨.own b cap e n us, by simp [LT.erase, f1], rfl, by simp [LT.blocks, f3], ?_⟩
          simp only [LT.holds]
          refine ⟨⟨arr, g1, g2, fun j c hc => ?_⟩, by omega, g5, g6, f4⟩
          have : (us.map LT.val)[j]? = some c.val := by rw [List.getElem?_map, hc]; rfl
          rw [f2, List.getElem?_map] at this
          cases hj : cs[j]? with
          | none => rw [hj] at this; simp at this
          | some d => rw [hj] at this; simp only [Option.map_some, Option.some.injEq] at this; rw [← this]; exact g3 j d hj
      | succ k => simp [PT.nle] at hq
    | _ => simp [PT.nle] at hq
end
mutual
def PV.nle : PV → PV → Prop
  | .c p, q => match q with | .c q => PT.nle p q | _ => False
  | .agg ps, q => match q with | .agg qs => PT.nleL ps qs | _ => False
  | .tup vs, q => match q with | .tup us => PV.nleL vs us | _ => False
  | p, q => p = q
def PV.nleL : List PV → List PV → Prop
  | [], qs => qs = []
  | p :: ps, qs => match qs with
    | q :: qs => PV.nle p q ∧ PV.nleL ps qs
    | [] => False
end
theorem pnle_c {p q : PT} : PV.nle (.c p) (.c q) = PT.nle p q := by simp only [PV.nle]
theorem pnle_agg {p q : List PT} : PV.nle (.agg p) (.agg q) = PT.nleL p q := by simp only [PV.nle]
theorem pnle_tup {p q : List PV} : PV.nle (.tup p) (.tup q) = PV.nleL p q := by simp only [PV.nle]
theorem pnle_bp {p : PT} {q : PV} : PV.nle (.bp p) q = (.bp p = q) := by simp only [PV.nle]
theorem pnle_ip {k : Nat} {p : List PT} {q : PV} : PV.nle (.ip k p) q = (.ip k p = q) := by simp only [PV.nle]
theorem pnleL_nil {qs : List PV} : PV.nleL [] qs = (qs = []) := by simp only [PV.nleL]
theorem pnleL_cons {p q : PV} {ps qs : List PV} : PV.nleL (p :: ps) (q :: qs) = (PV.nle p q ∧ PV.nleL ps qs) := by simp only [PV.nleL]
section
variable {sz : Nat → Nat} {I : Nat → Nat → Prop} {w : World}
def NleV (sz : Nat → Nat) (w : World) (I : Nat → Nat → Prop) (l : LV) (q : PV) (l' : LV) : Prop := l'.erase = q ∧ l'.val = l.val ∧ l'.blocks = l.blocks ∧ l'.holds sz w I
theorem LV.nle (h0 : sz nilE = 0) : (∀ (l : LV), l.holds sz w I → ∀ q, PV.nle l.erase q → ∃ l', NleV sz w I l q l') := by
  have key : ∀ n : Nat, (∀ (l : LV), SizeOf.sizeOf l < n → l.holds sz w I → ∀ q, PV.nle l.erase q → ∃ l', NleV sz w I l q l') ∧ (∀ (ls : List LV), SizeOf.sizeOf ls < n → LV.holdsL sz w I ls → ∀ qs, PV.nleL (LV.eraseL ls) qs → ∃ ls', LV.eraseL ls' = qs ∧ LV.valL ls' = LV.valL ls ∧ LV.blocksL ls' = LV.blocksL ls ∧ LV.holdsL sz w I ls') := by
    intro n
    induction n with
    | zero => exact ⟨fun _ h => by omega, fun _ h => by omega⟩
    | succ n ih =>
      refine ⟨fun l hs h q hq => ?_, fun ls hs h qs hq => ?_⟩
      · cases l with
        | c t =>
          cases q with
          | c q =>
            simp only [LV.erase, pnle_c] at hq
            simp only [LV.holds] at h
            obtain ⟨t', e1, e2, e3, e4⟩ := LT.nle h0 t h q hq
            exact ⟨.c t', by simp [LV.erase, e1], by simp [LV.val, e2], by simp [LV.blocks, e3], by simpa only [LV.holds] using e4⟩
          | _ => simp [LV.erase, PV.nle] at hq
        | agg ts =>
          cases q with
          | agg qs =>
            simp only [LV.erase, pnle_agg] at hq
            simp only [LV.holds] at h
            obtain ⟨us, k1, k2, k3⟩ := nleL_trees (P := NleT sz w I) (fun t ht q hq => LT.nle h0 t (h t ht) q hq) hq
            obtain ⟨f1, f2, f3, f4⟩ := nleL_lists k1 k2 k3
            exact ⟨.agg us, by simp [LV.erase, f1], by simp [LV.val, f2], by simp [LV.blocks, f3], by simpa only [LV.holds] using f4⟩
          | _ => simp [LV.erase, PV.nle] at hq
        | tup vs =>
          cases q with
          | tup qs =>
            simp only [LV.erase, pnle_tup] at hq
            simp only [LV.holds] at h
            obtain ⟨ls', e1, e2, e3, e4⟩ := ih.2 vs (by simp at hs; omega) h qs hq
            exact ⟨.tup ls', by simp [LV.erase, e1], by simp [LV.val, e2], by simp [LV.blocks, e3], by simpa only [LV.holds] using e4⟩
          | _ => simp [LV.erase, PV.nle] at hq
        | bp t =>
          simp only [LV.erase, pnle_bp] at hq
          subst hq
          exact ⟨.bp t, rfl, rfl, rfl, h⟩
        | ip k x ps =>
          simp only [LV.erase, pnle_ip] at hq
          subst hq
          exact ⟨.ip k x ps, rfl, rfl, rfl, h⟩
      · cases ls with
        | nil =>
          simp only [LV.eraseL, pnleL_nil] at hq
          subst hq
          exact ⟨[], rfl, rfl, rfl, h⟩
        | cons l ls =>
          cases qs with
          | nil => simp [LV.eraseL, PV.nleL] at hq
          | cons q qs =>
            simp only [LV.eraseL, pnleL_cons] at hq
            simp only [LV.holdsL] at h
            obtain ⟨l', a1, a2, a3, a4⟩ := ih.1 l (by simp at hs; omega) h.1 q hq.1
            obtain ⟨ls', b1, b2, b3, b4⟩ := ih.2 ls (by simp at hs; omega) h.2 qs hq.2
            exact ⟨l' :: ls', by simp [LV.eraseL, a1, b1], by simp [LV.valL, a2, b2], by simp [LV.blocksL, a3, b3], by simp only [LV.holdsL]; exact ⟨a4, b4⟩⟩
  exact fun l => (key _).1 l (Nat.lt_succ_self _)
end
theorem CallOK.nle {P : Program} {f : FuncId} {args outs : List PV} {res res' : PV} (h0 : tsz P nilE = 0) (h : CallOK P f args res outs) (hn : PV.nle res res') : CallOK P f args res' outs := by
  intro I w las h1 h2 h3 h4
  refine (h I w las h1 h2 h3 h4).mono ?_
  rintro e w' ⟨lr, los, rfl, g1, g2, g3, g4, g5, g6, g7, g8⟩
  obtain ⟨l', e1, e2, e3, e4⟩ := LV.nle h0 lr g4 res' (g1 ▸ hn)
  exact ⟨l', los, by rw [e2], e1, g2, g3, e4, g5, by rw [e3]; exact g6, by rw [e3]; exact g7, g8⟩

/-! ### what a function hands back -/
def stRetS (P : Program) (rs : List ResultVar) (args : List PV) (st : St) : Option (PV × List PV) :=
  match resSVs P st rs with
  | none => none
  | some ss => if ss.all SV.compsB = true then match takeAll (tsz P) st [] (ss.flatMap comps) with
      | some (ps, _, st1) => match outVs st1.hp 0 args with
        | some outs => some (retPV (regroup ss ps), outs)
        | none => none
      | none => none
    else none
def resOK (x : Option (PV × List PV)) (r : PV × List PV) : Prop := match x with
  | some y => PV.nle y.1 r.1 ∧ y.2 = r.2
  | none => False
theorem resOK_some {y : PV} {o : List PV} {r : PV × List PV} : resOK (some (y, o)) r = (PV.nle y r.1 ∧ o = r.2) := rfl
def PostS (P : Program) (rs : List ResultVar) (args : List PV) (r : PV × List PV) : Exit → St → Prop
  | .normal, st => resOK (stRetS P rs args st) r
  | .ret, st => resOK (stRetS P rs args st) r
  | _, _ => False
theorem PostS_normal {P : Program} {rs : List ResultVar} {args : List PV} {r : PV × List PV} {st : St} : PostS P rs args r .normal st = resOK (stRetS P rs args st) r := rfl
theorem PostS_ret {P : Program} {rs : List ResultVar} {args : List PV} {r : PV × List PV} {st : St} : PostS P rs args r .ret st = resOK (stRetS P rs args st) r := rfl
theorem resOK_congr {x x' : Option (PV × List PV)} {r : PV × List PV} (h : x = x') : resOK x r = resOK x' r := by rw [h]
/-- What is known of a function. -/
theorem okS {P : Program} {f : FuncId} {fn : Func} {c : Code} {args outs : List PV} {res : PV} {n : Nat} {rs : Array ResultVar} (M : List (FuncId × List Nat)) (h0 : tsz P nilE = 0) (hf : P.funcs[f]? = some fn) (hn : (fn.name == "runtime.NumGoroutine") = false) (hb : fn.body = some c)
    (hnt : fn.ntmps = n) (hrs : fn.results = rs) (hle : args.length ≤ n) (h : ewr P M c (PostS P rs.toList args (res, outs)) ⟨slOf n (entL 0 args), ofL (argL 0 args)⟩) : CallOK P f args res outs := by
  subst hnt; subst hrs
  have h1 := ewp_entry hle (ewr_sound h0 h)
  -- what is handed back is known case by case
  intro I w las he hh hnd hI
  refine CallsF.of_calls hf hn hb (calls_of_wp hf hb ?_)
  have hs := Sim.entry las hh hnd hI fn.ntmps
  rw [he] at hs
  refine wp_mono (h1 I _ _ w _ w _ hs) ?_
  rintro e a' w' ⟨st', L', g1, g2⟩
  have fin : resOK (stRetS P fn.results.toList args st') (res, outs) → bodyPost P fn (CallPost P I w las res outs) .ret a' w' := by
    intro hr
    unfold resOK at hr
    split at hr
    · rename_i y hy
      obtain ⟨k1, k2⟩ := hr
      have hy' : stRet P fn (las.map LV.erase) st' = some (y.1, y.2) := by rw [he]; exact hy
      have hb := stRet_sound g1 hh hy'
      obtain ⟨b1, v1, b2, b3⟩ := hb
      refine ⟨b1, v1, b2, ?_⟩
      revert b3
      generalize Ending.returned v1 = e'
      rintro ⟨lr, los, rfl, r1, r2, r3, r4, r5, r6, r7, r8⟩
      obtain ⟨l', e1, e2, e3, e4⟩ := LV.nle h0 lr r4 res (r1 ▸ k1)
      simp only at k2
      subst k2
      exact ⟨l', los, by rw [e2], e1, r2, r3, e4, r5, by rw [e3]; exact r6, by rw [e3]; exact r7, r8⟩
    · exact hr.elim
  cases e <;> simp only [PostS] at g2
  · exact fin g2
  · exact fin g2

/-! ### a region that draws its order -/
def lexRunL (E : Env) (P : Program) (r : Nat) (ops : Array Oper) : List OI → List Oper → Nat → St → Option St
  | _, [], _, st => some st
  | x :: xs, o :: rest, k, st => nxt (stM E P r ops x k o st) (lexRunL E P r ops xs rest (k + 1))
  | [], _ :: _, _, _ => none
theorem lexRunL_nil {E : Env} {P : Program} {r : Nat} {ops : Array Oper} {xs : List OI} {k : Nat} {st : St} : lexRunL E P r ops xs [] k st = some st := by cases xs <;> rfl
theorem lexRunL_cons {E : Env} {P : Program} {r : Nat} {ops : Array Oper} {x : OI} {xs : List OI} {o : Oper} {rest : List Oper} {k : Nat} {st : St} : lexRunL E P r ops (x :: xs) (o :: rest) k st = nxt (stM E P r ops x k o st) (lexRunL E P r ops xs rest (k + 1)) := by rw [lexRunL]
theorem lexRunL_eq {E : Env} {P : Program} {r : Nat} {ops : Array Oper} (ys : List OI) : ∀ (rest : List Oper) (k : Nat) (xs : List OI) (st : St), (∀ j, xs[j]? = ys[k + j]?) → lexRunL E P r ops xs rest k st = lexRun E P r ops ys k rest st
  | [], k, xs, st, _ => by rw [lexRunL_nil]; rfl
  | o :: rest, k, [], st, hx => by
    have := hx 0
    simp only [List.getElem?_nil, Nat.add_zero] at this
    simp only [lexRunL, lexRun, ← this]
  | o :: rest, k, x :: xs, st, hx => by
    have h0 := hx 0
    simp only [List.getElem?_cons_zero, Nat.add_zero] at h0
    simp only [lexRunL, lexRun, ← h0]
    congr 1
    funext st'
    exact lexRunL_eq ys rest (k + 1) xs st' fun j => by have := hx (j + 1); rwa [List.getElem?_cons_succ, show k + (j + 1) = k + 1 + j by omega] at this
noncomputable def tabCall : List (FuncId × List PV × PV × List PV) → FuncId → List PV → Option (PV × List PV)
  | [], _, _ => none
  | (g, as, r, os) :: l, f, as' => open Classical in if f = g ∧ as' = as then some (r, os) else tabCall l f as'
/-- What some calls do, each told. -/
noncomputable def tabEnv (M : List (FuncId × List Nat)) (T : List (FuncId × List PV × PV × List PV)) : Env := ⟨mdGet M, tabCall T⟩
theorem tabEnv_call {M : List (FuncId × List Nat)} {T : List (FuncId × List PV × PV × List PV)} {f : FuncId} {as : List PV} : (tabEnv M T).call f as = tabCall T f as := rfl
theorem tabEnv_mode {M : List (FuncId × List Nat)} {T : List (FuncId × List PV × PV × List PV)} {f : FuncId} : (tabEnv M T).mode f = mdGet M f := rfl
theorem tabCall_hit {f : FuncId} {as : List PV} {r : PV} {os : List PV} {l : List (FuncId × List PV × PV × List PV)} : tabCall ((f, as, r, os) :: l) f as = some (r, os) := by simp [tabCall]
theorem tabCall_miss {f g : FuncId} {as as' : List PV} {r : PV} {os : List PV} {l : List (FuncId × List PV × PV × List PV)} (h : f ≠ g) : tabCall ((g, as, r, os) :: l) f as' = tabCall l f as' := by simp [tabCall, h]
theorem tabEnv_ok {P : Program} {M : List (FuncId × List Nat)} {T : List (FuncId × List PV × PV × List PV)} (h : ∀ x ∈ T, CallOK P x.1 x.2.1 x.2.2.1 x.2.2.2) : EnvOK P (tabEnv M T) := by
  intro f as res outs hc
  simp only [tabEnv] at hc
  induction T with
  | nil => simp [tabCall] at hc
  | cons x T ih =>
    obtain ⟨g, as', r, os⟩ := x
    simp only [tabCall] at hc
    split at hc
    · rename_i he
      obtain ⟨rfl, rfl⟩ := he
      cases hc
      exact h (_, _, _, _) (by simp)
    · exact ih (fun x hx => h x (by simp [hx])) hc
theorem drawS {P : Program} {ops : Array Oper} {id : Nat} {Q : Exit → St → Prop} {st : St} (E : Env) (xs : List OI) (h0 : tsz P nilE = 0) (hm : P.follows .mixedOrders = true) (hE : EnvOK P E) (hB : Region.lexB .any ops = true) (hp : pairsB id ops xs = true)
    (h : onSome (lexRunL E P id ops xs ops.toList 0 st) (Q .normal)) : ewp P (.region id ops true) Q st := by
  rw [lexRunL_eq xs ops.toList 0 xs st (fun j => by rw [Nat.zero_add])] at h
  exact ewp_drawS xs h0 hE hm hB hp h

/-! ### two names change places -/
def Id.sw (a b i : Id) : Id := if i = a then b else if i = b then a else i
theorem Id.sw_sw (a b i : Id) : Id.sw a b (Id.sw a b i) = i := by
  unfold Id.sw
  by_cases h1 : i = a
  · subst h1; by_cases h2 : b = i <;> simp [h2]
  · by_cases h2 : i = b
    · subst h2; simp [h1]
    · simp [h1, h2]
def Pl.sw (a b : Id) (p : Pl) : Pl := ⟨Id.sw a b p.id, p.path⟩
mutual
def SV.sw (a b : Id) : SV → SV
  | .ref pl off len => .ref (pl.sw a b) off len
  | .ptr pl off => .ptr (pl.sw a b) off
  | .fnc g l => .fnc g (SV.swL a b l)
  | .agg l => .agg (SV.swL a b l)
  | .tup l => .tup (SV.swL a b l)
  | .t p => .t p
  | .ip k ps => .ip k ps
  | .junk => .junk
def SV.swL (a b : Id) : List SV → List SV
  | [] => []
  | s :: ss => s.sw a b :: SV.swL a b ss
end
def swN (a b : Id) : List (Id × PT) → List (Id × PT)
  | [] => []
  | (i, t) :: l => (Id.sw a b i, t) :: swN a b l
def swS (a b : Id) : List (Nat × SV) → List (Nat × SV)
  | [] => []
  | (i, s) :: l => (i, s.sw a b) :: swS a b l
theorem swN_ofL (a b : Id) : ∀ (l : List (Id × PT)) (id : Id), ofL l (Id.sw a b id) = ofL (swN a b l) id
  | [], id => rfl
  | (i, t) :: l, id => by
    simp only [ofL, swN]
    by_cases h : Id.sw a b id = i
    · subst h; simp [Id.sw_sw]
    · have h' : ¬ id = Id.sw a b i := fun e => h (by rw [e, Id.sw_sw])
      simp only [if_neg h, if_neg h']
      exact swN_ofL a b l id
theorem slGet_sw (a b : Id) : ∀ (l : List (Nat × SV)) (j : Nat), slGet (swS a b l) j = (slGet l j).sw a b
  | [], j => by simp [swS, slGet, SV.sw]
  | (i, s) :: l, j => by
    simp only [swS, slGet]
    split
    · rfl
    · exact slGet_sw a b l j
section
variable {sz : Nat → Nat} {I I' : Nat → Nat → Prop} {bs : List Nat} {A : Nat → Nat → Option Value} {w0 w w' : World} {a : Act} {L : Loc} {P : Program} {Q : Exit → St → Prop} {c : Code} {x y : Id}
theorem look_sw (L : Loc) (pl : Pl) : look (fun id => L (Id.sw x y id)) (pl.sw x y) = look L pl := by
  unfold look Pl.sw
  simp only [Id.sw_sw]
theorem SVR.sw : (∀ v s, SVR sz L w I v s → SVR sz (fun id => L (Id.sw x y id)) w I v (s.sw x y)) ∧ (∀ vs ss, SVRL sz L w I vs ss → SVRL sz (fun id => L (Id.sw x y id)) w I vs (SV.swL x y ss)) := by
  have key : ∀ n : Nat, (∀ v s, SizeOf.sizeOf s < n → SVR sz L w I v s → SVR sz (fun id => L (Id.sw x y id)) w I v (s.sw x y)) ∧ (∀ vs (ss : List SV), SizeOf.sizeOf ss < n → SVRL sz L w I vs ss → SVRL sz (fun id => L (Id.sw x y id)) w I vs (SV.swL x y ss)) := by
    intro n
    induction n with
    | zero => exact ⟨fun _ _ h => by omega, fun _ _ h => by omega⟩
    | succ n ih =>
      refine ⟨?_, ?_⟩
      · intro v s hs h
        cases s with
        | t p => simpa only [SVR, SV.sw] using h
        | ref pl off len => simp only [SVR, SV.sw, look_sw] at h ⊢; exact h
        | ptr pl off => simp only [SVR, SV.sw, look_sw] at h ⊢; exact h
        | ip k ps => simpa only [SVR, SV.sw] using h
        | fnc g caps =>
          simp only [SVR, SV.sw] at h ⊢
          obtain ⟨vs, hv, hl⟩ := h
          exact ⟨vs, hv, ih.2 _ _ (by simp at hs; omega) hl⟩
        | agg l =>
          simp only [SVR, SV.sw] at h ⊢
          obtain ⟨vs, hv, hl, h1⟩ := h
          exact ⟨vs, hv, ih.2 _ _ (by simp at hs; omega) hl, h1⟩
        | tup l =>
          simp only [SVR, SV.sw] at h ⊢
          obtain ⟨vs, hv, hl⟩ := h
          exact ⟨vs, hv, ih.2 _ _ (by simp at hs; omega) hl⟩
        | junk => simp only [SVR, SV.sw]
      · intro vs ss hs h
        cases ss with
        | nil => simpa only [SVRL, SV.swL] using h
        | cons s ss =>
          simp only [SVRL, SV.swL] at h ⊢
          obtain ⟨v, vs', hv, h1, h2⟩ := h
          exact ⟨v, vs', hv, ih.1 _ _ (by simp at hs; omega) h1, ih.2 _ _ (by simp at hs; omega) h2⟩
  exact ⟨fun v s => (key _).1 v s (Nat.lt_succ_self _), fun vs ss => (key _).2 vs ss (Nat.lt_succ_self _)⟩
theorem Id.sw_arg {i j : Nat} (hx : ∀ i j, x ≠ .arg i j) (hy : ∀ i j, y ≠ .arg i j) : Id.sw x y (.arg i j) = .arg i j := by
  unfold Id.sw
  rw [if_neg (fun e => hx i j e.symm), if_neg (fun e => hy i j e.symm)]
theorem swL_at : ∀ (ss : List SV) (k : Nat), (SV.swL x y ss)[k]? = (ss[k]?).map (SV.sw x y)
  | [], k => by simp [SV.swL]
  | s :: ss, 0 => by simp [SV.swL]
  | s :: ss, k + 1 => by simpa [SV.swL] using swL_at ss k
theorem swL_len : ∀ (ss : List SV), (SV.swL x y ss).length = ss.length
  | [] => rfl
  | s :: ss => by simp [SV.swL, swL_len ss]
theorem slOf_sw (n : Nat) (l : List (Nat × SV)) : SV.swL x y (slOf n l) = slOf n (swS x y l) := by
  apply slOf_ext (by simp [swL_len, slOf_len])
  intro k hk
  rw [swL_at, slOf_at, if_pos hk, slGet_sw]
  rfl
theorem Sim.sw {st : St} (hx : ∀ i j, x ≠ .arg i j) (hy : ∀ i j, y ≠ .arg i j) (h : Sim sz I bs A w0 st a w L []) : Sim sz I bs A w0 ⟨SV.swL x y st.sl, fun id => st.hp (Id.sw x y id)⟩ a w (fun id => L (Id.sw x y id)) [] :=
  { keeps := h.keeps, imm := h.imm, nodef := h.nodef, hholds := by simp, hnodup := by simp, hown := by simp, hapart := by simp
    er := fun id => h.er _
    holds := fun id t ht => h.holds _ t ht
    nodup := fun id t ht => h.nodup _ t ht
    own := fun id t ht => h.own _ t ht
    apart := fun id id' t t' hne ht ht' => h.apart _ _ t t' (fun e => hne (by have := congrArg (Id.sw x y) e; rwa [Id.sw_sw, Id.sw_sw] at this)) ht ht'
    slots := SVR.sw.2 _ _ h.slots
    args := fun i j v hv => by rw [Id.sw_arg hx hy]; exact h.args i j v hv }
end
def Id.isOp : Id → Bool
  | .op _ _ _ => true
  | _ => false
theorem Id.isOp_ne {x : Id} (h : x.isOp = true) (i j : Nat) : x ≠ .arg i j := by rintro rfl; simp [Id.isOp] at h
/-- Two names change places. -/
theorem ewp_sw {P : Program} {Q : Exit → St → Prop} {c : Code} {n : Nat} {l : List (Nat × SV)} {hp : List (Id × PT)} (x y : Id) (hx : x.isOp = true) (hy : y.isOp = true) (h : ewp P c Q ⟨slOf n (swS x y l), ofL (swN x y hp)⟩) : ewp P c Q ⟨slOf n l, ofL hp⟩ := by
  intro I bs A w0 a w L hs
  have hs' := hs.sw (Id.isOp_ne hx) (Id.isOp_ne hy)
  have e : (⟨SV.swL x y (slOf n l), fun id => ofL hp (Id.sw x y id)⟩ : St) = ⟨slOf n (swS x y l), ofL (swN x y hp)⟩ := by
    rw [slOf_sw]
    congr 1
    funext id
    exact swN_ofL x y hp id
  simp only [e] at hs'
  exact h I bs A w0 a w _ hs'
/-- A nil row gets a name. -/
theorem ewp_nil {P : Program} {Q : Exit → St → Prop} {c : Code} {n : Nat} {l : List (Nat × SV)} {hp : List (Id × PT)} (j : Nat) (id : Id) (e : Nat) {e0 : Nat} (hjn : j < n) (hid : id.isOp = true) (hj : slGet l j = .t (.sl 0 e0 0 [])) (hno : ofL hp id = none) (h : ewp P c Q ⟨slOf n ((j, .ref ⟨id, []⟩ 0 0) :: l), ofL ((id, .sl 0 e 0 []) :: hp)⟩) : ewp P c Q ⟨slOf n l, ofL hp⟩ := by
  intro I bs A w0 a w L hs
  have hat := hs.slots.at_ j (.t (.sl 0 e0 0 [])) (by show (slOf n l)[j]? = _; rw [slOf_at, if_pos hjn, hj])
  obtain ⟨v, hv, hr⟩ := hat
  simp only [SVR, Im] at hr
  obtain ⟨_, _, ad, rfl⟩ := hr
  have hLn : L id = none := by
    have := hs.er id
    simp only [hno] at this
    cases hl : L id with
    | none => rfl
    | some t => rw [hl] at this; simp at this
  let t : LT := .leaf (.slice ad 0 0) (.sl 0 e 0 [])
  have ht : t.holds (tsz P) w I := by simp only [LT.holds, t, Im]; exact ⟨⟨trivial, trivial, ad, rfl⟩, rfl⟩
  have hcase : ∀ i u, updF L id (some t) i = some u → (i = id ∧ u = t) ∨ (i ≠ id ∧ L i = some u) := by
    intro i u hu
    by_cases hi : i = id
    · subst hi; rw [updF_same] at hu; cases hu; exact .inl ⟨rfl, rfl⟩
    · rw [updF_ne _ _ hi] at hu; exact .inr ⟨hi, hu⟩
  have hst : Stays (fun _ => false) L (updF L id (some t)) := by
    intro pl node _ _ hn
    refine ⟨node, ?_, Shp.refl _⟩
    unfold look at hn ⊢
    by_cases hi : pl.id = id
    · rw [hi, hLn] at hn; simp at hn
    · rw [updF_ne _ _ hi]; exact hn
  have hsl : SVRL (tsz P) (updF L id (some t)) w I a.tmps.toList (slOf n l) := by
    refine SVRL.of_at hs.slots.len ?_
    intro i u s hu hsi
    obtain ⟨u', hu', hr⟩ := hs.slots.at_ i s hsi
    rw [hu] at hu'
    cases hu'
    exact (SVR.all _ hst (fun _ _ hb => hb) (fun _ _ _ => rfl)).1 u s (uses_false s) hr
  refine h I bs A w0 a w (updF L id (some t)) ?_
  refine { keeps := hs.keeps, imm := hs.imm, nodef := hs.nodef, hholds := by simp, hnodup := by simp, hown := by simp, hapart := by simp, er := ?_, holds := ?_, nodup := ?_, own := ?_, apart := ?_, slots := ?_, args := ?_ }
  · intro i
    by_cases hi : i = id
    · subst hi; simp [updF_same, ofL, t, LT.erase]
    · rw [updF_ne _ _ hi]; simp only [ofL, if_neg hi]; exact hs.er i
  · intro i u hu
    rcases hcase i u hu with ⟨_, rfl⟩ | ⟨_, hu⟩
    · exact ht
    · exact hs.holds i u hu
  · intro i u hu
    rcases hcase i u hu with ⟨_, rfl⟩ | ⟨_, hu⟩
    · simp [t, LT.blocks]
    · exact hs.nodup i u hu
  · intro i u hu b hb
    rcases hcase i u hu with ⟨_, rfl⟩ | ⟨_, hu⟩
    · simp [t, LT.blocks] at hb
    · exact hs.own i u hu b hb
  · intro i i' u u' hne hu hu' b hb hb'
    rcases hcase i u hu with ⟨_, rfl⟩ | ⟨_, hu⟩
    · simp [t, LT.blocks] at hb
    · rcases hcase i' u' hu' with ⟨_, rfl⟩ | ⟨_, hu'⟩
      · simp [t, LT.blocks] at hb'
      · exact hs.apart i i' u u' hne hu hu' b hb hb'
  · have := hsl.set j (v := .slice ad 0 0) (s := .ref ⟨id, []⟩ 0 0) (by
      simp only [SVR]
      exact .inr ⟨e, by simp [look, updF_same, LT.get, t], trivial, trivial, ad, rfl⟩)
    rw [slOf_set] at this
    have hv' : a.tmps.toList.set j (.slice ad 0 0) = a.tmps.toList := by
      apply List.ext_getElem?
      intro k
      by_cases hk : j = k
      · subst hk; rw [List.getElem?_set_self (List.getElem?_eq_some_iff.1 hv).1]; exact hv.symm
      · rw [List.getElem?_set_ne hk]
    rwa [hv'] at this
  · intro i k u hu
    obtain ⟨t', h1, h2⟩ := hs.args i k u hu
    exact ⟨t', by rw [updF_ne _ _ (fun he => Id.isOp_ne hid i k he.symm)]; exact h1, h2⟩
end Go.V

namespace Go.V
open Go.RowKit
set_option linter.unusedSimpArgs false
set_option linter.unusedVariables false

/-! ### code behind which it is known where an argument's rows came from -/
def ewpA (P : Program) (A : Nat → Nat → Option Value) (c : Code) (Q : Exit → St → Prop) (st : St) : Prop :=
  ∀ (I : Nat → Nat → Prop) (bs : List Nat) (w0 : World) (a : Act) (w : World) (L : Loc), Sim (tsz P) I bs A w0 st a w L [] →
    c.wp P (fun e a' w' => ∃ st' L', Sim (tsz P) I bs A w0 st' a' w' L' [] ∧ Q e st') a w
def runA (P : Program) (A : Nat → Nat → Option Value) (ops : Array Oper) (i : Nat) (l : List Oper) (Q : Exit → St → Prop) (st : St) : Prop :=
  ∀ (I : Nat → Nat → Prop) (bs : List Nat) (w0 : World) (a : Act) (w : World) (L : Loc), Sim (tsz P) I bs A w0 st a w L [] →
    wpOps P ops (fun e a' w' => ∃ st' L', Sim (tsz P) I bs A w0 st' a' w' L' [] ∧ Q e st') (List.range' i l.length) a w
section
variable {P : Program} {A : Nat → Nat → Option Value} {M : List (FuncId × List Nat)} {Q : Exit → St → Prop} {K : St → Prop} {st st' : St} {ops : Array Oper} {r i id : Nat} {c x y : Code}
theorem ewpA_of (h : ewp P c Q st) : ewpA P A c Q st := fun I bs w0 a w L hs => h I bs A w0 a w L hs
theorem ewpA_seq (h : ewpA P A x (eThen (ewpA P A y Q) Q) st) : ewpA P A (.seq x y) Q st := by
  intro I bs w0 a w L hs
  refine wp_seq (wp_mono (h I bs w0 a w L hs) ?_)
  rintro e a' w' ⟨st', L', h1, h2⟩
  cases e <;> simp only [eThen] at h2 <;> simp only [Exit.then]
  · exact h2 I bs w0 a' w' L' h1
  all_goals exact ⟨st', L', h1, h2⟩
theorem ewpA_region (h : runA P A ops 0 ops.toList Q st) : ewpA P A (.region id ops false) Q st := by
  intro I bs w0 a w L hs
  refine wp_region ?_
  have := h I bs w0 a w L hs
  simpa [List.range_eq_range'] using this
theorem runR_part {I : Nat → Nat → Prop} {bs : List Nat} {w0 : World} {R : Exit → Act → World → Prop} {rest2 : List Nat} (h0 : tsz P nilE = 0) (hQ : ∀ st a' w' L', Sim (tsz P) I bs A w0 st a' w' L' [] → K st → wpOps P ops R rest2 a' w') : ∀ (rest : List Oper) (i : Nat) {st : St} {a : Act} {w : World} {L : Loc}, Sim (tsz P) I bs A w0 st a w L [] → (∀ j, j < rest.length → rest[j]? = ops[i + j]?) →
    runR P M r ops i rest K st → wpOps P ops R (List.range' i rest.length ++ rest2) a w
  | [], i, st, a, w, L, h, _, hst => by simpa using hQ st a w L h hst
  | o :: rest, i, st, a, w, L, h, hr, hst => by
    simp only [runR, app] at hst
    have hi : ops[i]? = some o := by simpa using (hr 0 (by simp)).symm
    have hr' : ∀ j, j < rest.length → rest[j]? = ops[i + 1 + j]? := fun j hj => by have := hr (j + 1) (by simpa using hj); rwa [List.getElem?_cons_succ, show i + (j + 1) = i + 1 + j by omega] at this
    simp only [List.length_cons, List.range'_succ, List.cons_append, wpOps, hi]
    unfold grd at hst
    split at hst
    · rename_i b wn hg
      have hgs : guardSt ops st o = some (b == wn) := by rw [gcond_eq, hg]; rfl
      cases hbw : (b == wn)
      · rw [hbw] at hgs
        rw [guardSt_sound h hgs, if_neg (by simp)]
        exact runR_part h0 hQ rest (i + 1) (h.setS _ (by simp [SVR, Im])) hr' (hst.2 (by cases b <;> cases wn <;> simp_all))
      · rw [hbw] at hgs
        rw [guardSt_sound h hgs, if_pos rfl]
        refine .inl (Oper.wp_mono (fun a' w' hh => ?_) (stepR_sound (Q := R) h h0 (hst.1 (by simpa using hbw))))
        obtain ⟨st', L', h', hk⟩ := hh
        exact runR_part h0 hQ rest (i + 1) h' hr' hk
    · exact hst.elim
theorem hl_of {l : List Oper} (h : ops.toList.drop i = l) : ∀ j, l[j]? = ops[i + j]? := by
  subst h
  intro j
  rw [List.getElem?_drop, Array.getElem?_toList]
/-- Some operations first, then the others. -/
theorem runA_split (n : Nat) {l : List Oper} (h0 : tsz P nilE = 0) (hl : ∀ j, l[j]? = ops[i + j]?) (h : runR P M r ops i (l.take n) (runA P A ops (i + (l.take n).length) (l.drop n) Q) st) : runA P A ops i l Q st := by
  intro I bs w0 a w L hs
  have e : List.range' i l.length = List.range' i (l.take n).length ++ List.range' (i + (l.take n).length) (l.drop n).length := by
    rw [List.range'_append_1, ← List.length_append, List.take_append_drop]
  rw [e]
  refine runR_part h0 (fun st a' w' L' h1 h2 => h2 I bs w0 a' w' L' h1) (l.take n) i hs (fun j hj => ?_) h
  rw [← hl j, List.getElem?_take_of_lt (by simp at hj; omega)]
theorem runA_of {l : List Oper} (h0 : tsz P nilE = 0) (hl : ∀ j, l[j]? = ops[i + j]?) (h : runR P M r ops i l (Q .normal) st) : runA P A ops i l Q st := by
  intro I bs w0 a w L hs
  exact runR_sound (Q := fun e a' w' => ∃ st' L', Sim (tsz P) I bs A w0 st' a' w' L' [] ∧ Q e st') h0 (fun st a' w' L' h' hk => ⟨st, L', h', hk⟩) l i hs hl h

/-! ### what is known of an argument's row by its value -/
/-- A row of an argument, by its value or by its place. -/
def Gh (A : Nat → Nat → Option Value) (hp : Id → Option PT) (s s' : SV) : Prop := s = s' ∨
  (∃ i j v e m cs, A i j = some v ∧ hp (.arg i j) = some (.sl 0 e m cs) ∧ ((s = .t (.raw v) ∧ s' = .ref ⟨.arg i j, []⟩ 0 m) ∨ (s = .ref ⟨.arg i j, []⟩ 0 m ∧ s' = .t (.raw v))))
def GhL (A : Nat → Nat → Option Value) (hp : Id → Option PT) : List SV → List SV → Prop
  | [], l => l = []
  | s :: ss, l => match l with
    | s' :: ss' => Gh A hp s s' ∧ GhL A hp ss ss'
    | [] => False
def GhS (A : Nat → Nat → Option Value) (hp : Id → Option PT) (s s' : SV) : Prop := Gh A hp s s' ∨ ∃ l l', s = .agg l ∧ s' = .agg l' ∧ GhL A hp l l'
theorem Gh.rfl' {hp : Id → Option PT} {s : SV} : Gh A hp s s := .inl rfl
theorem Gh.ref {hp : Id → Option PT} {i j : Nat} {v : Value} {e m : Nat} {cs : List PT} (h1 : A i j = some v) (h2 : hp (.arg i j) = some (.sl 0 e m cs)) : Gh A hp (.t (.raw v)) (.ref ⟨.arg i j, []⟩ 0 m) := .inr ⟨i, j, v, e, m, cs, h1, h2, .inl ⟨rfl, rfl⟩⟩
theorem Gh.raw {hp : Id → Option PT} {i j : Nat} {v : Value} {e m : Nat} {cs : List PT} (h1 : A i j = some v) (h2 : hp (.arg i j) = some (.sl 0 e m cs)) : Gh A hp (.ref ⟨.arg i j, []⟩ 0 m) (.t (.raw v)) := .inr ⟨i, j, v, e, m, cs, h1, h2, .inr ⟨rfl, rfl⟩⟩
theorem GhL.nil {hp : Id → Option PT} : GhL A hp [] [] := rfl
theorem GhL.cons {hp : Id → Option PT} {s s' : SV} {ss ss' : List SV} (h : Gh A hp s s') (hs : GhL A hp ss ss') : GhL A hp (s :: ss) (s' :: ss') := ⟨h, hs⟩
theorem Gh.sound {I : Nat → Nat → Prop} {bs : List Nat} {w0 w : World} {a : Act} {L : Loc} (h : Sim (tsz P) I bs A w0 st a w L []) {s s' : SV} (hg : Gh A st.hp s s') {v : Value} (hr : SVR (tsz P) L w I v s) : SVR (tsz P) L w I v s' := by
  rcases hg with rfl | ⟨i, j, u, e, m, cs, h1, h2, hc⟩
  · exact hr
  · obtain ⟨t, ht, htv⟩ := h.args i j u h1
    have her := h.er (.arg i j)
    rw [ht, h2] at her
    simp only [Option.map_some, Option.some.injEq] at her
    have hh := h.holds _ _ ht
    have hlook : look L ⟨.arg i j, []⟩ = some t := by simp [look, ht, LT.get]
    rcases hc with ⟨rfl, rfl⟩ | ⟨rfl, rfl⟩
    · simp only [SVR, Im] at hr
      subst hr
      subst htv
      simp only [SVR]
      cases t with
      | leaf v' p =>
        simp only [LT.erase] at her
        subst her
        simp only [LT.holds, Im] at hh
        obtain ⟨⟨rfl, rfl, ad, rfl⟩, _⟩ := hh
        exact .inr ⟨e, hlook, trivial, rfl, ad, rfl⟩
      | own b cap e' n' lcs =>
        simp only [LT.erase, PT.sl.injEq, true_and] at her
        obtain ⟨rfl, rfl, rfl⟩ := her
        simp only [LT.holds] at hh
        obtain ⟨_, q4, q5, q6, _⟩ := hh
        exact .inl ⟨b, cap, e', n', lcs, 0, cap, hlook, rfl, .inr rfl, q5, by omega, by omega⟩
    · simp only [SVR, hlook] at hr
      simp only [SVR, Im]
      rcases hr with ⟨b, cap0, e', k, lcs, o, cap, hl, rfl, g1, g2, g3, g4⟩ | ⟨e', hl, _, hm, ad, rfl⟩
      · cases hl
        simp only [LT.erase, PT.sl.injEq, true_and] at her
        obtain ⟨rfl, rfl, rfl⟩ := her
        simp only [LT.holds] at hh
        obtain ⟨_, q4, q5, q6, _⟩ := hh
        rw [Nat.zero_add] at g4
        have hcap := Nat.eq_of_mul_eq_mul_right q6.1 g4
        subst hcap
        have ho : o = 0 := by rcases g1 with g1 | g1 <;> omega
        subst ho
        rw [← htv]
        rfl
      · cases hl
        rw [← htv]
        rfl
theorem GhL.sound {I : Nat → Nat → Prop} {bs : List Nat} {w0 w : World} {a : Act} {L : Loc} (h : Sim (tsz P) I bs A w0 st a w L []) : ∀ {l l' : List SV} {vs : List Value}, GhL A st.hp l l' → SVRL (tsz P) L w I vs l → SVRL (tsz P) L w I vs l'
  | [], l', vs, hg, hr => by simp only [GhL] at hg; subst hg; exact hr
  | s :: ss, [], vs, hg, _ => by simp [GhL] at hg
  | s :: ss, s' :: ss', vs, hg, hr => by
    simp only [GhL] at hg
    simp only [SVRL] at hr ⊢
    obtain ⟨v, vs', rfl, h1, h2⟩ := hr
    exact ⟨v, vs', rfl, Gh.sound h hg.1 h1, GhL.sound h hg.2 h2⟩
theorem Sim.ghost {I : Nat → Nat → Prop} {bs : List Nat} {w0 w : World} {a : Act} {L : Loc} {n : Nat} {sl : List (Nat × SV)} {hp : Id → Option PT} (h : Sim (tsz P) I bs A w0 ⟨slOf n sl, hp⟩ a w L []) (d : Nat) (s' : SV) (hg : GhS A hp (slGet sl d) s') : Sim (tsz P) I bs A w0 ⟨slOf n ((d, s') :: sl), hp⟩ a w L [] := by
  have hs : SVRL (tsz P) L w I a.tmps.toList (slOf n ((d, s') :: sl)) := by
    refine SVRL.of_at (by rw [h.slots.len]; simp [slOf_len]) ?_
    intro i v s hv hsi
    rw [slOf_at] at hsi
    split at hsi
    · rename_i hin
      simp only [slGet, Option.some.injEq] at hsi
      obtain ⟨v', hv', hr⟩ := h.slots.at_ i (slGet sl i) (by show (slOf n sl)[i]? = _; rw [slOf_at, if_pos hin])
      rw [hv] at hv'
      cases hv'
      by_cases hid : i = d
      · subst hid
        rw [if_pos rfl] at hsi
        subst hsi
        rcases hg with hg | ⟨l, l', he, rfl, hg⟩
        · exact Gh.sound h hg hr
        · rw [he] at hr
          simp only [SVR] at hr ⊢
          obtain ⟨vs, hv2, hr2, hone⟩ := hr
          exact ⟨vs, hv2, GhL.sound h hg hr2, hone⟩
      · rw [if_neg hid] at hsi
        subst hsi
        exact hr
    · simp at hsi
  exact { h with slots := hs, er := h.er }
theorem ewpA_ghost {n : Nat} {sl : List (Nat × SV)} {hp : Id → Option PT} (d : Nat) (s' : SV) (hg : GhS A hp (slGet sl d) s') (h : ewpA P A c Q ⟨slOf n ((d, s') :: sl), hp⟩) : ewpA P A c Q ⟨slOf n sl, hp⟩ :=
  fun I bs w0 a w L hs => h I bs w0 a w L (hs.ghost d s' hg)
theorem runA_ghost {n : Nat} {l : List Oper} {sl : List (Nat × SV)} {hp : Id → Option PT} (d : Nat) (s' : SV) (hg : GhS A hp (slGet sl d) s') (h : runA P A ops i l Q ⟨slOf n ((d, s') :: sl), hp⟩) : runA P A ops i l Q ⟨slOf n sl, hp⟩ :=
  fun I bs w0 a w L hs => h I bs w0 a w L (hs.ghost d s' hg)
end
/-- What is known of a function that writes into rows of a struct that it is handed. -/
theorem okA {P : Program} {f : FuncId} {fn : Func} {c : Code} {args outs : List PV} {res : PV} {n : Nat} {rs : Array ResultVar} (h0 : tsz P nilE = 0) (hf : P.funcs[f]? = some fn) (hn : (fn.name == "runtime.NumGoroutine") = false) (hb : fn.body = some c)
    (hnt : fn.ntmps = n) (hrs : fn.results = rs) (hle : args.length ≤ n)
    (h : ∀ A : Nat → Nat → Option Value, (∀ i j, (entryHp args (.arg i j)).isSome = true → ∃ v, A i j = some v) → ewpA P A c (PostS P rs.toList args (res, outs)) ⟨slOf n (entL 0 args), ofL (argL 0 args)⟩) : CallOK P f args res outs := by
  subst hnt; subst hrs
  intro I w las he hh hnd hI
  refine CallsF.of_calls hf hn hb (calls_of_wp hf hb ?_)
  have hs := Sim.entry las hh hnd hI fn.ntmps
  rw [he] at hs
  have hA : ∀ i j, (entryHp args (.arg i j)).isSome = true → ∃ v, (entryL las (.arg i j)).map LT.val = some v := by
    intro i j hij
    subst he
    have : (entryL las (.arg i j)).map LT.erase = entryHp (las.map LV.erase) (.arg i j) := by
      simp only [entryL, entryHp, List.getElem?_map]
      cases hl : las[i]? with
      | none => simp
      | some la => simp [LV.at_erase]
    rw [← this] at hij
    cases ht : entryL las (.arg i j) with
    | none => rw [ht] at hij; simp at hij
    | some t => exact ⟨t.val, rfl⟩
  have h1 := h _ hA
  have hs2 : Sim (tsz P) I (las.flatMap LV.blocks) (fun i j => (entryL las (.arg i j)).map LT.val) w ⟨slOf fn.ntmps (entL 0 args), ofL (argL 0 args)⟩ { tmps := (las.map LV.val).toArray ++ Array.replicate (fn.ntmps - (las.map LV.val).toArray.size) undef, defers := [] } w (entryL las) [] := by
    rw [entrySt_ofL] at hs
    refine { hs with slots := hs.slots.weak ?_ ?_, er := hs.er }
    · simp [slOf_len, entrySVs_len]; omega
    · intro j s hsj
      rw [slOf_at] at hsj
      split at hsj
      · simp only [Option.some.injEq] at hsj
        rw [slGet_ent, if_pos (Nat.zero_le _), Nat.sub_zero] at hsj
        cases hj : (entrySVs 0 args)[j]? with
        | none => rw [hj] at hsj; exact .inl hsj.symm
        | some s' =>
          rw [hj] at hsj
          simp only [Option.getD_some] at hsj
          subst hsj
          right
          show ((entrySVs 0 args ++ _)[j]?) = _
          rw [List.getElem?_append_left (List.getElem?_eq_some_iff.1 hj).1]
          exact hj
      · simp at hsj
  refine wp_mono (h1 I _ w _ w _ hs2) ?_
  rintro e a' w' ⟨st', L', g1, g2⟩
  have fin : resOK (stRetS P fn.results.toList args st') (res, outs) → bodyPost P fn (CallPost P I w las res outs) .ret a' w' := by
    intro hr
    unfold resOK at hr
    split at hr
    · rename_i y hy
      obtain ⟨k1, k2⟩ := hr
      have hy' : stRet P fn (las.map LV.erase) st' = some (y.1, y.2) := by rw [he]; exact hy
      have hb := stRet_sound g1 hh hy'
      obtain ⟨b1, v1, b2, b3⟩ := hb
      refine ⟨b1, v1, b2, ?_⟩
      revert b3
      generalize Ending.returned v1 = e'
      rintro ⟨lr, los, rfl, r1, r2, r3, r4, r5, r6, r7, r8⟩
      obtain ⟨l', e1, e2, e3, e4⟩ := LV.nle h0 lr r4 res (r1 ▸ k1)
      simp only at k2
      subst k2
      exact ⟨l', los, by rw [e2], e1, r2, r3, e4, r5, by rw [e3]; exact r6, by rw [e3]; exact r7, r8⟩
    · exact hr.elim
  cases e <;> simp only [PostS] at g2
  · exact fin g2
  · exact fin g2
end Go.V

namespace Go.V
open Go.RowKit
set_option linter.unusedSimpArgs false
set_option linter.unusedVariables false

/-! ### loops over what is told one by one -/
section
variable {P : Program} {Q : Exit → St → Prop} {c : Code} {n : Nat}
theorem drop_slOf (sl : List (Nat × SV)) (l : List (Id × PT)) (keep : List Nat) (ids : List Id) : (St.mk (slOf n sl) (ofL l)).drop keep ids = ⟨slOf n (killL (fun q => match q.id with | .arg _ _ => false | id => !ids.contains id) (slPick sl keep)), ofL (dropL ids l)⟩ := by
  rw [St.drop_ofL, slOf_keep, slOf_kill]
  all_goals rfl
/-- What stands at a loop's head, and behind a round: not looked into by the reckoning. -/
def Head (Inv : Nat → St → Prop) (m : Nat) (st : St) : Prop := Inv m st
def Less (Inv : Nat → St → Prop) (m : Nat) (st : St) : Prop := ∃ m', m' < m ∧ Inv m' st
def Rnd (Inv : Nat → St → Prop) (m : Nat) (keep : List Nat) (ids : List Id) (st : St) : Prop := Less Inv m (st.drop keep ids)
theorem Head_mk {Inv : Nat → St → Prop} {m : Nat} {st : St} (h : Inv m st) : Head Inv m st := h
theorem Less_mk {Inv : Nat → St → Prop} {m : Nat} {st : St} (m' : Nat) (h : m' < m) (hi : Inv m' st) : Less Inv m st := ⟨m', h, hi⟩
theorem Rnd_eq {Inv : Nat → St → Prop} {m : Nat} {keep : List Nat} {ids : List Id} {st : St} : Rnd Inv m keep ids st = Less Inv m (st.drop keep ids) := rfl
/-- A loop: of the slots and names these are kept. -/
theorem loopS (keep : List Nat) (ids : List Id) (J : Nat → St → Prop) (m : Nat) {st : St} (h : ∀ Inv, Inv = J → Head Inv m (st.drop keep ids)) (round : ∀ Inv, Inv = J → ∀ m st, J m st → ewp P c (eThen (Rnd Inv m keep ids) Q) st) : ewp P (.loop c) Q st :=
  ewp_loopk keep ids J m (h J rfl) fun m st hj => round J rfl m st hj
end
/-- Behind some code something is known; the rest is proved from that. -/
theorem ewp_cut {P : Program} {Q : Exit → St → Prop} {a b : Code} {st : St} (Mid : St → Prop) (h1 : ewp P a (eThen Mid Q) st) (h2 : ∀ st, Mid st → ewp P b Q st) : ewp P (.seq a b) Q st :=
  ewp_seq (ewp_mono h1 fun e st' h => by cases e <;> simp only [eThen] at h ⊢ <;> first | exact h2 _ h | exact h)
theorem sw_eq (a b i : Id) : Id.sw a b i = if i = a then b else if i = b then a else i := rfl
theorem pl_sw (a b i : Id) (p : List Nat) : Pl.sw a b ⟨i, p⟩ = ⟨Id.sw a b i, p⟩ := rfl
attribute [congr] Inv_congr onPrep_congr grd_congr stepR_congr runR_congr ewr_congr ewp_congr resOK_congr
attribute [simp ↓] onPrep_some grd_tt grd_ff grd_tf grd_ft
attribute [simp] slGet_nil slGet_cons slOf_at slOf_set slOf_kill slOf_keep slOf_restr slOf_merge killL slPick restrL mergeN mergeR mergeL entL
attribute [simp] stClear stAppendR Pl.below PT.hollow isSliceV zRef
attribute [simp] nilOp nilCmp nilK isSlT stConv bytesOf gcond gslot_b gslot_u onPrep_some grd_tt grd_ff grd_tf grd_ft nxt_some onSome_some brn_t brn_f runR_nil runR_cons stepR isCall prepCall mdGet finCall
attribute [simp] ewr_skip ewr_seq ewr_cond ewr_block ewr_exit ewr_ret ewr_region ewr_draw ewr_loop
attribute [simp] resOK_some PostS_normal PostS_ret stRetS nle_refl nleL_refl nle_own nle_raw nle_imm nle_fn nle_hole nleL_nil nleL_cons pnle_c pnle_agg pnle_tup pnle_bp pnle_ip pnleL_nil pnleL_cons
attribute [simp] Call.operands lexRunL_nil lexRunL_cons tabEnv_call tabEnv_mode tabCall_hit tabCall_miss sw_eq pl_sw SV.sw SV.swL swN swS
attribute [simp] Rnd_eq St.drop_ofL drop_slOf
end Go.V

namespace Go.V
set_option linter.unusedSimpArgs false
set_option linter.unusedVariables false

/-! ### cells -/
abbrev pi (n : Int) : PT := .raw (.int .i64 n)
abbrev pu (n : Int) : PT := .raw (.int .u8 n)
abbrev ps (s : ByteArray) : PT := .raw (.string s)
abbrev pb (b : Bool) : PT := .raw (.bool b)
/-- A row that is only read. -/
abbrev rd (k : Nat) (n : Nat) (cs : List PT) : PT := .sl (k + 1) 0 n cs
theorem fm_len {α : Type} (f : α → List PT) (m : Nat) (hf : ∀ a, (f a).length = m) : ∀ xs : List α, (xs.flatMap f).length = xs.length * m
  | [] => by simp
  | x :: xs => by simp only [List.flatMap_cons, List.length_append, hf, fm_len f m hf xs, List.length_cons, Nat.add_mul]; omega
theorem fm_drop {α : Type} (f : α → List PT) (m : Nat) (hf : ∀ a, (f a).length = m) : ∀ (xs : List α) (i : Nat) (h : i < xs.length), (xs.flatMap f).drop (i * m) = f xs[i] ++ (xs.flatMap f).drop ((i + 1) * m)
  | [], i, h => by simp at h
  | x :: xs, 0, _ => by simp [List.flatMap_cons, List.drop_append, hf]
  | x :: xs, i + 1, h => by
    have := fm_drop f m hf xs i (by simpa using h)
    have e1 : (i + 1) * m = m + i * m := by rw [Nat.add_mul]; omega
    have e2 : (i + 1 + 1) * m = m + (i + 1) * m := by rw [Nat.add_mul (i + 1)]; omega
    rw [e2, e1, List.flatMap_cons, ← List.drop_drop, ← List.drop_drop, List.drop_left' (hf x), this, e1]
    rfl
theorem fm_take {α : Type} (f : α → List PT) (m : Nat) (hf : ∀ a, (f a).length = m) : ∀ (xs : List α) (i : Nat), (xs.flatMap f).take (i * m) = (xs.take i).flatMap f
  | [], i => by simp
  | x :: xs, 0 => by simp
  | x :: xs, i + 1 => by
    have e1 : (i + 1) * m = m + i * m := by rw [Nat.add_mul]; omega
    rw [e1, List.flatMap_cons, List.take_append, hf, List.take_of_length_le (by rw [hf]; omega), show m + i * m - m = i * m by omega, fm_take f m hf xs i]
    simp
theorem fm_dropAll {α : Type} (f : α → List PT) (m : Nat) (hf : ∀ a, (f a).length = m) : ∀ (xs : List α) (i : Nat), (xs.flatMap f).drop (i * m) = (xs.drop i).flatMap f
  | [], i => by simp
  | x :: xs, 0 => by simp
  | x :: xs, i + 1 => by
    have e1 : (i + 1) * m = m + i * m := by rw [Nat.add_mul]; omega
    rw [e1, List.flatMap_cons, ← List.drop_drop, List.drop_left' (hf x), fm_dropAll f m hf xs i]
    simp
/-- An element is replaced. -/
theorem fm_set {α : Type} (f : α → List PT) (m : Nat) (hf : ∀ a, (f a).length = m) (xs : List α) (i : Nat) (y : α) (h : i < xs.length) : (xs.flatMap f).take (i * m) ++ (f y ++ (xs.flatMap f).drop (i * m + m)) = (xs.set i y).flatMap f := by
  have e : i * m + m = (i + 1) * m := by rw [Nat.add_mul]; omega
  rw [e, fm_take f m hf, fm_dropAll f m hf, List.set_eq_take_append_cons_drop, if_pos h, List.flatMap_append, List.flatMap_cons]
theorem unownL_map {α : Type} (f : α → PT) : ∀ xs : List α, PT.unownL (xs.map f) = xs.map fun a => (f a).unown
  | [] => rfl
  | x :: xs => by simp [PT.unownL, unownL_map f xs]
theorem unownL_app : ∀ xs ys : List PT, PT.unownL (xs ++ ys) = PT.unownL xs ++ PT.unownL ys
  | [], ys => rfl
  | x :: xs, ys => by simp [PT.unownL, unownL_app xs ys]
theorem unownL_fm {α : Type} (f : α → List PT) : ∀ xs : List α, PT.unownL (xs.flatMap f) = xs.flatMap fun a => PT.unownL (f a)
  | [] => rfl
  | x :: xs => by simp [PT.unownL_eq, List.map_flatMap]
theorem noTmpL_map {α : Type} (f : α → PT) : ∀ xs : List α, (∀ a, (f a).noTmp = true) → PT.noTmpL (xs.map f) = true
  | [], _ => rfl
  | x :: xs, h => by simp [PT.noTmpL, h x, noTmpL_map f xs h]
theorem noTmpL_fm {α : Type} (f : α → List PT) : ∀ xs : List α, (∀ a, PT.noTmpL (f a) = true) → PT.noTmpL (xs.flatMap f) = true
  | [], _ => rfl
  | x :: xs, h => by
    rw [PT.noTmpL_iff]
    intro c hc
    obtain ⟨a, ha, hca⟩ := List.mem_flatMap.1 hc
    exact (PT.noTmpL_iff _).1 (h a) c hca
theorem noTmp_ps (xs : List ByteArray) : PT.noTmpL (xs.map ps) = true := noTmpL_map _ xs fun _ => rfl
theorem noTmp_pi (xs : List Int) : PT.noTmpL (xs.map pi) = true := noTmpL_map _ xs fun _ => rfl
theorem noTmp_pb (xs : List Bool) : PT.noTmpL (xs.map pb) = true := noTmpL_map _ xs fun _ => rfl
theorem unown_ps (xs : List ByteArray) : PT.unownL (xs.map ps) = xs.map ps := by rw [unownL_map]; rfl
theorem unown_pi (xs : List Int) : PT.unownL (xs.map pi) = xs.map pi := by rw [unownL_map]; rfl
theorem unown_pb (xs : List Bool) : PT.unownL (xs.map pb) = xs.map pb := by rw [unownL_map]; rfl
theorem wrNext (i : Nat) (h : i < 9223372036854775807) : IntKind.wrap .i64 ((i : Int) + 1) = ((i + 1 : Nat) : Int) := wrap64 (by omega) (by omega)
/-! ### what a closure has captured, lent as it is -/
theorem zip_caps (q : Nat) : ∀ caps : List (List PT), zipModes (caps.map (SV.ip q)) [] = caps.map fun c => (SV.ip q c, 0)
  | [] => rfl
  | c :: cs => by simp [zipModes, zip_caps q cs]
theorem take_caps {sz : Nat → Nat} {st : St} {ks : List Pl} (q : Nat) : ∀ caps : List (List PT), takeArgs sz st ks (caps.map fun c => (SV.ip q c, 0)) = some (caps.map fun c => AT.lent (SV.ip q c), ks, st)
  | [] => rfl
  | c :: cs => by simp [takeArgs, takeArg, take_caps q cs]
theorem lend_caps {sz : Nat → Nat} {st : St} {ks : List Pl} (q : Nat) : ∀ caps : List (List PT), lendArgs sz st ks (caps.map fun c => AT.lent (SV.ip q c)) = some (caps.map (PV.ip q))
  | [] => rfl
  | c :: cs => by simp [lendArgs, lend_caps q cs, lendV, SV.uses]
theorem lendy_caps (q : Nat) : ∀ caps : List (List PT), (caps.map fun c => AT.lent (SV.ip q c)).any AT.lendy = false
  | [] => rfl
  | c :: cs => by simp [AT.lendy, SV.lendy]
theorem backs_caps (q : Nat) : ∀ caps : List (List PT), backsOf (caps.map fun c => AT.lent (SV.ip q c)) (caps.map (PV.ip q)) = some []
  | [] => rfl
  | c :: cs => by simp [backsOf, backArg, backs_caps q cs]
theorem own_caps (q : Nat) : ∀ caps : List (List PT), ownCells (caps.map fun c => AT.lent (SV.ip q c)) (caps.map (PV.ip q)) = []
  | [] => rfl
  | c :: cs => by simp [ownCells, own_caps q cs]
attribute [simp] zip_caps take_caps lend_caps lendy_caps backs_caps own_caps
theorem noTmpL_app : ∀ xs ys : List PT, PT.noTmpL (xs ++ ys) = (PT.noTmpL xs && PT.noTmpL ys)
  | [], ys => by simp [PT.noTmpL]
  | x :: xs, ys => by simp [PT.noTmpL, noTmpL_app xs ys, Bool.and_assoc]
attribute [simp] unownL_app noTmpL_app
attribute [simp] unown_ps unown_pi unown_pb noTmp_ps noTmp_pi noTmp_pb
end Go.V

namespace Go.V
open Go.RowKit
set_option linter.unusedSimpArgs false
set_option linter.unusedVariables false

/-! ### more operators -/
def bitAnd (k : IntKind) (a b : Int) : Int := k.wrap (BitVec.ofInt k.bits a &&& BitVec.ofInt k.bits b).toNat
def bitOr (k : IntKind) (a b : Int) : Int := k.wrap (BitVec.ofInt k.bits a ||| BitVec.ofInt k.bits b).toNat
def bitXor (k : IntKind) (a b : Int) : Int := k.wrap (BitVec.ofInt k.bits a ^^^ BitVec.ofInt k.bits b).toNat
section
variable {P : Program} {t : TypeId} {x y : Operand} {k : IntKind} {a b : Int} {u v : ByteArray} {c d : Bool}
theorem pr_concat (h : u.size + v.size ≤ 9223372036854775807) : pureRun P (do eqGuard .add t x y (.string u) (.string v); binOp .add t (.string u) (.string v)) = some (.string (u ++ v)) := by
  have h' : ¬ ((9223372036854775807 : Int) < (u.size : Int) + v.size) := by omega
  simp [pureRun_bind, pureRun_pure, eqGuard, binOp, Op.stringOp, h']
theorem pr_lssS : pureRun P (do eqGuard .lss t x y (.string u) (.string v); binOp .lss t (.string u) (.string v)) = some (.bool (Op.bytesLess u.toList v.toList)) := by
  simp [pureRun_bind, pureRun_pure, eqGuard, binOp, Op.stringOp]
theorem pr_gtrS : pureRun P (do eqGuard .gtr t x y (.string u) (.string v); binOp .gtr t (.string u) (.string v)) = some (.bool (!(Op.bytesLess u.toList v.toList || u.toList == v.toList))) := by
  simp [pureRun_bind, pureRun_pure, eqGuard, binOp, Op.stringOp]
theorem pr_quo (h : b ≠ 0) : pureRun P (do eqGuard .quo t x y (.int k a) (.int k b); binOp .quo t (.int k a) (.int k b)) = some (.int k (k.wrap (a.tdiv b))) := by
  simp [pureRun_bind, pureRun_pure, eqGuard, binOp, Op.intDiv, h]
theorem pr_rem (h : b ≠ 0) : pureRun P (do eqGuard .rem t x y (.int k a) (.int k b); binOp .rem t (.int k a) (.int k b)) = some (.int k (a.tmod b)) := by
  simp [pureRun_bind, pureRun_pure, eqGuard, binOp, Op.intDiv, h]
theorem pr_and : pureRun P (do eqGuard .and t x y (.int k a) (.int k b); binOp .and t (.int k a) (.int k b)) = some (.int k (bitAnd k a b)) := by
  simp [pureRun_bind, pureRun_pure, eqGuard, binOp, Op.intBits, bitAnd]
theorem pr_or : pureRun P (do eqGuard .or t x y (.int k a) (.int k b); binOp .or t (.int k a) (.int k b)) = some (.int k (bitOr k a b)) := by
  simp [pureRun_bind, pureRun_pure, eqGuard, binOp, Op.intBits, bitOr]
theorem pr_xor : pureRun P (do eqGuard .xor t x y (.int k a) (.int k b); binOp .xor t (.int k a) (.int k b)) = some (.int k (bitXor k a b)) := by
  simp [pureRun_bind, pureRun_pure, eqGuard, binOp, Op.intBits, bitXor]
theorem pr_shl {k' : IntKind} (h : 0 ≤ b) : pureRun P (do eqGuard .shl t x y (.int k a) (.int k' b); binOp .shl t (.int k a) (.int k' b)) = some (.int k (k.wrap (a * 2 ^ min b.toNat k.bits))) := by
  have : ¬ b < 0 := by omega
  simp [pureRun_bind, pureRun_pure, eqGuard, binOp, Op.shift, this]
theorem pr_shr {k' : IntKind} (h : 0 ≤ b) : pureRun P (do eqGuard .shr t x y (.int k a) (.int k' b); binOp .shr t (.int k a) (.int k' b)) = some (.int k (a.fdiv (2 ^ min b.toNat k.bits))) := by
  have : ¬ b < 0 := by omega
  simp [pureRun_bind, pureRun_pure, eqGuard, binOp, Op.shift, this]
theorem pr_und {d : TypeDesc} (h : P.underlying t = some d) : pureRun P (underlying t) = some d := by
  unfold underlying
  show pureRun P (match P.underlying t with | some d => pure d | none => stuck "no such type") = _
  rw [h]; rfl
theorem pr_equalB {n : Nat} (h : P.underlying t = some .bool) : pureRun P (Op.equalIn (n + 1) t (.bool c) (.bool d)) = some (c == d) := by
  unfold Op.equalIn
  rw [pureRun_bind, pr_und h]
  rfl
theorem pr_eqlB (ht : P.underlying t = some .bool) : pureRun P (do eqGuard .eql t x y (.bool c) (.bool d); binOp .eql t (.bool c) (.bool d)) = some (.bool (c == d)) := by
  show pureRun P (do let z ← Op.equalIn (9999 + 1) t (.bool c) (.bool d); pure (Value.bool z)) = _
  rw [pureRun_bind, pr_equalB ht]
  rfl
theorem pr_neqB (ht : P.underlying t = some .bool) : pureRun P (do eqGuard .neq t x y (.bool c) (.bool d); binOp .neq t (.bool c) (.bool d)) = some (.bool (!(c == d))) := by
  show pureRun P (do let z ← Op.equalIn (9999 + 1) t (.bool c) (.bool d); pure (Value.bool !z)) = _
  rw [pureRun_bind, pr_equalB ht]
  rfl
def intK (P : Program) (t : TypeId) : IntKind := match P.underlying t with
  | some (.int k) => k
  | _ => .i64
def isIntT (P : Program) (t : TypeId) : Bool := match P.underlying t with
  | some (.int _) => true
  | _ => false
theorem pr_conv {s : TypeId} (h1 : (P.underlying s).isSome = true) (h2 : isIntT P t = true) : pureRun P (convert s t (.int k a)) = some (.int (intK P t) ((intK P t).wrap a)) := by
  obtain ⟨d, hd⟩ := Option.isSome_iff_exists.1 h1
  unfold isIntT at h2
  split at h2
  · rename_i k' hk
    simp only [intK, hk]
    unfold convert
    rw [pureRun_bind, pr_und hd]
    show pureRun P (do let z ← underlying t; _) = _
    rw [pureRun_bind, pr_und hk]
    rfl
  · cases h2
end
attribute [simp] pr_concat pr_lssS pr_gtrS pr_quo pr_rem pr_and pr_or pr_xor pr_shl pr_shr pr_eqlB pr_neqB pr_conv intK isIntT isU8 isStr
end Go.V

namespace Go.V
set_option linter.unusedSimpArgs false
set_option linter.unusedVariables false

/-! ### cells behind some others -/
section
variable {A L : List PT} {a k : Nat} {p : PT}
theorem app_get (h : A.length = a) : (A ++ L)[a]? = L[0]? := by subst h; rw [List.getElem?_append_right (Nat.le_refl _), Nat.sub_self]
theorem app_get_add (h : A.length = a) : (A ++ L)[a + k]? = L[k]? := by subst h; simp [List.getElem?_append_right]
theorem app_set (h : A.length = a) : (A ++ L).set a p = A ++ L.set 0 p := by subst h; simp [List.set_append]
theorem app_set_add (h : A.length = a) : (A ++ L).set (a + k) p = A ++ L.set k p := by subst h; simp [List.set_append]
theorem app_take (h : A.length = a) : (A ++ L).take a = A := by subst h; simp
theorem app_take_add (h : A.length = a) : (A ++ L).take (a + k) = A ++ L.take k := by subst h; rw [List.take_append, List.take_of_length_le (by omega), Nat.add_sub_cancel_left]
theorem app_drop (h : A.length = a) : (A ++ L).drop a = L := by subst h; simp
theorem app_get_add2 {j : Nat} (h : A.length = a) : (A ++ L)[a + j + k]? = L[j + k]? := by rw [Nat.add_assoc]; exact app_get_add h
theorem app_set_add2 {j : Nat} (h : A.length = a) : (A ++ L).set (a + j + k) p = A ++ L.set (j + k) p := by rw [Nat.add_assoc]; exact app_set_add h
theorem app_take_add2 {j : Nat} (h : A.length = a) : (A ++ L).take (a + j + k) = A ++ L.take (j + k) := by subst h; rw [Nat.add_assoc, List.take_append, List.take_of_length_le (by omega), Nat.add_sub_cancel_left]
theorem app_drop_add2 {j : Nat} (h : A.length = a) : (A ++ L).drop (a + j + k) = L.drop (j + k) := by subst h; rw [Nat.add_assoc]; simp [List.drop_append]
theorem le_add2 {j n : Nat} : (a + j + k ≤ a + n) = (j + k ≤ n) := by rw [Nat.add_assoc]; exact propext (Nat.add_le_add_iff_left)
theorem app_drop_add (h : A.length = a) : (A ++ L).drop (a + k) = L.drop k := by subst h; simp [List.drop_append]
end

theorem ipre_cons (a b : Nat) (as bs : List Nat) : (a :: as).isPrefixOf (b :: bs) = (a == b && as.isPrefixOf bs) := rfl
theorem ipre_nil (bs : List Nat) : ([] : List Nat).isPrefixOf bs = true := by cases bs <;> rfl
theorem ipre_cons_nil (a : Nat) (as : List Nat) : (a :: as).isPrefixOf ([] : List Nat) = false := rfl
attribute [simp] ipre_cons ipre_nil ipre_cons_nil
theorem take_snoc {A L : List PT} {n m : Nat} (h : A.length = n * m) (h2 : L.length = m) : (A ++ L).take ((n + 1) * m) = A ++ L := List.take_of_length_le (by rw [List.length_append, h, h2, Nat.add_mul]; omega)
theorem take_snoc1 {A : List PT} {p : PT} {n : Nat} (h : A.length = n) : (A ++ [p]).take (n + 1) = A ++ [p] := List.take_of_length_le (by rw [List.length_append, h]; simp)
theorem le_snoc {n m k : Nat} : ((n + 1) * m ≤ n * m + k) = (m ≤ k) := by rw [Nat.add_mul, Nat.one_mul]; exact propext Nat.add_le_add_iff_left
attribute [simp] take_snoc take_snoc1 le_snoc
/-! ### calls, each told -/
theorem tab_nil {P : Program} : ∀ x ∈ ([] : List (FuncId × List PV × PV × List PV)), CallOK P x.1 x.2.1 x.2.2.1 x.2.2.2 := by simp
theorem tab_cons {P : Program} {f : FuncId} {as os : List PV} {r : PV} {T : List (FuncId × List PV × PV × List PV)} (h : CallOK P f as r os) (hT : ∀ x ∈ T, CallOK P x.1 x.2.1 x.2.2.1 x.2.2.2) : ∀ x ∈ (f, as, r, os) :: T, CallOK P x.1 x.2.1 x.2.2.1 x.2.2.2 := by
  intro x hx
  rcases List.mem_cons.1 hx with rfl | hx
  · exact h
  · exact hT x hx

/-! ### sizes -/
def wtR {α : Type} (f : α → Nat) (xs : List α) : Nat := xs.length + (xs.map f).sum
def szr (left : Int) (w : Nat) : Int := if left < w then -1 else left - w
theorem szr_neg {l : Int} {w : Nat} (h : l < w) : szr l w = -1 := by simp [szr, h]
theorem szr_ge {l : Int} {w : Nat} (h : ¬ l < w) : szr l w = l - w := by simp [szr, h]
theorem szr_lt0 {l : Int} {w : Nat} (h : szr l w < 0) (h0 : 0 ≤ l) : l < w := by unfold szr at h; split at h <;> omega
theorem szr_ge0 {l : Int} {w : Nat} (h : 0 ≤ szr l w) : ¬ l < w := by unfold szr at h; split at h <;> omega
theorem szr_add {l : Int} {a b : Nat} (h : ¬ l < a) : szr l (a + b) = szr (l - a) b := by
  unfold szr
  split <;> split <;> omega
theorem szr_add_neg {l : Int} {a b : Nat} (h : l < a) : szr l (a + b) = -1 := by
  unfold szr
  split <;> omega
theorem szr_zero {l : Int} (h : 0 ≤ l) : szr l 0 = l := by
  unfold szr
  split <;> omega
theorem wt_mem {α : Type} (f : α → Nat) : ∀ {xs : List α} {x : α}, x ∈ xs → f x ≤ (xs.map f).sum
  | y :: ys, x, h => by
    simp only [List.map_cons, List.sum_cons]
    rcases List.mem_cons.1 h with rfl | h
    · omega
    · have := wt_mem f h; omega

/-! ### marks -/
section
variable {α : Type} (f : α → Int → α × Int) (g : α → Nat)
def mkR : List α → Int → List α × Int
  | [], k => ([], k)
  | x :: xs, k => ((f x k).1 :: (mkR xs (f x k).2).1, (mkR xs (f x k).2).2)
def cnR (xs : List α) : Nat := (xs.map g).sum
theorem mkR_len : ∀ (xs : List α) (k : Int), (mkR f xs k).1.length = xs.length
  | [], _ => rfl
  | x :: xs, k => by simp [mkR, mkR_len xs]
theorem mkR_app : ∀ (xs ys : List α) (k : Int), mkR f (xs ++ ys) k = ((mkR f xs k).1 ++ (mkR f ys (mkR f xs k).2).1, (mkR f ys (mkR f xs k).2).2)
  | [], ys, k => rfl
  | x :: xs, ys, k => by simp [mkR, mkR_app xs ys]
theorem mkR_snd {f : α → Int → α × Int} {g : α → Nat} (h : ∀ x k, (f x k).2 = k + g x) : ∀ (xs : List α) (k : Int), (mkR f xs k).2 = k + cnR g xs
  | [], k => by simp [mkR, cnR]
  | x :: xs, k => by
    have := mkR_snd h xs (f x k).2
    simp only [mkR]
    rw [this, h]
    simp only [cnR, List.map_cons, List.sum_cons]
    omega
theorem mkR_take (xs : List α) (i : Nat) (h : i < xs.length) (k : Int) : mkR f (xs.take (i + 1)) k = ((mkR f (xs.take i) k).1 ++ [(f xs[i] (mkR f (xs.take i) k).2).1], (f xs[i] (mkR f (xs.take i) k).2).2) := by
  rw [← List.take_append_getElem h, mkR_app]
  rfl
theorem mkR_get : ∀ (xs : List α) (i : Nat) (h : i < xs.length) (k : Int), (mkR f xs k).1[i]'(by rw [mkR_len]; exact h) = (f xs[i] (mkR f (xs.take i) k).2).1
  | [], i, h, k => by simp at h
  | x :: xs, 0, h, k => rfl
  | x :: xs, i + 1, h, k => by
    have := mkR_get xs i (by simpa using h) (f x k).2
    simpa [mkR] using this
theorem cnR_take (xs : List α) (i : Nat) (h : i < xs.length) : cnR g (xs.take i) + g xs[i] ≤ cnR g xs := by
  unfold cnR
  conv => rhs; rw [← List.take_append_drop i xs]
  rw [List.map_append, List.sum_append, List.drop_eq_getElem_cons h, List.map_cons, List.sum_cons]
  omega
theorem cnR_app (xs ys : List α) : cnR g (xs ++ ys) = cnR g xs + cnR g ys := by simp [cnR]
theorem cnR_mark (hg : ∀ x k, g (f x k).1 = g x) : ∀ (xs : List α) (k : Int), cnR g (mkR f xs k).1 = cnR g xs
  | [], k => rfl
  | x :: xs, k => by
    have := cnR_mark hg xs (f x k).2
    simp only [cnR] at this ⊢
    simp [mkR, hg, this]
end
theorem cnR_le {α : Type} {c f : α → Nat} (h : ∀ x, c x ≤ 32 * f x + 16) : ∀ xs : List α, cnR c xs ≤ 32 * wtR f xs
  | [] => by simp [cnR]
  | x :: xs => by
    have := cnR_le h xs
    have := h x
    simp only [cnR, wtR, List.map_cons, List.sum_cons, List.length_cons] at *
    omega
theorem cnR_le0 {α : Type} {c : α → Nat} (h : ∀ x, c x ≤ 16) : ∀ xs : List α, cnR c xs ≤ 32 * xs.length
  | [] => by simp [cnR]
  | x :: xs => by
    have := cnR_le0 h xs
    have := h x
    simp only [cnR, List.map_cons, List.sum_cons, List.length_cons] at *
    omega
/-- Elements of a row, the first i of them as they will be. -/
theorem drop_step {α : Type} (xs : List α) (i : Nat) (h : i < xs.length) : xs.drop i = xs[i] :: xs.drop (i + 1) := List.drop_eq_getElem_cons h
theorem take_step {α : Type} (xs : List α) (i : Nat) (h : i < xs.length) : xs.take (i + 1) = xs.take i ++ [xs[i]] := (List.take_append_getElem h).symm
theorem len_take {α : Type} (xs : List α) (i : Nat) (h : i ≤ xs.length) : (xs.take i).length = i := by simp; omega
theorem fm_take_len {α : Type} (f : α → List PT) (m : Nat) (hf : ∀ a, (f a).length = m) (xs : List α) (i : Nat) (h : i ≤ xs.length) : ((xs.take i).flatMap f).length = i * m := by rw [fm_len f m hf, len_take xs i h]
theorem map_take_len {α : Type} (f : α → PT) (xs : List α) (i : Nat) (h : i ≤ xs.length) : ((xs.take i).map f).length = i := by rw [List.length_map, len_take xs i h]
theorem takeM {α β : Type} (f : α → β) (xs : List α) : (xs.map f).take xs.length = xs.map f := List.take_of_length_le (by simp)
attribute [simp high] takeM
attribute [simp] app_get_add2 app_set_add2 app_take_add2 app_drop_add2 le_add2 app_get app_get_add app_set app_set_add app_take app_take_add app_drop app_drop_add
end Go.V

namespace Go.V
open Go.RowKit
set_option linter.unusedSimpArgs false
set_option linter.unusedVariables false

/-! ### strings, byte by byte -/
def byteAt (s : ByteArray) (i : Nat) : Int := match s[i]? with
  | some b => b.toNat
  | none => 0
theorem byteAt_range (s : ByteArray) (i : Nat) : 0 ≤ byteAt s i ∧ byteAt s i < 256 := by
  unfold byteAt
  split
  · rename_i b _
    have := b.toNat_lt
    omega
  · omega
section
variable {P : Program} {t : TypeId} {k k' : IntKind} {a b i : Int} {s : ByteArray}
theorem pr_index (ht : P.underlying t = some .string) (h0 : 0 ≤ i) (h : i < s.size) : pureRun P (Instr.index t (.string s) (.int k i)) = some (.int .u8 (byteAt s i.toNat)) := by
  have h1 : i.toNat < s.size := by omega
  unfold Instr.index
  show pureRun P (do let d ← underlying t; _) = _
  rw [pureRun_bind, pr_und ht]
  simp only [Option.bind_some, if_pos h0, byteAt]
  have : s[i.toNat]? = some s[i.toNat] := by
    simp [h1]
  rw [this]
  rfl
theorem pr_sliceN (ht : P.underlying t = some .string) : pureRun P (Instr.slice t (.string s) none none none) = some (.string (s.extract 0 s.size)) := by
  unfold Instr.slice
  rw [pureRun_bind, pr_und ht]
  rfl
theorem pr_sliceH (ht : P.underlying t = some .string) (h0 : 0 ≤ b) (h : b ≤ s.size) : pureRun P (Instr.slice t (.string s) none (some (.int k b)) none) = some (.string (s.extract 0 b.toNat)) := by
  unfold Instr.slice
  rw [pureRun_bind, pr_und ht]
  simp [pureRun_bind, pureRun_pure, Instr.sliceBounds, Instr.sliceBound, asIntOf, h0, h]
theorem pr_sliceL (ht : P.underlying t = some .string) (h0 : 0 ≤ a) (h : a ≤ s.size) : pureRun P (Instr.slice t (.string s) (some (.int k a)) none none) = some (.string (s.extract a.toNat s.size)) := by
  unfold Instr.slice
  rw [pureRun_bind, pr_und ht]
  simp [pureRun_bind, pureRun_pure, Instr.sliceBounds, Instr.sliceBound, asIntOf, h0, h]
theorem pr_sliceLH (ht : P.underlying t = some .string) (h0 : 0 ≤ a) (h1 : a ≤ b) (h : b ≤ s.size) : pureRun P (Instr.slice t (.string s) (some (.int k a)) (some (.int k' b)) none) = some (.string (s.extract a.toNat b.toNat)) := by
  have h2 : 0 ≤ b := by omega
  have h3 : a ≤ max b 0 := by omega
  unfold Instr.slice
  rw [pureRun_bind, pr_und ht]
  simp [pureRun_bind, pureRun_pure, Instr.sliceBounds, Instr.sliceBound, asIntOf, h0, h2, h3, h]
end
theorem bitOr_bytes {a b : Int} (h1 : 0 ≤ a) (h2 : a < 256) (h3 : 0 ≤ b) (h4 : b < 256) : bitOr .i64 (a * 256) b = a * 256 + b := by
  obtain ⟨m, rfl⟩ := Int.eq_ofNat_of_zero_le h1
  obtain ⟨n, rfl⟩ := Int.eq_ofNat_of_zero_le h3
  have hm : m < 256 := by omega
  have hn : n < 256 := by omega
  unfold bitOr
  have e : (BitVec.ofInt IntKind.i64.bits ((m : Int) * 256) ||| BitVec.ofInt IntKind.i64.bits (n : Int)).toNat = m * 256 + n := by
    have e1 : BitVec.ofInt 64 ((m : Int) * 256) = BitVec.ofNat 64 (m * 256) := by
      rw [← BitVec.ofInt_natCast]; congr 1
    have e2 : BitVec.ofInt 64 (n : Int) = BitVec.ofNat 64 n := BitVec.ofInt_natCast 64 n
    show (BitVec.ofInt 64 ((m : Int) * 256) ||| BitVec.ofInt 64 (n : Int)).toNat = _
    rw [e1, e2, BitVec.toNat_or, BitVec.toNat_ofNat, BitVec.toNat_ofNat, Nat.mod_eq_of_lt (by omega), Nat.mod_eq_of_lt (by omega)]
    have := Nat.shiftLeft_add_eq_or_of_lt (i := 8) (b := n) (by omega) m
    rw [Nat.shiftLeft_eq] at this
    exact this.symm
  rw [e]
  exact (wrap64 (by omega) (by omega)).trans (by omega)
theorem ext_all (s : ByteArray) : s.extract 0 s.size = s := by
  apply bytes_toList_inj
  simp [ByteArray.toList_eq]
/-- A run of numbers. -/
def rng (a n : Nat) : List Nat := List.range' a n
theorem rng_has (a n t : Nat) : (rng a n).contains t = (Nat.ble a t && Nat.blt t (a + n)) := by
  rw [Bool.eq_iff_iff]
  simp [rng, Nat.blt]
  omega
theorem app_has (xs ys : List Nat) (t : Nat) : (xs ++ ys).contains t = (xs.contains t || ys.contains t) := by simp
attribute [simp] rng_has
/-! ### bounds of cuts -/
def bnd (lo hi : Option (Option Value)) (len : Nat) : Option (Nat × Nat) := match lo, hi with
  | none, none => some (0, len)
  | none, some (some (.int _ h)) => if 0 ≤ h ∧ h ≤ len then some (0, h.toNat) else none
  | some (some (.int _ l)), none => if 0 ≤ l ∧ l ≤ len then some (l.toNat, len) else none
  | some (some (.int _ l)), some (some (.int _ h)) => if 0 ≤ l ∧ l ≤ h ∧ h ≤ len then some (l.toNat, h.toNat) else none
  | _, _ => none
theorem boundsOf_bnd (st : St) (lo hi : Option Operand) (len : Nat) : boundsOf st lo hi len = bnd (lo.map (valv st)) (hi.map (valv st)) len := by
  unfold boundsOf bnd
  cases lo with
  | none =>
    cases hi with
    | none => rfl
    | some o =>
      simp only [Option.mapM, Option.map_some, Option.map_none]
      cases valv st o with
      | none => rfl
      | some v => cases v <;> rfl
  | some p =>
    cases hi with
    | none =>
      simp only [Option.mapM, Option.map_some, Option.map_none]
      cases valv st p with
      | none => rfl
      | some v => cases v <;> rfl
    | some o =>
      simp only [Option.mapM, Option.map_some, Option.map_none]
      cases valv st p with
      | none => rfl
      | some u =>
        cases valv st o with
        | none => cases u <;> rfl
        | some v => cases u <;> cases v <;> rfl
theorem bnd_nn {len : Nat} : bnd none none len = some (0, len) := rfl
theorem bnd_ns {k : IntKind} {b : Int} {len : Nat} (h0 : 0 ≤ b) (h : b ≤ len) : bnd none (some (some (.int k b))) len = some (0, b.toNat) := if_pos ⟨h0, h⟩
theorem bnd_sn {k : IntKind} {b : Int} {len : Nat} (h0 : 0 ≤ b) (h : b ≤ len) : bnd (some (some (.int k b))) none len = some (b.toNat, len) := if_pos ⟨h0, h⟩
theorem bnd_ss {k k' : IntKind} {a b : Int} {len : Nat} (h0 : 0 ≤ a) (h1 : a ≤ b) (h : b ≤ len) : bnd (some (some (.int k a))) (some (some (.int k' b))) len = some (a.toNat, b.toNat) := if_pos ⟨h0, h1, h⟩
attribute [simp] boundsOf_bnd bnd_nn bnd_ns bnd_sn bnd_ss
attribute [simp] pr_index pr_sliceN pr_sliceH pr_sliceL pr_sliceLH ext_all
end Go.V

namespace Go.V
open Go.RowKit
set_option linter.unusedSimpArgs false
set_option linter.unusedVariables false

/-! ### a quicker look at a drawn region's pairs -/
section
variable {E : Env} {P : Program} {r : Nat} {ops : Array Oper}
theorem waitsFor_mono (ops : Array Oper) (i : Nat) : ∀ (m n j : Nat), m ≤ n → waitsFor ops m i j = true → waitsFor ops n i j = true
  | 0, n, j, _, h => by simp [waitsFor] at h
  | m + 1, 0, j, hle, h => by omega
  | m + 1, n + 1, j, hle, h => by
    unfold waitsFor at h ⊢
    split at h
    · rename_i o ho
      rw [Array.any_eq_true] at h ⊢
      obtain ⟨k, hk, hx⟩ := h
      refine ⟨k, hk, ?_⟩
      simp only [Bool.and_eq_true, Bool.or_eq_true] at hx ⊢
      exact ⟨hx.1, hx.2.imp id (waitsFor_mono ops i m n _ (by omega))⟩
    · simp at h
def waitB (ops : Array Oper) (i j : Nat) : Bool := waitsFor ops 1 i j || (waitsFor ops 2 i j || (waitsFor ops 3 i j || (waitsFor ops 5 i j || waitsFor ops 60 i j)))
theorem waitB_sound {i j : Nat} (h : waitB ops i j = true) : waitsFor ops 60 i j = true := by
  simp only [waitB, Bool.or_eq_true] at h
  rcases h with h | h | h | h | h
  all_goals exact waitsFor_mono ops i _ _ j (by omega) h
def pairAt (r : Nat) (ops : Array Oper) (xs : List OI) (i j : Nat) : Bool := match ops[i]?, ops[j]?, xs[i]?, xs[j]? with
  | some oi, some oj, some xi, some xj => sepB r ops i j oi oj xi xj
  | _, _, _, _ => false
def pairs2 (r : Nat) (ops : Array Oper) (xs : List OI) : Bool := (List.range ops.size).all fun j => (List.range j).all fun i => pairAt r ops xs i j || waitB ops i j
theorem ewp_draw2 {id : Nat} {Q : Exit → St → Prop} {st st' : St} (xs : List OI) (h0 : tsz P nilE = 0) (hE : EnvOK P E) (hm : P.follows .mixedOrders = true) (hB : Region.lexB .any ops = true) (hp : pairs2 id ops xs = true)
    (hr : lexRun E P id ops xs 0 ops.toList st = some st') (h : Q .normal st') : ewp P (.region id ops true) Q st := by
  intro I bs A w0 a w L hs
  simp only [Region.lexB, Bool.and_eq_true] at hB
  refine wp_region_any hm ?_
  have hd : Below w.heap.size w { w with drawn := w.drawn + 1 } := drew_below w
  have hs' := hs.grow hd
  refine anyV_sound (r := id) (xs := xs) (K := Q .normal) h0 hE (fun st a w L h1 h2 => ⟨st, L, h1, h2⟩) _ _ st a _ L hs' ?_
  have := anyV_lex (E := E) (P := P) (r := id) (ops := ops) (xs := xs) (K := Q .normal) (n := 60) h (by
    intro i j hij hw1 hw2 st st1 st2 h1 h2
    unfold stMi at h1 h2
    split at h1
    · rename_i oi xi hoi hxi
      split at h2
      · rename_i oj xj hoj hxj
        have hi := (Array.getElem?_eq_some_iff.1 hoi).1
        have hj := (Array.getElem?_eq_some_iff.1 hoj).1
        have hsep : Sep id ops i j oi oj xi xj := by
          rcases Nat.lt_or_ge i j with hlt | hge
          · have hb := List.all_eq_true.1 (List.all_eq_true.1 hp j (by simpa using hj)) i (by simpa using hlt)
            simp only [Bool.or_eq_true, pairAt, hoi, hoj, hxi, hxj] at hb
            rcases hb with hb | hb
            · exact sepB_sound hij hb
            · rw [waitB_sound hb] at hw1; cases hw1
          · have hlt : j < i := by omega
            have hb := List.all_eq_true.1 (List.all_eq_true.1 hp i (by simpa using hi)) j (by simpa using hlt)
            simp only [Bool.or_eq_true, pairAt, hoi, hoj, hxi, hxj] at hb
            rcases hb with hb | hb
            · exact (sepB_sound (Ne.symm hij) hb).symm
            · rw [waitB_sound hb] at hw2; cases hw2
        obtain ⟨st', h3, h4⟩ := stM_comm hsep h1 h2
        exact ⟨st', by unfold stMi; rw [hoj, hxj]; exact h3, by unfold stMi; rw [hoi, hxi]; exact h4⟩
      · simp at h2
    · simp at h1) ops.toList 0 (Array.replicate ops.size false) st (fun j => by simp) (by simpa using hB.2) (by
    intro m hm
    exfalso
    rcases Nat.lt_or_ge m ops.size with h' | h' <;> simp [h'] at hm) hr
  simpa using this
end
/-! ### what an operation looks at, and no other slot -/
def allD (n : Nat) : List Nat := List.range n
def pickR (l : List (Nat × SV)) (F : Id → Bool) : List Nat → List (Nat × SV)
  | [] => []
  | k :: ks => (k, (slGet l k).clean F) :: pickR l F ks
theorem slGet_pickR (l : List (Nat × SV)) (F : Id → Bool) : ∀ (ks : List Nat) (j : Nat), slGet (pickR l F ks) j = if ks.contains j = true then (slGet l j).clean F else .junk
  | [], j => by simp [pickR, slGet]
  | k :: ks, j => by
    simp only [pickR, slGet, slGet_pickR l F ks j, List.contains_cons, Bool.or_eq_true, beq_iff_eq]
    by_cases h : j = k
    · subst h; simp
    · simp [h]
theorem slOf_restr_all (n : Nat) (looks : List Nat) (F : Id → Bool) (l : List (Nat × SV)) : restrSl looks (allD n) F 0 (slOf n l) = slOf n (pickR l F looks) := by
  apply slOf_ext (by simp [slOf_len, restrSl_len])
  intro k hk
  rw [restrSl_at, slOf_at, if_pos hk, slGet_pickR, Nat.zero_add]
  have hD : (allD n).contains k = true := by simp [allD, hk]
  simp only [Option.map_some, Option.some.injEq, keepB, hD, Bool.not_true, Bool.false_and, Bool.or_false, SV.clean]
  cases looks.contains k <;> simp
attribute [simp high] slOf_restr_all
attribute [simp] pickR
theorem drawP {P : Program} {ops : Array Oper} {id : Nat} {Q : Exit → St → Prop} {st : St} (E : Env) (xs : List OI) (h0 : tsz P nilE = 0) (hm : P.follows .mixedOrders = true) (hE : EnvOK P E) (hB : Region.lexB .any ops = true) (hp : pairs2 id ops xs = true)
    (h : onSome (lexRunL E P id ops xs ops.toList 0 st) (Q .normal)) : ewp P (.region id ops true) Q st := by
  rw [lexRunL_eq xs ops.toList 0 xs st (fun j => by rw [Nat.zero_add])] at h
  unfold onSome at h
  split at h
  · rename_i st' hr
    exact ewp_draw2 xs h0 hE hm hB hp hr h
  · exact h.elim
end Go.V

namespace Go.V
open Go.RowKit
set_option linter.unusedSimpArgs false
set_option linter.unusedVariables false

/-! ### a call on what is only read, of which a contract is known -/
theorem erase_cs : ∀ (las : List LV) (qs : List PT), las.map LV.erase = qs.map PV.c → ∃ ts : List LT, las = ts.map LV.c ∧ ts.map LT.erase = qs
  | [], [], _ => ⟨[], rfl, rfl⟩
  | [], _ :: _, h => by simp at h
  | _ :: _, [], h => by simp at h
  | la :: las, q :: qs, h => by
    simp only [List.map_cons, List.cons.injEq] at h
    obtain ⟨ts, h1, h2⟩ := erase_cs las qs h.2
    cases la with
    | c t => exact ⟨t :: ts, by simp [h1], by have := h.1; simp only [LV.erase, PV.c.injEq] at this; simp [h2, this]⟩
    | agg ts => have := h.1; simp [LV.erase] at this
    | tup vs => have := h.1; simp [LV.erase] at this
    | bp t => have := h.1; simp [LV.erase] at this
    | ip k x ps => have := h.1; simp [LV.erase] at this
theorem leaf_of_erase {t : LT} {q : PT} (h : t.erase = q) (hq : q.isSl = false) : ∃ v, t = .leaf v q := by
  cases t with
  | leaf v p => simp only [LT.erase] at h; exact ⟨v, by rw [h]⟩
  | own b cap e n cs => simp only [LT.erase] at h; subst h; simp [PT.isSl] at hq
theorem callOK_leafs {P : Program} {f : FuncId} {qs : List PT} {r : PT} {rv : Value} (hr1 : one rv = true) (hrI : ∀ w I, Im w I rv r) (hq : ∀ q ∈ qs, q.isSl = false)
    (h : ∀ (I : Nat → Nat → Prop) (w : World) (vs : List Value), vs.length = qs.length → (∀ (j : Nat) v q, vs[j]? = some v → qs[j]? = some q → Im w I v q) → (∀ k b, I k b → b < w.heap.size) → CallsF P f vs.toArray w fun e w' => e = .returned rv ∧ Below w.heap.size w w') :
    CallOK P f (qs.map PV.c) (.c r) (qs.map PV.c) := by
  intro I w las he hh hnd hI
  obtain ⟨ts, rfl, hts⟩ := erase_cs las qs he
  have hleaf : ∀ t ∈ ts, ∃ v, t = .leaf v t.erase := fun t ht => leaf_of_erase rfl (hq _ (by rw [← hts]; exact List.mem_map_of_mem ht))
  have hbl : ∀ t ∈ ts, t.blocks = [] := fun t ht => by obtain ⟨v, e⟩ := hleaf t ht; rw [e]; simp [LT.blocks]
  have hblk : ((ts.map LV.c).flatMap LV.blocks) = [] := by
    rw [List.flatMap_eq_nil_iff]
    intro l hl
    obtain ⟨t, ht, rfl⟩ := List.mem_map.1 hl
    simpa [LV.blocks] using hbl t ht
  have hholds : ∀ t ∈ ts, t.holds (tsz P) w I := fun t ht => by
    have := hh (.c t) (List.mem_map_of_mem ht)
    simpa [LV.holds] using this
  have hv : (ts.map LV.c).map LV.val = ts.map LT.val := by simp [Function.comp_def, LV.val]
  rw [hv, hblk]
  refine (h I w (ts.map LT.val) (by rw [List.length_map, ← hts, List.length_map]) ?_ (fun k b hb => (hI k b hb).1)).mono ?_
  · intro j v q hj hqj
    rw [List.getElem?_map, Option.map_eq_some_iff] at hj
    obtain ⟨t, htj, rfl⟩ := hj
    rw [← hts, List.getElem?_map, htj] at hqj
    simp only [Option.map_some, Option.some.injEq] at hqj
    subst hqj
    have htm := List.mem_of_getElem? htj
    obtain ⟨v, e⟩ := hleaf t htm
    have := hholds t htm
    rw [e] at this
    simp only [LT.holds] at this
    have e2 : t.val = v := by rw [e]; simp [LT.val]
    rw [e2]
    exact this.1
  · rintro e w' ⟨rfl, hb⟩
    have hIk : ∀ k b, I k b → w'.heap[b]? = w.heap[b]? := fun k b hb' => hb.block b (hI k b hb').1
    refine ⟨.c (.leaf rv r), ts.map LV.c, by simp [LV.val, LT.val], by simp [LV.erase, LT.erase], he, rfl, by simp only [LV.holds, LT.holds]; exact ⟨hrI w' I, hr1⟩, ?_, by rw [hblk]; simp [LV.blocks, LT.blocks], by rw [hblk]; simp [LV.blocks, LT.blocks], Kp.of_below hb⟩
    intro l hl
    obtain ⟨t, ht, rfl⟩ := List.mem_map.1 hl
    simp only [LV.holds]
    exact LT.holds_frame (fun _ _ hx => hx) hIk t (hholds t ht) (by rw [hbl t ht]; simp)
theorem spot_of_cell {w : World} {x : Addr} {u : Value} (h : w.cell? x = some u) : x.spot = none := by
  unfold World.cell? at h
  split at h
  · split at h
    · simp at h
    · rename_i hs
      simpa using hs
  · simp at h
/-- A row of strings that is read, and a string, to a string. -/
theorem callOK_join {P : Program} {f : FuncId} (k : Nat) (xs : List ByteArray) (sep r : ByteArray)
    (h : ∀ (w : World) (a : Option Addr) (c : Nat), xs.length ≤ c → (∀ (j : Nat) x, xs[j]? = some x → ∃ bk o, a = some ⟨bk, o, none⟩ ∧ bk < w.heap.size ∧ w.cell? ⟨bk, o + j, none⟩ = some (.string x)) →
      CallsF P f #[.slice a xs.length c, .string sep] w fun e w' => e = .returned (.string r) ∧ Below w.heap.size w w') :
    CallOK P f [.c (rd k xs.length (xs.map ps)), .c (ps sep)] (.c (ps r)) [.c (rd k xs.length (xs.map ps)), .c (ps sep)] := by
  refine callOK_leafs (qs := [rd k xs.length (xs.map ps), ps sep]) (rv := .string r) rfl (fun w I => by simp [Im]) (by simp [PT.isSl]) ?_
  intro I w vs hl hv hI
  obtain ⟨v0, v1, rfl⟩ : ∃ v0 v1, vs = [v0, v1] := by
    match vs, hl with
    | [a, b], _ => exact ⟨a, b, rfl⟩
  have h0 := hv 0 v0 _ rfl rfl
  have h1 := hv 1 v1 _ rfl rfl
  simp only [Im] at h0 h1
  obtain ⟨a, cap, rfl, hle, him⟩ := h0
  subst h1
  refine h w a cap hle fun j x hj => ?_
  cases a with
  | none =>
    cases xs with
    | nil => simp at hj
    | cons y ys =>
      simp only [List.map_cons, ImL] at him
      obtain ⟨⟨x', u, he, _⟩, _⟩ := him
      cases he
  | some x0 =>
    have hsp : x0.spot = none := by
      cases xs with
      | nil => simp at hj
      | cons y ys =>
        obtain ⟨u, _, hc, _⟩ := ImL.at_ _ 0 0 (ps y) him rfl
        rw [Nat.add_zero, add_zero] at hc
        exact spot_of_cell hc
    obtain ⟨u, hb, hc, _, hu⟩ := ImL.at_ _ 0 j (ps x) him (by rw [List.getElem?_map, hj]; rfl)
    simp only [Im] at hu
    subst hu
    obtain ⟨bk, o, sp⟩ := x0
    simp only at hsp
    subst hsp
    rw [Nat.zero_add, add_own] at hc
    exact ⟨bk, o, rfl, hI _ _ hb, hc⟩
end Go.V

namespace Go.V
open Go.RowKit
set_option linter.unusedSimpArgs false
set_option linter.unusedVariables false

/-! ### a struct of two numbers against another one -/
def isPairT (P : Program) (t : TypeId) : Bool := !P.stoodInHeld t && !P.eqGuardType P.depth t && (match P.underlying t with
  | some (.struct fs) => match fs.toList with
    | [f, g] => f.offset == 0 && g.offset == 1 && (f.name != "_" && g.name != "_") && (isIntT P f.type && isIntT P g.type)
    | _ => false
  | _ => false)
section
variable {P : Program} {t : TypeId} {x y : Operand} {k k1 k2 : IntKind} {a b c d : Int}
theorem isIntT_und (h : isIntT P t = true) : ∃ k, P.underlying t = some (.int k) := by
  unfold isIntT at h
  split at h
  · exact ⟨_, by assumption⟩
  · cases h
theorem pr_equalI {n : Nat} (h : isIntT P t = true) : pureRun P (Op.equalIn (n + 1) t (.int k a) (.int k b)) = some (a == b) := by
  obtain ⟨k', hu⟩ := isIntT_und h
  unfold Op.equalIn
  rw [pureRun_bind, pr_und hu]
  simp [pureRun_pure]
theorem pr_partI {cs : Array Value} {off : Nat} {v : Value} (h : isIntT P t = true) (hv : cs[off]? = some v) : pureRun P (part t cs off) = some v := by
  obtain ⟨k', hu⟩ := isIntT_und h
  unfold part isAgg
  simp [pureRun_bind, pr_und hu, pureRun_pure, hv]
theorem pr_equalP {n : Nat} (h : isPairT P t = true) : pureRun P (Op.equalIn (n + 2) t (.agg #[.int k1 a, .int k2 b]) (.agg #[.int k1 c, .int k2 d])) = some (a == c && b == d) := by
  unfold isPairT at h
  simp only [Bool.and_eq_true, Bool.not_eq_true'] at h
  obtain ⟨⟨h1, h2⟩, h3⟩ := h
  split at h3
  · rename_i fs hu
    split at h3
    · rename_i f g hfs
      simp only [Bool.and_eq_true, beq_iff_eq, bne_iff_ne] at h3
      obtain ⟨⟨⟨e1, e2⟩, n1, n2⟩, i1, i2⟩ := h3
      have e : fs = #[f, g] := by rw [← Array.toArray_toList (xs := fs), hfs]
      subst e
      unfold Op.equalIn
      rw [pureRun_bind, pr_und hu]
      have p1 : ∀ (u v : Value), pureRun P (part f.type #[u, v] f.offset) = some u := fun u v => pr_partI i1 (by rw [e1]; rfl)
      have p2 : ∀ (u v : Value), pureRun P (part g.type #[u, v] g.offset) = some v := fun u v => pr_partI i2 (by rw [e2]; rfl)
      have hp : pureRun P program = some P := rfl
      simp only [Option.bind_some, pureRun_bind, hp, h1, Bool.false_eq_true, if_false]
      rw [← Array.forIn_toList]
      simp only [List.forIn_cons, List.forIn_nil, pureRun_bind]
      have q1 : pureRun P (Op.equalIn (n + 1) f.type (.int k1 a) (.int k1 c)) = some (a == c) := pr_equalI i1
      have q2 : pureRun P (Op.equalIn (n + 1) g.type (.int k2 b) (.int k2 d)) = some (b == d) := pr_equalI i2
      clear i1 i2
      generalize (a == c) = u at q1 ⊢
      generalize (b == d) = v at q2 ⊢
      cases u <;> cases v <;> simp [n1, n2, pureRun_bind, pureRun_pure, p1, p2, q1, q2]
    · cases h3
  · cases h3
theorem pr_guardP {op : BinOp} {xs ys : Array Value} (h : isPairT P t = true) : pureRun P (eqGuard op t x y (.agg xs) (.agg ys)) = some () := by
  unfold isPairT at h
  simp only [Bool.and_eq_true, Bool.not_eq_true'] at h
  have hp : pureRun P program = some P := rfl
  cases op <;> simp [eqGuard, pureRun_bind, pureRun_pure, hp, h.1.2]
theorem pr_eqlP (h : isPairT P t = true) : pureRun P (do eqGuard .eql t x y (.agg #[.int k1 a, .int k2 b]) (.agg #[.int k1 c, .int k2 d]); binOp .eql t (.agg #[.int k1 a, .int k2 b]) (.agg #[.int k1 c, .int k2 d])) = some (.bool (decide (a = c) && decide (b = d))) := by
  rw [pureRun_bind, pr_guardP h]
  show pureRun P (do let z ← Op.equalIn (9998 + 2) t (.agg #[.int k1 a, .int k2 b]) (.agg #[.int k1 c, .int k2 d]); pure (Value.bool z)) = _
  rw [pureRun_bind, pr_equalP h]
  rfl
theorem pr_neqP (h : isPairT P t = true) : pureRun P (do eqGuard .neq t x y (.agg #[.int k1 a, .int k2 b]) (.agg #[.int k1 c, .int k2 d]); binOp .neq t (.agg #[.int k1 a, .int k2 b]) (.agg #[.int k1 c, .int k2 d])) = some (.bool (!(decide (a = c) && decide (b = d)))) := by
  rw [pureRun_bind, pr_guardP h]
  show pureRun P (do let z ← Op.equalIn (9998 + 2) t (.agg #[.int k1 a, .int k2 b]) (.agg #[.int k1 c, .int k2 d]); pure (Value.bool !z)) = _
  rw [pureRun_bind, pr_equalP h]
  rfl
end
attribute [simp] pr_eqlP pr_neqP
end Go.V
