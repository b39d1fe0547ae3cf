/- The road V: code reckoned over trees of values, proved sound against the model once. No conditions. -/
import Derived.Test.YtcmdgenpipojpaaGreatVc
import Derived.Laws.Strings
import Derived.Still
import Derived.WideShapes
set_option linter.all false
namespace Go.V
open Go.RowKit
set_option linter.unusedSimpArgs false
set_option linter.unusedVariables false

/-! ### what is known of functions -/
structure Fn where
  id:FuncId
  modes:List Nat
  F:List PV → Option (PV × List PV)
/-! ### one operation -/
/-- What follows what has been reckoned; what follows is not looked at before. -/
def nxt (o:Option St) (f:St → Option St):Option St:=match o with
  | some st => f st
  | none => none
def gte (g:Option Bool) (x y:Option St):Option St:=match g with
  | some true => x
  | some false => y
  | none => none
def oels (x y:Option St):Option St:=match x with
  | some st => some st
  | none => y
theorem nxt_some (st:St) (f:St → Option St):nxt (some st) f = f st:=by unfold nxt; rfl
theorem gte_true (x y:Option St):gte (some true) x y = x:=by unfold gte; rfl
theorem gte_false (x y:Option St):gte (some false) x y = y:=by unfold gte; rfl
theorem oels_some (st:St) (y:Option St):oels (some st) y = some st:=by unfold oels; rfl
theorem oels_none (y:Option St):oels none y = y:=by unfold oels; rfl
theorem nxt_congr {o o':Option St} {f:St → Option St} (h:o = o'):nxt o f = nxt o' f:=by rw [h]
theorem gte_congr {g g':Option Bool} {x y:Option St} (h:g = g'):gte g x y = gte g' x y:=by rw [h]
theorem oels_congr {x x' y:Option St} (h:x = x'):oels x y = oels x' y:=by rw [h]
def stPure (P:Program) (st:St) (o:Oper):Option St:=match o.op with
  | .fieldAddr _ _ _ => stAddr P st o
  | .indexAddr _ _ _ => stAddr P st o
  | .makeFunc _ _ _ => stAddr P st o
  | .load _ _ => stLoad P st o
  | .build _ _ => stBuild P st o
  | .call _ => stLook P st o
  | .slice _ _ _ _ _ => oels (stPlain P st o) (stCut P st o)
  | _ => stPlain P st o
/-- A part of a row with rows in it is appended. -/
def partA (P:Program) (st:St) (o:Oper):Bool:=match o.op with
  | .call ⟨.builtin .append,args,tys⟩ => match args.toList,tys.toList with
    | [_,x],t :: _ => match telem P t,opv st x with
      | some e,some (.ref pl off m) => zRef P e && (match lookP st.hp pl with
        | some (.sl 0 _ n _) => !decide (m = 0) && !(decide (off = 0) && decide (m = n))
        | _ => false)
      | _,_ => false
    | _,_ => false
  | _ => false
def stStep (E:Env) (P:Program) (r i:Nat) (st:St) (o:Oper):Option St:=match o.op with
  | .box _ _ => stBox P r i st o
  | .alloc _ => stBox P r i st o
  | .store _ _ _ => stStore P st o
  | .makeSlice _ _ _ => stMake P r i st o
  | .buildSlice _ _ _ => stMake P r i st o
  | .call c => match c.callee with
    | .builtin .append => if partA P st o = true then stAppendR P r i st o else stAppend P r i st o
    | .builtin _ => stLook P st o
    | _ => stCall E P r i st o
  | _ => stPure P st o

section
variable {sz:Nat → Nat} {I I':Nat → Nat → Prop} {bs:List Nat} {A:AD} {w0 w w':World} {st st' st1 st2:St} {a:Act} {L L' L0 L1 L2:Loc} {hand hand':List LT} {P:Program} {o:Oper} {Q:Exit → Act → World → Prop} {E:Env}

theorem stPure_sound (h:Sim (tsz P) I bs A w0 st a w L []) (hst:stPure P st o = some st'):o.wp P a w (PurePost (tsz P) I w L st a o st') Q:=by
  unfold stPure at hst
  split at hst
  · exact stAddr_sound h hst
  · exact stAddr_sound h hst
  · exact stAddr_sound h hst
  · exact stLoad_sound h hst
  · exact stBuild_sound h hst
  · exact stLook_sound h hst
  · unfold oels at hst
    split at hst
    · rename_i st2 h2
      cases hst
      exact stPlain_sound h h2
    · exact stCut_sound h hst
  · exact stPlain_sound h hst
theorem PurePost.sim (h:Sim sz I bs A w0 st a w L []) {a':Act} {w':World} (hp:PurePost sz I w L st a o st' a' w'):∃ L',Sim sz I bs A w0 st' a' w' L' []:=by
  obtain ⟨rfl,v,s,rfl,rfl,hs⟩:=hp
  exact ⟨L,h.setS _ hs⟩
theorem stStep_sound (h:Sim (tsz P) I bs A w0 st a w L []) (h0:tsz P nilE = 0) (hE:EnvOK P E) {r i:Nat} (hst:stStep E P r i st o = some st'):o.wp P a w (fun a' w' => ∃ L',Sim (tsz P) I bs A w0 st' a' w' L' []) Q:=by
  unfold stStep at hst
  split at hst
  · exact stBox_sound h hst
  · exact stBox_sound h hst
  · exact stStore_sound h hst
  · exact stMake_sound h hst
  · exact stMake_sound h hst
  · split at hst
    · split at hst
      · exact stAppendR_sound h h0 hst
      · exact stAppend_sound h h0 hst
    · exact Oper.wp_mono (fun a' w' hp => PurePost.sim h hp) (stLook_sound (Q:=Q) h hst)
    · exact stCall_sound h hE hst
  · exact Oper.wp_mono (fun a' w' hp => PurePost.sim h hp) (stPure_sound (Q:=Q) h hst)
end

/-! ### regions that ask nothing -/
def gsl (x:Option SV) (want:Bool):Option Bool:=match x with
  | some (.t (.raw (.bool b))) => some (b == want)
  | some (.t (.raw _)) => some false
  | _ => none
theorem gsl_b {b w:Bool}:gsl (some (.t (.raw (.bool b)))) w = some (b == w):=by unfold gsl; rfl
theorem gsl_u {w:Bool}:gsl (some (.t (.raw undef))) w = some false:=by unfold gsl; rfl
def guardSt (ops:Array Oper) (st:St) (o:Oper):Option Bool:=match o.guard with
  | none => some true
  | some (j,want) => match (ops[j]?).bind (·.dst) with
    | none => some false
    | some d => gsl (st.sl[d]?) want
/-- An application that is not looked at before it is its turn. -/
def app {α:Type} (f:St → α) (st:St):α:=f st
def stOps (E:Env) (P:Program) (r:Nat) (ops:Array Oper):Nat → List Oper → St → Option St
  | _,[],st => some st
  | i,o :: rest,st => gte (guardSt ops st o) (nxt (stStep E P r i st o) (stOps E P r ops (i + 1) rest)) (app (stOps E P r ops (i + 1) rest) (st.set o.dst (.t (.raw undef))))
theorem stOps_nil (E:Env) (P:Program) (r:Nat) (ops:Array Oper) (i:Nat) (st:St):stOps E P r ops i [] st = some st:=rfl
theorem stOps_cons (E:Env) (P:Program) (r:Nat) (ops:Array Oper) (i:Nat) (o:Oper) (rest:List Oper) (st:St):stOps E P r ops i (o :: rest) st = gte (guardSt ops st o) (nxt (stStep E P r i st o) (stOps E P r ops (i + 1) rest)) (app (stOps E P r ops (i + 1) rest) (st.set o.dst (.t (.raw undef)))):=rfl
theorem gte_app (x:Option St) (f:St → Option St) (st:St):gte (some false) x (app f st) = f st:=by unfold gte app; rfl
def stRegion (E:Env) (P:Program) (r:Nat) (ops:Array Oper) (st:St):Option St:=stOps E P r ops 0 ops.toList st

section
variable {sz:Nat → Nat} {I I':Nat → Nat → Prop} {bs:List Nat} {A:AD} {w0 w w':World} {st st' st1 st2:St} {a:Act} {L L' L0 L1 L2:Loc} {hand hand':List LT} {P:Program} {o:Oper} {Q:Exit → Act → World → Prop} {E:Env}
theorem guardSt_sound (h:Sim sz I bs A w0 st a w L hand) {ops:Array Oper} {b:Bool} (hg:guardSt ops st o = some b):Region.wanted o (yielded ops a.tmps) = b:=by
  unfold guardSt gsl at hg
  unfold Region.wanted
  split at hg
  · rename_i hn
    cases hg
    rw [hn]
  · rename_i j want hg'
    rw [hg']
    simp only [yielded]
    split at hg
    · rename_i hd
      cases hg
      rw [hd]
      rfl
    · rename_i d hd
      rw [hd]
      simp only [Option.bind_some]
      split at hg
      · rename_i b' hs
        cases hg
        obtain ⟨v,hv,hr⟩:=h.slots.at_ d _ hs
        simp only [SVR,Im] at hr
        subst hr
        rw [Array.getElem?_toList] at hv
        rw [hv]
        cases b' <;> cases want <;> rfl
      · rename_i v' hs hnb
        cases hg
        obtain ⟨v,hv,hr⟩:=h.slots.at_ d _ hnb
        simp only [SVR,Im] at hr
        subst hr
        rw [Array.getElem?_toList] at hv
        rw [hv]
        cases v <;> first | rfl | (rename_i bb; exact absurd rfl (hs bb))
      · simp at hg

end

/-! ### code -/
/-- Behind the code one of these ends stands. -/
def ewp (P:Program) (c:Code) (Q:Exit → St → Prop) (st:St):Prop :=
  ∀ (I:Nat → Nat → Prop) (bs:List Nat) (A:AD) (w0:World) (a:Act) (w:World) (L:Loc),Sim (tsz P) I bs A w0 st a w L [] →
    c.wp P (fun e a' w' => ∃ st' L',Sim (tsz P) I bs A w0 st' a' w' L' [] ∧ Q e st') a w

section
variable {P:Program} {E:Env} {Q:Exit → St → Prop} {st st':St}
theorem ewp_mono {c:Code} {Q':Exit → St → Prop} (h:ewp P c Q st) (hq:∀ e st,Q e st → Q' e st):ewp P c Q' st :=
  fun I bs A w0 a w L hs => wp_mono (h I bs A w0 a w L hs) fun e a' w' ⟨st',L',h1,h2⟩ => ⟨st',L',h1,hq _ _ h2⟩
theorem ewp_skip (h:Q .normal st):ewp P .skip Q st:=fun I bs A w0 a w L hs => wp_skip ⟨st,L,hs,h⟩
theorem ewp_exit {id:Nat} (h:Q (.exit id) st):ewp P (.exit id) Q st:=fun I bs A w0 a w L hs => wp_exit ⟨st,L,hs,h⟩
theorem ewp_ret (h:Q .ret st):ewp P .ret Q st:=fun I bs A w0 a w L hs => wp_ret ⟨st,L,hs,h⟩
def eThen (K:St → Prop) (Q:Exit → St → Prop):Exit → St → Prop
  | .normal,st => K st
  | e,st => Q e st
def eBlock (id:Nat) (Q:Exit → St → Prop):Exit → St → Prop
  | .exit id',st => if id' = id then Q .normal st else Q (.exit id') st
  | e,st => Q e st
theorem ewp_seq {x y:Code} (h:ewp P x (eThen (ewp P y Q) Q) st):ewp P (.seq x y) Q st:=by
  intro I bs A w0 a w L hs
  refine wp_seq (wp_mono (h I bs A w0 a w L hs) ?_)
  rintro e a' w' ⟨st',L',h1,h2⟩
  cases e <;> simp only [eThen] at h2 <;> simp only [Exit.then]
  · exact h2 I bs A w0 a' w' L' h1
  all_goals exact ⟨st',L',h1,h2⟩
theorem ewp_block {id:Nat} {c:Code} (h:ewp P c (eBlock id Q) st):ewp P (.block id c) Q st:=by
  intro I bs A w0 a w L hs
  refine wp_block (wp_mono (h I bs A w0 a w L hs) ?_)
  rintro e a' w' ⟨st',L',h1,h2⟩
  cases e <;> simp only [eBlock] at h2 <;> simp only [Exit.inBlock]
  case exit id' =>
    split at h2
    · rw [if_pos (by assumption)]; exact ⟨st',L',h1,h2⟩
    · rw [if_neg (by assumption)]; exact ⟨st',L',h1,h2⟩
  all_goals exact ⟨st',L',h1,h2⟩
theorem ewp_cond {c:Operand} {x y:Code} {b:Bool} (hc:opv st c = some (.t (.raw (.bool b)))) (ht:b = true → ewp P x Q st) (hf:b = false → ewp P y Q st):ewp P (.cond c x y) Q st:=by
  intro I bs A w0 a w L hs
  have hv:a.eval c = .bool b:=by have:=opv_sound hs hc; simpa [SVR,Im] using this
  refine wp_cond hv ?_
  cases b
  · exact hf rfl I bs A w0 a w L hs
  · exact ht rfl I bs A w0 a w L hs
theorem least {p:Nat → Prop} (h:∃ n,p n):∃ n,p n ∧ ∀ m,p m → n ≤ m:=by
  obtain ⟨n,hn⟩:=h
  induction n using Nat.strongRecOn with
  | _ n ih =>
    by_cases hx:∃ m,m < n ∧ p m
    · obtain ⟨m,hm,hp⟩:=hx
      exact ih m hm hp
    · exact ⟨n,hn,fun m hp => Nat.le_of_not_lt fun hlt => hx ⟨m,hlt,hp⟩⟩
/-- A loop, by an invariant that counts down. -/
theorem ewp_loop {c:Code} (Inv:Nat → St → Prop) (n:Nat) (h:Inv n st) (round:∀ n st,Inv n st → ewp P c (eThen (fun st' => ∃ m,m < n ∧ Inv m st') Q) st):ewp P (.loop c) Q st:=by
  intro I bs A w0 a w L hs
  classical
  let J:Nat → Act → World → Prop:=fun n a w => ∃ st L,Sim (tsz P) I bs A w0 st a w L [] ∧ Inv n st
  let μ:Act → World → Nat:=fun a w => if hx:∃ n,J n a w then Classical.choose (least hx) else 0
  have hμ:∀ a w n,J n a w → μ a w ≤ n:=by
    intro a w n hj
    have hx:∃ n,J n a w:=⟨n,hj⟩
    simp only [μ,dif_pos hx]
    exact (Classical.choose_spec (least hx)).2 n hj
  have hμ':∀ a w,(∃ n,J n a w) → J (μ a w) a w:=by
    intro a w hx
    simp only [μ,dif_pos hx]
    exact (Classical.choose_spec (least hx)).1
  refine wp_loop (fun a w => ∃ n,J n a w) μ ⟨n,st,L,hs,h⟩ ?_
  intro a w hx
  obtain ⟨st1,L1,h1,h2⟩:=hμ' a w hx
  refine wp_mono (round _ _ h2 I bs A w0 a w L1 h1) ?_
  rintro e a' w' ⟨st',L',h3,h4⟩
  cases e <;> simp only [eThen] at h4 <;> simp only [Exit.then]
  · obtain ⟨m,hm,hi⟩:=h4
    exact ⟨⟨m,st',L',h3,hi⟩,Nat.lt_of_le_of_lt (hμ a' w' m ⟨st',L',h3,hi⟩) hm⟩
  all_goals exact ⟨st',L',h3,h4⟩

end
end Go.V

namespace Go.V
open Go.RowKit
set_option linter.unusedSimpArgs false
set_option linter.unusedVariables false

/-! ### what is known no more -/
def keepSl (keep:List Nat):Nat → List SV → List SV
  | _,[] => []
  | i,s :: ss => (if keep.contains i = true then s else .junk) :: keepSl keep (i + 1) ss
/-- Slots and names that are known no more: only these are kept. -/
def St.only (st:St) (keep:List Nat) (ids:List Id):St:=⟨keepSl keep 0 st.sl,fun id => if ids.contains id = true then st.hp id else none⟩

section
variable {sz:Nat → Nat} {I I':Nat → Nat → Prop} {bs:List Nat} {A:AD} {w0 w w':World} {st st' st1 st2:St} {a:Act} {L L' L0 L1 L2:Loc} {hand hand':List LT} {P:Program} {E:Env} {Q:Exit → St → Prop}

theorem SVR.lose (f:Pl → Bool) (hL:∀ pl t,f pl = false → look L pl = some t → look L' pl = some t) {v:Value} {s:SV} (h:SVR sz L w I v s):SVR sz L' w I v (s.kill f) :=
  SVR.kill f (fun pl node hf _ hn => ⟨node,hL pl node hf hn,Shp.refl _⟩) (fun _ _ hb => hb) (fun _ _ _ => rfl) h
theorem keepSl_sound (f:Pl → Bool) (hL:∀ pl t,f pl = false → look L pl = some t → look L' pl = some t) (keep:List Nat):∀ {vs:List Value} {ss:List SV} (i:Nat),SVRL sz L w I vs ss → SVRL sz L' w I vs ((keepSl keep i ss).map (SV.kill f))
  | vs,[],i,h => by simpa [keepSl,SVRL] using h
  | vs,s :: ss,i,h => by
    simp only [SVRL] at h
    obtain ⟨v,vs',rfl,h1,h2⟩:=h
    simp only [keepSl,List.map_cons,SVRL]
    refine ⟨v,vs',rfl,?_,keepSl_sound f hL keep (i + 1) h2⟩
    split
    · exact SVR.lose f hL h1
    · simp [SV.kill,SV.uses,SVR]
/-- Slots that are kept use no name that is lost. -/
def St.drop (st:St) (keep:List Nat) (ids:List Id):St:=⟨(keepSl keep 0 st.sl).map (SV.kill fun q => match q.id with | .arg _ _ => false | id => !ids.contains id),fun id => match id with | .arg _ _ => st.hp id | _ => if ids.contains id = true then st.hp id else none⟩
theorem Sim.lose (h:Sim sz I bs A w0 st a w L []) (keep:List Nat) (ids:List Id):∃ L',Sim sz I bs A w0 (st.drop keep ids) a w L' []:=by
  let L':Loc:=fun id => match id with | .arg i j => L (.arg i j) | id => if ids.contains id = true then L id else none
  have hsub:∀ id t,L' id = some t → L id = some t:=by
    intro id t ht
    cases id with
    | arg i j => exact ht
    | op r i j =>
      simp only [L'] at ht
      split at ht
      · exact ht
      · simp at ht
  have her:∀ id,(L' id).map LT.erase = (st.drop keep ids).hp id:=by
    intro id
    cases id with
    | arg i j => exact h.er _
    | op r i j =>
      simp only [L',St.drop]
      split
      · exact h.er _
      · rfl
  have hsl:SVRL sz L' w I a.tmps.toList (st.drop keep ids).sl:=by
    refine keepSl_sound _ ?_ keep 0 h.slots
    intro pl t hf hl
    have:L' pl.id = L pl.id:=by
      cases hid:pl.id with
      | arg i j => rfl
      | op r i j =>
        simp only [hid,Bool.not_eq_eq_eq_not,Bool.not_false] at hf
        simp only [L',hf,if_true]
    unfold look at hl ⊢
    rw [this]
    exact hl
  exact ⟨L',{ keeps:=h.keeps,imm:=h.imm,nodef:=h.nodef,hholds:=by simp,hnodup:=by simp,hown:=by simp,hapart:=by simp,args:=fun i j v hv => h.args i j v hv,er:=her,holds:=fun id t ht => h.holds id t (hsub id t ht),nodup:=fun id t ht => h.nodup id t (hsub id t ht),own:=fun id t ht => h.own id t (hsub id t ht),apart:=fun id id' t t' hne ht ht' => h.apart id id' t t' hne (hsub id t ht) (hsub id' t' ht'),slots:=hsl }⟩
theorem ewp_drop {c:Code} (keep:List Nat) (ids:List Id) (h:ewp P c Q (st.drop keep ids)):ewp P c Q st:=by
  intro I bs A w0 a w L hs
  obtain ⟨L',hs'⟩:=hs.lose keep ids
  exact h I bs A w0 a w L' hs'
/-- A loop, by an invariant on what is kept. -/
theorem ewp_loopk {c:Code} (keep:List Nat) (ids:List Id) (Inv:Nat → St → Prop) (n:Nat) (h:Inv n (st.drop keep ids)) (round:∀ n st,Inv n st → ewp P c (eThen (fun st' => ∃ m,m < n ∧ Inv m (st'.drop keep ids)) Q) st):ewp P (.loop c) Q st :=
  ewp_loop (fun n st => Inv n (st.drop keep ids)) n h fun n st hi => ewp_drop keep ids (round n _ hi)
end

/-! ### names, told one by one -/
def ofL:List (Id × PT) → Id → Option PT
  | [],_ => none
  | (i,t) :: l,id => if id = i then some t else ofL l id
def setL (l:List (Id × PT)) (i:Id) (t:PT):List (Id × PT):=match l with
  | [] => [(i,t)]
  | (j,u) :: r => if i = j then (j,t) :: r else (j,u) :: setL r i t
theorem updF_ofL (l:List (Id × PT)) (i:Id) (t:PT):updF (ofL l) i (some t) = ofL (setL l i t):=by
  induction l with
  | nil => funext j; simp [updF,ofL,setL]
  | cons x l ih =>
    obtain ⟨k,u⟩:=x
    have ih':=fun j => congrFun ih j
    funext j
    simp only [updF] at ih'
    simp only [setL]
    by_cases hik:i = k
    · subst hik
      simp only [if_true,updF,ofL]
      split <;> rfl
    · simp only [if_neg hik,updF,ofL]
      by_cases hji:j = i
      · subst hji
        have:=ih' j
        simp only [if_true] at this
        simp [hik,← this]
      · have:=ih' j
        rw [if_neg hji] at this
        simp only [if_neg hji,this]
theorem hputP_ofL (l:List (Id × PT)) (pl:Pl) (s:PT):hputP (ofL l) pl s = match ofL l pl.id with | some t => ofL (setL l pl.id (PT.put s t pl.path)) | none => ofL l:=by
  unfold hputP
  cases ofL l pl.id with
  | none => rfl
  | some t => simp only [updF_ofL]
def dropL (ids:List Id):List (Id × PT) → List (Id × PT)
  | [] => []
  | (i,t) :: l => match i with
    | .arg _ _ => (i,t) :: dropL ids l
    | _ => if ids.contains i = true then (i,t) :: dropL ids l else dropL ids l
theorem drop_ofL (ids:List Id) (l:List (Id × PT)):(fun id => match id with | .arg i j => ofL l (.arg i j) | id => if ids.contains id = true then ofL l id else none) = ofL (dropL ids l):=by
  induction l with
  | nil => funext id; cases id <;> simp [ofL,dropL]
  | cons x l ih =>
    obtain ⟨k,u⟩:=x
    have ih':=fun j => congrFun ih j
    funext id
    have:=ih' id
    cases k with
    | arg i j =>
      cases id with
      | arg i' j' => simp only at this; simp only [dropL,ofL,this]
      | op r i' j' =>
        simp only at this
        simp only [dropL,ofL]
        have hne:¬ Id.op r i' j' = Id.arg i j:=by simp
        simp only [if_neg hne]
        exact this
    | op r i j =>
      simp only [dropL]
      cases id with
      | arg i' j' =>
        simp only at this ⊢
        rw [show ofL ((Id.op r i j,u) :: l) (Id.arg i' j') = ofL l (Id.arg i' j') by simp [ofL]]
        split
        · rw [show ofL ((Id.op r i j,u) :: dropL ids l) (Id.arg i' j') = ofL (dropL ids l) (Id.arg i' j') by simp [ofL]]; exact this
        · exact this
      | op r' i' j' =>
        simp only at this ⊢
        by_cases he:Id.op r' i' j' = Id.op r i j
        · cases he
          by_cases hc:ids.contains (Id.op r i j) = true
          · simp only [ofL,if_pos hc,if_true]
          · rw [if_neg hc] at this
            rw [if_neg hc,if_neg hc]
            exact this
        · by_cases hc:ids.contains (Id.op r i j) = true
          · simp only [ofL,if_neg he,if_pos hc]; exact this
          · simp only [ofL,if_neg he,if_neg hc]; exact this
theorem St.drop_ofL (sl:List SV) (l:List (Id × PT)) (keep:List Nat) (ids:List Id):(St.mk sl (ofL l)).drop keep ids = ⟨(keepSl keep 0 sl).map (SV.kill fun q => match q.id with | .arg _ _ => false | id => !ids.contains id),ofL (dropL ids l)⟩:=by
  unfold St.drop
  congr 1
  rw [← V.drop_ofL]
  funext id
  cases id <;> rfl
/-- The arguments' trees at the entry. -/
def cellL (i:Nat):Nat → List PT → List (Id × PT)
  | _,[] => []
  | j,p :: ps => match slP p with
    | some q => (.arg i j,q) :: cellL i (j + 1) ps
    | none => cellL i (j + 1) ps
def argL:Nat → List PV → List (Id × PT)
  | _,[] => []
  | i,.c p :: l => cellL i 0 [p] ++ argL (i + 1) l
  | i,.agg ps :: l => cellL i 0 ps ++ argL (i + 1) l
  | i,.bp p :: l => (.arg i 0,p) :: argL (i + 1) l
  | i,_ :: l => argL (i + 1) l
theorem ofL_append (l r:List (Id × PT)) (id:Id):ofL (l ++ r) id = match ofL l id with | some t => some t | none => ofL r id:=by
  induction l with
  | nil => rfl
  | cons x l ih =>
    obtain ⟨k,u⟩:=x
    simp only [List.cons_append,ofL]
    split
    · rfl
    · exact ih
theorem cellL_op (i:Nat):∀ (ps:List PT) (j:Nat) (r a b:Nat),ofL (cellL i j ps) (.op r a b) = none
  | [],_,_,_,_ => rfl
  | p :: ps,j,r,a,b => by
    simp only [cellL]
    split
    · simp only [ofL]; rw [if_neg (by simp)]; exact cellL_op i ps (j + 1) r a b
    · exact cellL_op i ps (j + 1) r a b
theorem cellL_arg (i:Nat):∀ (ps:List PT) (j i' j':Nat),ofL (cellL i j ps) (.arg i' j') = if i' = i ∧ j ≤ j' then (ps[j' - j]?).bind slP else none
  | [],j,i',j' => by simp [cellL,ofL]
  | p :: ps,j,i',j' => by
    have ih:=cellL_arg i ps (j + 1) i' j'
    simp only [cellL]
    by_cases hi:i' = i
    · subst hi
      by_cases hj:j' = j
      · subst hj
        simp only [Nat.le_refl,and_self,if_true,Nat.sub_self,List.getElem?_cons_zero,Option.bind_some]
        cases hp:slP p with
        | none => simp only [ih]; rw [if_neg (by omega)]
        | some q => simp [ofL]
      · have e:(if i' = i' ∧ j ≤ j' then ((p :: ps)[j' - j]?).bind slP else none) = if i' = i' ∧ j + 1 ≤ j' then (ps[j' - (j + 1)]?).bind slP else none:=by
          by_cases hle:j ≤ j'
          · rw [if_pos ⟨rfl,hle⟩,if_pos ⟨rfl,by omega⟩,show j' - j = (j' - (j + 1)) + 1 by omega,List.getElem?_cons_succ]
          · rw [if_neg (by omega),if_neg (by omega)]
        rw [e]
        cases hp:slP p with
        | none => exact ih
        | some q => simp only [ofL]; rw [if_neg (by simp [hj])]; simpa using ih
    · rw [if_neg (by simp [hi])]
      rw [if_neg (by simp [hi])] at ih
      cases hp:slP p with
      | none => exact ih
      | some q => simp only [ofL]; rw [if_neg (by simp [hi])]; exact ih
theorem argL_op:∀ (l:List PV) (i r a b:Nat),ofL (argL i l) (.op r a b) = none
  | [],_,_,_,_ => rfl
  | x :: l,i,r,a,b => by
    have ih:=argL_op l (i + 1) r a b
    cases x <;> simp only [argL,ofL_append,cellL_op,ih]
    · simp only [ofL]; rw [if_neg (by simp)]; exact ih
theorem argL_arg:∀ (l:List PV) (i i' j:Nat),ofL (argL i l) (.arg i' j) = if i ≤ i' then (l[i' - i]?).bind (PV.at j) else none
  | [],i,i',j => by simp [argL,ofL]
  | x :: l,i,i',j => by
    have ih:=argL_arg l (i + 1) i' j
    by_cases hi:i' = i
    · subst hi
      rw [if_neg (by omega)] at ih
      simp only [Nat.le_refl,if_true,Nat.sub_self,List.getElem?_cons_zero,Option.bind_some]
      cases x with
      | c p =>
        simp only [argL,ofL_append,cellL_arg,ih,PV.at]
        by_cases hj:j = 0
        · subst hj
          simp only [Nat.le_refl,and_self,if_true,Nat.sub_self,List.getElem?_cons_zero,Option.bind_some]
          cases slP p <;> rfl
        · rw [if_neg hj,if_pos ⟨trivial,Nat.zero_le _⟩,List.getElem?_eq_none (by simp; omega)]; rfl
      | agg ps =>
        simp only [argL,ofL_append,cellL_arg,ih,PV.at]
        simp only [Nat.zero_le,and_self,if_true,Nat.sub_zero]
        cases (ps[j]?).bind slP <;> rfl
      | bp p =>
        simp only [argL,ofL,PV.at,ih,Id.arg.injEq,true_and]
      | tup vs => simp only [argL,ih,PV.at]
      | dup p => simp only [argL,ih,PV.at]
      | clo g p => simp only [argL,ih,PV.at]
      | ip k ps => simp only [argL,ih,PV.at]
    · have e:(if i ≤ i' then ((x :: l)[i' - i]?).bind (PV.at j) else none) = if i + 1 ≤ i' then (l[i' - (i + 1)]?).bind (PV.at j) else none:=by
        by_cases hle:i ≤ i'
        · rw [if_pos hle,if_pos (by omega),show i' - i = (i' - (i + 1)) + 1 by omega,List.getElem?_cons_succ]
        · rw [if_neg hle,if_neg (by omega)]
      rw [e]
      have nc:∀ ps k,ofL (cellL i k ps) (.arg i' j) = none:=fun ps k => by rw [cellL_arg,if_neg (by simp [hi])]
      cases x with
      | c p => simp only [argL,ofL_append,nc]; exact ih
      | agg ps => simp only [argL,ofL_append,nc]; exact ih
      | bp p => simp only [argL,ofL]; rw [if_neg (by simp [hi])]; exact ih
      | tup vs => simp only [argL]; exact ih
      | dup p => simp only [argL]; exact ih
      | clo g p => simp only [argL]; exact ih
      | ip k ps => simp only [argL]; exact ih
theorem entrySt_ofL (args:List PV) (n:Nat):entrySt args n = ⟨entrySVs 0 args ++ List.replicate (n - args.length) (.t (.raw undef)),ofL (argL 0 args)⟩:=by
  unfold entrySt
  congr 1
  funext id
  cases id with
  | op r i j => rw [argL_op]; rfl
  | arg i j => rw [argL_arg]; simp [entryHp]
end Go.V

namespace Go.V
open Go.RowKit
set_option linter.unusedSimpArgs false
set_option linter.unusedVariables false

def onSome (o:Option St) (f:St → Prop):Prop:=match o with
  | some st => f st
  | none => False
theorem onSome_some (st:St) (f:St → Prop):onSome (some st) f = f st:=by unfold onSome; rfl
theorem onSome_congr {o o':Option St} {f:St → Prop} (h:o = o'):onSome o f = onSome o' f:=by rw [h]
/-- A branch; what stands behind it is not looked at before it is told which. -/
def brn (c:Option SV) (x y:Prop):Prop:=match c with
  | some (.t (.raw (.bool b))) => (b = true → x) ∧ (b = false → y)
  | _ => False
theorem brn_congr {c c':Option SV} {x y:Prop} (h:c = c'):brn c x y = brn c' x y:=by rw [h]
/-- Code, reckoned as far as the first loops. -/
def ewc (E:Env) (P:Program):Code → (Exit → St → Prop) → St → Prop
  | .skip,Q,st => Q .normal st
  | .seq a b,Q,st => ewc E P a (eThen (ewc E P b Q) Q) st
  | .cond c x y,Q,st => brn (opv st c) (app (ewc E P x Q) st) (app (ewc E P y Q) st)
  | .block id c,Q,st => ewc E P c (eBlock id Q) st
  | .exit id,Q,st => Q (.exit id) st
  | .ret,Q,st => Q .ret st
  | .region id ops false,Q,st => onSome (stRegion E P id ops st) (Q .normal)
  | .loop c,Q,st => ewp P (.loop c) Q st
  | .region id ops true,Q,st => ewp P (.region id ops true) Q st
  | _,_,_ => False
section
variable {E:Env} {P:Program} {Q:Exit → St → Prop} {K:St → Prop} {st:St} {a b:Code} {c:Operand} {id:Nat} {ops:Array Oper}
theorem ewc_skip:ewc E P .skip Q st = Q .normal st:=rfl
theorem ewc_seq:ewc E P (.seq a b) Q st = ewc E P a (eThen (ewc E P b Q) Q) st:=rfl
theorem ewc_cond:ewc E P (.cond c a b) Q st = brn (opv st c) (app (ewc E P a Q) st) (app (ewc E P b Q) st):=rfl
theorem ewc_block:ewc E P (.block id a) Q st = ewc E P a (eBlock id Q) st:=rfl
theorem ewc_exit:ewc E P (.exit id) Q st = Q (.exit id) st:=rfl
theorem ewc_ret:ewc E P .ret Q st = Q .ret st:=rfl
theorem ewc_region:ewc E P (.region id ops false) Q st = onSome (stRegion E P id ops st) (Q .normal):=rfl
theorem ewc_draw:ewc E P (.region id ops true) Q st = ewp P (.region id ops true) Q st:=rfl
theorem ewc_loop:ewc E P (.loop a) Q st = ewp P (.loop a) Q st:=rfl
theorem eThen_normal:eThen K Q .normal st = K st:=rfl
theorem eThen_exit:eThen K Q (.exit id) st = Q (.exit id) st:=rfl
theorem eThen_ret:eThen K Q .ret st = Q .ret st:=rfl
theorem eBlock_normal:eBlock id Q .normal st = Q .normal st:=rfl
theorem eBlock_exit {id':Nat}:eBlock id Q (.exit id') st = if id' = id then Q .normal st else Q (.exit id') st:=rfl
theorem eBlock_ret:eBlock id Q .ret st = Q .ret st:=rfl
theorem brn_t {f:St → Prop} {y:Prop}:brn (some (.t (.raw (.bool true)))) (app f st) y = f st:=by simp [brn,app]
theorem brn_f {f:St → Prop} {y:Prop}:brn (some (.t (.raw (.bool false)))) y (app f st) = f st:=by simp [brn,app]
theorem brn_app {v:Bool} {f g:St → Prop} (h1:v = true → f st) (h2:v = false → g st):brn (some (.t (.raw (.bool v)))) (app f st) (app g st):=⟨h1,h2⟩
end

section
variable {P:Program} {E:Env}
end

/-- What stands where a body is left. -/
def Post (P:Program) (fn:Func) (args:List PV) (r:PV × List PV):Exit → St → Prop
  | .normal,st => stRet P fn args st = some r
  | .ret,st => stRet P fn args st = some r
  | _,_ => False
/-! ### operators on what is told -/
theorem ofL_nil (id:V.Id):ofL [] id = none:=rfl
theorem ofL_cons (i:V.Id) (t:PT) (l:List (V.Id × PT)) (id:V.Id):ofL ((i,t) :: l) id = if id = i then some t else ofL l id:=rfl
section
variable {P:Program}
theorem bytes_toList_inj {a b:ByteArray} (h:a.toList = b.toList):a = b:=by
  rw [ByteArray.toList_eq,ByteArray.toList_eq] at h
  exact WideShapes.bytes_inj h
theorem pureRun_pure {α:Type} (a:α):pureRun P (pure a) = some a:=rfl
theorem pureRun_bind {α β:Type} (f:α → Sem β):∀ s:Sem α,pureRun P (s >>= f) = (pureRun P s).bind fun a => pureRun P (f a)
  | .pure a => rfl
  | .program k => pureRun_bind f (k P)
  | .mark _ k => pureRun_bind f k
  | .load _ _ _ => rfl
  | .store _ _ _ _ => rfl
  | .new _ _ => rfl
  | .shape _ _ => rfl
  | .freeze _ _ _ => rfl
  | .frozen _ _ => rfl
  | .getObj _ _ => rfl
  | .setObj _ _ _ => rfl
  | .choose _ _ => rfl
  | .sys _ _ => rfl
  | .halt _ => rfl
variable {t:TypeId} {x y:Operand} {k:IntKind} {a b:Int} {u v:ByteArray}
theorem pr_lss:pureRun P (do eqGuard .lss t x y (.int k a) (.int k b); binOp .lss t (.int k a) (.int k b)) = some (.bool (decide (a < b))):=by
  simp [pureRun_bind,pureRun_pure,eqGuard,binOp,Op.intCmp]
theorem pr_leq:pureRun P (do eqGuard .leq t x y (.int k a) (.int k b); binOp .leq t (.int k a) (.int k b)) = some (.bool (decide (a ≤ b))):=by
  simp [pureRun_bind,pureRun_pure,eqGuard,binOp,Op.intCmp]
theorem pr_gtr:pureRun P (do eqGuard .gtr t x y (.int k a) (.int k b); binOp .gtr t (.int k a) (.int k b)) = some (.bool (decide (b < a))):=by
  simp [pureRun_bind,pureRun_pure,eqGuard,binOp,Op.intCmp]
theorem pr_geq:pureRun P (do eqGuard .geq t x y (.int k a) (.int k b); binOp .geq t (.int k a) (.int k b)) = some (.bool (decide (b ≤ a))):=by
  simp [pureRun_bind,pureRun_pure,eqGuard,binOp,Op.intCmp]
theorem pr_eql:pureRun P (do eqGuard .eql t x y (.int k a) (.int k b); binOp .eql t (.int k a) (.int k b)) = some (.bool (decide (a = b))):=by
  simp [pureRun_bind,pureRun_pure,eqGuard,binOp,Op.intCmp]; rfl
theorem pr_neq:pureRun P (do eqGuard .neq t x y (.int k a) (.int k b); binOp .neq t (.int k a) (.int k b)) = some (.bool (!decide (a = b))):=by
  simp [pureRun_bind,pureRun_pure,eqGuard,binOp,Op.intCmp]; rfl
theorem pr_add:pureRun P (do eqGuard .add t x y (.int k a) (.int k b); binOp .add t (.int k a) (.int k b)) = some (.int k (k.wrap (a + b))):=by
  simp [pureRun_bind,pureRun_pure,eqGuard,binOp,Op.intArith]
theorem pr_sub:pureRun P (do eqGuard .sub t x y (.int k a) (.int k b); binOp .sub t (.int k a) (.int k b)) = some (.int k (k.wrap (a - b))):=by
  simp [pureRun_bind,pureRun_pure,eqGuard,binOp,Op.intArith]
theorem pr_mul:pureRun P (do eqGuard .mul t x y (.int k a) (.int k b); binOp .mul t (.int k a) (.int k b)) = some (.int k (k.wrap (a * b))):=by
  simp [pureRun_bind,pureRun_pure,eqGuard,binOp,Op.intArith]
theorem pr_eqlS:pureRun P (do eqGuard .eql t x y (.string u) (.string v); binOp .eql t (.string u) (.string v)) = some (.bool (decide (u = v))):=by
  simp [pureRun_bind,pureRun_pure,eqGuard,binOp,Op.stringOp]; by_cases h:u = v
  · simp [h]
  · have h2:¬ u.toList = v.toList:=fun e => h (bytes_toList_inj e)
    simp [h,h2]
theorem pr_neqS:pureRun P (do eqGuard .neq t x y (.string u) (.string v); binOp .neq t (.string u) (.string v)) = some (.bool !(decide (u = v))):=by
  simp [pureRun_bind,pureRun_pure,eqGuard,binOp,Op.stringOp]; by_cases h:u = v
  · simp [h]
  · have h2:¬ u.toList = v.toList:=fun e => h (bytes_toList_inj e)
    simp [h,h2]
theorem pr_not {c:Bool}:pureRun P (Op.unary .not (.bool c)) = some (.bool !c):=by
  simp [pureRun_pure,Op.unary]
theorem pr_neg:pureRun P (Op.unary .neg (.int k a)) = some (.int k (k.wrap (-a))):=by
  simp [pureRun_pure,Op.unary,Op.intArith]
end
/-- What an int64 can be. -/
theorem wrap64 {n:Int} (h1:-9223372036854775808 ≤ n) (h2:n ≤ 9223372036854775807):IntKind.wrap .i64 n = n:=by
  have e:IntKind.wrap .i64 n = if n % 18446744073709551616 ≥ 9223372036854775808 then n % 18446744073709551616 - 18446744073709551616 else n % 18446744073709551616:=by
    simp [IntKind.wrap,IntKind.bits,IntKind.signed]
  rw [e]
  split <;> omega

/-! ### what is reckoned by itself -/
attribute [congr] nxt_congr gte_congr oels_congr onSome_congr brn_congr
attribute [simp ↓] nxt_some gte_true gte_app oels_some oels_none onSome_some brn_t brn_f
attribute [simp] ofL_nil ofL_cons stOps_nil stOps_cons ewc_skip ewc_seq ewc_cond ewc_block ewc_exit ewc_ret ewc_region ewc_draw ewc_loop eThen_normal eThen_exit eThen_ret eBlock_normal eBlock_exit eBlock_ret
attribute [simp] cloPtrs gsl_b gsl_u gte_false stRegion guardSt stStep partA stPure stPlain stAddr stCut stLoad loadSV stStore stLook stBox stMake stAppend stAppFin appSrc PT.flat stBuild stCall calleeOf opvs stInvoke zipModes takeArgs takeArg takeCells takeCell clear lendArgs lendV lendP lendPs lendCaps PT.lendCL AT.lendy SV.lendy SV.lendyL PT.unown PT.unownL PT.unownC PT.noTmp PT.noTmpL PT.noTmpC PT.emptyC PV.cells PV.cells.cellsL ownCells backsOf backArg backOne backCells putBack backHas setRoots resShape resOne resMany resCell resCells
attribute [simp] opv valv SV.toVal SV.ofV PT.ofV rawsOf St.set newRoot SV.kill SV.uses SV.usesL lookP PT.get PT.put cellSV cellsSV updF_ofL hputP_ofL setL entrySVs entrySV cellEntry cellEntries argL cellL slP PT.isSl comps SV.compsB SV.oneB takeAll takeSV Value.cells one cellsPre Pl.pre sizeVal opvParts fillSV
attribute [simp] pr_lss pr_leq pr_gtr pr_geq pr_eql pr_neq pr_add pr_sub pr_mul pr_eqlS pr_neqS pr_not pr_neg
attribute [simp] St.drop_ofL keepSl dropL Post stRet resSVs resSV regroup retPV outVs outV outP outPs
end Go.V

namespace Go.V
open Go.RowKit
set_option linter.unusedSimpArgs false
set_option linter.unusedVariables false

theorem uses_false:(∀ s:SV,s.uses (fun _ => false) = false):=by
  have key:∀ n:Nat,(∀ s:SV,SizeOf.sizeOf s < n → s.uses (fun _ => false) = false) ∧ (∀ ss:List SV,SizeOf.sizeOf ss < n → SV.usesL (fun _ => false) ss = false):=by
    intro n
    induction n with
    | zero => exact ⟨fun _ h => by omega,fun _ h => by omega⟩
    | succ n ih =>
      refine ⟨fun s hs => ?_,fun ss hs => ?_⟩
      · cases s <;> simp only [SV.uses] <;> exact ih.2 _ (by simp at hs; omega)
      · cases ss with
        | nil => rfl
        | cons s ss => simp only [SV.usesL,Bool.or_eq_false_iff]; exact ⟨ih.1 _ (by simp at hs; omega),ih.2 _ (by simp at hs; omega)⟩
  exact fun s => (key (SizeOf.sizeOf s + 1)).1 s (Nat.lt_succ_self _)
theorem uses_mono {f g:Pl → Bool} (h:∀ pl,f pl = true → g pl = true):(∀ s:SV,s.uses g = false → s.uses f = false):=by
  have key:∀ n:Nat,(∀ s:SV,SizeOf.sizeOf s < n → s.uses g = false → s.uses f = false) ∧ (∀ ss:List SV,SizeOf.sizeOf ss < n → SV.usesL g ss = false → SV.usesL f ss = false):=by
    intro n
    induction n with
    | zero => exact ⟨fun _ h => by omega,fun _ h => by omega⟩
    | succ n ih =>
      refine ⟨fun s hs hg => ?_,fun ss hs hg => ?_⟩
      · cases s with
        | ref pl off len => simp only [SV.uses] at hg ⊢; cases hf:f pl <;> simp_all
        | ptr pl off => simp only [SV.uses] at hg ⊢; cases hf:f pl <;> simp_all
        | fnc g' l => simp only [SV.uses] at hg ⊢; exact ih.2 _ (by simp at hs; omega) hg
        | agg l => simp only [SV.uses] at hg ⊢; exact ih.2 _ (by simp at hs; omega) hg
        | tup l => simp only [SV.uses] at hg ⊢; exact ih.2 _ (by simp at hs; omega) hg
        | _ => rfl
      · cases ss with
        | nil => rfl
        | cons s ss =>
          simp only [SV.usesL,Bool.or_eq_false_iff] at hg ⊢
          exact ⟨ih.1 _ (by simp at hs; omega) hg.1,ih.2 _ (by simp at hs; omega) hg.2⟩
  exact fun s => (key (SizeOf.sizeOf s + 1)).1 s (Nat.lt_succ_self _)
def SV.within (W:Id → Bool) (s:SV):Bool:=!s.uses fun pl => !W pl.id
def SV.inert (s:SV):Bool:=!s.uses fun _ => true
def SV.touch (W:Id → Bool) (s:SV):Bool:=s.uses fun pl => W pl.id
def SV.clean (W:Id → Bool) (s:SV):SV:=if s.within W = true then s else .junk

section
variable {sz:Nat → Nat} {I I':Nat → Nat → Prop} {bs:List Nat} {A:AD} {w0 w w':World} {st st' st1 st2:St} {a:Act} {L L' L0 L1 L2:Loc} {hand hand':List LT} {P:Program} {o:Oper} {Q:Exit → Act → World → Prop} {E:Env}

theorem SVRL.of_at:∀ {vs:List Value} {ss:List SV},vs.length = ss.length → (∀ (i:Nat) v s,vs[i]? = some v → ss[i]? = some s → SVR sz L w I v s) → SVRL sz L w I vs ss
  | vs,[],h,_ => by simp only [List.length_nil,List.length_eq_zero_iff] at h; simp [SVRL,h]
  | [],s :: ss,h,_ => by simp at h
  | v :: vs,s :: ss,h,hs => by
    simp only [SVRL]
    exact ⟨v,vs,rfl,hs 0 v s rfl rfl,SVRL.of_at (by simpa using h) fun i v s h1 h2 => hs (i + 1) v s (by simpa using h1) (by simpa using h2)⟩
/-- What uses names of W alone, where these lead to the same. -/
theorem SVR.within {W:Id → Bool} (hW:∀ id,W id = true → L' id = L id) (hI:∀ k b,I k b → w'.heap[b]? = w.heap[b]?) {v:Value} {s:SV} (h:SVR sz L w I v s) (hs:s.within W = true):SVR sz L' w' I v s:=by
  refine (SVR.all (fun pl => !W pl.id) ?_ (fun _ _ hb => hb) hI).1 v s (by simpa [SV.within] using hs) h
  intro pl node hf _ hn
  refine ⟨node,?_,Shp.refl _⟩
  unfold look at hn ⊢
  rw [hW _ (by simpa using hf)]
  exact hn
theorem SVR.clean {W:Id → Bool} (hW:∀ id,W id = true → L' id = L id) (hI:∀ k b,I k b → w'.heap[b]? = w.heap[b]?) {v:Value} {s:SV} (h:SVR sz L w I v s):SVR sz L' w' I v (s.clean W):=by
  unfold SV.clean
  split
  · exact h.within hW hI (by assumption)
  · simp [SVR]

/-! ### a state cut down to what an operation looks at -/
def SV.isTup:SV → Bool
  | .tup _ => true
  | _ => false
/-- What touches W is told no more: of a tuple's parts each for itself. -/
def SV.cut (W:Id → Bool):SV → SV
  | .tup l => .tup (l.map fun s => if s.touch W = true then .junk else s)
  | _ => .junk
def keepB (looks D:List Nat) (F:Id → Bool) (t:Nat) (s:SV):Bool:=(!s.isTup && (looks.contains t || (!D.contains t && !s.inert))) && s.within F
def restrOne (looks D:List Nat) (F:Id → Bool) (t:Nat) (s:SV):SV:=match s with
  | .tup l => if looks.contains t = true then .tup (l.map (SV.clean F)) else .junk
  | s => if keepB looks D F t s = true then s else .junk
theorem restrOne_nt {looks D:List Nat} {F:Id → Bool} {t:Nat} {s:SV} (h:s.isTup = false):restrOne looks D F t s = if keepB looks D F t s = true then s else .junk:=by
  unfold restrOne
  split
  · simp [SV.isTup] at h
  · rfl
def restrSl (looks D:List Nat) (F:Id → Bool):Nat → List SV → List SV
  | _,[] => []
  | t,s :: ss => restrOne looks D F t s :: restrSl looks D F (t + 1) ss
def restr (looks D:List Nat) (Fl:List Id) (st:St):St:=⟨restrSl looks D (fun id => Fl.contains id) 0 st.sl,fun id => if Fl.contains id = true then st.hp id else none⟩
/-- What is put back: the operation's own slot, what was kept and may have turned; what is touched is told no more. -/
def mergeOne (looks D:List Nat) (F V W:Id → Bool) (p q:Bool) (dst:Option Nat) (t:Nat) (x y:SV):SV :=
  if dst = some t then y.clean V else if (!p && (keepB looks D F t x && !x.inert)) = true then (if (y.inert || y.isTup) = true then .junk else y.clean W) else if (!q && x.touch W) = true then x.cut W else x
def mergeSl (looks D:List Nat) (F V W:Id → Bool) (p q:Bool) (dst:Option Nat):Nat → List SV → List SV → List SV
  | _,[],_ => []
  | t,x :: xs,ys => mergeOne looks D F V W p q dst t x (ys.getD 0 .junk) :: mergeSl looks D F V W p q dst (t + 1) xs ys.tail
theorem restrSl_at (looks D:List Nat) (F:Id → Bool):∀ (ss:List SV) (t k:Nat),(restrSl looks D F t ss)[k]? = (ss[k]?).map fun s => restrOne looks D F (t + k) s
  | [],t,k => by simp [restrSl]
  | s :: ss,t,0 => by simp [restrSl]
  | s :: ss,t,k + 1 => by
    have:=restrSl_at looks D F ss (t + 1) k
    simp only [restrSl,List.getElem?_cons_succ]
    rw [this,show t + 1 + k = t + (k + 1) by omega]
theorem restrSl_len (looks D:List Nat) (F:Id → Bool):∀ (ss:List SV) (t:Nat),(restrSl looks D F t ss).length = ss.length
  | [],t => rfl
  | s :: ss,t => by simp [restrSl,restrSl_len looks D F ss]
theorem mergeSl_at (looks D:List Nat) (F V W:Id → Bool) (p q:Bool) (dst:Option Nat):∀ (xs ys:List SV) (t k:Nat),(mergeSl looks D F V W p q dst t xs ys)[k]? = (xs[k]?).map fun x => mergeOne looks D F V W p q dst (t + k) x (ys.getD k .junk)
  | [],ys,t,k => by simp [mergeSl]
  | x :: xs,ys,t,0 => by simp [mergeSl]
  | x :: xs,ys,t,k + 1 => by
    have:=mergeSl_at looks D F V W p q dst xs ys.tail (t + 1) k
    simp only [mergeSl,List.getElem?_cons_succ]
    rw [this,show t + 1 + k = t + (k + 1) by omega]
    congr 1
    funext z
    congr 1
    cases ys <;> simp
theorem mergeSl_len (looks D:List Nat) (F V W:Id → Bool) (p q:Bool) (dst:Option Nat):∀ (xs ys:List SV) (t:Nat),(mergeSl looks D F V W p q dst t xs ys).length = xs.length
  | [],ys,t => by simp [mergeSl]
  | x :: xs,ys,t => by simp [mergeSl,mergeSl_len looks D F V W p q dst xs ys.tail (t + 1)]

theorem SVRL.mapS {f:SV → SV} (hf:∀ v s,SVR sz L w I v s → SVR sz L' w' I v (f s)):∀ {vs:List Value} {ss:List SV},SVRL sz L w I vs ss → SVRL sz L' w' I vs (ss.map f)
  | _,[],h => by simpa [SVRL] using h
  | _,s :: ss,h => by
    simp only [SVRL,List.map_cons] at h ⊢
    obtain ⟨v,vs',rfl,h1,h2⟩:=h
    exact ⟨v,vs',rfl,hf v s h1,SVRL.mapS hf h2⟩
/-- What is told of a slot, where what touches W is cut out. -/
theorem SVR.cut {W:Id → Bool} (hW:∀ id,W id = false → L' id = L id) (hI:∀ k b,I k b → w'.heap[b]? = w.heap[b]?) {v:Value} {s:SV} (h:SVR sz L w I v s):SVR sz L' w' I v (if s.touch W = true then s.cut W else s):=by
  have one:∀ v s,SVR sz L w I v s → s.touch W = false → SVR sz L' w' I v s:=by
    intro v s h hs
    refine (SVR.all (fun pl => W pl.id) ?_ (fun _ _ hb => hb) hI).1 v s (by simpa [SV.touch] using hs) h
    intro pl node hf _ hn
    refine ⟨node,?_,Shp.refl _⟩
    unfold look at hn ⊢
    rw [hW _ hf]
    exact hn
  split
  · cases s with
    | tup l =>
      simp only [SV.cut,SVR] at h ⊢
      obtain ⟨vs,rfl,hl⟩:=h
      refine ⟨vs,rfl,SVRL.mapS (fun v s hs => ?_) hl⟩
      split
      · simp [SVR]
      · exact one v s hs (by simpa using ‹¬ s.touch W = true›)
    | _ => simp [SV.cut,SVR]
  · exact one v s h (by simpa using ‹¬ s.touch W = true›)
/-- The blocks of some names. -/
def blk (L:Loc) (id:Id):List Nat:=match L id with
  | some t => t.blocks
  | none => []
theorem mem_blk {id:Id} {b:Nat} (h:b ∈ blk L id):∃ t,L id = some t ∧ b ∈ t.blocks:=by
  unfold blk at h
  split at h
  · exact ⟨_,by assumption,h⟩
  · simp at h
theorem Sim.restr (h:Sim sz I bs A w0 st a w L []) (looks D:List Nat) (Fl:List Id) :
    Sim sz I (Fl.flatMap (blk L)) ⟨fun i j => if Fl.contains (.arg i j) = true then A i j else none,A.d⟩ w (V.restr looks D Fl st) a w (fun id => if Fl.contains id = true then L id else none) []:=by
  have hsub:∀ id t,(if Fl.contains id = true then L id else none) = some t → L id = some t ∧ Fl.contains id = true:=by
    intro id t ht
    split at ht
    · exact ⟨ht,by assumption⟩
    · simp at ht
  refine { keeps:=Kp.refl _ _,imm:=?_,nodef:=h.nodef,hholds:=by simp,hnodup:=by simp,hown:=by simp,hapart:=by simp,args:=?_,er:=?_,holds:=fun id t ht => h.holds id t (hsub id t ht).1,nodup:=fun id t ht => h.nodup id t (hsub id t ht).1,own:=?_,apart:=fun id id' t t' hne ht ht' => h.apart id id' t t' hne (hsub id t ht).1 (hsub id' t' ht').1,slots:=?_ }
  all_goals first
    | (intro k b hb
       refine ⟨h.immw k b hb,fun hx => ?_⟩
       obtain ⟨id,hid,hbb⟩:=List.mem_flatMap.1 hx
       obtain ⟨t,ht,hbt⟩:=mem_blk hbb
       have hne:=h.imm_ne hb
       exact (h.own id t ht b hbt).elim hne.1 hne.2)
    | skip
  · intro id
    simp only [V.restr]
    split
    · exact h.er id
    · rfl
  · intro id t ht b hb
    obtain ⟨h1,h2⟩:=hsub id t ht
    refine .inl (List.mem_flatMap.2 ⟨id,by simpa using h2,?_⟩)
    simp only [blk,h1]
    exact hb
  · refine SVRL.of_at ?_ ?_
    · simp only [V.restr,restrSl_len]; exact h.slots.len
    · intro i v s hv hs
      simp only [V.restr,restrSl_at,Nat.zero_add,Option.map_eq_some_iff] at hs
      obtain ⟨s0,hs0,rfl⟩:=hs
      obtain ⟨v',hv',hr⟩:=h.slots.at_ i s0 hs0
      rw [hv] at hv'
      cases hv'
      cases hti:s0.isTup with
      | true =>
        cases s0 <;> simp only [SV.isTup,reduceCtorEq] at hti
        rename_i l
        simp only [restrOne]
        split
        · simp only [SVR] at hr ⊢
          obtain ⟨vs,rfl,hl⟩:=hr
          exact ⟨vs,rfl,SVRL.mapS (fun v s hs => hs.clean (fun id hid => by rw [if_pos hid]) (fun _ _ _ => rfl)) hl⟩
        · simp [SVR]
      | false =>
        rw [restrOne_nt hti]
        split
        · rename_i hk
          simp only [keepB,Bool.and_eq_true] at hk
          refine hr.within (W:=fun id => Fl.contains id) (fun id hid => ?_) (fun _ _ _ => rfl) hk.2
          rw [if_pos hid]
        · simp [SVR]
  · intro i j v hv
    simp only at hv
    split at hv
    · rename_i hc
      obtain ⟨t,ht,htv⟩:=h.args i j v hv
      exact ⟨t,by rw [if_pos hc]; exact ht,htv⟩
    · simp at hv

/-- What an operation did to the names that it was given is put back beside what it wasn't given. -/
theorem Sim.merge (h:Sim sz I bs A w0 st a w L []) (looks D:List Nat) (Fl:List Id) (V W:Id → Bool) (hFW:∀ id,Fl.contains id = true → W id = true) (hVW:∀ id,V id = true → W id = true) (hnew:∀ i j,W (.arg i j) = true → Fl.contains (.arg i j) = true) {rs:St} {dst:Option Nat} {v:Value} {Lr:Loc}
    (hr:Sim sz I (Fl.flatMap (blk L)) ⟨fun i j => if Fl.contains (.arg i j) = true then A i j else none,A.d⟩ w rs (a.put dst v) w' Lr []) :
    Sim sz I bs A w0 ⟨mergeSl looks D (fun id => Fl.contains id) V W false false dst 0 st.sl rs.sl,fun id => if W id = true then rs.hp id else st.hp id⟩ (a.put dst v) w' (fun id => if W id = true then Lr id else L id) []:=by
  have hbs:∀ b ∈ Fl.flatMap (blk L),b ∈ bs ∨ w0.heap.size ≤ b:=by
    intro b hb
    obtain ⟨id,_,hbb⟩:=List.mem_flatMap.1 hb
    obtain ⟨t,ht,hbt⟩:=mem_blk hbb
    exact h.own id t ht b hbt
  have hI:∀ k b,I k b → w'.heap[b]? = w.heap[b]?:=fun k b hb => hr.keeps.block b (hr.imm k b hb).1 (hr.imm k b hb).2
  have hout:∀ id t,W id = false → L id = some t → ∀ b ∈ t.blocks,b < w.heap.size ∧ b ∉ Fl.flatMap (blk L):=by
    intro id t hW ht b hb
    refine ⟨LT.blocks_lt t (h.holds id t ht) b hb,fun hx => ?_⟩
    obtain ⟨id',hid',hbb⟩:=List.mem_flatMap.1 hx
    obtain ⟨t',ht',hbt'⟩:=mem_blk hbb
    have hne:id ≠ id':=by
      rintro rfl
      rw [hFW id (by simpa using hid')] at hW
      cases hW
    exact h.apart id id' t t' hne ht ht' b hb hbt'
  have hcase:∀ id t,(if W id = true then Lr id else L id) = some t → (W id = true ∧ Lr id = some t) ∨ (W id = false ∧ L id = some t):=by
    intro id t ht
    cases hW:W id with
    | true => rw [hW,if_pos rfl] at ht; exact .inl ⟨rfl,ht⟩
    | false => rw [hW,if_neg (by simp)] at ht; exact .inr ⟨rfl,ht⟩
  have hlen:st.sl.length = rs.sl.length:=by
    have h1:=h.slots.len
    have h2:=hr.slots.len
    have h3:(a.put dst v).tmps.toList.length = a.tmps.toList.length:=by cases dst <;> simp [Act.put]
    omega
  refine { keeps:=h.keeps.trans hr.keeps hbs,imm:=h.imm,nodef:=hr.nodef,hholds:=by simp,hnodup:=by simp,hown:=by simp,hapart:=by simp,er:=?_,holds:=?_,nodup:=?_,own:=?_,apart:=?_,slots:=?_,args:=?_ }
  · intro id
    simp only
    split
    · exact hr.er id
    · exact h.er id
  · intro id t ht
    rcases hcase id t ht with ⟨_,ht⟩ | ⟨hW,ht⟩
    · exact hr.holds id t ht
    · exact LT.holds_frame (fun _ _ hb => hb) hI t (h.holds id t ht) fun b hb => hr.keeps.block b (hout id t hW ht b hb).1 (hout id t hW ht b hb).2
  · intro id t ht
    rcases hcase id t ht with ⟨_,ht⟩ | ⟨_,ht⟩
    · exact hr.nodup id t ht
    · exact h.nodup id t ht
  · intro id t ht b hb
    rcases hcase id t ht with ⟨_,ht⟩ | ⟨_,ht⟩
    · exact (hr.own id t ht b hb).elim (hbs b) fun hle => .inr (Nat.le_trans h.keeps.size hle)
    · exact h.own id t ht b hb
  · intro id id' t t' hne ht ht' b hb hb'
    rcases hcase id t ht with ⟨hW,ht⟩ | ⟨hW,ht⟩ <;> rcases hcase id' t' ht' with ⟨hW',ht'⟩ | ⟨hW',ht'⟩
    · exact hr.apart id id' t t' hne ht ht' b hb hb'
    · have:=hout id' t' hW' ht' b hb'
      rcases hr.own id t ht b hb with h1 | h1
      · exact this.2 h1
      · omega
    · have:=hout id t hW ht b hb
      rcases hr.own id' t' ht' b hb' with h1 | h1
      · exact this.2 h1
      · omega
    · exact h.apart id id' t t' hne ht ht' b hb hb'
  · refine SVRL.of_at ?_ ?_
    · rw [mergeSl_len,hr.slots.len,hlen]
    · intro k u s hu hs
      rw [mergeSl_at] at hs
      simp only [Option.map_eq_some_iff] at hs
      obtain ⟨x,hx,rfl⟩:=hs
      · have hk:k < rs.sl.length:=by rw [← hlen]; exact (List.getElem?_eq_some_iff.1 hx).1
        have hy:rs.sl[k]? = some (rs.sl.getD k .junk):=by simp [List.getD,hk]
        generalize rs.sl.getD k .junk = y at hy ⊢
        obtain ⟨u',hu',hry⟩:=hr.slots.at_ k y hy
        rw [hu] at hu'
        cases hu'
        have hWr:∀ X:Id → Bool,(∀ id,X id = true → W id = true) → ∀ id,X id = true → (if W id = true then Lr id else L id) = Lr id:=fun X hX id hid => by rw [if_pos (hX id hid)]
        unfold mergeOne
        rw [Nat.zero_add]
        split
        · exact hry.clean (hWr V hVW) (fun _ _ _ => rfl)
        · rename_i hd
          split
          · split
            · simp [SVR]
            · exact hry.clean (hWr W fun _ h => h) (fun _ _ _ => rfl)
          · obtain ⟨v0,hv0,hrx⟩:=h.slots.at_ k x hx
            have huv:v0 = u:=by
              cases dst with
              | none => simp only [Act.put] at hu; rw [hu] at hv0; cases hv0; rfl
              | some d =>
                have hdk:d ≠ k:=fun e => hd (by rw [e])
                simp only [Act.put,Array.toList_setIfInBounds] at hu
                rw [List.getElem?_set_ne hdk] at hu
                rw [hu] at hv0
                cases hv0; rfl
            subst huv
            have:=hrx.cut (L':=fun id => if W id = true then Lr id else L id) (W:=W) (fun id hid => by simp only [hid,Bool.false_eq_true,if_false]) hI
            simpa using this
  · intro i j v' hv'
    by_cases hc:Fl.contains (.arg i j) = true
    · obtain ⟨t,ht,htv⟩:=hr.args i j v' (by simp only; rw [if_pos hc]; exact hv')
      exact ⟨t,by rw [if_pos (hFW _ hc)]; exact ht,htv⟩
    · obtain ⟨t,ht,htv⟩:=h.args i j v' hv'
      exact ⟨t,by rw [if_neg (fun hW => hc (hnew i j hW))]; exact ht,htv⟩
end
end Go.V

namespace Go.V
open Go.RowKit
set_option linter.unusedSimpArgs false
set_option linter.unusedVariables false

/-! ### an operation of a region that draws its order -/
def ownB (r i:Nat):Id → Bool
  | .op r' i' _ => r' == r && i' == i
  | _ => false
/-- What is told of an operation: the names that it may use, the slots that others write at any time, whether it only looks. -/
structure OI where
  F:List Id
  D:List Nat
  p:Bool
def pureB (o:Oper):Bool:=match o.op with
  | .box _ _ => false
  | .alloc _ => false
  | .store _ _ _ => false
  | .makeSlice _ _ _ => false
  | .buildSlice _ _ _ => false
  | .call c => match c.callee with
    | .builtin .append => false
    | .builtin _ => true
    | _ => false
  | _ => true
def SV.isJunk:SV → Bool
  | .junk => true
  | _ => false
def stG (E:Env) (P:Program) (r:Nat) (ops:Array Oper) (i:Nat) (o:Oper) (st:St):Option St:=gte (guardSt ops st o) (stStep E P r i st o) (some (st.set o.dst (.t (.raw undef))))
def looksOK (looks:List Nat) (F:List Id) (st:St):Bool:=looks.all fun t => match st.sl[t]? with
  | some s => s.isTup || (s.within (fun id => F.contains id) && !s.isJunk)
  | none => false
/-- p: it leaves the names as they are; where it is no plain look it is a call that is lent all (and may make names of its own). -/
def OI.q (x:OI) (o:Oper):Bool:=x.p && pureB o
def OI.V (x:OI) (r i:Nat) (o:Oper) (id:Id):Bool:=x.F.contains id || (!x.q o && ownB r i id)
def OI.W (x:OI) (r i:Nat) (o:Oper) (id:Id):Bool:=(!x.p && x.F.contains id) || (!x.q o && ownB r i id)
def stM (E:Env) (P:Program) (r:Nat) (ops:Array Oper) (x:OI) (i:Nat) (o:Oper) (st:St):Option St :=
  if looksOK (o.looksAt ops) x.F st = true ∧ (x.p = true → pureB o = true ∨ quietB E (restr (o.looksAt ops) x.D x.F st) o = true) then
    match stG E P r ops i o (restr (o.looksAt ops) x.D x.F st) with
    | some rs => some ⟨mergeSl (o.looksAt ops) x.D (fun id => x.F.contains id) (x.V r i o) (x.W r i o) x.p (x.q o) o.dst 0 st.sl rs.sl,fun id => if x.W r i o id = true then rs.hp id else st.hp id⟩
    | none => none
  else none

section
variable {sz:Nat → Nat} {I I':Nat → Nat → Prop} {bs:List Nat} {A:AD} {w0 w w':World} {st st' st1 st2:St} {a:Act} {L L' L0 L1 L2:Loc} {hand hand':List LT} {P:Program} {o:Oper} {Q:Exit → Act → World → Prop} {E:Env} {r i:Nat} {ops:Array Oper} {x:OI}

theorem pureB_step (hp:pureB o = true) (h:stStep E P r i st o = some st'):stPure P st o = some st':=by
  unfold pureB at hp
  unfold stStep at h
  split at h
  all_goals first
    | (rename_i ho; rw [ho] at hp; simp at hp; done)
    | skip
  · rename_i c ho
    rw [ho] at hp
    simp only at hp
    split at h
    · rename_i hc; rw [hc] at hp; simp at hp
    · unfold stPure; rw [ho]; exact h
    · rename_i h1 h2
      split at hp
      · simp at hp
      · rename_i b hb hc; exact absurd hc (h2 b)
      · simp at hp
  · exact h
theorem wp_put {N:Act → World → Prop} {ds:List Deferred} (hd:a.defers = ds) (hN:∀ a' w',N a' w' → a'.defers = ds) (h:o.wp P a w N Q):o.wp P a w (fun a' w' => N a' w' ∧ ∃ v,a' = a.put o.dst v) Q:=by
  unfold Oper.wp at *
  generalize (execOp a.eval o).run P w = res at *
  cases res with
  | ok n w' =>
    cases n <;> simp only [Oper.upon] at h ⊢
    case value v => exact ⟨h,v,rfl⟩
    case skip => exact ⟨h,_,rfl⟩
    case defer d =>
      have:=hN _ _ h
      cases hdst:o.dst <;> simp [Act.put,hdst,hd] at this
    case enter f args => exact h.mono fun e w'' he => by cases e <;> first | exact ⟨he,_,rfl⟩ | exact he
    case row => exact Rows.mono h fun v w'' hv => ⟨hv,v,rfl⟩
    all_goals exact h
  | halt x w' => cases x <;> simp only [Oper.upon] at h ⊢ <;> exact h
/-- An operation is walked (nothing is let out). -/
def wpOp0 (P:Program) (ops:Array Oper) (Q:Exit → Act → World → Prop) (i:Nat) (K:Act → World → Prop) (a:Act) (w:World):Prop :=
  match ops[i]? with
  | none => K a w
  | some o => if Region.wanted o (yielded ops a.tmps) then o.wp P a w K Q else K (a.put o.dst undef) w
theorem wpOp0.toOp {P:Program} {ops:Array Oper} {Q:Exit → Act → World → Prop} {i:Nat} {K:Act → World → Prop} {a:Act} {w:World} (h:wpOp0 P ops Q i K a w):wpOp P ops Q i K a w:=by
  unfold wpOp0 at h
  unfold wpOp
  split
  · rename_i hi; rw [hi] at h; exact h
  · rename_i o hi
    rw [hi] at h
    simp only at h
    split
    · rename_i hw; rw [if_pos hw] at h; exact .inl h
    · rename_i hw; rw [if_neg hw] at h; exact h
theorem stG_sound (h:Sim (tsz P) I bs A w0 st a w L []) (h0:tsz P nilE = 0) (hE:EnvOK P E) (hi:ops[i]? = some o) (hg:stG E P r ops i o st = some st') {K:Act → World → Prop} (hK:∀ v w' L',Sim (tsz P) I bs A w0 st' (a.put o.dst v) w' L' [] → K (a.put o.dst v) w'):wpOp0 P ops Q i K a w:=by
  unfold stG gte at hg
  unfold wpOp0
  simp only [hi]
  split at hg
  · rename_i hgd
    rw [guardSt_sound h hgd,if_pos rfl]
    refine (Oper.wp_mono ?_ (wp_put (Q:=Q) h.nodef (fun a' w' hx => by obtain ⟨L',hx⟩:=hx; exact hx.nodef) (stStep_sound (Q:=Q) h h0 hE hg)))
    rintro a' w' ⟨⟨L',hs⟩,v,rfl⟩
    exact hK v w' L' hs
  · rename_i hgd
    rw [guardSt_sound h hgd,if_neg (by simp)]
    cases hg
    exact hK undef w L (h.setS _ (by simp [SVR,Im]))
  · simp at hg
theorem stG_pure (h:Sim (tsz P) I bs A w0 st a w L []) (hp:pureB o = true) (hi:ops[i]? = some o) (hg:stG E P r ops i o st = some st') {K:Act → World → Prop} (hK:∀ v s,st' = st.set o.dst s → SVR (tsz P) L w I v s → K (a.put o.dst v) w):wpOp0 P ops Q i K a w:=by
  unfold stG gte at hg
  unfold wpOp0
  simp only [hi]
  split at hg
  · rename_i hgd
    rw [guardSt_sound h hgd,if_pos rfl]
    refine (Oper.wp_mono ?_ (stPure_sound (Q:=Q) h (pureB_step hp hg)))
    rintro a' w' ⟨rfl,v,s,rfl,hst,hs⟩
    exact hK v s hst hs
  · rename_i hgd
    rw [guardSt_sound h hgd,if_neg (by simp)]
    cases hg
    exact hK undef _ rfl (by simp [SVR,Im])
  · simp at hg
theorem stG_quiet (h:Sim (tsz P) I bs A w0 st a w L []) (hE:EnvOK P E) (hq:quietB E st o = true) (hi:ops[i]? = some o) (hg:stG E P r ops i o st = some st') {K:Act → World → Prop} (hK:∀ v w' L',Sim (tsz P) I bs A w0 st' (a.put o.dst v) w' L' [] → (∀ id,ownB r i id = false → L' id = L id) → K (a.put o.dst v) w'):wpOp0 P ops Q i K a w:=by
  unfold stG gte at hg
  unfold wpOp0
  simp only [hi]
  split at hg
  · rename_i hgd
    rw [guardSt_sound h hgd,if_pos rfl]
    have hc:stCall E P r i st o = some st':=by
      unfold quietB at hq
      split at hq
      · rename_i c ho
        split at hq
        · rename_i x hcx
          unfold stStep at hg
          rw [ho] at hg
          simp only [hcx] at hg
          exact hg
        · simp at hq
      · simp at hq
    refine (Oper.wp_mono ?_ (wp_put (Q:=Q) h.nodef (fun a' w' hx => by obtain ⟨L',hx,_⟩:=hx; exact hx.nodef) (stCall_quiet (Q:=Q) h hE hq hc)))
    rintro a' w' ⟨⟨L',hs,hL⟩,v,rfl⟩
    refine hK v w' L' hs fun id hid => hL id fun k he => ?_
    subst he
    simp [ownB] at hid
  · rename_i hgd
    rw [guardSt_sound h hgd,if_neg (by simp)]
    cases hg
    exact hK undef w L (h.setS _ (by simp [SVR,Im])) fun _ _ => rfl
  · simp at hg
theorem stM_sound0 (h:Sim (tsz P) I bs A w0 st a w L []) (h0:tsz P nilE = 0) (hE:EnvOK P E) (hi:ops[i]? = some o) (hm:stM E P r ops x i o st = some st'):wpOp0 P ops Q i (fun a' w' => ∃ L',Sim (tsz P) I bs A w0 st' a' w' L' []) a w:=by
  unfold stM at hm
  split at hm
  · rename_i hc
    split at hm
    · rename_i rs hg
      cases hm
      have hr:=h.restr (o.looksAt ops) x.D x.F
      cases hp:x.p with
      | false =>
        refine stG_sound hr h0 hE hi hg ?_
        intro v w' Lr hs
        have hq:x.q o = false:=by simp [OI.q,hp]
        have hV:∀ id,x.V r i o id = (x.F.contains id || ownB r i id):=fun id => by simp [OI.V,hq]
        have hW:x.W r i o = x.V r i o:=funext fun id => by simp [OI.V,OI.W,hq,hp]
        have:=h.merge (o.looksAt ops) x.D x.F (x.V r i o) (x.V r i o) (fun id hid => by rw [hV,hid]; rfl) (fun _ h => h) (fun i' j' hx => by rw [hV] at hx; simpa [ownB] using hx) hs
        refine ⟨fun id => if x.V r i o id = true then Lr id else L id,?_⟩
        rw [hW,hq]
        exact this
      | true =>
       cases hpb:pureB o with
       | false =>
        have hqb:quietB E (V.restr (o.looksAt ops) x.D x.F st) o = true:=by
          rcases hc.2 hp with h1 | h1
          · rw [hpb] at h1; cases h1
          · exact h1
        refine stG_quiet hr hE hqb hi hg ?_
        intro v w' Lr hs hL
        have hq:x.q o = false:=by simp [OI.q,hpb]
        have hV:∀ id,x.V r i o id = (x.F.contains id || ownB r i id):=fun id => by simp [OI.V,hq]
        have hW:∀ id,x.W r i o id = ownB r i id:=fun id => by simp [OI.W,hq,hp]
        have hm:=h.merge (o.looksAt ops) x.D x.F (x.V r i o) (x.V r i o) (fun id hid => by rw [hV,hid]; rfl) (fun _ h => h) (fun i' j' hx => by rw [hV] at hx; simpa [ownB] using hx) hs
        have hLn:(fun id => if x.V r i o id = true then Lr id else L id) = fun id => if ownB r i id = true then Lr id else L id:=by
          funext id
          rw [hV]
          cases ho:ownB r i id with
          | true => simp
          | false =>
            simp only [Bool.or_false,Bool.false_eq_true,if_false]
            split
            · rename_i hF; rw [hL id ho,if_pos hF]
            · rfl
        have hhp:(fun id => if x.V r i o id = true then rs.hp id else st.hp id) = fun id => if x.W r i o id = true then rs.hp id else st.hp id:=by
          funext id
          rw [hV,hW]
          cases ho:ownB r i id with
          | true => simp
          | false =>
            simp only [Bool.or_false,Bool.false_eq_true,if_false]
            split
            · rename_i hF
              rw [← hs.er id,← h.er id,hL id ho,if_pos hF]
            · rfl
        rw [hLn,hhp] at hm
        refine ⟨fun id => if ownB r i id = true then Lr id else L id,hm.reslots ?_⟩
        have hIw:∀ k b,I k b → w'.heap[b]? = w.heap[b]?:=fun k b hb => hs.keeps.block b (hs.imm k b hb).1 (hs.imm k b hb).2
        have hlen:(mergeSl (o.looksAt ops) x.D (fun id => x.F.contains id) (x.V r i o) (x.W r i o) true (x.q o) o.dst 0 st.sl rs.sl).length = (a.put o.dst v).tmps.toList.length:=by
          rw [mergeSl_len]
          have:=h.slots.len
          cases o.dst <;> simpa [Act.put] using this.symm
        refine SVRL.of_at hlen.symm ?_
        intro k u y hu hy
        rw [mergeSl_at] at hy
        simp only [Option.map_eq_some_iff] at hy
        obtain ⟨x0,hx0,rfl⟩:=hy
        unfold mergeOne
        rw [Nat.zero_add]
        split
        · rename_i hd
          have hsl:=hm.slots.at_ k ((rs.sl.getD k .junk).clean (x.V r i o)) (by
            rw [mergeSl_at,hx0]
            simp [mergeOne,hd])
          obtain ⟨u',hu',hru⟩:=hsl
          rw [hu] at hu'
          cases hu'
          exact hru
        · rename_i hd
          simp only [Bool.not_true,Bool.false_and,Bool.false_eq_true,if_false]
          obtain ⟨v0,hv0,hrx⟩:=h.slots.at_ k x0 hx0
          have huv:v0 = u:=by
            cases hdst:o.dst with
            | none => simp only [Act.put,hdst] at hu; rw [hu] at hv0; cases hv0; rfl
            | some d =>
              have hdk:d ≠ k:=fun e => hd (by rw [hdst,e])
              simp only [Act.put,hdst,Array.toList_setIfInBounds] at hu
              rw [List.getElem?_set_ne hdk] at hu
              rw [hu] at hv0
              cases hv0; rfl
          subst huv
          have:=hrx.cut (L':=fun id => if ownB r i id = true then Lr id else L id) (W:=x.W r i o) (fun id hid => by rw [hW] at hid; simp only [hid,Bool.false_eq_true,if_false]) hIw
          simpa [hq] using this
       | true =>
        refine stG_pure hr hpb hi hg ?_
        intro v s hrs hs
        refine ⟨L,?_⟩
        have hq:x.q o = true:=by simp [OI.q,hp,hpb]
        have hVF:∀ id,x.V r i o id = x.F.contains id:=fun id => by simp [OI.V,hq]
        have hWF:∀ id,x.W r i o id = false:=fun id => by simp [OI.W,hq,hp]
        have hlen:st.sl.length = rs.sl.length:=by
          rw [hrs]
          cases o.dst <;> simp [St.set,V.restr,restrSl_len]
        have hsl:SVRL (tsz P) L w I (a.put o.dst v).tmps.toList (mergeSl (o.looksAt ops) x.D (fun id => x.F.contains id) (x.V r i o) (x.W r i o) true (x.q o) o.dst 0 st.sl rs.sl):=by
          refine SVRL.of_at ?_ ?_
          · rw [mergeSl_len]
            have:=h.slots.len
            cases o.dst <;> simpa [Act.put] using this
          · intro k u y hu hy
            rw [mergeSl_at] at hy
            simp only [Option.map_eq_some_iff] at hy
            obtain ⟨x0,hx0,rfl⟩:=hy
            · have hk:k < rs.sl.length:=by rw [← hlen]; exact (List.getElem?_eq_some_iff.1 hx0).1
              have hy0:rs.sl[k]? = some (rs.sl.getD k .junk):=by simp [List.getD,hk]
              generalize rs.sl.getD k .junk = y0 at hy0 ⊢
              unfold mergeOne
              rw [Nat.zero_add]
              split
              · rename_i hd
                rw [hrs] at hy0
                simp only [hd,St.set] at hy0
                have hk:k < (V.restr (o.looksAt ops) x.D x.F st).sl.length:=by
                  have:=(List.getElem?_eq_some_iff.1 hy0).1
                  simpa using this
                rw [List.getElem?_set_self hk] at hy0
                cases hy0
                simp only [hd,Act.put,Array.toList_setIfInBounds] at hu
                have hk':k < a.tmps.toList.length:=by rw [h.slots.len]; simpa [V.restr,restrSl_len] using hk
                rw [List.getElem?_set_self hk'] at hu
                cases hu
                refine hs.clean (fun id hid => ?_) (fun _ _ _ => rfl)
                rw [hVF] at hid
                rw [if_pos hid]
              · rename_i hd
                simp only [hq,Bool.not_true,Bool.false_and,Bool.false_eq_true,if_false]
                obtain ⟨v0,hv0,hrx⟩:=h.slots.at_ k x0 hx0
                have huv:v0 = u:=by
                  cases hdst:o.dst with
                  | none => simp only [Act.put,hdst] at hu; rw [hu] at hv0; cases hv0; rfl
                  | some d =>
                    have hdk:d ≠ k:=fun e => hd (by rw [hdst,e])
                    simp only [Act.put,hdst,Array.toList_setIfInBounds] at hu
                    rw [List.getElem?_set_ne hdk] at hu
                    rw [hu] at hv0
                    cases hv0; rfl
                rw [← huv]
                exact hrx
        have hnd:(a.put o.dst v).defers = A.d:=by
          have:=h.nodef
          cases o.dst <;> simpa [Act.put] using this
        exact { h with slots:=hsl,nodef:=hnd,er:=fun id => by simpa [hWF] using h.er id }
    · simp at hm
  · simp at hm
theorem stM_sound (h:Sim (tsz P) I bs A w0 st a w L []) (h0:tsz P nilE = 0) (hE:EnvOK P E) (hi:ops[i]? = some o) (hm:stM E P r ops x i o st = some st'):wpOp P ops Q i (fun a' w' => ∃ L',Sim (tsz P) I bs A w0 st' a' w' L' []) a w:=(stM_sound0 h h0 hE hi hm).toOp
end
end Go.V

namespace Go.V
open Go.RowKit
set_option linter.unusedSimpArgs false
set_option linter.unusedVariables false

theorem uses_or {f g h:Pl → Bool} (hh:∀ pl,h pl = true → f pl = true ∨ g pl = true):∀ s:SV,s.uses f = false → s.uses g = false → s.uses h = false:=by
  have key:∀ n:Nat,(∀ s:SV,SizeOf.sizeOf s < n → s.uses f = false → s.uses g = false → s.uses h = false) ∧ (∀ ss:List SV,SizeOf.sizeOf ss < n → SV.usesL f ss = false → SV.usesL g ss = false → SV.usesL h ss = false):=by
    intro n
    induction n with
    | zero => exact ⟨fun _ h => by omega,fun _ h => by omega⟩
    | succ n ih =>
      refine ⟨fun s hs h1 h2 => ?_,fun ss hs h1 h2 => ?_⟩
      · cases s with
        | ref pl off len => simp only [SV.uses] at h1 h2 ⊢; cases hx:h pl with | false => rfl | true => rcases hh pl hx with h3 | h3 <;> simp_all
        | ptr pl off => simp only [SV.uses] at h1 h2 ⊢; cases hx:h pl with | false => rfl | true => rcases hh pl hx with h3 | h3 <;> simp_all
        | fnc g' l => simp only [SV.uses] at h1 h2 ⊢; exact ih.2 _ (by simp at hs; omega) h1 h2
        | agg l => simp only [SV.uses] at h1 h2 ⊢; exact ih.2 _ (by simp at hs; omega) h1 h2
        | tup l => simp only [SV.uses] at h1 h2 ⊢; exact ih.2 _ (by simp at hs; omega) h1 h2
        | _ => rfl
      · cases ss with
        | nil => rfl
        | cons s ss =>
          simp only [SV.usesL,Bool.or_eq_false_iff] at h1 h2 ⊢
          exact ⟨ih.1 _ (by simp at hs; omega) h1.1 h2.1,ih.2 _ (by simp at hs; omega) h1.2 h2.2⟩
  exact fun s => (key (SizeOf.sizeOf s + 1)).1 s (Nat.lt_succ_self _)
theorem touch_within {A B:Id → Bool} {s:SV} (h:s.within A = true) (hd:∀ id,B id = true → A id = false):s.touch B = false :=
  uses_mono (fun pl hp => by show (!A pl.id) = true; rw [hd pl.id hp]; rfl) s (by simpa [SV.within] using h)
theorem within_disj {A B:Id → Bool} {s:SV} (h:s.within A = true) (h':s.within B = true) (hd:∀ id,A id = true → B id = false):s.inert = true:=by
  simp only [SV.inert,Bool.not_eq_true']
  refine uses_or (f:=fun pl => !A pl.id) (g:=fun pl => !B pl.id) (fun pl _ => ?_) s (by simpa [SV.within] using h) (by simpa [SV.within] using h')
  cases ha:A pl.id with
  | false => exact .inl (by simp)
  | true => exact .inr (by simp [hd _ ha])
theorem clean_within {W:Id → Bool} (s:SV):(s.clean W).within W = true:=by
  unfold SV.clean
  split
  · assumption
  · simp [SV.within,SV.uses]
section
variable {E:Env} {P:Program} {r:Nat} {ops:Array Oper}
/-- Two operations that leave each other alone. -/
structure Sep (r:Nat) (ops:Array Oper) (i j:Nat) (oi oj:Oper) (xi xj:OI):Prop where
  l1:∀ d,oi.dst = some d → (oj.looksAt ops).contains d = false
  l2:∀ d,oj.dst = some d → (oi.looksAt ops).contains d = false
  dd:∀ d,oi.dst = some d → oj.dst ≠ some d
  d1:∀ d,oi.dst = some d → xj.D.contains d = true
  d2:∀ d,oj.dst = some d → xi.D.contains d = true
  w1:∀ id,xi.W r i oi id = true → xj.V r j oj id = false
  w2:∀ id,xj.W r j oj id = true → xi.V r i oi id = false
theorem Sep.symm {i j:Nat} {oi oj:Oper} {xi xj:OI} (h:Sep r ops i j oi oj xi xj):Sep r ops j i oj oi xj xi:=⟨h.l2,h.l1,fun d hd he => h.dd d he hd,h.d2,h.d1,h.w2,h.w1⟩
theorem FV {x:OI} {i:Nat} {o:Oper} {id:Id} (h:x.F.contains id = true):x.V r i o id = true:=by simp only [OI.V,h,Bool.true_or]
theorem FW {x:OI} {i:Nat} {o:Oper} {id:Id} (hp:x.p = false) (h:x.F.contains id = true):x.W r i o id = true:=by simp only [OI.W,h,hp,Bool.not_false,Bool.true_and,Bool.true_or]
theorem WV {x:OI} {i:Nat} {o:Oper} {id:Id} (h:x.W r i o id = true):x.V r i o id = true:=by
  simp only [OI.W,OI.V,Bool.or_eq_true,Bool.and_eq_true] at h ⊢
  rcases h with h | h
  · exact .inl h.2
  · exact .inr h
theorem Sep.wF {i j:Nat} {oi oj:Oper} {xi xj:OI} (h:Sep r ops i j oi oj xi xj) (id:Id) (hid:xi.W r i oi id = true):xj.F.contains id = false:=by
  have:=h.w1 id hid
  cases hc:xj.F.contains id with
  | false => rfl
  | true => rw [FV hc] at this; cases this
theorem Sep.wW {i j:Nat} {oi oj:Oper} {xi xj:OI} (h:Sep r ops i j oi oj xi xj) (id:Id) (hid:xj.W r j oj id = true):xi.W r i oi id = false:=by
  have:=h.w2 id hid
  cases hc:xi.W r i oi id with
  | false => rfl
  | true => rw [WV hc] at this; cases this

abbrev mo (r:Nat) (ops:Array Oper) (x:OI) (i:Nat) (o:Oper) (t:Nat) (s y:SV):SV:=mergeOne (o.looksAt ops) x.D (fun id => x.F.contains id) (x.V r i o) (x.W r i o) x.p (x.q o) o.dst t s y

/-- What the other one may use alone is left alone. -/
theorem mo_keeps {i j:Nat} {oi oj:Oper} {xi xj:OI} (h:Sep r ops i j oi oj xi xj) {t:Nat} {s y:SV} (ht:oi.dst ≠ some t) (hs:s.within (fun id => xj.F.contains id) = true):mo r ops xi i oi t s y = s:=by
  unfold mo mergeOne
  rw [if_neg ht]
  have h1:(!xi.p && (keepB (oi.looksAt ops) xi.D (fun id => xi.F.contains id) t s && !s.inert)) = false:=by
    cases hp:xi.p with
    | true => rfl
    | false =>
      cases hk:keepB (oi.looksAt ops) xi.D (fun id => xi.F.contains id) t s with
      | false => rfl
      | true =>
        simp only [keepB,Bool.and_eq_true] at hk
        have:=within_disj hk.2 hs (fun id hid => h.wF id (FW hp hid))
        simp [this]
  have h2:=touch_within (B:=xi.W r i oi) hs (fun id hid => h.wF id hid)
  rw [h1,h2]
  simp
/-- A tuple's parts, each for itself. -/
theorem mo_tup {x:OI} {k:Nat} {o:Oper} {t:Nat} {l:List SV} {y:SV} (ht:o.dst ≠ some t):mo r ops x k o t (.tup l) y = .tup (l.map fun s => if (!x.q o && s.touch (x.W r k o)) = true then .junk else s):=by
  unfold mo mergeOne
  rw [if_neg ht]
  have h1:keepB (o.looksAt ops) x.D (fun id => x.F.contains id) t (.tup l) = false:=by simp [keepB,SV.isTup]
  rw [h1]
  simp only [Bool.false_and,Bool.and_false,Bool.false_eq_true,if_false]
  cases hq:x.q o with
  | true => simp
  | false =>
    simp only [Bool.not_false,Bool.true_and]
    split
    · rfl
    · rename_i hn
      congr 1
      have hno:∀ s ∈ l,s.touch (x.W r k o) = false:=by
        have key:∀ l:List SV,SV.usesL (fun pl => x.W r k o pl.id) l = false → ∀ s ∈ l,s.touch (x.W r k o) = false:=by
          intro l
          induction l with
          | nil => intro _ s hs; simp at hs
          | cons a l ih =>
            intro hl s hs
            simp only [SV.usesL,Bool.or_eq_false_iff] at hl
            rcases List.mem_cons.1 hs with rfl | hs
            · exact hl.1
            · exact ih hl.2 s hs
        exact key l (by simpa [SV.touch,SV.uses] using hn)
      exact (List.map_congr_left fun s hs => by rw [hno s hs]; rfl).trans (List.map_id _) |>.symm
/-- Whether it is a tuple stays. -/
theorem mo_isTup {x:OI} {k:Nat} {o:Oper} {t:Nat} {s y:SV} (ht:o.dst ≠ some t):(mo r ops x k o t s y).isTup = s.isTup:=by
  cases hs:s.isTup with
  | true =>
    cases s <;> simp only [SV.isTup,reduceCtorEq] at hs
    rw [mo_tup ht]; rfl
  | false =>
    unfold mo mergeOne
    rw [if_neg ht]
    split
    · split
      · rfl
      · rename_i hy
        simp only [Bool.or_eq_true,not_or] at hy
        unfold SV.clean
        split
        · simpa using hy.2
        · rfl
    · split
      · cases s <;> simp_all [SV.cut,SV.isTup]
      · exact hs
/-- What the other one can look at behind it is what it was. -/
theorem mo_back {i j:Nat} {oi oj:Oper} {xi xj:OI} (h:Sep r ops i j oi oj xi xj) {t:Nat} {s y:SV} (hnt:s.isTup = false) (ht:oi.dst ≠ some t) (hz:(mo r ops xi i oi t s y).within (fun id => xj.F.contains id) = true) (hj:(mo r ops xi i oi t s y).isJunk = false):mo r ops xi i oi t s y = s:=by
  unfold mo mergeOne at hz hj ⊢
  rw [if_neg ht] at hz hj ⊢
  split at hz
  · rename_i hk
    rw [if_pos hk] at hj
    exfalso
    split at hz
    · rename_i hy; rw [if_pos hy] at hj; simp [SV.isJunk] at hj
    · rename_i hy
      rw [if_neg hy] at hj
      have h1:=within_disj (clean_within (W:=xi.W r i oi) y) hz (fun id hid => h.wF id hid)
      unfold SV.clean at h1 hj
      split at h1
      · exact hy (by rw [h1]; rfl)
      · rename_i hw; rw [if_neg hw] at hj; simp [SV.isJunk] at hj
  · rename_i hk
    rw [if_neg hk] at hj ⊢
    split at hz
    · rename_i hx
      rw [if_pos hx] at hj
      cases s <;> simp_all [SV.cut,SV.isJunk,SV.isTup]
    · rename_i hx; rw [if_neg hx]
/-- Whether the other one keeps a slot, and what of it, is the same behind it. -/
theorem mo_restr {i j:Nat} {oi oj:Oper} {xi xj:OI} (h:Sep r ops i j oi oj xi xj) {t:Nat} {s y:SV} (hl:s.isTup = false → (oj.looksAt ops).contains t = true → mo r ops xi i oi t s y = s) :
    restrOne (oj.looksAt ops) xj.D (fun id => xj.F.contains id) t (mo r ops xi i oi t s y) = restrOne (oj.looksAt ops) xj.D (fun id => xj.F.contains id) t s:=by
  by_cases hd:oi.dst = some t
  · have hD:=h.d1 t hd
    have hlt':=h.l1 t hd
    have key:∀ s,restrOne (oj.looksAt ops) xj.D (fun id => xj.F.contains id) t s = .junk:=by
      intro s
      cases hs:s.isTup with
      | true =>
        cases s <;> simp only [SV.isTup,reduceCtorEq] at hs
        simp only [restrOne,hlt',Bool.false_eq_true,if_false]
      | false =>
        rw [restrOne_nt hs]
        have:keepB (oj.looksAt ops) xj.D (fun id => xj.F.contains id) t s = false:=by simp only [keepB,hlt',hD,Bool.not_true,Bool.false_and,Bool.or_self,Bool.and_false]
        rw [this]
        rfl
    rw [key,key]
  cases hs:s.isTup with
  | true =>
    cases s <;> simp only [SV.isTup,reduceCtorEq] at hs
    rename_i l
    rw [mo_tup hd]
    simp only [restrOne]
    split
    · congr 1
      rw [List.map_map]
      refine List.map_congr_left fun s _ => ?_
      simp only [Function.comp_apply]
      split
      · rename_i hx
        simp only [Bool.and_eq_true] at hx
        have h1:s.within (fun id => xj.F.contains id) = false:=by
          cases hw:s.within (fun id => xj.F.contains id) with
          | false => rfl
          | true =>
            have:=touch_within (B:=xi.W r i oi) hw (fun id hid => h.wF id hid)
            rw [this] at hx
            cases hx.2
        unfold SV.clean
        rw [h1]
        simp
      · rfl
    · rfl
  | false =>
    have hs':(mo r ops xi i oi t s y).isTup = false:=by rw [mo_isTup hd,hs]
    rw [restrOne_nt hs',restrOne_nt hs]
    by_cases hlt:(oj.looksAt ops).contains t = true
    · rw [hl hs hlt]
    · have hlt':(oj.looksAt ops).contains t = false:=by simpa using hlt
      by_cases hw:s.within (fun id => xj.F.contains id) = true
      · rw [mo_keeps h hd hw]
      · have h1:keepB (oj.looksAt ops) xj.D (fun id => xj.F.contains id) t s = false:=by unfold keepB; rw [Bool.eq_false_iff.2 hw,Bool.and_false]
        rw [h1]
        simp only [Bool.false_eq_true,if_false]
        rw [if_neg]
        intro hk
        have hk':=hk
        simp only [keepB,hlt',Bool.false_or,Bool.and_eq_true,Bool.not_eq_true'] at hk
        have hj:(mo r ops xi i oi t s y).isJunk = false:=by
          cases hq:mo r ops xi i oi t s y with
          | junk => rw [hq] at hk; simp [SV.inert,SV.uses] at hk
          | _ => rfl
        have:=mo_back h hs hd hk.2 hj
        rw [this] at hk
        exact hw hk.2
theorem mo_comm {i j:Nat} {oi oj:Oper} {xi xj:OI} (h:Sep r ops i j oi oj xi xj) (t:Nat) (s yi yj:SV):mo r ops xj j oj t (mo r ops xi i oi t s yi) yj = mo r ops xi i oi t (mo r ops xj j oj t s yj) yi:=by
  have own:∀ {i j:Nat} {oi oj:Oper} {xi xj:OI},Sep r ops i j oi oj xi xj → oi.dst = some t → ∀ s yi yj,mo r ops xj j oj t (mo r ops xi i oi t s yi) yj = mo r ops xi i oi t (mo r ops xj j oj t s yj) yi:=by
    intro i j oi oj xi xj h hd s yi yj
    have e:∀ s,mo r ops xi i oi t s yi = yi.clean (xi.V r i oi):=fun s => by unfold mo mergeOne; rw [if_pos hd]
    rw [e,e]
    have hj:oj.dst ≠ some t:=h.dd t hd
    unfold mo mergeOne
    rw [if_neg hj]
    have hk:keepB (oj.looksAt ops) xj.D (fun id => xj.F.contains id) t (yi.clean (xi.V r i oi)) = false:=by
      have h1:=h.l1 t hd
      have h2:=h.d1 t hd
      simp only [keepB,h1,h2,Bool.not_true,Bool.false_and,Bool.or_self,Bool.and_false]
    rw [hk]
    have:=touch_within (B:=xj.W r j oj) (clean_within (W:=xi.V r i oi) yi) (fun id hid => h.w2 id hid)
    rw [this]
    simp
  by_cases hdi:oi.dst = some t
  · exact own h hdi s yi yj
  by_cases hdj:oj.dst = some t
  · exact (own h.symm hdj s yj yi).symm
  -- neither's own slot
  by_cases hst:s.isTup = true
  · cases s <;> simp only [SV.isTup,Bool.false_eq_true,reduceCtorEq] at hst
    rename_i l
    rw [mo_tup (y:=yi) hdi,mo_tup (y:=yj) hdj,mo_tup (y:=yj) hdj,mo_tup (y:=yi) hdi]
    congr 1
    rw [List.map_map,List.map_map]
    refine List.map_congr_left fun s _ => ?_
    simp only [Function.comp_apply]
    have hjk:∀ W,SV.touch W .junk = false:=fun W => rfl
    by_cases ha:(!xi.q oi && s.touch (xi.W r i oi)) = true <;> by_cases hb:(!xj.q oj && s.touch (xj.W r j oj)) = true
    · rw [if_pos ha,if_pos hb,hjk,hjk]; simp
    · rw [if_pos ha,if_neg hb,if_pos ha,hjk]; simp
    · rw [if_neg ha,if_pos hb,hjk]; simp
    · rw [if_neg ha,if_neg hb,if_neg ha]
  have hnt:s.isTup = false:=by simpa using hst
  have hcut:∀ W,s.cut W = .junk:=fun W => by cases s <;> simp_all [SV.cut,SV.isTup]
  have junk_stays:∀ (x:OI) (k:Nat) (o:Oper) (y:SV),o.dst ≠ some t → mo r ops x k o t .junk y = .junk:=by
    intro x k o y hd
    unfold mo mergeOne
    rw [if_neg hd]
    have h1:SV.inert .junk = true:=rfl
    have h2:SV.touch (x.W r k o) .junk = false:=rfl
    simp [h1,h2]
  -- what becomes of it: itself,or junk,or a value of the one's names
  have three:∀ {i j:Nat} {oi oj:Oper} {xi xj:OI},Sep r ops i j oi oj xi xj → oi.dst ≠ some t → oj.dst ≠ some t → ∀ yi yj,(mo r ops xi i oi t s yi = s) ∨ (mo r ops xi i oi t s yi = .junk ∧ ((mo r ops xj j oj t s yj = s) ∨ mo r ops xj j oj t s yj = .junk)) ∨ (mo r ops xj j oj t s yj = s ∧ mo r ops xj j oj t (mo r ops xi i oi t s yi) yj = mo r ops xi i oi t s yi):=by
    intro i j oi oj xi xj h hdi hdj yi yj
    by_cases hk:(!xi.p && (keepB (oi.looksAt ops) xi.D (fun id => xi.F.contains id) t s && !s.inert)) = true
    · right; right
      have hk':=hk
      simp only [Bool.and_eq_true,keepB] at hk
      have h1:mo r ops xj j oj t s yj = s:=mo_keeps h.symm hdj hk.2.1.2
      refine ⟨h1,?_⟩
      have e:mo r ops xi i oi t s yi = if (yi.inert || yi.isTup) = true then .junk else yi.clean (xi.W r i oi):=by
        unfold mo mergeOne
        rw [if_neg hdi,if_pos hk']
      rw [e]
      split
      · exact junk_stays xj j oj yj hdj
      · -- within the one's names alone
        unfold mo mergeOne
        rw [if_neg hdj]
        have hw:=clean_within (W:=xi.W r i oi) yi
        have ht:=touch_within (B:=xj.W r j oj) hw (fun id hid => h.wW id hid)
        have hkk:(keepB (oj.looksAt ops) xj.D (fun id => xj.F.contains id) t (yi.clean (xi.W r i oi)) && !(yi.clean (xi.W r i oi)).inert) = false:=by
          cases hq:keepB (oj.looksAt ops) xj.D (fun id => xj.F.contains id) t (yi.clean (xi.W r i oi)) with
          | false => rfl
          | true =>
            simp only [keepB,Bool.and_eq_true] at hq
            have:=within_disj hw hq.2 (fun id hid => h.wF id hid)
            simp [this]
        rw [hkk,ht]
        simp
    · have e:mo r ops xi i oi t s yi = if (!xi.q oi && s.touch (xi.W r i oi)) = true then .junk else s:=by
        unfold mo mergeOne
        rw [if_neg hdi,if_neg hk,hcut]
      rw [e]
      split
      · rename_i htc
        right
        simp only [Bool.and_eq_true] at htc
        by_cases hkj:(!xj.p && (keepB (oj.looksAt ops) xj.D (fun id => xj.F.contains id) t s && !s.inert)) = true
        · exfalso
          simp only [Bool.and_eq_true,keepB] at hkj
          have:=touch_within (B:=xi.W r i oi) hkj.2.1.2 (fun id hid => h.wF id hid)
          rw [this] at htc
          cases htc.2
        · left
          refine ⟨rfl,?_⟩
          have e2:mo r ops xj j oj t s yj = if (!xj.q oj && s.touch (xj.W r j oj)) = true then .junk else s:=by
            unfold mo mergeOne
            rw [if_neg hdj,if_neg hkj,hcut]
          rw [e2]
          split
          · exact .inr rfl
          · exact .inl rfl
      · exact .inl rfl
  rcases three h hdi hdj yi yj with h1 | ⟨h1,h2⟩ | ⟨h1,h2⟩
  · rw [h1]
    rcases three h.symm hdj hdi yj yi with h3 | ⟨h3,h4⟩ | ⟨h3,h4⟩
    · rw [h3,h1]
    · rw [h3,junk_stays xi i oi yi hdi]
    · exact h4.symm
  · rw [h1,junk_stays xj j oj yj hdj]
    rcases h2 with h2 | h2
    · rw [h2,h1]
    · rw [h2,junk_stays xi i oi yi hdi]
  · rw [h2,h1]
end
end Go.V

namespace Go.V
open Go.RowKit
set_option linter.unusedSimpArgs false
set_option linter.unusedVariables false

section
variable {E:Env} {P:Program} {r:Nat} {ops:Array Oper}

theorem stM_comm {i j:Nat} {oi oj:Oper} {xi xj:OI} (h:Sep r ops i j oi oj xi xj) {st st1 st2:St} (h1:stM E P r ops xi i oi st = some st1) (h2:stM E P r ops xj j oj st1 = some st2) :
    ∃ st',stM E P r ops xj j oj st = some st' ∧ stM E P r ops xi i oi st' = some st2:=by
  unfold stM at h1 h2
  split at h1
  · rename_i hc1
    split at h1
    · rename_i rs1 hg1
      cases h1
      split at h2
      · rename_i hc2
        split at h2
        · rename_i rs2 hg2
          cases h2
          -- the looked-at slots of j are what they were
          have hsl:∀ t,(mergeSl (oi.looksAt ops) xi.D (fun id => xi.F.contains id) (xi.V r i oi) (xi.W r i oi) xi.p (xi.q oi) oi.dst 0 st.sl rs1.sl)[t]? = (st.sl[t]?).map fun s => mo r ops xi i oi t s (rs1.sl.getD t .junk):=fun t => by rw [mergeSl_at,Nat.zero_add]
          have hdl2:∀ t,(oj.looksAt ops).contains t = true → oi.dst ≠ some t:=fun t ht hd => by
            have:=h.l1 t hd
            rw [ht] at this; cases this
          have hl2:∀ t s,s.isTup = false → (oj.looksAt ops).contains t = true → st.sl[t]? = some s → mo r ops xi i oi t s (rs1.sl.getD t .junk) = s:=by
            intro t s hnt ht hs
            have hok:=List.all_eq_true.1 hc2.1 t (by simpa using ht)
            simp only [hsl,hs,Option.map_some,mo_isTup (hdl2 t ht),hnt,Bool.false_or,Bool.and_eq_true,Bool.not_eq_true'] at hok
            exact mo_back h hnt (hdl2 t ht) hok.1 hok.2
          have hrestr:restr (oj.looksAt ops) xj.D xj.F ⟨mergeSl (oi.looksAt ops) xi.D (fun id => xi.F.contains id) (xi.V r i oi) (xi.W r i oi) xi.p (xi.q oi) oi.dst 0 st.sl rs1.sl,fun id => if xi.W r i oi id = true then rs1.hp id else st.hp id⟩ = restr (oj.looksAt ops) xj.D xj.F st:=by
            unfold restr
            congr 1
            · apply List.ext_getElem?
              intro t
              rw [restrSl_at,restrSl_at,hsl,Nat.zero_add]
              cases hs:st.sl[t]? with
              | none => rfl
              | some s => simp only [Option.map_some]; rw [mo_restr h (fun hnt ht => hl2 t s hnt ht hs)]
            · funext id
              by_cases hF:xj.F.contains id = true
              · rw [if_pos hF,if_pos hF]
                have:xi.W r i oi id = false:=by
                  cases hv:xi.W r i oi id with
                  | false => rfl
                  | true => have:=h.wF id hv; rw [hF] at this; cases this
                simp only [this,Bool.false_eq_true,if_false]
              · rw [if_neg hF,if_neg hF]
          rw [hrestr] at hg2 hc2
          -- j first
          have hok2:looksOK (oj.looksAt ops) xj.F st = true:=by
            refine List.all_eq_true.2 fun t ht => ?_
            have hok:=List.all_eq_true.1 hc2.1 t ht
            simp only [hsl] at hok
            cases hs:st.sl[t]? with
            | none => simp [hs] at hok
            | some s =>
              simp only [hs,Option.map_some] at hok
              cases hnt:s.isTup with
              | true => simp only [hnt,Bool.true_or]
              | false =>
                rw [hl2 t s hnt (by simpa using ht) hs] at hok
                exact hok
          have hsl2:∀ t,(mergeSl (oj.looksAt ops) xj.D (fun id => xj.F.contains id) (xj.V r j oj) (xj.W r j oj) xj.p (xj.q oj) oj.dst 0 st.sl rs2.sl)[t]? = (st.sl[t]?).map fun s => mo r ops xj j oj t s (rs2.sl.getD t .junk):=fun t => by rw [mergeSl_at,Nat.zero_add]
          have hdl1:∀ t,(oi.looksAt ops).contains t = true → oj.dst ≠ some t:=fun t ht hd => by
            have:=h.l2 t hd
            rw [ht] at this; cases this
          have hl1:∀ t s,s.isTup = false → (oi.looksAt ops).contains t = true → st.sl[t]? = some s → mo r ops xj j oj t s (rs2.sl.getD t .junk) = s:=by
            intro t s hnt ht hs
            have hok:=List.all_eq_true.1 hc1.1 t (by simpa using ht)
            simp only [hs,hnt,Bool.false_or,Bool.and_eq_true,Bool.not_eq_true'] at hok
            exact mo_keeps h.symm (hdl1 t ht) hok.1
          have hrestr2:restr (oi.looksAt ops) xi.D xi.F ⟨mergeSl (oj.looksAt ops) xj.D (fun id => xj.F.contains id) (xj.V r j oj) (xj.W r j oj) xj.p (xj.q oj) oj.dst 0 st.sl rs2.sl,fun id => if xj.W r j oj id = true then rs2.hp id else st.hp id⟩ = restr (oi.looksAt ops) xi.D xi.F st:=by
            unfold restr
            congr 1
            · apply List.ext_getElem?
              intro t
              rw [restrSl_at,restrSl_at,hsl2,Nat.zero_add]
              cases hs:st.sl[t]? with
              | none => rfl
              | some s => simp only [Option.map_some]; rw [mo_restr h.symm (fun hnt ht => hl1 t s hnt ht hs)]
            · funext id
              by_cases hF:xi.F.contains id = true
              · rw [if_pos hF,if_pos hF]
                have:xj.W r j oj id = false:=by
                  cases hv:xj.W r j oj id with
                  | false => rfl
                  | true => have:=h.symm.wF id hv; rw [hF] at this; cases this
                simp only [this,Bool.false_eq_true,if_false]
              · rw [if_neg hF,if_neg hF]
          have hok1:looksOK (oi.looksAt ops) xi.F ⟨mergeSl (oj.looksAt ops) xj.D (fun id => xj.F.contains id) (xj.V r j oj) (xj.W r j oj) xj.p (xj.q oj) oj.dst 0 st.sl rs2.sl,fun id => if xj.W r j oj id = true then rs2.hp id else st.hp id⟩ = true:=by
            refine List.all_eq_true.2 fun t ht => ?_
            have hok:=List.all_eq_true.1 hc1.1 t ht
            simp only [hsl2]
            cases hs:st.sl[t]? with
            | none => simp [hs] at hok
            | some s =>
              simp only [hs] at hok
              simp only [Option.map_some]
              cases hnt:s.isTup with
              | true => rw [mo_isTup (hdl1 t (by simpa using ht)),hnt]; rfl
              | false =>
                rw [hl1 t s hnt (by simpa using ht) hs]
                exact hok
          refine ⟨⟨mergeSl (oj.looksAt ops) xj.D (fun id => xj.F.contains id) (xj.V r j oj) (xj.W r j oj) xj.p (xj.q oj) oj.dst 0 st.sl rs2.sl,fun id => if xj.W r j oj id = true then rs2.hp id else st.hp id⟩,?_,?_⟩
          · unfold stM
            rw [if_pos ⟨hok2,hc2.2⟩,hg2]
          · unfold stM
            rw [hrestr2,if_pos ⟨hok1,hc1.2⟩,hg1]
            simp only [Option.some.injEq]
            congr 1
            · apply List.ext_getElem?
              intro t
              rw [mergeSl_at,mergeSl_at,mergeSl_at,mergeSl_at]
              simp only [Nat.zero_add]
              cases hs:st.sl[t]? with
              | none => rfl
              | some s =>
                simp only [Option.map_some,Option.some.injEq]
                exact (mo_comm h t s (rs1.sl.getD t .junk) (rs2.sl.getD t .junk)).symm
            · funext id
              have hx:¬ (xi.W r i oi id = true ∧ xj.W r j oj id = true):=by
                rintro ⟨ha,hb⟩
                rw [h.wW id hb] at ha
                cases ha
              by_cases ha:xi.W r i oi id = true <;> by_cases hb:xj.W r j oj id = true
              · exact absurd ⟨ha,hb⟩ hx
              · simp only [if_pos ha,if_neg hb]
              · simp only [if_neg ha,if_pos hb]
              · simp only [if_neg ha,if_neg hb]
        · simp at h2
      · simp at h2
    · simp at h1
  · simp at h1

/-! ### every order -/
def waitsFor (ops:Array Oper):Nat → Nat → Nat → Bool
  | 0,_,_ => false
  | n + 1,i,j => match ops[j]? with
    | some o => o.after.any fun e => Region.binds .any e && (e.on == i || waitsFor ops n i e.on)
    | none => false
def stMi (E:Env) (P:Program) (r:Nat) (ops:Array Oper) (xs:List OI) (i:Nat) (st:St):Option St:=match ops[i]?,xs[i]? with
  | some o,some x => stM E P r ops x i o st
  | _,_ => none
def anyV (E:Env) (P:Program) (r:Nat) (ops:Array Oper) (xs:List OI) (K:St → Prop):Nat → Array Bool → St → Prop
  | 0,listed,st => Region.ready .any ops listed = [] ∧ K st
  | f + 1,listed,st => (Region.ready .any ops listed = [] → K st) ∧ ∀ i ∈ Region.ready .any ops listed,∃ st',stMi E P r ops xs i st = some st' ∧ anyV E P r ops xs K f (listed.setIfInBounds i true) st'

theorem anyV_sound {xs:List OI} {K:St → Prop} {I:Nat → Nat → Prop} {bs:List Nat} {A:AD} {w0:World} {Q:Exit → Act → World → Prop} (h0:tsz P nilE = 0) (hE:EnvOK P E) (hK:∀ st a w L,Sim (tsz P) I bs A w0 st a w L [] → K st → Q .normal a w) :
    ∀ (f:Nat) (listed:Array Bool) (st:St) (a:Act) (w:World) (L:Loc),Sim (tsz P) I bs A w0 st a w L [] → anyV E P r ops xs K f listed st → wpAny P .any ops Q f listed a w
  | 0,listed,st,a,w,L,h,hv => ⟨hv.1,hK st a w L h hv.2⟩
  | f + 1,listed,st,a,w,L,h,hv => by
    refine ⟨fun hr => hK st a w L h (hv.1 hr),fun i hi => ?_⟩
    obtain ⟨st',hm,hv'⟩:=hv.2 i hi
    unfold stMi at hm
    split at hm
    · rename_i o x ho hx
      refine wpOp_mono ?_ (stM_sound (Q:=Q) h h0 hE ho hm)
      rintro a' w' ⟨L',h'⟩
      exact anyV_sound h0 hE hK f _ st' a' w' L' h' hv'
    · simp at hm

def Closed (ops:Array Oper) (listed:Array Bool):Prop:=∀ m,listed.getD m false = true → ∀ o,ops[m]? = some o → ∀ e ∈ o.after,Region.binds .any e = true → listed.getD e.on false = true
theorem getD_tf {listed:Array Bool} {i:Nat} (h:listed.getD i true = false):listed.getD i false = false:=by
  rcases Nat.lt_or_ge i listed.size with h' | h'
  · simp [h'] at h ⊢; exact h
  · simp [Array.getElem?_eq_none h']
theorem not_waits {listed:Array Bool} (hc:Closed ops listed) {i:Nat} (hi:listed.getD i false = false):∀ (n m:Nat),listed.getD m false = true → waitsFor ops n i m = false
  | 0,m,_ => rfl
  | n + 1,m,hm => by
    unfold waitsFor
    split
    · rename_i o ho
      rw [Array.any_eq_false']
      intro e he hx
      simp only [Bool.and_eq_true,Bool.or_eq_true,beq_iff_eq] at hx
      have hl:=hc m hm o ho e he hx.1
      rcases hx.2 with h1 | h1
      · rw [h1,hi] at hl; cases hl
      · rw [not_waits hc hi n e.on hl] at h1; cases h1
    · rfl
theorem ready_waits {listed:Array Bool} (hc:Closed ops listed) {i j:Nat} (hi:listed.getD i false = false) (hj:j ∈ Region.ready .any ops listed):∀ n,waitsFor ops n i j = false
  | 0 => rfl
  | n + 1 => by
    obtain ⟨_,o,ho,hall⟩:=mem_ready.1 hj
    unfold waitsFor
    rw [ho]
    simp only
    rw [Array.any_eq_false']
    intro e he hx
    simp only [Bool.and_eq_true,Bool.or_eq_true,beq_iff_eq] at hx
    have hl:=hall e he hx.1
    rcases hx.2 with h1 | h1
    · rw [h1,hi] at hl; cases hl
    · rw [not_waits hc hi n e.on hl] at h1; cases h1
theorem Closed.add {listed:Array Bool} (hc:Closed ops listed) {j:Nat} (hj:j ∈ Region.ready .any ops listed):Closed ops (listed.setIfInBounds j true):=by
  intro m hm o ho e he hb
  refine getD_set_true ?_
  by_cases hmj:j = m
  · subst hmj
    obtain ⟨_,o',ho',hall⟩:=mem_ready.1 hj
    rw [ho] at ho'
    cases ho'
    exact hall e he hb
  · rw [getD_set_ne false hmj] at hm
    exact hc m hm o ho e he hb

theorem anyV_first {xs:List OI} {K:St → Prop} {i n:Nat}:∀ (f:Nat) (listed:Array Bool) (st st1:St),
    (∀ j,j ≠ i → listed.getD j true = false → waitsFor ops n i j = false → ∀ st st1 st2,stMi E P r ops xs i st = some st1 → stMi E P r ops xs j st1 = some st2 → ∃ st',stMi E P r ops xs j st = some st' ∧ stMi E P r ops xs i st' = some st2) →
    Closed ops listed → i ∈ Region.ready .any ops listed → stMi E P r ops xs i st = some st1 → anyV E P r ops xs K f (listed.setIfInBounds i true) st1 → anyV E P r ops xs K (f + 1) listed st:=by
  intro f
  induction f with
  | zero =>
    intro listed st st1 hcomm hc hr hm H
    refine ⟨fun h => (by rw [h] at hr; cases hr),fun j hj => ?_⟩
    by_cases hji:j = i
    · subst hji; exact ⟨st1,hm,H⟩
    · have:=ready_mono hj hji
      rw [H.1] at this
      cases this
  | succ f ih =>
    intro listed st st1 hcomm hc hr hm H
    refine ⟨fun h => (by rw [h] at hr; cases hr),fun j hj => ?_⟩
    by_cases hji:j = i
    · subst hji; exact ⟨st1,hm,H⟩
    · obtain ⟨st2,h2,H2⟩:=H.2 j (ready_mono hj hji)
      have hi0:=getD_tf (mem_ready.1 hr).1
      obtain ⟨st',h3,h4⟩:=hcomm j hji (mem_ready.1 hj).1 (ready_waits hc hi0 hj n) st st1 st2 hm h2
      refine ⟨st',h3,ih (listed.setIfInBounds j true) st' st2 (fun k hki hun hw => ?_) (hc.add hj) (ready_mono hr (Ne.symm hji)) h4 ?_⟩
      · refine hcomm k hki ?_ hw
        by_cases hjk:j = k
        · subst hjk; exact (mem_ready.1 hj).1
        · rw [getD_set_ne true hjk] at hun; exact hun
      · rw [Array.setIfInBounds_comm _ _ hji]
        exact H2

def lexRun (E:Env) (P:Program) (r:Nat) (ops:Array Oper) (xs:List OI):Nat → List Oper → St → Option St
  | _,[],st => some st
  | k,o :: rest,st => match xs[k]? with
    | some x => nxt (stM E P r ops x k o st) (lexRun E P r ops xs (k + 1) rest)
    | none => none
theorem anyV_lex {xs:List OI} {K:St → Prop} {n:Nat} {st':St} (hK:K st')
    (hcomm:∀ i j,i ≠ j → waitsFor ops n i j = false → waitsFor ops n j i = false → ∀ st st1 st2,stMi E P r ops xs i st = some st1 → stMi E P r ops xs j st1 = some st2 → ∃ st',stMi E P r ops xs j st = some st' ∧ stMi E P r ops xs i st' = some st2) :
    ∀ (l:List Oper) (k:Nat) (listed:Array Bool) (st:St),(∀ j,l[j]? = ops[k + j]?) → Region.lexFrom .any ops l.length k listed = true → Closed ops listed → lexRun E P r ops xs k l st = some st' → anyV E P r ops xs K l.length listed st
  | [],k,listed,st,_,hB,_,hl => by
    simp only [lexRun,Option.some.injEq] at hl
    subst hl
    exact ⟨by simpa [Region.lexFrom] using hB,hK⟩
  | o :: l,k,listed,st,hops,hB,hc,hl => by
    have ho:ops[k]? = some o:=by simpa using (hops 0).symm
    simp only [List.length_cons,Region.lexFrom,Bool.and_eq_true] at hB
    obtain ⟨⟨hr,_⟩,hB'⟩:=hB
    have hr':k ∈ Region.ready .any ops listed:=by simpa using hr
    simp only [lexRun] at hl
    split at hl
    · rename_i x hx
      unfold nxt at hl
      split at hl
      · rename_i st1 hm
        have hmi:stMi E P r ops xs k st = some st1:=by unfold stMi; rw [ho,hx]; exact hm
        refine anyV_first (n:=n) l.length listed st st1 (fun j hj hun hw => hcomm k j (Ne.symm hj) hw (ready_waits hc (getD_tf hun) hr' n)) hc hr' hmi ?_
        exact anyV_lex hK hcomm l (k + 1) _ st1 (fun j => by have:=hops (j + 1); simpa [Nat.add_assoc,Nat.add_comm 1 j] using this) hB' (hc.add hr') hl
      · simp at hl
    · simp at hl

/-! ### what is asked of each two -/
def sepB (r:Nat) (ops:Array Oper) (i j:Nat) (oi oj:Oper) (xi xj:OI):Bool :=
  (match oi.dst with | some d => !(oj.looksAt ops).contains d && xj.D.contains d && oj.dst != some d | none => true) &&
  (match oj.dst with | some d => !(oi.looksAt ops).contains d && xi.D.contains d | none => true) &&
  (xi.q oi || ((xi.p || xi.F.all (fun id => !xj.V r j oj id)) && xj.F.all (fun id => !ownB r i id))) &&
  (xj.q oj || ((xj.p || xj.F.all (fun id => !xi.V r i oi id)) && xi.F.all (fun id => !ownB r j id)))
theorem ownB_ne {i j:Nat} {id:Id} (hij:i ≠ j) (h:ownB r i id = true):ownB r j id = false:=by
  cases id with
  | arg a b => rfl
  | op a b c =>
    simp only [ownB,Bool.and_eq_true,beq_iff_eq] at h ⊢
    obtain ⟨rfl,rfl⟩:=h
    simp [hij]
theorem sepB_sound {i j:Nat} {oi oj:Oper} {xi xj:OI} (hij:i ≠ j) (h:sepB r ops i j oi oj xi xj = true):Sep r ops i j oi oj xi xj:=by
  simp only [sepB,Bool.and_eq_true,Bool.or_eq_true] at h
  obtain ⟨⟨⟨h1,h2⟩,h3⟩,h4⟩:=h
  have wv:∀ {i j:Nat} {oi oj:Oper} {xi xj:OI},i ≠ j → (xi.q oi = true ∨ ((xi.p = true ∨ xi.F.all (fun id => !xj.V r j oj id) = true) ∧ xj.F.all (fun id => !ownB r i id) = true)) → ∀ id,xi.W r i oi id = true → xj.V r j oj id = false:=by
    intro i j oi oj xi xj hij h id hv
    simp only [OI.W,Bool.or_eq_true,Bool.and_eq_true,Bool.not_eq_true'] at hv
    rcases h with h | ⟨ha,hb⟩
    · have hp:xi.p = true:=by simp only [OI.q,Bool.and_eq_true] at h; exact h.1
      rw [h,hp] at hv
      simp at hv
    · rcases hv with hv | hv
      · rcases ha with ha | ha
        · rw [hv.1] at ha; cases ha
        · simpa using List.all_eq_true.1 ha id (by simpa using hv.2)
      · simp only [OI.V,Bool.or_eq_false_iff]
        refine ⟨?_,by simp [ownB_ne hij hv.2]⟩
        cases hc:xj.F.contains id with
        | false => rfl
        | true =>
          have:=List.all_eq_true.1 hb id (by simpa using hc)
          rw [hv.2] at this
          cases this
  refine ⟨fun d hd => ?_,fun d hd => ?_,fun d hd he => ?_,fun d hd => ?_,fun d hd => ?_,wv hij h3,wv (Ne.symm hij) h4⟩
  · rw [hd] at h1; simp only [Bool.and_eq_true,Bool.not_eq_true'] at h1; exact h1.1.1
  · rw [hd] at h2; simp only [Bool.and_eq_true,Bool.not_eq_true'] at h2; exact h2.1
  · rw [hd] at h1; simp only [Bool.and_eq_true,bne_iff_ne,ne_eq] at h1; exact h1.2 he
  · rw [hd] at h1; simp only [Bool.and_eq_true] at h1; exact h1.1.2
  · rw [hd] at h2; simp only [Bool.and_eq_true] at h2; exact h2.2
end
end Go.V
