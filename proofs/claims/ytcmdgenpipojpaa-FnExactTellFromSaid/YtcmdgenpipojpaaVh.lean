/- The road V: code reckoned over trees of values, proved sound against the model once. No conditions. -/
import Derived.Test.YtcmdgenpipojpaaVg
import Derived.OrdersIn
set_option linter.all false
namespace Go.V
open Go.RowKit
set_option linter.unusedSimpArgs false
set_option linter.unusedVariables false

/-! ### code within a round of a range over a function -/
def ewpR (P:Program) (c:Code) (Q:Exit → St → Prop) (st:St):Prop :=
  ∀ (lb n:Nat) (I:Nat → Nat → Prop) (bs:List Nat) (A:AD) (w0:World) (a:Act) (w:World) (L:Loc),Sim (tsz P) I bs A w0 st a w L [] →
    c.wpIn (wideR (some lb)) n P (fun e a' w' => ∃ st' L',Sim (tsz P) I bs A w0 st' a' w' L' [] ∧ Q e st') a w
section
variable {P:Program} {Q:Exit → St → Prop} {st st':St}
theorem ewpR_mono {c:Code} {Q':Exit → St → Prop} (h:ewpR P c Q st) (hq:∀ e st,Q e st → Q' e st):ewpR P c Q' st :=
  fun lb n I bs A w0 a w L hs => wpIn_mono (h lb n I bs A w0 a w L hs) fun e a' w' ⟨st',L',h1,h2⟩ => ⟨st',L',h1,hq _ _ h2⟩
theorem ewpR_skip (h:Q .normal st):ewpR P .skip Q st:=fun lb n I bs A w0 a w L hs => wpIn_skip ⟨st,L,hs,h⟩
theorem ewpR_exit {id:Nat} (h:Q (.exit id) st):ewpR P (.exit id) Q st:=fun lb n I bs A w0 a w L hs => wpIn_exit ⟨st,L,hs,h⟩
theorem ewpR_seq {x y:Code} (h:ewpR P x (eThen (ewpR P y Q) Q) st):ewpR P (.seq x y) Q st:=by
  intro lb n I bs A w0 a w L hs
  refine wpIn_seq (wpIn_mono (h lb n I bs A w0 a w L hs) ?_)
  rintro e a' w' ⟨st',L',h1,h2⟩
  cases e <;> simp only [eThen] at h2 <;> simp only [Exit.then]
  · exact h2 lb n I bs A w0 a' w' L' h1
  all_goals exact ⟨st',L',h1,h2⟩
theorem ewpR_block {id:Nat} {c:Code} (h:ewpR P c (eBlock id Q) st):ewpR P (.block id c) Q st:=by
  intro lb n I bs A w0 a w L hs
  refine wpIn_block (wpIn_mono (h lb n I bs A w0 a w L hs) ?_)
  rintro e a' w' ⟨st',L',h1,h2⟩
  cases e <;> simp only [eBlock] at h2 <;> simp only [Exit.inBlock]
  case exit id' =>
    split at h2
    · rw [if_pos (by assumption)]; exact ⟨st',L',h1,h2⟩
    · rw [if_neg (by assumption)]; exact ⟨st',L',h1,h2⟩
  all_goals exact ⟨st',L',h1,h2⟩
theorem ewpR_cond {c:Operand} {x y:Code} {b:Bool} (hc:opv st c = some (.t (.raw (.bool b)))) (ht:b = true → ewpR P x Q st) (hf:b = false → ewpR P y Q st):ewpR P (.cond c x y) Q st:=by
  intro lb n I bs A w0 a w L hs
  have hv:a.eval c = .bool b:=by have:=opv_sound hs hc; simpa [SVR,Im] using this
  refine wpIn_cond hv ?_
  cases b
  · exact hf rfl lb n I bs A w0 a w L hs
  · exact ht rfl lb n I bs A w0 a w L hs
theorem ewpR_loop {c:Code} (Inv:Nat → St → Prop) (n:Nat) (h:Inv n st) (round:∀ n st,Inv n st → ewpR P c (eThen (fun st' => ∃ m,m < n ∧ Inv m st') Q) st):ewpR P (.loop c) Q st:=by
  intro lb rn I bs A w0 a w L hs
  classical
  let J:Nat → Act → World → Prop:=fun n a w => ∃ st L,Sim (tsz P) I bs A w0 st a w L [] ∧ Inv n st
  let μ:Act → World → Nat:=fun a w => if hx:∃ n,J n a w then Classical.choose (least hx) else 0
  have hμ:∀ a w n,J n a w → μ a w ≤ n:=by
    intro a w n hj
    have hx:∃ n,J n a w:=⟨n,hj⟩
    simp only [μ,dif_pos hx]
    exact (Classical.choose_spec (least hx)).2 n hj
  have hμ':∀ a w,(∃ n,J n a w) → J (μ a w) a w:=by
    intro a w hx
    simp only [μ,dif_pos hx]
    exact (Classical.choose_spec (least hx)).1
  refine wpIn_loop (fun a w => ∃ n,J n a w) μ ⟨n,st,L,hs,h⟩ ?_
  intro a w hx
  obtain ⟨st1,L1,h1,h2⟩:=hμ' a w hx
  refine wpIn_mono (round _ _ h2 lb rn I bs A w0 a w L1 h1) ?_
  rintro e a' w' ⟨st',L',h3,h4⟩
  cases e <;> simp only [eThen] at h4 <;> simp only [Exit.then]
  · obtain ⟨m,hm,hi⟩:=h4
    exact ⟨⟨m,st',L',h3,hi⟩,Nat.lt_of_le_of_lt (hμ a' w' m ⟨st',L',h3,hi⟩) hm⟩
  all_goals exact ⟨st',L',h3,h4⟩
theorem ewpR_drop {c:Code} (keep:List Nat) (ids:List Id) (h:ewpR P c Q (st.drop keep ids)):ewpR P c Q st:=by
  intro lb n I bs A w0 a w L hs
  obtain ⟨L',hs'⟩:=hs.lose keep ids
  exact h lb n I bs A w0 a w L' hs'
theorem loopSR {c:Code} (keep:List Nat) (ids:List Id) (J:Nat → St → Prop) (m:Nat) {st:St} (h:∀ Inv,Inv = J → Head Inv m (st.drop keep ids)) (round:∀ Inv,Inv = J → ∀ m st,J m st → ewpR P c (eThen (Rnd Inv m keep ids) Q) st):ewpR P (.loop c) Q st :=
  ewpR_loop (fun n st => J n (st.drop keep ids)) m (h J rfl) fun n st hi => ewpR_drop keep ids (round J rfl n _ hi)
end
section
variable {P:Program} {M:List (FuncId × List Nat)} {K:St → Prop} {st st':St} {o:Oper}
theorem stepR_nd {r i:Nat} (h:stepR P M r i o K st):notDefer o = true:=by
  unfold notDefer
  split
  · rename_i c hc
    exfalso
    unfold stepR at h
    have e1:isCall o = false:=by simp [isCall,hc]
    have e2:nilOp o = none:=by simp [nilOp,hc]
    have e3:stConv P st o = none:=by simp [stConv,hc]
    have e4:stClear P st o = none:=by simp [stClear,hc]
    have e5:stAppendR P r i st o = none:=by simp [stAppendR,hc]
    have e6:stStep E0 P r i st o = none:=by simp [stStep,hc]
    rw [e1,e2,e3,e4,e5,e6] at h
    simp [oels,onSome] at h
  · rfl
end
section
variable {P:Program} {M:List (FuncId × List Nat)} {K:St → Prop} {Q:Exit → Act → World → Prop} {n:Nat} {l:Option Nat} {I:Nat → Nat → Prop} {bs:List Nat} {A:AD} {w0:World}
theorem runIn2 {ops:Array Oper} {r:Nat} (h0:tsz P nilE = 0) (hQ:∀ st a' w' L',Sim (tsz P) I bs A w0 st a' w' L' [] → K st → Q .normal a' w'):∀ (rest:List Oper) (i:Nat) {st:St} {a:Act} {w:World} {L:Loc},Sim (tsz P) I bs A w0 st a w L [] → (∀ j,rest[j]? = ops[i + j]?) →
    runR P M r ops i rest K st → wpOpsIn (wideR l) n P ops Q (List.range' i rest.length) a w
  | [],i,st,a,w,L,h,_,hst => hQ st a w L h hst
  | o :: rest,i,st,a,w,L,h,hr,hst => by
    simp only [runR,app] at hst
    have hi:ops[i]? = some o:=by simpa using (hr 0).symm
    have hr':∀ j,rest[j]? = ops[i + 1 + j]?:=fun j => by have:=hr (j + 1); rwa [List.getElem?_cons_succ,show i + (j + 1) = i + 1 + j by omega] at this
    simp only [List.length_cons,List.range'_succ,wpOpsIn,hi]
    unfold grd at hst
    split at hst
    · rename_i b wn hg
      have hgs:guardSt ops st o = some (b == wn):=by rw [gcond_eq,hg]; rfl
      cases hbw:(b == wn)
      · rw [hbw] at hgs
        rw [guardSt_sound h hgs,if_neg (by simp)]
        exact ⟨fun _ _ => trivial,runIn2 h0 hQ rest (i + 1) (h.setS _ (by simp [SVR,Im])) hr' (hst.2 (by revert hbw; cases b <;> cases wn <;> decide))⟩
      · rw [hbw] at hgs
        rw [guardSt_sound h hgs,if_pos rfl]
        have hs:=hst.1 (by simpa using hbw)
        refine opIn (stepR_nd hs) (Oper.wp_mono (fun a' w' hh => ?_) (stepR_sound (Q:=Q) h h0 hs))
        obtain ⟨st',L',h',hk⟩:=hh
        exact runIn2 h0 hQ rest (i + 1) h' hr' hk
    · exact hst.elim
theorem wpOp0.toIn {ops:Array Oper} {i:Nat} {K:Act → World → Prop} {a:Act} {w:World} (hnd:ops.toList.all notDefer = true) (h:wpOp0 P ops Q i K a w):wpOpIn (wideR l) n P ops Q i K a w:=by
  unfold wpOp0 at h
  unfold wpOpIn
  split
  · rename_i hi; rw [hi] at h; exact h
  · rename_i o hi
    rw [hi] at h
    simp only at h
    split
    · rename_i hw
      rw [if_pos hw] at h
      exact opIn (List.all_eq_true.1 hnd o (by simpa using Array.mem_of_getElem? hi)) h
    · rename_i hw; rw [if_neg hw] at h; exact ⟨fun _ _ => trivial,h⟩
theorem anyV_in {E:Env} {ops:Array Oper} {r:Nat} {xs:List OI} (h0:tsz P nilE = 0) (hE:EnvOK P E) (hnd:ops.toList.all notDefer = true) (hK:∀ st a w L,Sim (tsz P) I bs A w0 st a w L [] → K st → Q .normal a w) :
    ∀ (f:Nat) (listed:Array Bool) (st:St) (a:Act) (w:World) (L:Loc),Sim (tsz P) I bs A w0 st a w L [] → anyV E P r ops xs K f listed st → wpAnyIn (wideR l) n P .any ops Q f listed a w
  | 0,listed,st,a,w,L,h,hv => ⟨hv.1,hK st a w L h hv.2⟩
  | f + 1,listed,st,a,w,L,h,hv => by
    refine ⟨fun hr => hK st a w L h (hv.1 hr),fun i hi => ?_⟩
    obtain ⟨st',hm,hv'⟩:=hv.2 i hi
    unfold stMi at hm
    split at hm
    · rename_i o x ho hx
      refine wpOpIn_mono ?_ (wpOp0.toIn (Q:=Q) hnd (stM_sound0 (Q:=Q) h h0 hE ho hm))
      rintro a' w' ⟨L',h'⟩
      exact anyV_in h0 hE hnd hK f _ st' a' w' L' h' hv'
    · simp at hm
end
def ewrR (P:Program) (M:List (FuncId × List Nat)):Code → (Exit → St → Prop) → St → Prop
  | .skip,Q,st => Q .normal st
  | .seq a b,Q,st => ewrR P M a (eThen (ewrR P M b Q) Q) st
  | .cond c x y,Q,st => brn (opv st c) (app (ewrR P M x Q) st) (app (ewrR P M y Q) st)
  | .block id c,Q,st => ewrR P M c (eBlock id Q) st
  | .exit id,Q,st => Q (.exit id) st
  | .region id ops false,Q,st => runR P M id ops 0 ops.toList (Q .normal) st
  | .loop c,Q,st => ewpR P (.loop c) Q st
  | .region id ops true,Q,st => ewpR P (.region id ops true) Q st
  | _,_,_ => False
section
variable {P:Program} {M:List (FuncId × List Nat)} {Q:Exit → St → Prop} {K:St → Prop} {st st':St} {a b:Code} {c:Operand} {id:Nat} {ops:Array Oper}
theorem ewrR_skip:ewrR P M .skip Q st = Q .normal st:=rfl
theorem ewrR_seq:ewrR P M (.seq a b) Q st = ewrR P M a (eThen (ewrR P M b Q) Q) st:=rfl
theorem ewrR_cond:ewrR P M (.cond c a b) Q st = brn (opv st c) (app (ewrR P M a Q) st) (app (ewrR P M b Q) st):=rfl
theorem ewrR_block:ewrR P M (.block id a) Q st = ewrR P M a (eBlock id Q) st:=rfl
theorem ewrR_exit:ewrR P M (.exit id) Q st = Q (.exit id) st:=rfl
theorem ewrR_region:ewrR P M (.region id ops false) Q st = runR P M id ops 0 ops.toList (Q .normal) st:=rfl
theorem ewrR_draw:ewrR P M (.region id ops true) Q st = ewpR P (.region id ops true) Q st:=rfl
theorem ewrR_loop:ewrR P M (.loop a) Q st = ewpR P (.loop a) Q st:=rfl
theorem ewrR_congr (h:st = st'):ewrR P M a Q st = ewrR P M a Q st':=by rw [h]
theorem ewpR_congr (h:st = st'):ewpR P a Q st = ewpR P a Q st':=by rw [h]
theorem ewrR_sound (h0:tsz P nilE = 0):∀ {c:Code} {Q:Exit → St → Prop} {st:St},ewrR P M c Q st → ewpR P c Q st
  | .skip,_,_,h => ewpR_skip (by simpa only [ewrR] using h)
  | .seq a b,Q,st,h => by
    simp only [ewrR] at h
    refine ewpR_seq (ewpR_mono (ewrR_sound h0 h) ?_)
    intro e st' hx
    cases e <;> simp only [eThen] at hx ⊢
    · exact ewrR_sound h0 hx
    all_goals exact hx
  | .cond c x y,Q,st,h => by
    simp only [ewrR,brn] at h
    split at h
    · rename_i b hb
      exact ewpR_cond hb (fun hx => ewrR_sound h0 (h.1 hx)) (fun hx => ewrR_sound h0 (h.2 hx))
    · exact h.elim
  | .block id c,Q,st,h => by
    simp only [ewrR] at h
    exact ewpR_block (ewrR_sound h0 h)
  | .exit id,_,_,h => ewpR_exit (by simpa only [ewrR] using h)
  | .ret,_,_,h => by simp only [ewrR] at h
  | .region id ops false,Q,st,h => by
    simp only [ewrR] at h
    intro lb n I bs A w0 a w L hs
    refine wpIn_region ?_
    have:=runIn2 (l:=some lb) (n:=n) (Q:=fun e a' w' => ∃ st' L',Sim (tsz P) I bs A w0 st' a' w' L' [] ∧ Q e st') h0 (fun st a' w' L' h' hk => ⟨st,L',h',hk⟩) ops.toList 0 hs (fun j => by simp) h
    simpa [List.range_eq_range'] using this
  | .loop c,Q,st,h => by simpa only [ewrR] using h
  | .region id ops true,Q,st,h => by simpa only [ewrR] using h
  | .rangeFunc _ _ _ _,_,_,h => by simp only [ewrR] at h
  | .scope _,_,_,h => by simp only [ewrR] at h
  | .label _,_,_,h => by simp only [ewrR] at h
  | .goto _,_,_,h => by simp only [ewrR] at h
  | .refuse _,_,_,h => by simp only [ewrR] at h
theorem drawPR (E:Env) (xs:List OI) (h0:tsz P nilE = 0) (hm:P.follows .mixedOrders = true) (hE:EnvOK P E) (hB:(Region.lexB .any ops && ops.toList.all notDefer) = true) (hp:pairs2 id ops xs = true)
    (h:onSome (lexRunL E P id ops xs ops.toList 0 st) (Q .normal)):ewpR P (.region id ops true) Q st:=by
  rw [Bool.and_eq_true] at hB
  rw [lexRunL_eq xs ops.toList 0 xs st (fun j => by rw [Nat.zero_add])] at h
  unfold onSome at h
  split at h
  · rename_i st' hr
    intro lb n I bs A w0 a w L hs
    refine wpIn_region_any hm ?_
    have hd:RowKit.Below w.heap.size w { w with drawn:=w.drawn + 1 }:=drew_below w
    have hs':=hs.grow hd (Nat.le_succ _)
    exact anyV_in (r:=id) (xs:=xs) (K:=Q .normal) h0 hE hB.2 (fun st a w L h1 h2 => ⟨st,L,h1,h2⟩) _ _ st a _ L hs' (anyV_pairs2 xs hB.1 hp hr h)
  · exact h.elim
/-- A round's code, for a range over a function. -/
theorem stepIn_of {c:Code} {I:Nat → Nat → Prop} {n lb:Nat} {st1:St} (keep:List Nat) (ids:List Id) (h0:tsz P nilE = 0) (h:∀ K:Exit → St → Prop,(∀ st',st'.drop keep ids = st1 → K .normal st') → ewrR P M c K st):StepIn P I n lb c st st1:=by
  intro bs A w0 a w L Q hs hQ
  have:=ewrR_sound (M:=M) h0 (h (fun e st' => e = .normal ∧ st'.drop keep ids = st1) fun st' e => ⟨rfl,e⟩)
  refine wpIn_mono (this lb n I bs A w0 a w L hs) ?_
  rintro e a' w' ⟨st',L',h1,rfl,h2⟩
  obtain ⟨L2,h3⟩:=h1.lose keep ids
  rw [h2] at h3
  exact hQ a' w' L2 h3
end
attribute [congr] ewrR_congr ewpR_congr
attribute [simp] ewrR_skip ewrR_seq ewrR_cond ewrR_block ewrR_exit ewrR_region ewrR_draw ewrR_loop
/-! ### cuts and loops where ranges over functions stand -/
theorem ewrN_soundD {P:Program} {M:List (FuncId × List Nat)} (h0:tsz P nilE = 0) {K:St → Prop} {Q:Exit → St → Prop}:∀ (n:Nat) {c:Code} {st:St},(∀ st,K st → ewpD P (Code.rest n c) Q st) → ewrN P M n c K Q st → ewpD P c Q st
  | 0,c,st,hK,h => by
    have:=hK st h
    cases c <;> simpa only [Code.rest] using this
  | n + 1,c,st,hK,h => by
    cases c <;> simp only [ewrN] at h
    case seq a b =>
      refine ewpD_seq (ewpD_mono (ewpD_of (ewr_sound h0 h)) ?_)
      intro e st' h'
      cases e <;> simp only [eThen] at h' ⊢
      · exact ewrN_soundD h0 n (fun st hs => by have:=hK st hs; simpa only [Code.rest] using this) h'
      all_goals exact h'
theorem ewrN_cutD {P:Program} {M:List (FuncId × List Nat)} (h0:tsz P nilE = 0) (n:Nat) (keep:List Nat) (ids:List Id) (st1:St) {c:Code} {Q:Exit → St → Prop} {st:St} (hrest:ewpD P (Code.rest n c) Q st1) (h:∀ K:St → Prop,(∀ st,st.drop keep ids = st1 → K st) → ewrN P M n c K Q st):ewpD P c Q st :=
  ewrN_soundD h0 n (K:=fun st => ewpD P (Code.rest n c) Q st) (fun _ hk => hk) (h _ fun st e => by
    refine ewpD_drop keep ids ?_
    rw [e]
    exact hrest)
theorem loopD {P:Program} {Q:Exit → St → Prop} {c:Code} (keep:List Nat) (ids:List Id) (J:Nat → St → Prop) (m:Nat) {st:St} (h:∀ Inv,Inv = J → Head Inv m (st.drop keep ids)) (round:∀ Inv,Inv = J → ∀ m st,J m st → ewpD P c (eThen (Rnd Inv m keep ids) Q) st):ewpD P (.loop c) Q st :=
  ewpD_loop (fun n st => J n (st.drop keep ids)) m (h J rfl) fun n st hi => ewpD_drop keep ids (round J rfl n _ hi)
/-- Plain code walked where no round is. -/
theorem codeT {P:Program} {I:Nat → Nat → Prop} {bs:List Nat} {A:AD} {w0 w:World} {a:Act} {L:Loc} {n:Nat} {c:Code} {Q:Exit → Act → World → Prop} {st:St} (keep:List Nat) (ids:List Id) (st1:St) (hs:Sim (tsz P) I bs A w0 st a w L [])
    (hr:∀ K:Exit → St → Prop,(∀ st',st'.drop keep ids = st1 → K .normal st') → ewp P c K st) (h:∀ a' w' L',Sim (tsz P) I bs A w0 st1 a' w' L' [] → Q .normal a' w'):c.wpIn (wideR none) n P Q a w:=by
  refine wpIn_wide.2 (wp_mono (hr (fun e st' => e = .normal ∧ st'.drop keep ids = st1) (fun st' e => ⟨rfl,e⟩) I bs A w0 a w L hs) ?_)
  rintro e a' w' ⟨st',L',h1,rfl,h2⟩
  obtain ⟨L2,h3⟩:=h1.lose keep ids
  rw [h2] at h3
  exact h a' w' L2 h3
theorem rangeD2 {P:Program} {n N g p f q m:Nat} {caps:List (List PT)} {asg bdy:Code} {l:List (Nat × SV)} {hp0:List (Id × PT)} (H:Nat → List (Id × PT)) (sv:Nat → SV) (st1:Nat → St) (sl2:Nat → List SV) {Q:Exit → St → Prop} (hgN:g < N) (hgl:slGet l g = .t (.fn q f caps)) (hH0:hp0 = H 0)
    (hcf:∀ args w,(callFunc f args).run P w = .ok (.enter f args) w)
    (hit:∀ (I:Nat → Nat → Prop) (l:Nat) (vs:List Value) (J:Nat → World → Prop) (W:World),ImC W I q vs caps → (∀ k b,I k b → b < W.heap.size) → (∀ i W',J i W' → W.heap.size ≤ W'.heap.size ∧ ∀ k b,I k b → W'.heap[b]? = W.heap[b]?) →
      (∀ i W1 W2,J i W1 → RowKit.Below W1.heap.size W1 W2 → W1.drawn ≤ W2.drawn → J i W2) → (∀ i,i < m → ∀ (W1:World) (va:Value),J i W1 → (∀ L,SVR (tsz P) L W1 I va (sv i)) → YieldAt (wideR none) n P l #[va] W1 fun e W' => e = .returned (.bool true) ∧ J (i + 1) W') → J 0 W →
      CallsIn (wideR none) (n + 1) P f (#[.func (.yield l) #[] #[]] ++ vs.toArray) W fun e W' => (∃ v,e = .returned v) ∧ J m W')
    (hA:∀ I lb i,i < m → StepIn P I n lb asg ⟨slOf N ((p,sv i) :: l),ofL (H i)⟩ (st1 i))
    (hB:∀ I lb i,i < m → StepIn P I n lb bdy (st1 i) ⟨sl2 i,ofL (H (i + 1))⟩)
    (hl:∀ i,i ≤ m → ∀ x ∈ l,SlotOK (H i) x.2)
    (hQ:Q .normal ⟨slOf N l,ofL (H m)⟩):ewpD P (.rangeFunc (.tmp g) #[p] asg bdy) Q ⟨slOf N l,ofL hp0⟩:=by
  subst hH0
  exact rangeD hgN hgl hcf hit hA hB hl hQ
end Go.V
