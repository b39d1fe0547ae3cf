/- The road V: code reckoned over trees of values, proved sound against the model once. No conditions. -/
import Derived.Test.YtcmdgenpipojpaaGreatVg
import Derived.OrdersIn
set_option linter.all false
namespace Go.V
open Go.RowKit
set_option linter.unusedSimpArgs false
set_option linter.unusedVariables false

/-! ### code within a round of a range over a function -/
def ewpR (P:Program) (c:Code) (Q:Exit → St → Prop) (st:St):Prop :=
  ∀ (lb n:Nat) (I:Nat → Nat → Prop) (bs:List Nat) (A:AD) (w0:World) (a:Act) (w:World) (L:Loc),Sim (tsz P) I bs A w0 st a w L [] →
    c.wpIn (wideR (some lb)) n P (fun e a' w' => ∃ st' L',Sim (tsz P) I bs A w0 st' a' w' L' [] ∧ Q e st') a w
section
variable {P:Program} {Q:Exit → St → Prop} {st st':St}
theorem ewpR_mono {c:Code} {Q':Exit → St → Prop} (h:ewpR P c Q st) (hq:∀ e st,Q e st → Q' e st):ewpR P c Q' st :=
  fun lb n I bs A w0 a w L hs => wpIn_mono (h lb n I bs A w0 a w L hs) fun e a' w' ⟨st',L',h1,h2⟩ => ⟨st',L',h1,hq _ _ h2⟩
theorem ewpR_skip (h:Q .normal st):ewpR P .skip Q st:=fun lb n I bs A w0 a w L hs => wpIn_skip ⟨st,L,hs,h⟩
theorem ewpR_exit {id:Nat} (h:Q (.exit id) st):ewpR P (.exit id) Q st:=fun lb n I bs A w0 a w L hs => wpIn_exit ⟨st,L,hs,h⟩
theorem ewpR_seq {x y:Code} (h:ewpR P x (eThen (ewpR P y Q) Q) st):ewpR P (.seq x y) Q st:=by
  intro lb n I bs A w0 a w L hs
  refine wpIn_seq (wpIn_mono (h lb n I bs A w0 a w L hs) ?_)
  rintro e a' w' ⟨st',L',h1,h2⟩
  cases e <;> simp only [eThen] at h2 <;> simp only [Exit.then]
  · exact h2 lb n I bs A w0 a' w' L' h1
  all_goals exact ⟨st',L',h1,h2⟩
theorem ewpR_block {id:Nat} {c:Code} (h:ewpR P c (eBlock id Q) st):ewpR P (.block id c) Q st:=by
  intro lb n I bs A w0 a w L hs
  refine wpIn_block (wpIn_mono (h lb n I bs A w0 a w L hs) ?_)
  rintro e a' w' ⟨st',L',h1,h2⟩
  cases e <;> simp only [eBlock] at h2 <;> simp only [Exit.inBlock]
  case exit id' =>
    split at h2
    · rw [if_pos (by assumption)]; exact ⟨st',L',h1,h2⟩
    · rw [if_neg (by assumption)]; exact ⟨st',L',h1,h2⟩
  all_goals exact ⟨st',L',h1,h2⟩
theorem ewpR_cond {c:Operand} {x y:Code} {b:Bool} (hc:opv st c = some (.t (.raw (.bool b)))) (ht:b = true → ewpR P x Q st) (hf:b = false → ewpR P y Q st):ewpR P (.cond c x y) Q st:=by
  intro lb n I bs A w0 a w L hs
  have hv:a.eval c = .bool b:=by have:=opv_sound hs hc; simpa [SVR,Im] using this
  refine wpIn_cond hv ?_
  cases b
  · exact hf rfl lb n I bs A w0 a w L hs
  · exact ht rfl lb n I bs A w0 a w L hs
theorem ewpR_loop {c:Code} (Inv:Nat → St → Prop) (n:Nat) (h:Inv n st) (round:∀ n st,Inv n st → ewpR P c (eThen (fun st' => ∃ m,m < n ∧ Inv m st') Q) st):ewpR P (.loop c) Q st:=by
  intro lb rn I bs A w0 a w L hs
  classical
  let J:Nat → Act → World → Prop:=fun n a w => ∃ st L,Sim (tsz P) I bs A w0 st a w L [] ∧ Inv n st
  let μ:Act → World → Nat:=fun a w => if hx:∃ n,J n a w then Classical.choose (least hx) else 0
  have hμ:∀ a w n,J n a w → μ a w ≤ n:=by
    intro a w n hj
    have hx:∃ n,J n a w:=⟨n,hj⟩
    simp only [μ,dif_pos hx]
    exact (Classical.choose_spec (least hx)).2 n hj
  have hμ':∀ a w,(∃ n,J n a w) → J (μ a w) a w:=by
    intro a w hx
    simp only [μ,dif_pos hx]
    exact (Classical.choose_spec (least hx)).1
  refine wpIn_loop (fun a w => ∃ n,J n a w) μ ⟨n,st,L,hs,h⟩ ?_
  intro a w hx
  obtain ⟨st1,L1,h1,h2⟩:=hμ' a w hx
  refine wpIn_mono (round _ _ h2 lb rn I bs A w0 a w L1 h1) ?_
  rintro e a' w' ⟨st',L',h3,h4⟩
  cases e <;> simp only [eThen] at h4 <;> simp only [Exit.then]
  · obtain ⟨m,hm,hi⟩:=h4
    exact ⟨⟨m,st',L',h3,hi⟩,Nat.lt_of_le_of_lt (hμ a' w' m ⟨st',L',h3,hi⟩) hm⟩
  all_goals exact ⟨st',L',h3,h4⟩
theorem ewpR_drop {c:Code} (keep:List Nat) (ids:List Id) (h:ewpR P c Q (st.drop keep ids)):ewpR P c Q st:=by
  intro lb n I bs A w0 a w L hs
  obtain ⟨L',hs'⟩:=hs.lose keep ids
  exact h lb n I bs A w0 a w L' hs'
theorem loopSR {c:Code} (keep:List Nat) (ids:List Id) (J:Nat → St → Prop) (m:Nat) {st:St} (h:∀ Inv,Inv = J → Head Inv m (st.drop keep ids)) (round:∀ Inv,Inv = J → ∀ m st,J m st → ewpR P c (eThen (Rnd Inv m keep ids) Q) st):ewpR P (.loop c) Q st :=
  ewpR_loop (fun n st => J n (st.drop keep ids)) m (h J rfl) fun n st hi => ewpR_drop keep ids (round J rfl n _ hi)
end
section
variable {P:Program} {M:List (FuncId × List Nat)} {K:St → Prop} {st st':St} {o:Oper}
theorem stepR_nd {r i:Nat} (h:stepR P M r i o K st):notDefer o = true:=by
  unfold notDefer
  split
  · rename_i c hc
    exfalso
    unfold stepR at h
    have e1:isCall o = false:=by simp [isCall,hc]
    have e2:nilOp o = none:=by simp [nilOp,hc]
    have e3:stConv P st o = none:=by simp [stConv,hc]
    have e4:stClear P st o = none:=by simp [stClear,hc]
    have e5:stAppendR P r i st o = none:=by simp [stAppendR,hc]
    have e6:stStep E0 P r i st o = none:=by simp [stStep,hc]
    rw [e1,e2,e3,e4,e5,e6] at h
    simp [oels,onSome] at h
  · rfl
end
section
variable {P:Program} {M:List (FuncId × List Nat)} {K:St → Prop} {Q:Exit → Act → World → Prop} {n:Nat} {l:Option Nat} {I:Nat → Nat → Prop} {bs:List Nat} {A:AD} {w0:World}
theorem runIn2 {ops:Array Oper} {r:Nat} (h0:tsz P nilE = 0) (hQ:∀ st a' w' L',Sim (tsz P) I bs A w0 st a' w' L' [] → K st → Q .normal a' w'):∀ (rest:List Oper) (i:Nat) {st:St} {a:Act} {w:World} {L:Loc},Sim (tsz P) I bs A w0 st a w L [] → (∀ j,rest[j]? = ops[i + j]?) →
    runR P M r ops i rest K st → wpOpsIn (wideR l) n P ops Q (List.range' i rest.length) a w
  | [],i,st,a,w,L,h,_,hst => hQ st a w L h hst
  | o :: rest,i,st,a,w,L,h,hr,hst => by
    simp only [runR,app] at hst
    have hi:ops[i]? = some o:=by simpa using (hr 0).symm
    have hr':∀ j,rest[j]? = ops[i + 1 + j]?:=fun j => by have:=hr (j + 1); rwa [List.getElem?_cons_succ,show i + (j + 1) = i + 1 + j by omega] at this
    simp only [List.length_cons,List.range'_succ,wpOpsIn,hi]
    unfold grd at hst
    split at hst
    · rename_i b wn hg
      have hgs:guardSt ops st o = some (b == wn):=by rw [gcond_eq,hg]; rfl
      cases hbw:(b == wn)
      · rw [hbw] at hgs
        rw [guardSt_sound h hgs,if_neg (by simp)]
        exact ⟨fun _ _ => trivial,runIn2 h0 hQ rest (i + 1) (h.setS _ (by simp [SVR,Im])) hr' (hst.2 (by revert hbw; cases b <;> cases wn <;> decide))⟩
      · rw [hbw] at hgs
        rw [guardSt_sound h hgs,if_pos rfl]
        have hs:=hst.1 (by simpa using hbw)
        refine opIn (stepR_nd hs) (Oper.wp_mono (fun a' w' hh => ?_) (stepR_sound (Q:=Q) h h0 hs))
        obtain ⟨st',L',h',hk⟩:=hh
        exact runIn2 h0 hQ rest (i + 1) h' hr' hk
    · exact hst.elim
theorem wpOp0.toIn {ops:Array Oper} {i:Nat} {K:Act → World → Prop} {a:Act} {w:World} (hnd:ops.toList.all notDefer = true) (h:wpOp0 P ops Q i K a w):wpOpIn (wideR l) n P ops Q i K a w:=by
  unfold wpOp0 at h
  unfold wpOpIn
  split
  · rename_i hi; rw [hi] at h; exact h
  · rename_i o hi
    rw [hi] at h
    simp only at h
    split
    · rename_i hw
      rw [if_pos hw] at h
      exact opIn (List.all_eq_true.1 hnd o (by simpa using Array.mem_of_getElem? hi)) h
    · rename_i hw; rw [if_neg hw] at h; exact ⟨fun _ _ => trivial,h⟩
theorem anyV_in {E:Env} {ops:Array Oper} {r:Nat} {xs:List OI} (h0:tsz P nilE = 0) (hE:EnvOK P E) (hnd:ops.toList.all notDefer = true) (hK:∀ st a w L,Sim (tsz P) I bs A w0 st a w L [] → K st → Q .normal a w) :
    ∀ (f:Nat) (listed:Array Bool) (st:St) (a:Act) (w:World) (L:Loc),Sim (tsz P) I bs A w0 st a w L [] → anyV E P r ops xs K f listed st → wpAnyIn (wideR l) n P .any ops Q f listed a w
  | 0,listed,st,a,w,L,h,hv => ⟨hv.1,hK st a w L h hv.2⟩
  | f + 1,listed,st,a,w,L,h,hv => by
    refine ⟨fun hr => hK st a w L h (hv.1 hr),fun i hi => ?_⟩
    obtain ⟨st',hm,hv'⟩:=hv.2 i hi
    unfold stMi at hm
    split at hm
    · rename_i o x ho hx
      refine wpOpIn_mono ?_ (wpOp0.toIn (Q:=Q) hnd (stM_sound0 (Q:=Q) h h0 hE ho hm))
      rintro a' w' ⟨L',h'⟩
      exact anyV_in h0 hE hnd hK f _ st' a' w' L' h' hv'
    · simp at hm
end
def ewrR (P:Program) (M:List (FuncId × List Nat)):Code → (Exit → St → Prop) → St → Prop
  | .skip,Q,st => Q .normal st
  | .seq a b,Q,st => ewrR P M a (eThen (ewrR P M b Q) Q) st
  | .cond c x y,Q,st => brn (opv st c) (app (ewrR P M x Q) st) (app (ewrR P M y Q) st)
  | .block id c,Q,st => ewrR P M c (eBlock id Q) st
  | .exit id,Q,st => Q (.exit id) st
  | .region id ops false,Q,st => runR P M id ops 0 ops.toList (Q .normal) st
  | .loop c,Q,st => ewpR P (.loop c) Q st
  | .region id ops true,Q,st => ewpR P (.region id ops true) Q st
  | _,_,_ => False
section
variable {P:Program} {M:List (FuncId × List Nat)} {Q:Exit → St → Prop} {K:St → Prop} {st st':St} {a b:Code} {c:Operand} {id:Nat} {ops:Array Oper}
theorem ewrR_skip:ewrR P M .skip Q st = Q .normal st:=rfl
theorem ewrR_seq:ewrR P M (.seq a b) Q st = ewrR P M a (eThen (ewrR P M b Q) Q) st:=rfl
theorem ewrR_cond:ewrR P M (.cond c a b) Q st = brn (opv st c) (app (ewrR P M a Q) st) (app (ewrR P M b Q) st):=rfl
theorem ewrR_block:ewrR P M (.block id a) Q st = ewrR P M a (eBlock id Q) st:=rfl
theorem ewrR_exit:ewrR P M (.exit id) Q st = Q (.exit id) st:=rfl
theorem ewrR_region:ewrR P M (.region id ops false) Q st = runR P M id ops 0 ops.toList (Q .normal) st:=rfl
theorem ewrR_draw:ewrR P M (.region id ops true) Q st = ewpR P (.region id ops true) Q st:=rfl
theorem ewrR_loop:ewrR P M (.loop a) Q st = ewpR P (.loop a) Q st:=rfl
theorem ewrR_congr (h:st = st'):ewrR P M a Q st = ewrR P M a Q st':=by rw [h]
theorem ewpR_congr (h:st = st'):ewpR P a Q st = ewpR P a Q st':=by rw [h]
theorem ewrR_sound (h0:tsz P nilE = 0):∀ {c:Code} {Q:Exit → St → Prop} {st:St},ewrR P M c Q st → ewpR P c Q st
  | .skip,_,_,h => ewpR_skip (by simpa only [ewrR] using h)
  | .seq a b,Q,st,h => by
    simp only [ewrR] at h
    refine ewpR_seq (ewpR_mono (ewrR_sound h0 h) ?_)
    intro e st' hx
    cases e <;> simp only [eThen] at hx ⊢
    · exact ewrR_sound h0 hx
    all_goals exact hx
  | .cond c x y,Q,st,h => by
    simp only [ewrR,brn] at h
    split at h
    · rename_i b hb
      exact ewpR_cond hb (fun hx => ewrR_sound h0 (h.1 hx)) (fun hx => ewrR_sound h0 (h.2 hx))
    · exact h.elim
  | .block id c,Q,st,h => by
    simp only [ewrR] at h
    exact ewpR_block (ewrR_sound h0 h)
  | .exit id,_,_,h => ewpR_exit (by simpa only [ewrR] using h)
  | .ret,_,_,h => by simp only [ewrR] at h
  | .region id ops false,Q,st,h => by
    simp only [ewrR] at h
    intro lb n I bs A w0 a w L hs
    refine wpIn_region ?_
    have:=runIn2 (l:=some lb) (n:=n) (Q:=fun e a' w' => ∃ st' L',Sim (tsz P) I bs A w0 st' a' w' L' [] ∧ Q e st') h0 (fun st a' w' L' h' hk => ⟨st,L',h',hk⟩) ops.toList 0 hs (fun j => by simp) h
    simpa [List.range_eq_range'] using this
  | .loop c,Q,st,h => by simpa only [ewrR] using h
  | .region id ops true,Q,st,h => by simpa only [ewrR] using h
  | .rangeFunc _ _ _ _,_,_,h => by simp only [ewrR] at h
  | .scope _,_,_,h => by simp only [ewrR] at h
  | .label _,_,_,h => by simp only [ewrR] at h
  | .goto _,_,_,h => by simp only [ewrR] at h
  | .refuse _,_,_,h => by simp only [ewrR] at h
theorem drawPR (E:Env) (xs:List OI) (h0:tsz P nilE = 0) (hm:P.follows .mixedOrders = true) (hE:EnvOK P E) (hB:(Region.lexB .any ops && ops.toList.all notDefer) = true) (hp:pairs2 id ops xs = true)
    (h:onSome (lexRunL E P id ops xs ops.toList 0 st) (Q .normal)):ewpR P (.region id ops true) Q st:=by
  rw [Bool.and_eq_true] at hB
  rw [lexRunL_eq xs ops.toList 0 xs st (fun j => by rw [Nat.zero_add])] at h
  unfold onSome at h
  split at h
  · rename_i st' hr
    intro lb n I bs A w0 a w L hs
    refine wpIn_region_any hm ?_
    have hd:RowKit.Below w.heap.size w { w with drawn:=w.drawn + 1 }:=drew_below w
    have hs':=hs.grow hd (Nat.le_succ _)
    exact anyV_in (r:=id) (xs:=xs) (K:=Q .normal) h0 hE hB.2 (fun st a w L h1 h2 => ⟨st,L,h1,h2⟩) _ _ st a _ L hs' (anyV_pairs2 xs hB.1 hp hr h)
  · exact h.elim
/-- A round's code, for a range over a function. -/
theorem stepIn_of {c:Code} {I:Nat → Nat → Prop} {n lb:Nat} {st1:St} (keep:List Nat) (ids:List Id) (h0:tsz P nilE = 0) (h:∀ K:Exit → St → Prop,(∀ st',st'.drop keep ids = st1 → K .normal st') → ewrR P M c K st):StepIn P I n lb c st st1:=by
  intro bs A w0 a w L Q hs hQ
  have:=ewrR_sound (M:=M) h0 (h (fun e st' => e = .normal ∧ st'.drop keep ids = st1) fun st' e => ⟨rfl,e⟩)
  refine wpIn_mono (this lb n I bs A w0 a w L hs) ?_
  rintro e a' w' ⟨st',L',h1,rfl,h2⟩
  obtain ⟨L2,h3⟩:=h1.lose keep ids
  rw [h2] at h3
  exact hQ a' w' L2 h3
end
attribute [congr] ewrR_congr ewpR_congr
attribute [simp] ewrR_skip ewrR_seq ewrR_cond ewrR_block ewrR_exit ewrR_region ewrR_draw ewrR_loop
/-! ### cuts and loops where ranges over functions stand -/
theorem ewrN_soundD {P:Program} {M:List (FuncId × List Nat)} (h0:tsz P nilE = 0) {K:St → Prop} {Q:Exit → St → Prop}:∀ (n:Nat) {c:Code} {st:St},(∀ st,K st → ewpD P (Code.rest n c) Q st) → ewrN P M n c K Q st → ewpD P c Q st
  | 0,c,st,hK,h => by
    have:=hK st h
    cases c <;> simpa only [Code.rest] using this
  | n + 1,c,st,hK,h => by
    cases c <;> simp only [ewrN] at h
    case seq a b =>
      refine ewpD_seq (ewpD_mono (ewpD_of (ewr_sound h0 h)) ?_)
      intro e st' h'
      cases e <;> simp only [eThen] at h' ⊢
      · exact ewrN_soundD h0 n (fun st hs => by have:=hK st hs; simpa only [Code.rest] using this) h'
      all_goals exact h'
theorem ewrN_cutD {P:Program} {M:List (FuncId × List Nat)} (h0:tsz P nilE = 0) (n:Nat) (keep:List Nat) (ids:List Id) (st1:St) {c:Code} {Q:Exit → St → Prop} {st:St} (hrest:ewpD P (Code.rest n c) Q st1) (h:∀ K:St → Prop,(∀ st,st.drop keep ids = st1 → K st) → ewrN P M n c K Q st):ewpD P c Q st :=
  ewrN_soundD h0 n (K:=fun st => ewpD P (Code.rest n c) Q st) (fun _ hk => hk) (h _ fun st e => by
    refine ewpD_drop keep ids ?_
    rw [e]
    exact hrest)
theorem loopD {P:Program} {Q:Exit → St → Prop} {c:Code} (keep:List Nat) (ids:List Id) (J:Nat → St → Prop) (m:Nat) {st:St} (h:∀ Inv,Inv = J → Head Inv m (st.drop keep ids)) (round:∀ Inv,Inv = J → ∀ m st,J m st → ewpD P c (eThen (Rnd Inv m keep ids) Q) st):ewpD P (.loop c) Q st :=
  ewpD_loop (fun n st => J n (st.drop keep ids)) m (h J rfl) fun n st hi => ewpD_drop keep ids (round J rfl n _ hi)
/-- Plain code walked where no round is. -/
theorem codeT {P:Program} {I:Nat → Nat → Prop} {bs:List Nat} {A:AD} {w0 w:World} {a:Act} {L:Loc} {n:Nat} {c:Code} {Q:Exit → Act → World → Prop} {st:St} (keep:List Nat) (ids:List Id) (st1:St) (hs:Sim (tsz P) I bs A w0 st a w L [])
    (hr:∀ K:Exit → St → Prop,(∀ st',st'.drop keep ids = st1 → K .normal st') → ewp P c K st) (h:∀ a' w' L',Sim (tsz P) I bs A w0 st1 a' w' L' [] → Q .normal a' w'):c.wpIn (wideR none) n P Q a w:=by
  refine wpIn_wide.2 (wp_mono (hr (fun e st' => e = .normal ∧ st'.drop keep ids = st1) (fun st' e => ⟨rfl,e⟩) I bs A w0 a w L hs) ?_)
  rintro e a' w' ⟨st',L',h1,rfl,h2⟩
  obtain ⟨L2,h3⟩:=h1.lose keep ids
  rw [h2] at h3
  exact h a' w' L2 h3
theorem rangeD2 {P:Program} {n N g p f q m:Nat} {caps:List (List PT)} {asg bdy:Code} {l:List (Nat × SV)} {hp0:List (Id × PT)} (H:Nat → List (Id × PT)) (sv:Nat → SV) (st1:Nat → St) (sl2:Nat → List SV) {Q:Exit → St → Prop} (hgN:g < N) (hgl:slGet l g = .t (.fn q f caps)) (hH0:hp0 = H 0)
    (hcf:∀ args w,(callFunc f args).run P w = .ok (.enter f args) w)
    (hit:∀ (I:Nat → Nat → Prop) (l:Nat) (vs:List Value) (J:Nat → World → Prop) (W:World),ImC W I q vs caps → (∀ k b,I k b → b < W.heap.size) → (∀ i W',J i W' → W.heap.size ≤ W'.heap.size ∧ ∀ k b,I k b → W'.heap[b]? = W.heap[b]?) →
      (∀ i W1 W2,J i W1 → RowKit.Below W1.heap.size W1 W2 → W1.drawn ≤ W2.drawn → J i W2) → (∀ i,i < m → ∀ (W1:World) (va:Value),J i W1 → (∀ L,SVR (tsz P) L W1 I va (sv i)) → YieldAt (wideR none) n P l #[va] W1 fun e W' => e = .returned (.bool true) ∧ J (i + 1) W') → J 0 W →
      CallsIn (wideR none) (n + 1) P f (#[.func (.yield l) #[] #[]] ++ vs.toArray) W fun e W' => (∃ v,e = .returned v) ∧ J m W')
    (hA:∀ I lb i,i < m → StepIn P I n lb asg ⟨slOf N ((p,sv i) :: l),ofL (H i)⟩ (st1 i))
    (hB:∀ I lb i,i < m → StepIn P I n lb bdy (st1 i) ⟨sl2 i,ofL (H (i + 1))⟩)
    (hl:∀ i,i ≤ m → ∀ x ∈ l,SlotOK (H i) x.2)
    (hQ:Q .normal ⟨slOf N l,ofL (H m)⟩):ewpD P (.rangeFunc (.tmp g) #[p] asg bdy) Q ⟨slOf N l,ofL hp0⟩:=by
  subst hH0
  exact rangeD hgN hgl hcf hit hA hB hl hQ
/-! ### rows that are lent for good, and results that are lent -/
structure LentS (I:Nat → Nat → Prop) (bs:List Nat) (w0:World) (I':Nat → Nat → Prop) (bs':List Nat) (w0':World):Prop where
  one:∀ k b,k ≠ 1 → I' k b → I k b
  own:∀ y ∈ bs',y ∈ bs ∨ w0.heap.size ≤ y
  keeps:Kp bs w0 w0'
  sub:∀ k b,I k b → I' k b
  new:∀ b,I' 1 b → (∃ k,I k b) ∨ b ∈ bs ∨ w0.heap.size ≤ b
theorem LentS.refl (I:Nat → Nat → Prop) (bs:List Nat) (w0:World):LentS I bs w0 I bs w0:=⟨fun _ _ _ h => h,fun _ h => .inl h,Kp.refl _ _,fun _ _ h => h,fun _ h => .inl ⟨1,h⟩⟩
theorem LentS.trans {I1 I2 I3:Nat → Nat → Prop} {b1 b2 b3:List Nat} {w1 w2 w3:World} (h:LentS I1 b1 w1 I2 b2 w2) (k:LentS I2 b2 w2 I3 b3 w3):LentS I1 b1 w1 I3 b3 w3 :=
  ⟨fun q b hq hb => h.one q b hq (k.one q b hq hb),fun y hy => (k.own y hy).elim (h.own y) fun hle => .inr (Nat.le_trans h.keeps.size hle),h.keeps.trans k.keeps h.own,fun q b hb => k.sub q b (h.sub q b hb),fun b hb => by
    rcases k.new b hb with ⟨q,hq⟩ | hq | hq
    · by_cases h1:q = 1
      · subst h1
        exact h.new b hq
      · exact .inl ⟨q,h.one q b h1 hq⟩
    · exact .inr (h.own b hq)
    · exact .inr (.inr (Nat.le_trans h.keeps.size hq))⟩
def ewpL (P:Program) (c:Code) (Q:Exit → St → Prop) (st:St):Prop :=
  ∀ (I:Nat → Nat → Prop) (bs:List Nat) (A:AD) (w0:World) (a:Act) (w:World) (L:Loc),Sim (tsz P) I bs A w0 st a w L [] →
    c.wp P (fun e a' w' => ∃ st' L' I' bs' w0',LentS I bs w0 I' bs' w0' ∧ Sim (tsz P) I' bs' A w0' st' a' w' L' [] ∧ Q e st') a w
section
variable {P:Program} {Q:Exit → St → Prop} {st st':St}
theorem ewpL_mono {c:Code} {Q':Exit → St → Prop} (h:ewpL P c Q st) (hq:∀ e st,Q e st → Q' e st):ewpL P c Q' st :=
  fun I bs A w0 a w L hs => wp_mono (h I bs A w0 a w L hs) fun e a' w' ⟨st',L',I',bs',w0',h0,h1,h3⟩ => ⟨st',L',I',bs',w0',h0,h1,hq _ _ h3⟩
/-- Plain code. -/
theorem ewpL_of {c:Code} (h:ewp P c Q st):ewpL P c Q st :=
  fun I bs A w0 a w L hs => wp_mono (h I bs A w0 a w L hs) fun e a' w' ⟨st',L',h1,h2⟩ => ⟨st',L',I,bs,w0,LentS.refl _ _ _,h1,h2⟩
theorem ewpL_seq {x y:Code} (h:ewpL P x (eThen (ewpL P y Q) Q) st):ewpL P (.seq x y) Q st:=by
  intro I bs A w0 a w L hs
  refine wp_seq (wp_mono (h I bs A w0 a w L hs) ?_)
  rintro e a' w' ⟨st',L',I',bs',w0',hl,h1,h2⟩
  cases e <;> simp only [eThen] at h2 <;> simp only [Exit.then]
  · refine wp_mono (h2 I' bs' A w0' a' w' L' h1) ?_
    rintro e a' w' ⟨st',L',I',bs',w0',hl',h1,h2⟩
    exact ⟨st',L',I',bs',w0',hl.trans hl',h1,h2⟩
  all_goals exact ⟨st',L',I',bs',w0',hl,h1,h2⟩
theorem ewpL_drop {c:Code} (keep:List Nat) (ids:List Id) (h:ewpL P c Q (st.drop keep ids)):ewpL P c Q st:=by
  intro I bs A w0 a w L hs
  obtain ⟨L',hs'⟩:=hs.lose keep ids
  exact h I bs A w0 a w L' hs'
theorem ewpL_block {id:Nat} {c:Code} (h:ewpL P c (eBlock id Q) st):ewpL P (.block id c) Q st:=by
  intro I bs A w0 a w L hs
  refine wp_block (wp_mono (h I bs A w0 a w L hs) ?_)
  rintro e a' w' ⟨st',L',I',bs',w0',hl,h1,h2⟩
  cases e <;> simp only [eBlock] at h2 <;> simp only [Exit.inBlock]
  case exit id' =>
    split at h2
    · rename_i h3
      rw [if_pos h3]
      exact ⟨st',L',I',bs',w0',hl,h1,h2⟩
    · rename_i h3
      rw [if_neg h3]
      exact ⟨st',L',I',bs',w0',hl,h1,h2⟩
  all_goals exact ⟨st',L',I',bs',w0',hl,h1,h2⟩
theorem ewpL_skip (h:Q .normal st):ewpL P .skip Q st:=ewpL_of (ewp_skip h)
theorem ewpL_ret (h:Q .ret st):ewpL P .ret Q st:=ewpL_of (ewp_ret h)
theorem ewpL_exit {id:Nat} (h:Q (.exit id) st):ewpL P (.exit id) Q st:=ewpL_of (ewp_exit h)
theorem ewpL_cond {c:Operand} {x y:Code} {b:Bool} (hc:opv st c = some (.t (.raw (.bool b)))) (ht:b = true → ewpL P x Q st) (hf:b = false → ewpL P y Q st):ewpL P (.cond c x y) Q st:=by
  intro I bs A w0 a w L hs
  have hv:a.eval c = .bool b:=by have:=opv_sound hs hc; simpa [SVR,Im] using this
  refine wp_cond hv ?_
  cases b
  · exact hf rfl I bs A w0 a w L hs
  · exact ht rfl I bs A w0 a w L hs
theorem ewpL_loop {c:Code} (Inv:Nat → St → Prop) (n:Nat) (h:Inv n st) (round:∀ n st,Inv n st → ewpL P c (eThen (fun st' => ∃ m,m < n ∧ Inv m st') Q) st):ewpL P (.loop c) Q st:=by
  intro I bs A w0 a w L hs
  classical
  let J:Nat → Act → World → Prop:=fun n a w => ∃ st L I' bs' w0',LentS I bs w0 I' bs' w0' ∧ Sim (tsz P) I' bs' A w0' st a w L [] ∧ Inv n st
  let μ:Act → World → Nat:=fun a w => if hx:∃ n,J n a w then Classical.choose (least hx) else 0
  have hμ:∀ a w n,J n a w → μ a w ≤ n:=by
    intro a w n hj
    have hx:∃ n,J n a w:=⟨n,hj⟩
    simp only [μ,dif_pos hx]
    exact (Classical.choose_spec (least hx)).2 n hj
  have hμ':∀ a w,(∃ n,J n a w) → J (μ a w) a w:=by
    intro a w hx
    simp only [μ,dif_pos hx]
    exact (Classical.choose_spec (least hx)).1
  refine wp_loop (fun a w => ∃ n,J n a w) μ ⟨n,st,L,I,bs,w0,LentS.refl _ _ _,hs,h⟩ ?_
  intro a w hx
  obtain ⟨st1,L1,I1,b1,w1,hl1,h1,h2⟩:=hμ' a w hx
  refine wp_mono (round _ _ h2 I1 b1 A w1 a w L1 h1) ?_
  rintro e a' w' ⟨st',L',I',bs',w0',hl',h3,h4⟩
  cases e <;> simp only [eThen] at h4 <;> simp only [Exit.then]
  · obtain ⟨m,hm,hi⟩:=h4
    exact ⟨⟨m,st',L',I',bs',w0',hl1.trans hl',h3,hi⟩,Nat.lt_of_le_of_lt (hμ a' w' m ⟨st',L',I',bs',w0',hl1.trans hl',h3,hi⟩) hm⟩
  all_goals exact ⟨st',L',I',bs',w0',hl1.trans hl',h3,h4⟩
theorem ewpL_cut {x y:Code} (st1:St) (keep:List Nat) (ids:List Id) (h1:∀ K:Exit → St → Prop,(∀ st',st'.drop keep ids = st1 → K .normal st') → (∀ e st',e ≠ .normal → Q e st' → K e st') → ewpL P x K st) (h2:ewpL P y Q st1):ewpL P (.seq x y) Q st:=by
  refine ewpL_seq (ewpL_mono (h1 (fun e st' => match e with | .normal => st'.drop keep ids = st1 | e => Q e st') (fun st' h => h) fun e st' he hq => ?_) ?_)
  · cases e <;> first | exact absurd rfl he | exact hq
  · intro e st' hx
    cases e <;> simp only [eThen] at hx ⊢
    case normal =>
      refine ewpL_drop keep ids ?_
      rw [hx]
      exact h2
    all_goals exact hx
/-- Rows in a cell of one's own are lent from here on. -/
theorem ewpL_freeze {c:Code} {K:Exit → St → Prop} (x:Id) (hx:x.isOp = true) {e n:Nat} {cs:List PT} (ht:st.hp x = some (.sl 0 e n cs)) (hn:0 < n) (h:ewpL P c K (frzDSt x (.sl 0 e n cs) st)):ewpL P c K st:=by
  intro I bs A w0 a w L hs
  obtain ⟨I',bs',L',hs',hI1,hbs,hsub,hnew⟩:=hs.freezeD hx ht hn
  refine wp_mono (h I' bs' A w a w L' hs') ?_
  rintro ex a' w' ⟨st',L2,I2,b2,w2,hl,h2,hK⟩
  exact ⟨st',L2,I2,b2,w2,LentS.trans ⟨hI1,hbs,hs.keeps,hsub,hnew⟩ hl,h2,hK⟩
end
/-! ### a function whose results are lent -/
def CallOKL (P:Program) (f:FuncId) (args:List PV) (res:PV) (outs:List PV):Prop :=
  ∀ (I:Nat → Nat → Prop) (w:World) (las:List LV),las.map LV.erase = args → (∀ la ∈ las,la.holds (tsz P) w I) → (las.flatMap LV.blocks).Nodup →
    (∀ k b,I k b → b < w.heap.size ∧ b ∉ las.flatMap LV.blocks) →
    CallsF P f (las.map LV.val).toArray w fun e w' => ∃ (lr:LV) (los:List LV) (I':Nat → Nat → Prop),e = .returned lr.val ∧ lr.erase = res ∧ los.map LV.erase = outs ∧ los.map LV.full = las.map LV.full ∧
      lr.holds (tsz P) w' I' ∧ (∀ l ∈ los,l.holds (tsz P) w' I') ∧ (lr.blocks ++ los.flatMap LV.blocks).Nodup ∧ (∀ b ∈ lr.blocks ++ los.flatMap LV.blocks,b ∈ las.flatMap LV.blocks ∨ w.heap.size ≤ b) ∧
      Kp (las.flatMap LV.blocks) w w' ∧ (∀ k b,I k b → I' k b) ∧ (∀ k b,k ≠ 1 → I' k b → I k b) ∧ (∀ b,I' 1 b → (∃ k,I k b) ∨ b ∈ las.flatMap LV.blocks ∨ w.heap.size ≤ b) ∧ ∀ k b,I' k b → b < w'.heap.size ∧ b ∉ lr.blocks ++ los.flatMap LV.blocks
section
variable {sz:Nat → Nat} {I I' Iz:Nat → Nat → Prop} {bs:List Nat} {A:AD} {w0 w w' wz:World} {st st' st1:St} {a:Act} {L L0:Loc} {hand hand':List LT} {P:Program} {o:Oper} {Q:Exit → Act → World → Prop}
theorem outLV_sound2 (h:Sim sz I bs A w0 st a w L hand) {i:Nat} {la:LV} {q:PV} (hframe:∀ t:LT,t.erase.isSl = false → t.holds sz wz Iz → t.holds sz w I) (hip:∀ k (x:Addr) ps,ImL wz Iz k (some x) 0 ps → ImL w I k (some x) 0 ps)
    (hh:la.holds sz wz Iz) (hA:∀ j t,la.at j = some t → A i j = some t.val) (ho:outV st.hp i la.erase = some q) :
    (outLV L i la).erase = q ∧ (outLV L i la).full = la.full ∧ (outLV L i la).holds sz w I ∧ (outLV L i la).blocks.Nodup ∧ ∀ b ∈ (outLV L i la).blocks,∃ j t,L (.arg i j) = some t ∧ b ∈ t.blocks:=by
  cases la with
  | c t =>
    simp only [LV.erase,outV,Option.map_eq_some_iff] at ho
    obtain ⟨p,hp,rfl⟩:=ho
    simp only [LV.holds] at hh
    obtain ⟨g1,g2,g3,g4⟩:=outT_sound h (i:=i) (j:=0) (t:=t) (fun hs => hframe t hs hh) (fun hs => hA 0 t (by simp only [LV.at,slT,hs,if_true])) hp
    have:=froms_nodup h [outT L i 0 t] 0 (i:=i) (fun k u hu => by
      cases k with
      | zero => simp only [List.getElem?_cons_zero,Option.some.injEq] at hu; subst hu; exact g4
      | succ k => simp at hu)
    simp only [List.flatMap_cons,List.flatMap_nil,List.append_nil] at this
    exact ⟨by simp [outLV,LV.erase,g1],by simp [outLV,LV.full,LV.trees,g2],by simpa [outLV,LV.holds] using g3,by simpa [outLV,LV.blocks] using this.1,fun b hb => let ⟨k,t,_,ht,hbt⟩:=this.2 b (by simpa [outLV,LV.blocks] using hb); ⟨k,t,ht,hbt⟩⟩
  | agg ts =>
    simp only [LV.erase,outV,Option.map_eq_some_iff] at ho
    obtain ⟨p,hp,rfl⟩:=ho
    simp only [LV.holds] at hh
    obtain ⟨g1,g2,g3,g4⟩:=outTs_sound h (i:=i) (j:=0) (ts:=ts) (fun t ht hs => hframe t hs (hh t ht)) (fun k t hk hs => by rw [Nat.zero_add]; exact hA k t (by simp only [LV.at,hk,Option.bind_some,slT,hs,if_true])) hp
    have:=froms_nodup h (outTs L i 0 ts) 0 (i:=i) g4
    exact ⟨by simp [outLV,LV.erase,g1],by simp [outLV,LV.full,LV.trees,g2],by simpa [outLV,LV.holds] using g3,by simpa [outLV,LV.blocks] using this.1,fun b hb => let ⟨k,t,_,ht,hbt⟩:=this.2 b (by simpa [outLV,LV.blocks] using hb); ⟨k,t,ht,hbt⟩⟩
  | bp t =>
    simp only [LV.erase,outV] at ho
    split at ho
    · rename_i e cs hhp
      cases ho
      simp only [LV.holds] at hh
      obtain ⟨_,b,cap0,e0,cs0,rfl⟩:=hh
      obtain ⟨u,hu,hv⟩:=h.args i 0 _ (hA 0 _ (by simp [LV.at]; rfl))
      have her:=h.er (.arg i 0)
      rw [hu,hhp] at her
      simp only [Option.map_some,Option.some.injEq] at her
      have hhu:=h.holds _ _ hu
      simp only [outLV,hu,Option.getD_some,LV.erase,her,LV.full,LV.trees,List.map_cons,List.map_nil,hv,LV.holds,LV.blocks,true_and]
      cases u with
      | leaf v p =>
        simp only [LT.holds] at hhu
        simp only [LT.erase] at her
        subst her
        simp [Im] at hhu
      | own b' cap' e' n' cs' =>
        simp only [LT.val,Value.slice.injEq,Option.some.injEq,Addr.mk.injEq,and_true] at hv
        obtain ⟨rfl,rfl,rfl⟩:=hv
        exact ⟨⟨hhu,b',cap',e',cs',rfl⟩,h.nodup _ _ hu,fun b hb => ⟨0,_,hu,hb⟩⟩
    · simp at ho
  | ip k x ps =>
    simp only [LV.erase,outV,Option.some.injEq] at ho
    subst ho
    simp only [LV.holds] at hh
    exact ⟨rfl,rfl,by simp only [outLV,LV.holds]; exact hip _ _ _ hh,by simp [outLV,LV.blocks],by simp [outLV,LV.blocks]⟩
  | tup vs => simp [LV.erase,outV] at ho
  | dup t v1 v2 => simp [LV.erase,outV] at ho
  | clo g t => simp [LV.erase,outV] at ho
theorem outLVs_sound2 (h:Sim sz I bs A w0 st a w L hand) (hframe:∀ t:LT,t.erase.isSl = false → t.holds sz wz Iz → t.holds sz w I) (hip:∀ k (x:Addr) ps,ImL wz Iz k (some x) 0 ps → ImL w I k (some x) 0 ps) :
    ∀ {las:List LV} {i:Nat} {qs:List PV},(∀ la ∈ las,la.holds sz wz Iz) → (∀ k la,las[k]? = some la → ∀ j t,la.at j = some t → A (i + k) j = some t.val) → outVs st.hp i (las.map LV.erase) = some qs →
    (outLVs L i las).map LV.erase = qs ∧ (outLVs L i las).map LV.full = las.map LV.full ∧ (∀ l ∈ outLVs L i las,l.holds sz w I) ∧ ((outLVs L i las).flatMap LV.blocks).Nodup ∧ ∀ b ∈ (outLVs L i las).flatMap LV.blocks,∃ k j t,i ≤ k ∧ L (.arg k j) = some t ∧ b ∈ t.blocks
  | [],i,qs,_,_,ho => by simp only [List.map_nil,outVs,Option.some.injEq] at ho; subst ho; simp [outLVs]
  | la :: las,i,qs,hh,hA,ho => by
    simp only [List.map_cons,outVs] at ho
    split at ho
    · rename_i q qs' h1 h2
      cases ho
      obtain ⟨g1,g2,g3,g4,g5⟩:=outLV_sound2 h (i:=i) hframe hip (hh la (by simp)) (fun j t ht => by simpa using hA 0 la rfl j t ht) h1
      obtain ⟨f1,f2,f3,f4,f5⟩:=outLVs_sound2 h hframe hip (las:=las) (i:=i + 1) (fun l hl => hh l (by simp [hl])) (fun k l hl j t ht => by have:=hA (k + 1) l (by simpa using hl) j t ht; rwa [show i + 1 + k = i + (k + 1) by omega]) h2
      simp only [outLVs,List.map_cons,g1,f1,g2,f2,List.flatMap_cons,true_and]
      refine ⟨?_,List.nodup_append.2 ⟨g4,f4,fun x hx y hy hxy => ?_⟩,fun b hb => ?_⟩
      · intro l hl
        rcases List.mem_cons.1 hl with rfl | hl
        · exact g3
        · exact f3 l hl
      · subst hxy
        obtain ⟨j,t,ht,hbt⟩:=g5 x hx
        obtain ⟨k,j',t',hk,ht',hbt'⟩:=f5 x hy
        exact h.apart _ _ _ _ (by intro e; cases e; omega) ht ht' x hbt hbt'
      · rcases List.mem_append.1 hb with hb | hb
        · obtain ⟨j,t,ht,hbt⟩:=g5 b hb
          exact ⟨i,j,t,Nat.le_refl _,ht,hbt⟩
        · obtain ⟨k,j',t',hk,ht',hbt'⟩:=f5 b hb
          exact ⟨k,j',t',by omega,ht',hbt'⟩
    · simp at ho
end

def CallPostL (P:Program) (I:Nat → Nat → Prop) (w0:World) (las:List LV) (res:PV) (outs:List PV) (e:Ending) (w':World):Prop :=
  ∃ (lr:LV) (los:List LV) (I':Nat → Nat → Prop),e = .returned lr.val ∧ lr.erase = res ∧ los.map LV.erase = outs ∧ los.map LV.full = las.map LV.full ∧
      lr.holds (tsz P) w' I' ∧ (∀ l ∈ los,l.holds (tsz P) w' I') ∧ (lr.blocks ++ los.flatMap LV.blocks).Nodup ∧ (∀ b ∈ lr.blocks ++ los.flatMap LV.blocks,b ∈ las.flatMap LV.blocks ∨ w0.heap.size ≤ b) ∧
      Kp (las.flatMap LV.blocks) w0 w' ∧ (∀ k b,I k b → I' k b) ∧ (∀ k b,k ≠ 1 → I' k b → I k b) ∧ (∀ b,I' 1 b → (∃ k,I k b) ∨ b ∈ las.flatMap LV.blocks ∨ w0.heap.size ≤ b) ∧ ∀ k b,I' k b → b < w'.heap.size ∧ b ∉ lr.blocks ++ los.flatMap LV.blocks
theorem stRet_soundL {P:Program} {I I':Nat → Nat → Prop} {bs':List Nat} {w0 w0' w:World} {las:List LV} {st:St} {a:Act} {L:Loc} (hl:LentS I (las.flatMap LV.blocks) w0 I' bs' w0') (hi0:∀ k b,I k b → b < w0.heap.size ∧ b ∉ las.flatMap LV.blocks) (h:Sim (tsz P) I' bs' ⟨fun i j => (entryL las (.arg i j)).map LT.val,[]⟩ w0' st a w L [])
    (hh:∀ la ∈ las,la.holds (tsz P) w0 I) {fn:Func} {res:PV} {outs:List PV} (hr:stRet P fn (las.map LV.erase) st = some (res,outs)):bodyPost P fn (CallPostL P I w0 las res outs) .ret a w:=by
  unfold stRet at hr
  split at hr
  · simp at hr
  · rename_i ss hss
    split at hr
    · rename_i hc
      split at hr
      · rename_i ps ks st1 hta
        split at hr
        · rename_i outs' hout
          simp only [Option.some.injEq,Prod.mk.injEq] at hr
          obtain ⟨rfl,rfl⟩:=hr
          obtain ⟨vs,hrun,hvs⟩:=results_sound h hss
          obtain ⟨g1,g2⟩:=flat_comps hvs hc
          obtain ⟨L',ts,f1,f2,f3,f4⟩:=takeAll_sound _ h g1 g2 (Stays.refl _ _) hta
          rw [List.nil_append] at f1
          obtain ⟨r1,r2,r3,r4⟩:=regroup_sound hvs hc f2 f1.hholds
          have hkp:Kp (las.flatMap LV.blocks) w0 w:=hl.keeps.trans h.keeps hl.own
          have hI:∀ k b,I k b → w.heap[b]? = w0.heap[b]?:=fun k b hb => hkp.block b (hi0 k b hb).1 (hi0 k b hb).2
          have hown:∀ y,y ∈ bs' ∨ w0'.heap.size ≤ y → y ∈ las.flatMap LV.blocks ∨ w0.heap.size ≤ y:=fun y hy => hy.elim (hl.own y) fun hle => .inr (Nat.le_trans hl.keeps.size hle)
          obtain ⟨o1,o2,o3,o4,o5⟩:=outLVs_sound2 f1 (las:=las) (i:=0) (fun t hs ht => LT.holds_frame hl.sub hI t ht (fun b hb => by rw [notSl_blocks (by rw [hs]; exact Bool.false_ne_true)] at hb; simp at hb))
            (fun k x ps hx => (Im.all hl.sub hI).2.1 _ _ _ _ hx) hh (fun k la hk j t ht => by simp [entryL,hk,ht]) hout
          have hbl:∀ b ∈ ts.flatMap LT.blocks ++ (outLVs L' 0 las).flatMap LV.blocks,b ∈ bs' ∨ w0'.heap.size ≤ b:=by
            intro b hb
            rcases List.mem_append.1 hb with hb | hb
            · exact f1.hown b hb
            · obtain ⟨k,j,t,_,ht,hbt⟩:=o5 b hb
              exact f1.own _ _ ht b hbt
          refine ⟨h.nodef,_,hrun,retLV (regroupL ss ts),outLVs L' 0 las,I',?_,?_,o1,o2,retLV_holds _ r4,o3,?_,?_,hkp,hl.sub,hl.one,hl.new,?_⟩
          · rw [retLV_val,r1]
            rcases vs with _ | ⟨v,_ | ⟨u,vs⟩⟩ <;> rfl
          · rw [retLV_erase,r2,f3]
          · rw [retLV_blocks,r3]
            refine List.nodup_append.2 ⟨f1.hnodup,o4,fun x hx y hy hxy => ?_⟩
            subst hxy
            obtain ⟨k,j,t,_,ht,hbt⟩:=o5 x hy
            exact f1.hapart _ _ ht x hbt hx
          · rw [retLV_blocks,r3]
            exact fun b hb => hown b (hbl b hb)
          · rw [retLV_blocks,r3]
            refine fun k b hb => ⟨h.immw k b hb,fun hx => ?_⟩
            have hne:=h.imm_ne hb
            exact (hbl b hx).elim hne.1 hne.2
        · simp at hr
      · simp at hr
    · simp at hr
theorem okL {P : Program} {f : FuncId} {fn : Func} {c : Code} {args outs : List PV} {res : PV} {n : Nat} {rs : Array ResultVar} (h0 : tsz P nilE = 0) (hf : P.funcs[f]? = some fn) (hn : (fn.name == "runtime.NumGoroutine") = false) (hb : fn.body = some c)
    (hnt:fn.ntmps = n) (hrs:fn.results = rs) (hle:args.length ≤ n) (h:ewpL P c (PostS P rs.toList args (res,outs)) ⟨slOf n (entL 0 args),ofL (argL 0 args)⟩):CallOKL P f args res outs:=by
  subst hnt; subst hrs
  intro I w las he hh hnd hI
  refine CallsF.of_calls hf hn hb (calls_of_wp hf hb ?_)
  have hs:=Sim.entry las hh hnd hI fn.ntmps
  rw [he] at hs
  have hse:=Sim.entL hle hs
  refine wp_mono (h I _ _ w _ w _ hse) ?_
  rintro e a' w' ⟨st',L',I',bs',w0',gl,g1,g2⟩
  have fin:resOK (stRetS P fn.results.toList args st') (res,outs) → bodyPost P fn (CallPostL P I w las res outs) .ret a' w':=by
    intro hr
    unfold resOK at hr
    split at hr
    · rename_i y hy
      obtain ⟨k1,k2⟩:=hr
      have hy':stRet P fn (las.map LV.erase) st' = some (y.1,y.2):=by rw [he]; exact hy
      have hb:=stRet_soundL gl hI g1 hh hy'
      obtain ⟨b1,v1,b2,b3⟩:=hb
      refine ⟨b1,v1,b2,?_⟩
      revert b3
      generalize Ending.returned v1 = e'
      rintro ⟨lr,los,I2,rfl,r1,r2,r3,r4,r5,r6,r7,r8,r9,r10,r11,r12⟩
      obtain ⟨l',e1,e2,e3,e4⟩:=LV.nle h0 lr r4 res (r1 ▸ k1)
      simp only at k2
      subst k2
      exact ⟨l',los,I2,by rw [e2],e1,r2,r3,e4,r5,by rw [e3]; exact r6,by rw [e3]; exact r7,r8,r9,r10,r11,by rw [e3]; exact r12⟩
    · exact hr.elim
  cases e <;> simp only [PostS] at g2
  · exact fin g2
  · exact fin g2
/-! ### a call whose results are lent -/
section
variable {sz:Nat → Nat} {I I':Nat → Nat → Prop} {bs:List Nat} {A:AD} {w0 w w':World} {st st' st1 st2:St} {a:Act} {L L' L0 L1 L2:Loc} {P:Program} {o:Oper} {Q:Exit → Act → World → Prop} {M:List (FuncId × List Nat)} {K:St → Prop}
theorem stInvoke_soundL (h:Sim (tsz P) I bs A w0 st a w L []) {r i:Nat} {f:FuncId} {ss:List SV} {vs:List Value} {md:List Nat} {ats:List AT} {ks:List Pl} {pvs outs:List PV} {res:PV} {bl:List (Pl × PT)} {hp2:Id → Option PT} (hvs:SVRL (tsz P) L w I vs ss)
    (hta:takeArgs (tsz P) st [] (zipModes ss md) = some (ats,ks,st1)) (hla:lendArgs (tsz P) st1 ks ats = some pvs) (hc:CallOKL P f pvs res outs) (hld:ats.any AT.lendy = false) (hbl:backsOf ats outs = some bl) (hpb:putBack st1.hp bl = some hp2) :
    CallsF P f vs.toArray w fun e w' => ∃ v L' I' bs' w0',e = .returned v ∧ LentS I bs w0 I' bs' w0' ∧ Sim (tsz P) I' bs' A w0' (setRoots r i 0 res.cells ⟨st.sl.map (SV.kill fun q => !backHas bl q && ks.any (·.pre q)),hp2⟩) a w' L' [] ∧ SVR (tsz P) L' w' I' v (resShape r i res):=by
  obtain ⟨L1,las,s1,ha,hk,_,_,hbk⟩:=takeArgs_sound _ h (L0:=L) (vs:=vs) (by rw [zipModes_fst]; exact hvs) (by simpa using Stays.refl (fun _ => false) L) hta
  rw [List.nil_append] at s1
  obtain ⟨las',g1,g2,g3,g4,g5⟩:=lendArgs_sound s1 (fun _ _ h => h) hk (fun hx => by rw [hld] at hx; cases hx) ha s1.hholds hla
  have hIb:∀ k b,I k b → b < w.heap.size ∧ b ∉ (las.flatMap LV.trees).flatMap LT.blocks:=fun k b hb => ⟨s1.immw k b hb,fun hx => by
    have hne:=s1.imm_ne hb
    exact (s1.hown b hx).elim hne.1 hne.2⟩
  have hcall:=hc I w las' g2 g4 (by rw [g3]; exact s1.hnodup) (by
    intro k b hb
    rw [g3]
    exact hIb k b hb)
  rw [g1] at hcall
  refine hcall.mono ?_
  rintro e w' ⟨lr,los,I',rfl,hres,houts,hfull,hlr,hlos,hnd,hblk,hkp,hsub,hone,hnew,himm⟩
  rw [g3] at hkp hblk hnew
  have hnt:(∀ t ∈ lr.trees,t.holds (tsz P) w' I') ∧ ∀ t ∈ ownTrees ats los,t.holds (tsz P) w' I':=⟨LV.trees_hold hlr,fun t ht => LVs.trees_hold hlos t ((ownTrees_sub ats los).subset ht)⟩
  obtain ⟨bts,b1,b2,b3,b4⟩:=backsOf_sound g5 g4 hlos hfull houts hbl
  have hsub2:(bts.map (·.2)).Sublist (los.flatMap LV.trees):=b2.trans (ownTrees_sub ats los)
  have hsubb:=flat_sub LT.blocks hsub2
  rw [LVs.trees_blocks] at hsubb
  obtain ⟨hand',hhand⟩:∃ hand',hand' = bts.map (·.2) ++ lr.trees:=⟨_,rfl⟩
  have hhb:∀ b ∈ hand'.flatMap LT.blocks,b ∈ lr.blocks ++ los.flatMap LV.blocks:=by
    rw [hhand]
    intro b hb
    rw [List.flatMap_append,LV.trees_blocks] at hb
    rcases List.mem_append.1 hb with hb | hb
    · exact List.mem_append_right _ (hsubb.subset hb)
    · exact List.mem_append_left _ hb
  have hho:∀ b ∈ hand'.flatMap LT.blocks,b ∈ (las.flatMap LV.trees).flatMap LT.blocks ∨ w.heap.size ≤ b:=fun b hb => hblk b (hhb b hb)
  have hIw:∀ k b,I k b → w'.heap[b]? = w.heap[b]?:=fun k b hb => hkp.block b (hIb k b hb).1 (hIb k b hb).2
  have hlt1:∀ id t,L1 id = some t → ∀ b ∈ t.blocks,b < w.heap.size:=fun id t ht b hb => LT.blocks_lt t (s1.holds id t ht) b hb
  have hkL:∀ id t,L1 id = some t → ∀ b ∈ t.blocks,w'.heap[b]? = w.heap[b]?:=fun id t ht b hb => hkp.block b (hlt1 id t ht b hb) (s1.hapart id t ht b hb)
  have hapL:∀ id t,L1 id = some t → ∀ b ∈ t.blocks,b ∉ hand'.flatMap LT.blocks:=fun id t ht b hb hx => (hho b hx).elim (s1.hapart id t ht b hb) fun hle => by
    have:=hlt1 id t ht b hb
    omega
  classical
  obtain ⟨bs',hbs'⟩:∃ bs':List Nat,∀ y,y ∈ bs' ↔ (y < w'.heap.size ∧ ((∃ id t,L1 id = some t ∧ y ∈ t.blocks) ∨ y ∈ hand'.flatMap LT.blocks)) :=
    ⟨(List.range w'.heap.size).filter (fun y => decide ((∃ id t,L1 id = some t ∧ y ∈ t.blocks) ∨ y ∈ hand'.flatMap LT.blocks)),fun y => by
      rw [List.mem_filter]
      simp only [List.mem_range,decide_eq_true_eq]⟩
  have hholds':∀ id t,L1 id = some t → t.holds (tsz P) w' I':=fun id t ht => LT.holds_frame hsub hIw t (s1.holds id t ht) (hkL id t ht)
  have hhold2:∀ t ∈ hand',t.holds (tsz P) w' I':=by
    rw [hhand]
    intro t ht
    rcases List.mem_append.1 ht with ht | ht
    · exact hnt.2 t (b2.subset ht)
    · exact hnt.1 t ht
  have hst1:st1 = ⟨st1.sl,st1.hp⟩:=rfl
  have s2:Sim (tsz P) I' bs' A w' ⟨st.sl.map (SV.kill fun q => ks.any (·.pre q)),st1.hp⟩ a w' L1 hand':={
    keeps:=Kp.refl _ _
    imm:=by
      intro k b hb
      refine ⟨(himm k b hb).1,fun hx => ?_⟩
      rcases ((hbs' b).1 hx).2 with ⟨id,t,ht,hbt⟩ | hx
      · have key:∀ k',I k' b → False:=fun k' hb' => by
          have hne:=s1.imm_ne hb'
          exact (s1.own id t ht b hbt).elim hne.1 hne.2
        by_cases h1:k = 1
        · subst h1
          rcases hnew b hb with ⟨k',hb'⟩ | hq | hq
          · exact key k' hb'
          · exact s1.hapart id t ht b hbt hq
          · have:=hlt1 id t ht b hbt
            omega
        · exact key k (hone k b h1 hb)
      · exact (himm k b hb).2 (hhb b hx)
    er:=s1.er
    holds:=hholds'
    nodup:=s1.nodup
    own:=fun id t ht b hb => .inl ((hbs' b).2 ⟨LT.blocks_lt t (hholds' id t ht) b hb,.inl ⟨id,t,ht,hb⟩⟩)
    apart:=s1.apart
    hholds:=hhold2
    hnodup:=by
      rw [hhand,List.flatMap_append,LV.trees_blocks]
      refine (List.perm_append_comm.nodup_iff).1 ?_
      exact hnd.sublist (hsubb.append_left _)
    hown:=fun b hb => .inl ((hbs' b).2 ⟨by
      obtain ⟨t,ht,hbt⟩:=List.mem_flatMap.1 hb
      exact LT.blocks_lt t (hhold2 t ht) b hbt,.inr hb⟩)
    hapart:=hapL
    slots:=SVRL.kill _ hk hsub hIw h.slots
    nodef:=s1.nodef
    args:=s1.args }
  rw [hhand] at s2
  obtain ⟨sl',L2,s3,k3,e3⟩:=putBack_sound bts s2 (fun x hx => ⟨(b3 x hx).2.1,(b3 x hx).2.2⟩) (by rw [b1]; exact hpb)
  have hbhas:∀ q,backHas bl q = true ↔ ∃ x ∈ bts,x.1 = q:=by
    intro q
    rw [← b1]
    simp [backHas]
  have hst:Stays (fun q => !backHas bl q && ks.any (·.pre q)) L L2:=by
    intro q node hq hrf hn
    by_cases hb:backHas bl q = true
    · obtain ⟨x,hx,rfl⟩:=(hbhas q).1 hb
      obtain ⟨⟨node0,n1,n2⟩,_,_⟩:=b3 x hx
      rw [hn] at n1
      cases n1
      obtain ⟨t,t1,t2⟩:=e3 x hx
      exact ⟨t,t1,n2.trans t2⟩
    · have hq':ks.any (·.pre q) = false:=by
        cases hbb:backHas bl q with
        | true => exact absurd hbb hb
        | false => simp only [hbb,Bool.not_false,Bool.true_and] at hq; exact hq
      obtain ⟨n1,m1,m2⟩:=hk q node hq' hrf hn
      obtain ⟨n2,m3,m4⟩:=k3 q n1 (by
        rw [List.any_eq_false] at hq' ⊢
        intro y hy
        obtain ⟨x,hx,rfl⟩:=List.mem_map.1 hy
        obtain ⟨z,hz,hzz⟩:=b4 x hx
        exact hq' _ (hbk z hz _ hzz)) (m2.refable hrf) m1
      exact ⟨n2,m3,m2.trans m4⟩
  have s4:=s3.reslots (SVRL.kill _ hst hsub hIw h.slots)
  obtain ⟨L3,s5,r1,_⟩:=setRoots_sound r i lr.trees 0 (rest:=[]) (by rw [List.append_nil]; exact s4)
  rw [LV.trees_erase,hres] at s5
  refine ⟨lr.val,L3,I',bs',w',rfl,⟨hone,?_,s1.keeps.trans hkp (fun b hb => s1.hown b hb),hsub,?_⟩,s5,?_⟩
  · intro y hy
    have hup:∀ b,b ∈ (las.flatMap LV.trees).flatMap LT.blocks ∨ w.heap.size ≤ b → b ∈ bs ∨ w0.heap.size ≤ b:=fun b hb => hb.elim (s1.hown b) fun hle => .inr (Nat.le_trans s1.keeps.size hle)
    rcases ((hbs' y).1 hy).2 with ⟨id,t,ht,hbt⟩ | hx
    · exact s1.own id t ht y hbt
    · exact hup y (hho y hx)
  · intro b hb
    rcases hnew b hb with h1 | h1 | h1
    · exact .inl h1
    · exact .inr (s1.hown b h1)
    · exact .inr (.inr (Nat.le_trans s1.keeps.size h1))
  · have:=resShape_sound (sz:=tsz P) (L:=L3) (r:=r) (i:=i) lr (LV.refs_of hlr) hnt.1 (fun k t hk hs => by simpa using r1 k t hk hs)
    rwa [hres] at this
def InvX (P:Program) (f:FuncId) (pvs:List PV) (ok:Bool) (fin:PV → List PV → Option St) (K:St → Prop):Prop:=(∃ res outs,CallOK P f pvs res outs ∧ onSome (fin res outs) K) ∨ (ok = true ∧ ∃ res outs,CallOKL P f pvs res outs ∧ onSome (fin res outs) K)
def onPrepX (P:Program) (r i:Nat) (d:Option Tmp) (st:St) (c:Option CP) (K:St → Prop):Prop:=match c with
  | some c => InvX P c.f c.pvs (!c.ats.any AT.lendy) (finCall r i d st c.ats c.ks c.st1) K
  | none => False
theorem InvX_intro {P:Program} {f:FuncId} {pvs outs:List PV} {res:PV} {ok:Bool} {fin:PV → List PV → Option St} {K:St → Prop} (h:CallOK P f pvs res outs) (h2:onSome (fin res outs) K):InvX P f pvs ok fin K:=.inl ⟨res,outs,h,h2⟩
theorem InvX_lent {P:Program} {f:FuncId} {pvs outs:List PV} {res:PV} {ok:Bool} {fin:PV → List PV → Option St} {K:St → Prop} (h:CallOKL P f pvs res outs) (hok:ok = true) (h2:onSome (fin res outs) K):InvX P f pvs ok fin K:=.inr ⟨hok,res,outs,h,h2⟩
theorem InvX_congr {P:Program} {f:FuncId} {pvs pvs':List PV} {ok:Bool} {fin:PV → List PV → Option St} {K:St → Prop} (h:pvs = pvs'):InvX P f pvs ok fin K = InvX P f pvs' ok fin K:=by rw [h]
theorem onPrepX_congr {P:Program} {r i:Nat} {d:Option Tmp} {st:St} {c c':Option CP} {K:St → Prop} (h:c = c'):onPrepX P r i d st c K = onPrepX P r i d st c' K:=by rw [h]
theorem onPrepX_some {P:Program} {r i:Nat} {d:Option Tmp} {st:St} {f:FuncId} {pvs:List PV} {ats:List AT} {ks:List Pl} {st1:St} {K:St → Prop}:onPrepX P r i d st (some ⟨f,pvs,ats,ks,st1⟩) K = InvX P f pvs (!ats.any AT.lendy) (finCall r i d st ats ks st1) K:=rfl
def stepL (P:Program) (M:List (FuncId × List Nat)) (r i:Nat) (o:Oper) (K:St → Prop) (st:St):Prop :=
  if isCall o = true then onPrepX P r i o.dst st (prepCall (tsz P) M st o) K else
  if (nilOp o).isSome = true then nilCmp P st o K else onSome (oels (stConv P st o) (oels (stClear P st o) (oels (stAppendR P r i st o) (stStep E0 P r i st o)))) K
theorem stepL_congr {P:Program} {M:List (FuncId × List Nat)} {r i:Nat} {o:Oper} {K:St → Prop} {st st':St} (h:st = st'):stepL P M r i o K st = stepL P M r i o K st':=by rw [h]
def runL (P:Program) (M:List (FuncId × List Nat)) (r:Nat) (ops:Array Oper):Nat → List Oper → (St → Prop) → St → Prop
  | _,[],K,st => K st
  | i,o :: rest,K,st => grd (gcond ops st o) (app (stepL P M r i o (runL P M r ops (i + 1) rest K)) st) (app (runL P M r ops (i + 1) rest K) (st.set o.dst (.t (.raw undef))))
theorem runL_nil {P:Program} {M:List (FuncId × List Nat)} {r:Nat} {ops:Array Oper} {i:Nat} {K:St → Prop} {st:St}:runL P M r ops i [] K st = K st:=rfl
theorem runL_cons {P:Program} {M:List (FuncId × List Nat)} {r:Nat} {ops:Array Oper} {i:Nat} {K:St → Prop} {st:St} {o:Oper} {rest:List Oper}:runL P M r ops i (o :: rest) K st = grd (gcond ops st o) (app (stepL P M r i o (runL P M r ops (i + 1) rest K)) st) (app (runL P M r ops (i + 1) rest K) (st.set o.dst (.t (.raw undef)))):=rfl
theorem runL_congr {P:Program} {M:List (FuncId × List Nat)} {r:Nat} {ops:Array Oper} {i:Nat} {l:List Oper} {K:St → Prop} {st st':St} (h:st = st'):runL P M r ops i l K st = runL P M r ops i l K st':=by rw [h]
theorem stepL_sound (h:Sim (tsz P) I bs A w0 st a w L []) (h0:tsz P nilE = 0) {r i:Nat} (hst:stepL P M r i o K st):o.wp P a w (fun a' w' => ∃ st' L' I' bs' w0',LentS I bs w0 I' bs' w0' ∧ Sim (tsz P) I' bs' A w0' st' a' w' L' [] ∧ K st') Q:=by
  have plain:stepR P M r i o K st → o.wp P a w (fun a' w' => ∃ st' L' I' bs' w0',LentS I bs w0 I' bs' w0' ∧ Sim (tsz P) I' bs' A w0' st' a' w' L' [] ∧ K st') Q:=fun hr =>
    Oper.wp_mono (fun a' w' ⟨st',L',h1,h2⟩ => ⟨st',L',I,bs,w0,LentS.refl _ _ _,h1,h2⟩) (stepR_sound (Q:=Q) h h0 hr)
  unfold stepL at hst
  split at hst
  · rename_i hc
    unfold onPrepX at hst
    split at hst
    · rename_i c hcp
      rcases hst with hst | ⟨hok,res,outs,hcall,hfin⟩
      · refine plain ?_
        unfold stepR
        rw [if_pos hc,hcp]
        exact hst
      · have hld:c.ats.any AT.lendy = false:=by simpa using hok
        unfold onSome at hfin
        split at hfin
        · rename_i st' hst'
          unfold prepCall at hcp
          split at hcp
          · rename_i cl ho
            split at hcp
            · rename_i x hx
              split at hcp
              · rename_i g caps hcal
                split at hcp
                · rename_i ss hss
                  split at hcp
                  · rename_i ats ks st1 hta
                    split at hcp
                    · rename_i pvs hla
                      cases hcp
                      simp only at hcall hst' hld
                      unfold finCall at hst'
                      rw [if_pos (by rw [hld]; rfl)] at hst'
                      split at hst'
                      · cases hst'
                      · rename_i bl hbl
                        split at hst'
                        · cases hst'
                        · rename_i hp2 hpb
                          cases hst'
                          obtain ⟨vs,hv,hcs⟩:=callee_sound h hcal
                          refine wp_callF ho hx hv ((stInvoke_soundL (r:=r) (i:=i) h ((opvs_sound h hss).append hcs) hta hla hcall hld hbl hpb).mono ?_)
                          rintro e w' ⟨v,L',I',bs',w0',rfl,h1,h2,h3⟩
                          exact ⟨v,rfl,_,L',I',bs',w0',h1,h2.setS _ h3,hfin⟩
                    · cases hcp
                  · cases hcp
                · cases hcp
              · cases hcp
            · cases hcp
          · cases hcp
        · exact hfin.elim
    · exact hst.elim
  · rename_i hc
    refine plain ?_
    unfold stepR
    rw [if_neg hc]
    exact hst
theorem runL_sound {ops:Array Oper} {r:Nat} (h0:tsz P nilE = 0) {bs0:List Nat} {I0:Nat → Nat → Prop} {wz:World} (hQ:∀ st a' w' L' I' bs' w0',LentS I0 bs0 wz I' bs' w0' → Sim (tsz P) I' bs' A w0' st a' w' L' [] → K st → Q .normal a' w'):∀ (rest:List Oper) (i:Nat) {I:Nat → Nat → Prop} {bs:List Nat} {w0:World} {st:St} {a:Act} {w:World} {L:Loc},LentS I0 bs0 wz I bs w0 → Sim (tsz P) I bs A w0 st a w L [] → (∀ j,rest[j]? = ops[i + j]?) →
    runL P M r ops i rest K st → wpOps P ops Q (List.range' i rest.length) a w
  | [],i,I,bs,w0,st,a,w,L,hl,h,_,hst => hQ st a w L I bs w0 hl h hst
  | o :: rest,i,I,bs,w0,st,a,w,L,hl,h,hr,hst => by
    simp only [runL,app] at hst
    have hi:ops[i]? = some o:=by simpa using (hr 0).symm
    have hr':∀ j,rest[j]? = ops[i + 1 + j]?:=fun j => by have:=hr (j + 1); rwa [List.getElem?_cons_succ,show i + (j + 1) = i + 1 + j by omega] at this
    simp only [List.length_cons,List.range'_succ,wpOps,hi]
    unfold grd at hst
    split at hst
    · rename_i b wn hg
      have hgs:guardSt ops st o = some (b == wn):=by rw [gcond_eq,hg]; rfl
      cases hbw:(b == wn)
      · rw [hbw] at hgs
        rw [guardSt_sound h hgs,if_neg (by simp)]
        exact runL_sound h0 hQ rest (i + 1) hl (h.setS _ (by simp [SVR,Im])) hr' (hst.2 (by cases b <;> cases wn <;> simp_all))
      · rw [hbw] at hgs
        rw [guardSt_sound h hgs,if_pos rfl]
        refine .inl (Oper.wp_mono (fun a' w' hh => ?_) (stepL_sound (Q:=Q) h h0 (hst.1 (by simpa using hbw))))
        obtain ⟨st',L',I',bs',w0',hl',h',hk⟩:=hh
        exact runL_sound h0 hQ rest (i + 1) (hl.trans hl') h' hr' hk
    · exact hst.elim
end
def ewrL (P:Program) (M:List (FuncId × List Nat)):Code → (Exit → St → Prop) → St → Prop
  | .skip,Q,st => Q .normal st
  | .seq a b,Q,st => ewrL P M a (eThen (ewrL P M b Q) Q) st
  | .cond c x y,Q,st => brn (opv st c) (app (ewrL P M x Q) st) (app (ewrL P M y Q) st)
  | .block id c,Q,st => ewrL P M c (eBlock id Q) st
  | .exit id,Q,st => Q (.exit id) st
  | .ret,Q,st => Q .ret st
  | .region id ops false,Q,st => runL P M id ops 0 ops.toList (Q .normal) st
  | .loop c,Q,st => ewpL P (.loop c) Q st
  | .region id ops true,Q,st => ewpL P (.region id ops true) Q st
  | _,_,_ => False
section
variable {P:Program} {M:List (FuncId × List Nat)} {Q:Exit → St → Prop} {K:St → Prop} {st st':St} {a b:Code} {c:Operand} {id:Nat} {ops:Array Oper}
theorem ewrL_skip:ewrL P M .skip Q st = Q .normal st:=rfl
theorem ewrL_seq:ewrL P M (.seq a b) Q st = ewrL P M a (eThen (ewrL P M b Q) Q) st:=rfl
theorem ewrL_cond:ewrL P M (.cond c a b) Q st = brn (opv st c) (app (ewrL P M a Q) st) (app (ewrL P M b Q) st):=rfl
theorem ewrL_block:ewrL P M (.block id a) Q st = ewrL P M a (eBlock id Q) st:=rfl
theorem ewrL_exit:ewrL P M (.exit id) Q st = Q (.exit id) st:=rfl
theorem ewrL_ret:ewrL P M .ret Q st = Q .ret st:=rfl
theorem ewrL_region:ewrL P M (.region id ops false) Q st = runL P M id ops 0 ops.toList (Q .normal) st:=rfl
theorem ewrL_draw:ewrL P M (.region id ops true) Q st = ewpL P (.region id ops true) Q st:=rfl
theorem ewrL_loop:ewrL P M (.loop a) Q st = ewpL P (.loop a) Q st:=rfl
theorem ewrL_congr (h:st = st'):ewrL P M a Q st = ewrL P M a Q st':=by rw [h]
theorem ewpL_congr (h:st = st'):ewpL P a Q st = ewpL P a Q st':=by rw [h]
theorem ewrL_sound (h0:tsz P nilE = 0):∀ {c:Code} {Q:Exit → St → Prop} {st:St},ewrL P M c Q st → ewpL P c Q st
  | .skip,_,_,h => ewpL_skip (by simpa only [ewrL] using h)
  | .seq a b,Q,st,h => by
    simp only [ewrL] at h
    refine ewpL_seq (ewpL_mono (ewrL_sound h0 h) ?_)
    intro e st' hx
    cases e <;> simp only [eThen] at hx ⊢
    · exact ewrL_sound h0 hx
    all_goals exact hx
  | .cond c x y,Q,st,h => by
    simp only [ewrL,brn] at h
    split at h
    · rename_i b hb
      exact ewpL_cond hb (fun hx => ewrL_sound h0 (h.1 hx)) (fun hx => ewrL_sound h0 (h.2 hx))
    · exact h.elim
  | .block id c,Q,st,h => by
    simp only [ewrL] at h
    exact ewpL_block (ewrL_sound h0 h)
  | .exit id,_,_,h => ewpL_exit (by simpa only [ewrL] using h)
  | .ret,_,_,h => ewpL_ret (by simpa only [ewrL] using h)
  | .region id ops false,Q,st,h => by
    simp only [ewrL] at h
    intro I bs A w0 a w L hs
    refine wp_region ?_
    have:=runL_sound (Q:=fun e a' w' => ∃ st' L' I' bs' w0',LentS I bs w0 I' bs' w0' ∧ Sim (tsz P) I' bs' A w0' st' a' w' L' [] ∧ Q e st') h0 (fun st a' w' L' I' bs' w0' hl h' hk => ⟨st,L',I',bs',w0',hl,h',hk⟩) ops.toList 0 (LentS.refl _ _ _) hs (fun j => by simp) h
    simpa [List.range_eq_range'] using this
  | .loop c,Q,st,h => by simpa only [ewrL] using h
  | .region id ops true,Q,st,h => by simpa only [ewrL] using h
  | .rangeFunc _ _ _ _,_,_,h => by simp only [ewrL] at h
  | .scope _,_,_,h => by simp only [ewrL] at h
  | .label _,_,_,h => by simp only [ewrL] at h
  | .goto _,_,_,h => by simp only [ewrL] at h
  | .refuse _,_,_,h => by simp only [ewrL] at h
/-- A part of the code, then the rest. -/
def ewrNL (P:Program) (M:List (FuncId × List Nat)):Nat → Code → (St → Prop) → (Exit → St → Prop) → St → Prop
  | 0,_,K,_,st => K st
  | n + 1,.seq a b,K,Q,st => ewrL P M a (eThen (ewrNL P M n b K Q) Q) st
  | _ + 1,_,_,_,_ => False
theorem ewrNL_sound (h0:tsz P nilE = 0) {K:St → Prop} {Q:Exit → St → Prop}:∀ (n:Nat) {c:Code} {st:St},(∀ st,K st → ewpL P (Code.rest n c) Q st) → ewrNL P M n c K Q st → ewpL P c Q st
  | 0,c,st,hK,h => by
    have:=hK st h
    cases c <;> simpa only [Code.rest] using this
  | n + 1,c,st,hK,h => by
    cases c <;> simp only [ewrNL] at h
    case seq a b =>
      refine ewpL_seq (ewpL_mono (ewrL_sound h0 h) ?_)
      intro e st' h'
      cases e <;> simp only [eThen] at h' ⊢
      · exact ewrNL_sound h0 n (fun st hs => by have:=hK st hs; simpa only [Code.rest] using this) h'
      all_goals exact h'
theorem ewrNL_zero {c:Code}:ewrNL P M 0 c K Q st = K st:=rfl
theorem ewrNL_succ {n:Nat}:ewrNL P M (n + 1) (.seq a b) K Q st = ewrL P M a (eThen (ewrNL P M n b K Q) Q) st:=rfl
theorem ewrN_cutL (h0:tsz P nilE = 0) (n:Nat) (keep:List Nat) (ids:List Id) (st1:St) {c:Code} {Q:Exit → St → Prop} {st:St} (hrest:ewpL P (Code.rest n c) Q st1) (h:∀ K:St → Prop,(∀ st,st.drop keep ids = st1 → K st) → ewrNL P M n c K Q st):ewpL P c Q st :=
  ewrNL_sound h0 n (K:=fun st => ewpL P (Code.rest n c) Q st) (fun _ hk => hk) (h _ fun st e => by
    refine ewpL_drop keep ids ?_
    rw [e]
    exact hrest)
theorem loopL {c:Code} (keep:List Nat) (ids:List Id) (J:Nat → St → Prop) (m:Nat) {st:St} (h:∀ Inv,Inv = J → Head Inv m (st.drop keep ids)) (round:∀ Inv,Inv = J → ∀ m st,J m st → ewpL P c (eThen (Rnd Inv m keep ids) Q) st):ewpL P (.loop c) Q st :=
  ewpL_loop (fun n st => J n (st.drop keep ids)) m (h J rfl) fun n st hi => ewpL_drop keep ids (round J rfl n _ hi)
end
attribute [congr] InvX_congr onPrepX_congr stepL_congr runL_congr ewrL_congr ewpL_congr
attribute [simp ↓] onPrepX_some
attribute [simp] onPrepX_some runL_nil runL_cons stepL ewrL_skip ewrL_seq ewrL_cond ewrL_block ewrL_exit ewrL_ret ewrL_region ewrL_draw ewrL_loop ewrNL_zero ewrNL_succ
/-! ### whole rows lent for good -/
section
variable {P:Program} {Q:Exit → St → Prop} {st st':St}
theorem ewpL_lendG {c:Code} {K:Exit → St → Prop} {n:Nat} {l:List (Nat × SV)} {hp:List (Id × PT)} (ids:List Id) (g:Nat) (p:PT) (hgN:g < n) (hids:ids.all Id.isOp = true)
    (hp':∀ (I I':Nat → Nat → Prop) (bs:List Nat) (A:AD) (w0:World) (a:Act) (w:World) (L:Loc) (v:Value),Sim (tsz P) I bs A w0 ⟨slOf n l,ofL hp⟩ a w L [] → (∀ k b,I k b → I' k b) → (∀ k b,I k b → I' 1 b) → (∀ id ∈ ids,∀ t,L id = some t → ∀ y ∈ t.blocks,I' 1 y) → SVR (tsz P) L w I v (slGet l g) → Im w I' v p)
    (h:ewpL P c K ⟨slOf n ((g,.t p) :: killL (fun q => ids.contains q.id) l),ofL (dropI ids hp)⟩):ewpL P c K ⟨slOf n l,ofL hp⟩:=by
  intro I bs A w0 a w L hs
  obtain ⟨v,hv,hr⟩:=hs.slot hgN
  obtain ⟨I',hI'⟩:∃ I':Nat → Nat → Prop,I' = fun k y => I k y ∨ (k = 1 ∧ ((∃ id ∈ ids,∃ t,L id = some t ∧ y ∈ t.blocks) ∨ ∃ k',I k' y)):=⟨_,rfl⟩
  have hII:∀ k y,I k y → I' k y:=fun k y hy => by rw [hI']; exact .inl hy
  have hI11:∀ k y,I k y → I' 1 y:=fun k y hy => by rw [hI']; exact .inr ⟨rfl,.inr ⟨k,hy⟩⟩
  have hI1:∀ k y,k ≠ 1 → I' k y → I k y:=by
    intro k y hk hy
    rw [hI'] at hy
    rcases hy with hy | ⟨rfl,_⟩
    · exact hy
    · exact absurd rfl hk
  have hnew:=hp' I I' bs A w0 a w L v hs hII hI11 (fun id hid t ht y hy => by rw [hI']; exact .inr ⟨rfl,.inl ⟨id,hid,t,ht,hy⟩⟩) hr
  obtain ⟨L',hL'⟩:∃ L':Loc,L' = fun id => if ids.contains id = true then none else L id:=⟨_,rfl⟩
  have hcase:∀ id t,L' id = some t → ¬ ids.contains id = true ∧ L id = some t:=by
    intro id t hid
    rw [hL'] at hid
    simp only at hid
    split at hid
    · cases hid
    · exact ⟨by assumption,hid⟩
  have hap:∀ id t,L' id = some t → ∀ y ∈ t.blocks,¬ ∃ id' ∈ ids,∃ t',L id' = some t' ∧ y ∈ t'.blocks:=by
    rintro id t hid y hy ⟨id',k1,t',k3,hy'⟩
    obtain ⟨hn,hid⟩:=hcase id t hid
    exact hs.apart id id' t t' (by rintro rfl; exact hn (by simpa using k1)) hid k3 y hy hy'
  classical
  have hm:∀ y,y ∈ (List.range w.heap.size).filter (fun y => decide (∃ id t,L' id = some t ∧ y ∈ t.blocks)) ↔ ∃ id t,L' id = some t ∧ y ∈ t.blocks:=by
    intro y
    rw [List.mem_filter]
    simp only [List.mem_range,decide_eq_true_eq]
    constructor
    · exact And.right
    · rintro ⟨id,t,h1,h2⟩
      exact ⟨LT.blocks_lt t (hs.holds id t (hcase id t h1).2) y h2,id,t,h1,h2⟩
  have hholds:∀ id t,L' id = some t → t.holds (tsz P) w I':=fun id t hid => LT.holds_frame hII (fun _ _ _ => rfl) t (hs.holds _ _ (hcase id t hid).2) (fun _ _ => rfl)
  have hs':Sim (tsz P) I' ((List.range w.heap.size).filter (fun y => decide (∃ id t,L' id = some t ∧ y ∈ t.blocks))) A w ⟨slOf n ((g,.t p) :: killL (fun q => ids.contains q.id) l),ofL (dropI ids hp)⟩ a w L' []:={
    keeps:=Kp.refl _ _
    imm:=by
      intro k y hy
      rw [hI'] at hy
      have key:∀ k,I k y → y < w.heap.size ∧ y ∉ (List.range w.heap.size).filter (fun y => decide (∃ id t,L' id = some t ∧ y ∈ t.blocks)):=by
        intro k hy
        refine ⟨hs.immw k y hy,fun hx => ?_⟩
        obtain ⟨id,t,hid,hyt⟩:=(hm y).1 hx
        have hne:=hs.imm_ne hy
        exact (hs.own id t (hcase id t hid).2 y hyt).elim hne.1 hne.2
      rcases hy with hy | ⟨_,⟨id',k1,t',k3,hy'⟩ | ⟨k',hy⟩⟩
      · exact key k hy
      · refine ⟨LT.blocks_lt t' (hs.holds id' t' k3) y hy',fun hx => ?_⟩
        obtain ⟨id,t,hid,hyt⟩:=(hm y).1 hx
        exact hap id t hid y hyt ⟨id',k1,t',k3,hy'⟩
      · exact key k' hy
    er:=by
      intro id
      have:=hs.er id
      simp only at this ⊢
      rw [ofL_dropI,hL']
      simp only
      split
      · rfl
      · exact this
    holds:=hholds
    nodup:=fun id t hid => hs.nodup id t (hcase id t hid).2
    own:=fun id t hid y hy => .inl ((hm y).2 ⟨id,t,hid,hy⟩)
    apart:=fun id id' t t' hne hid hid' => hs.apart id id' t t' hne (hcase id t hid).2 (hcase id' t' hid').2
    hholds:=by simp
    hnodup:=by simp
    hown:=by simp
    hapart:=by simp
    slots:=by
      have hk:SVRL (tsz P) L' w I' a.tmps.toList (slOf n (killL (fun q => ids.contains q.id) l)):=by
        have:=SVRL.kill (L':=L') (fun q => ids.contains q.id) (fun pl node hf _ hl => by
          refine ⟨node,?_,Shp.refl _⟩
          unfold look at hl ⊢
          rw [hL']
          simp only
          rw [if_neg (by simp only at hf; rw [hf]; simp)]
          exact hl) hII (fun _ _ _ => rfl) hs.slots
        simp only at this
        rwa [slOf_kill] at this
        all_goals rfl
      refine SVRL.of_at (by rw [slOf_len]; have:=hs.slots.len; simp only [slOf_len] at this; exact this) ?_
      intro i u s hu hsl
      have hi:i < n:=by
        have:=(List.getElem?_eq_some_iff.1 hsl).1
        simpa only [slOf_len] using this
      have hsl':(slOf n ((g,.t p) :: killL (fun q => ids.contains q.id) l))[i]? = some s:=hsl
      rw [slOf_at,if_pos hi] at hsl'
      cases hsl'
      simp only [slGet]
      split
      · rename_i he
        subst he
        rw [← Array.getElem?_toList,hu] at hv
        cases hv
        simp only [SVR]
        exact hnew
      · obtain ⟨u',hu',hr'⟩:=hk.at_ i _ (by rw [slOf_at,if_pos hi])
        rw [hu] at hu'
        cases hu'
        exact hr'
    nodef:=hs.nodef
    args:=fun i j v hv => by
      obtain ⟨t,h1,h2⟩:=hs.args i j v hv
      refine ⟨t,?_,h2⟩
      rw [hL']
      simp only
      rw [if_neg (fun hc => by
        have:=List.all_eq_true.1 hids (.arg i j) (by simpa using hc)
        simp [Id.isOp] at this)]
      exact h1 }
  refine wp_mono (h I' _ A w a w L' hs') ?_
  rintro ex a' w' ⟨st',L2,I2,b2,w2,hl,h2,hK⟩
  exact ⟨st',L2,I2,b2,w2,LentS.trans ⟨hI1,fun y hy => by
    obtain ⟨id,t,hid,hyt⟩:=(hm y).1 hy
    exact hs.own id t (hcase id t hid).2 y hyt,hs.keeps,hII,fun y hy => by
    rw [hI'] at hy
    rcases hy with hy | ⟨_,⟨id',k1,t',k3,hy'⟩ | ⟨k',hy⟩⟩
    · exact .inl ⟨1,hy⟩
    · exact .inr (hs.own id' t' k3 y hy')
    · exact .inl ⟨k',hy⟩⟩ hl,h2,hK⟩
theorem ewpL_lendRow {c:Code} {K:Exit → St → Prop} {n:Nat} {l:List (Nat × SV)} {hp:List (Id × PT)} {e m:Nat} {cs:List PT} (x:Id) (hxo:x.isOp = true) (g:Nat) (hgN:g < n) (hg:slGet l g = .ref ⟨x,[]⟩ 0 m) (hx:ofL hp x = some (.sl 0 e m cs)) (hcs:m = 0 → cs = [])
    (h:ewpL P c K ⟨slOf n ((g,.t (.sl 1 0 m (PT.unownL cs))) :: killL (fun q => [x].contains q.id) l),ofL (dropI [x] hp)⟩):ewpL P c K ⟨slOf n l,ofL hp⟩:=by
  refine ewpL_lendG [x] g _ hgN (by simp [hxo]) ?_ h
  intro I I' bs A w0 a w L v hs hII hI11 hB hr
  have her:=hs.er x
  simp only [hx,Option.map_eq_some_iff] at her
  obtain ⟨T,hT,hTe⟩:=her
  have hlT:look L ⟨x,[]⟩ = some T:=by simp [look,hT,LT.get]
  rw [hg] at hr
  simp only [SVR] at hr
  rcases hr with ⟨b,cap0,e',n',lcs,o',cap,hl,rfl,hco,hle,hlen,hcap⟩ | ⟨e'',hl,_,rfl,ad,rfl⟩
  · rw [hlT] at hl
    cases hl
    have h4:=own_imm hII hI11 _ (hs.holds x _ hT) (hB x (by simp) _ hT)
    simp only [LT.erase,PT.sl.injEq,true_and] at hTe
    obtain ⟨rfl,rfl,rfl⟩:=hTe
    simp only [LT.val,LT.erase,PT.unown,Im] at h4 ⊢
    obtain ⟨ad,cap',he,_,h5⟩:=h4
    simp only [Value.slice.injEq] at he
    obtain ⟨rfl,_,_⟩:=he
    refine ⟨_,_,rfl,hle,?_⟩
    rcases hco with rfl | rfl
    · have hn0:n' = 0:=by omega
      rw [hcs hn0]
      simp [PT.unownL,ImL]
    · exact h5
  · have:cs = []:=hcs rfl
    subst this
    simp only [Im,PT.unownL,ImL]
    exact ⟨_,_,rfl,Nat.le_refl _,trivial⟩
/-- A nil row gets a name. -/
theorem ewpL_nil {P:Program} {Q:Exit → St → Prop} {c:Code} {n:Nat} {l:List (Nat × SV)} {hp:List (Id × PT)} (j:Nat) (id:Id) (e:Nat) {e0:Nat} (hjn:j < n) (hid:id.isOp = true) (hj:slGet l j = .t (.sl 0 e0 0 [])) (hno:ofL hp id = none) (h:ewpL P c Q ⟨slOf n ((j,.ref ⟨id,[]⟩ 0 0) :: l),ofL ((id,.sl 0 e 0 []) :: hp)⟩):ewpL P c Q ⟨slOf n l,ofL hp⟩:=by
  intro I bs A w0 a w L hs
  have hat:=hs.slots.at_ j (.t (.sl 0 e0 0 [])) (by show (slOf n l)[j]? = _; rw [slOf_at,if_pos hjn,hj])
  obtain ⟨v,hv,hr⟩:=hat
  simp only [SVR,Im] at hr
  obtain ⟨_,_,ad,rfl⟩:=hr
  have hLn:L id = none:=by
    have:=hs.er id
    simp only [hno] at this
    cases hl:L id with
    | none => rfl
    | some t => rw [hl] at this; simp at this
  let t:LT:=.leaf (.slice ad 0 0) (.sl 0 e 0 [])
  have ht:t.holds (tsz P) w I:=by simp only [LT.holds,t,Im]; exact ⟨⟨trivial,trivial,ad,rfl⟩,rfl⟩
  have hcase:∀ i u,updF L id (some t) i = some u → (i = id ∧ u = t) ∨ (i ≠ id ∧ L i = some u):=by
    intro i u hu
    by_cases hi:i = id
    · subst hi; rw [updF_same] at hu; cases hu; exact .inl ⟨rfl,rfl⟩
    · rw [updF_ne _ _ hi] at hu; exact .inr ⟨hi,hu⟩
  have hst:Stays (fun _ => false) L (updF L id (some t)):=by
    intro pl node _ _ hn
    refine ⟨node,?_,Shp.refl _⟩
    unfold look at hn ⊢
    by_cases hi:pl.id = id
    · rw [hi,hLn] at hn; simp at hn
    · rw [updF_ne _ _ hi]; exact hn
  have hsl:SVRL (tsz P) (updF L id (some t)) w I a.tmps.toList (slOf n l):=by
    refine SVRL.of_at hs.slots.len ?_
    intro i u s hu hsi
    obtain ⟨u',hu',hr⟩:=hs.slots.at_ i s hsi
    rw [hu] at hu'
    cases hu'
    exact (SVR.all _ hst (fun _ _ hb => hb) (fun _ _ _ => rfl)).1 u s (uses_false s) hr
  refine h I bs A w0 a w (updF L id (some t)) ?_
  refine { keeps:=hs.keeps,imm:=hs.imm,nodef:=hs.nodef,hholds:=by simp,hnodup:=by simp,hown:=by simp,hapart:=by simp,er:=?_,holds:=?_,nodup:=?_,own:=?_,apart:=?_,slots:=?_,args:=?_ }
  · intro i
    by_cases hi:i = id
    · subst hi; simp [updF_same,ofL,t,LT.erase]
    · rw [updF_ne _ _ hi]; simp only [ofL,if_neg hi]; exact hs.er i
  · intro i u hu
    rcases hcase i u hu with ⟨_,rfl⟩ | ⟨_,hu⟩
    · exact ht
    · exact hs.holds i u hu
  · intro i u hu
    rcases hcase i u hu with ⟨_,rfl⟩ | ⟨_,hu⟩
    · simp [t,LT.blocks]
    · exact hs.nodup i u hu
  · intro i u hu b hb
    rcases hcase i u hu with ⟨_,rfl⟩ | ⟨_,hu⟩
    · simp [t,LT.blocks] at hb
    · exact hs.own i u hu b hb
  · intro i i' u u' hne hu hu' b hb hb'
    rcases hcase i u hu with ⟨_,rfl⟩ | ⟨_,hu⟩
    · simp [t,LT.blocks] at hb
    · rcases hcase i' u' hu' with ⟨_,rfl⟩ | ⟨_,hu'⟩
      · simp [t,LT.blocks] at hb'
      · exact hs.apart i i' u u' hne hu hu' b hb hb'
  · have:=hsl.set j (v:=.slice ad 0 0) (s:=.ref ⟨id,[]⟩ 0 0) (by
      simp only [SVR]
      exact .inr ⟨e,by simp [look,updF_same,LT.get,t],trivial,trivial,ad,rfl⟩)
    rw [slOf_set] at this
    have hv':a.tmps.toList.set j (.slice ad 0 0) = a.tmps.toList:=by
      apply List.ext_getElem?
      intro k
      by_cases hk:j = k
      · subst hk; rw [List.getElem?_set_self (List.getElem?_eq_some_iff.1 hv).1]; exact hv.symm
      · rw [List.getElem?_set_ne hk]
    rwa [hv'] at this
  · intro i k u hu
    obtain ⟨t',h1,h2⟩:=hs.args i k u hu
    exact ⟨t',by rw [updF_ne _ _ (fun he => Id.isOp_ne hid i k he.symm)]; exact h1,h2⟩
end
end Go.V
