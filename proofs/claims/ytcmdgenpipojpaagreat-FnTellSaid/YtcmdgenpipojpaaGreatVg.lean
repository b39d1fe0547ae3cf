/- The road V: code reckoned over trees of values, proved sound against the model once. No conditions. -/
import Derived.Test.YtcmdgenpipojpaaGreatVf
import Derived.RangeFuncCalls
import Derived.RangeFuncLeaves
import Derived.Shelf.GgSortFunc.InsertionK
import Derived.Shelf.SlSortCmp.InsertionK
set_option linter.all false
namespace Go.V
open Go.RowKit
set_option linter.unusedSimpArgs false
set_option linter.unusedVariables false

/-! ### a function whose two results are one row -/
def dupT (st:St) (t1 t2:Nat):Option PT:=match st.sl[t1]?,st.sl[t2]? with
  | some (.ref pl1 o1 n1),some (.ref pl2 o2 n2) => if pl1 = pl2 ∧ pl1.path = [] ∧ pl1.id.isOp = true ∧ o1 = 0 ∧ o2 = 0 ∧ n1 = n2 then (match st.hp pl1.id with
      | some (.sl 0 e n cs) => if n = n1 then some (.sl 0 e n cs) else none
      | _ => none)
    else none
  | _,_ => none
def PostD (t1 t2:Nat) (args:List PV) (p:PT) (outs:List PV):Exit → St → Prop
  | .normal,st => dupT st t1 t2 = some p ∧ outVs st.hp 0 args = some outs
  | .ret,st => dupT st t1 t2 = some p ∧ outVs st.hp 0 args = some outs
  | _,_ => False
theorem PostD_normal {t1 t2:Nat} {args outs:List PV} {p:PT} {st:St}:PostD t1 t2 args p outs .normal st = (dupT st t1 t2 = some p ∧ outVs st.hp 0 args = some outs):=rfl
theorem PostD_ret {t1 t2:Nat} {args outs:List PV} {p:PT} {st:St}:PostD t1 t2 args p outs .ret st = (dupT st t1 t2 = some p ∧ outVs st.hp 0 args = some outs):=rfl
section
variable {sz:Nat → Nat} {I:Nat → Nat → Prop} {w:World} {L:Loc}
end
def PostX (P:Program) (t1 t2:Nat) (rs:List ResultVar) (args:List PV) (r:PV × List PV):Exit → St → Prop:=match r.1 with
  | .dup p => PostD t1 t2 args p r.2
  | _ => PostS P rs args r
theorem PostX_dup {P:Program} {t1 t2:Nat} {rs:List ResultVar} {args outs:List PV} {p:PT}:PostX P t1 t2 rs args (.dup p,outs) = PostD t1 t2 args p outs:=rfl
theorem PostX_tup {P:Program} {t1 t2:Nat} {rs:List ResultVar} {args outs:List PV} {l:List PV}:PostX P t1 t2 rs args (.tup l,outs) = PostS P rs args (.tup l,outs):=rfl
attribute [simp] PostD_normal PostD_ret dupT PostX_dup PostX_tup
end Go.V

namespace Go.V
open Go.RowKit
set_option linter.unusedSimpArgs false
set_option linter.unusedVariables false

/-! ### a function that hands back a closure over a box of its own -/
def boxIds:List SV → Option (List Id)
  | [] => some []
  | .ptr pl o :: ss => if pl.path = [] ∧ pl.id.isOp = true ∧ o = 0 then (boxIds ss).map (pl.id :: ·) else none
  | _ :: _ => none
def boxPTs (hp:Id → Option PT):List Id → Option (List PT)
  | [] => some []
  | id :: ids => match hp id,boxPTs hp ids with
    | some (.sl 0 e 1 cs),some ps => some (.sl 0 e 1 cs :: ps)
    | _,_ => none
def cloT (st:St) (g:FuncId) (t1:Nat):Option (List PT):=match st.sl[t1]? with
  | some (.fnc g' ss) => if g' = g then (match boxIds ss with
      | some ids => if ids.Nodup then boxPTs st.hp ids else none
      | none => none)
    else none
  | _ => none
def PostC (g:FuncId) (t1:Nat) (args:List PV) (ps:List PT) (outs:List PV):Exit → St → Prop
  | .normal,st => cloT st g t1 = some ps ∧ outVs st.hp 0 args = some outs
  | .ret,st => cloT st g t1 = some ps ∧ outVs st.hp 0 args = some outs
  | _,_ => False
theorem PostC_normal {g:FuncId} {t1:Nat} {args outs:List PV} {ps:List PT} {st:St}:PostC g t1 args ps outs .normal st = (cloT st g t1 = some ps ∧ outVs st.hp 0 args = some outs):=rfl
theorem PostC_ret {g:FuncId} {t1:Nat} {args outs:List PV} {ps:List PT} {st:St}:PostC g t1 args ps outs .ret st = (cloT st g t1 = some ps ∧ outVs st.hp 0 args = some outs):=rfl
theorem boxPTs_sound {sz:Nat → Nat} {I:Nat → Nat → Prop} {bs:List Nat} {A:AD} {w0 w:World} {st:St} {a:Act} {L:Loc} (h:Sim sz I bs A w0 st a w L []):∀ {ss:List SV} {ids:List Id} {us:List Value} {ps:List PT},boxIds ss = some ids → SVRL sz L w I us ss → boxPTs st.hp ids = some ps →
    ∃ ts:List LT,ts.map LT.erase = ps ∧ us = ts.map LT.ptr ∧ (∀ t ∈ ts,∃ b cap e cs,t = .own b cap e 1 cs) ∧ (∀ t ∈ ts,∃ id ∈ ids,id.isOp = true ∧ L id = some t) ∧ (ids.Nodup → (ts.flatMap LT.blocks).Nodup)
  | [],ids,us,ps,h1,h2,h3 => by
    simp only [boxIds,Option.some.injEq] at h1
    subst h1
    simp only [boxPTs,Option.some.injEq] at h3
    subst h3
    simp only [SVRL] at h2
    subst h2
    exact ⟨[],rfl,rfl,by simp,by simp,by simp⟩
  | s :: ss,ids,us,ps,h1,h2,h3 => by
    cases s <;> simp only [boxIds,reduceCtorEq] at h1
    rename_i pl o
    split at h1
    · rename_i hc
      obtain ⟨hpath,hop,rfl⟩:=hc
      obtain ⟨id,path⟩:=pl
      simp only at hpath hop h1
      subst hpath
      rw [Option.map_eq_some_iff] at h1
      obtain ⟨ids',h1,rfl⟩:=h1
      simp only [boxPTs] at h3
      split at h3
      · rename_i e cs ps' hhp hps
        cases h3
        simp only [SVRL] at h2
        obtain ⟨v,us',rfl,r1,r2⟩:=h2
        obtain ⟨ts,e1,e2,e3,e4,e5⟩:=boxPTs_sound h h1 r2 hps
        have her:=h.er id
        rw [hhp,Option.map_eq_some_iff] at her
        obtain ⟨t,ht,hte⟩:=her
        simp only [SVR] at r1
        obtain ⟨b,cap0,e2',n2,cs2,hlk,rfl⟩:=r1
        have hlk':look L ⟨id,[]⟩ = some t:=by simp [look,ht,LT.get]
        rw [hlk'] at hlk
        cases hlk
        have hte2:=hte
        simp only [LT.erase,PT.sl.injEq,true_and] at hte2
        obtain ⟨rfl,rfl,_⟩:=hte2
        refine ⟨.own b cap0 e2' 1 cs2 :: ts,by rw [List.map_cons,hte,e1],by rw [List.map_cons,e2]; rfl,?_,?_,?_⟩
        · intro t' ht'
          rcases List.mem_cons.1 ht' with rfl | ht'
          · exact ⟨_,_,_,_,rfl⟩
          · exact e3 t' ht'
        · intro t' ht'
          rcases List.mem_cons.1 ht' with rfl | ht'
          · exact ⟨id,by simp,hop,ht⟩
          · obtain ⟨id',k1,k2,k3⟩:=e4 t' ht'
            exact ⟨id',List.mem_cons_of_mem _ k1,k2,k3⟩
        · intro hn
          have hn':=List.nodup_cons.1 hn
          rw [List.flatMap_cons]
          refine List.nodup_append.2 ⟨h.nodup id _ ht,e5 hn'.2,fun x hx y hy hxy => ?_⟩
          subst hxy
          obtain ⟨t',ht',hxt⟩:=List.mem_flatMap.1 hy
          obtain ⟨id',k1,k2,k3⟩:=e4 t' ht'
          exact h.apart id id' _ _ (by rintro rfl; exact hn'.1 k1) ht k3 x hx hxt
      · cases h3
    · cases h1
theorem okC {P : Program} {f : FuncId} {fn : Func} {c : Code} {args outs : List PV} {ps : List PT} {n t1 : Nat} (g : FuncId) (h0 : tsz P nilE = 0) (hf : P.funcs[f]? = some fn) (hn : (fn.name == "runtime.NumGoroutine") = false) (hb : fn.body = some c)
    (hnt:fn.ntmps = n) (hrs:fn.results = #[.tmp t1]) (hle:args.length ≤ n) (h:ewp P c (PostC g t1 args ps outs) ⟨slOf n (entL 0 args),ofL (argL 0 args)⟩):CallOK P f args (.clo g ps) outs:=by
  subst hnt
  have h1:=ewp_entry hle h
  intro I w las he hh hnd hI
  refine CallsF.of_calls hf hn hb (calls_of_wp hf hb ?_)
  have hs:=Sim.entry las hh hnd hI fn.ntmps
  rw [he] at hs
  refine wp_mono (h1 I _ _ w _ w _ hs) ?_
  rintro e a' w' ⟨st',L',g1,g2⟩
  have fin:(cloT st' g t1 = some ps ∧ outVs st'.hp 0 args = some outs) → bodyPost P fn (CallPost P I w las (.clo g ps) outs) .ret a' w':=by
    rintro ⟨hd,hout⟩
    unfold cloT at hd
    split at hd
    · rename_i g' ss hs1
      split at hd
      · rename_i hg
        subst hg
        split at hd
        · rename_i ids hids
          split at hd
          · rename_i hnodup
            obtain ⟨vs,hrun,hvs⟩:=results_sound g1 (fn:=fn) (ss:=[.fnc g' ss]) (by rw [hrs]; simp [resSVs,resSV,hs1])
            simp only [SVRL] at hvs
            obtain ⟨v1,_,rfl,r1,rfl⟩:=hvs
            simp only [SVR] at r1
            obtain ⟨us,rfl,u1⟩:=r1
            obtain ⟨ts,e1,rfl,e3,e4,e5⟩:=boxPTs_sound g1 hids u1 hd
            have hIw:∀ k b,I k b → w'.heap[b]? = w.heap[b]?:=fun k b hb => g1.keeps.block b (g1.imm k b hb).1 (g1.imm k b hb).2
            rw [← he] at hout
            obtain ⟨o1,o2,o3,o4,o5⟩:=outLVs_sound g1 (las:=las) (i:=0) (fun t hs ht => LT.holds_frame (fun _ _ hb => hb) hIw t ht (fun b hb => by rw [notSl_blocks (by rw [hs]; decide)] at hb; simp at hb))
              (fun k x ps hx => (Im.all (fun _ _ hb => hb) hIw).2.1 _ _ _ _ hx) hh (fun k la hk j t ht => by simp [entryL,hk,ht]) hout
            refine ⟨g1.nodef,_,hrun,.clo g' ts,outLVs L' 0 las,rfl,by simp only [LV.erase,e1],o1,o2,?_,o3,?_,?_,g1.keeps⟩
            · simp only [LV.holds]
              intro t ht
              obtain ⟨id,_,_,k3⟩:=e4 t ht
              exact ⟨g1.holds id _ k3,e3 t ht⟩
            · simp only [LV.blocks]
              refine List.nodup_append.2 ⟨e5 hnodup,o4,fun x hx y hy hxy => ?_⟩
              subst hxy
              obtain ⟨t,ht,hxt⟩:=List.mem_flatMap.1 hx
              obtain ⟨id,_,k2,k3⟩:=e4 t ht
              obtain ⟨k,j,u,_,hu,hbu⟩:=o5 x hy
              exact g1.apart _ _ _ _ (Id.isOp_ne k2 k j) k3 hu x hxt hbu
            · simp only [LV.blocks]
              intro b hb
              rcases List.mem_append.1 hb with hb | hb
              · obtain ⟨t,ht,hxt⟩:=List.mem_flatMap.1 hb
                obtain ⟨id,_,_,k3⟩:=e4 t ht
                exact g1.own _ _ k3 b hxt
              · obtain ⟨k,j,u,_,hu,hbu⟩:=o5 b hb
                exact g1.own _ _ hu b hbu
          · cases hd
        · cases hd
      · cases hd
    · cases hd
  cases e <;> simp only [PostC] at g2
  · exact fin g2
  · exact fin g2
attribute [simp] PostC_normal PostC_ret cloT boxIds boxPTs
end Go.V

namespace Go.V
open Go.RowKit
set_option linter.unusedSimpArgs false
set_option linter.unusedVariables false

/-! ### regions walked within a round of a range over a function -/
def wideR (l:Option Nat):Fence:={ Fence.wide with round:=l }
section
variable {P:Program} {o:Oper} {a:Act} {w w':World} {K:Act → World → Prop} {Q:Exit → Act → World → Prop} {n:Nat} {l:Option Nat} {E:Env}
theorem callsIn_wideR {f:FuncId} {args:Array Value} {R:Ending → World → Prop} (h:Calls P f args w R):CallsIn (wideR l) n P f args w R:=by
  cases l with
  | none => exact callsIn_wide.2 h
  | some l => exact CallsIn.inRound l (callsIn_wide.2 h)
theorem callsIn_toR {f:FuncId} {args:Array Value} {R:Ending → World → Prop} (h:CallsIn (wideR l) n P f args w R):Calls P f args w R:=by
  cases l with
  | none => exact callsIn_wide.1 h
  | some l => exact callsIn_wide.1 (CallsIn.outOfRound (l:=l) h)
theorem rowsIn_wideR {row:String} {args:Array Value} {R:Value → World → Prop} (h:Rows P row args w R):RowsIn (wideR l) n P row args w R :=
  fun c cs _ => let ⟨v,w',r,s⟩:=h c cs; ⟨v,w',r,(StepsIn.of_steps s).mono fun m _ => by
    intro g _
    exact ⟨fun h => by simp [wideR,Fence.wide] at h,Or.inl trivial,fun _ _ => trivial,fun _ h => by simp [wideR,Fence.wide] at h⟩⟩
theorem upIn {r:Result Next} (h:o.upon P a K Q r):o.uponIn (wideR l) n P a K Q r:=by
  cases r with
  | ok x w' =>
    cases x <;> simp only [Oper.upon,Oper.uponIn] at h ⊢ <;> first
      | exact h
      | exact ⟨fun h => by simp [wideR,Fence.wide] at h,callsIn_wideR h⟩
      | exact ⟨fun h => by simp [wideR,Fence.wide] at h,rowsIn_wideR h⟩
  | halt x w' =>
    cases x <;> simp only [Oper.upon,Oper.uponIn] at h ⊢ <;> exact h
theorem yieldOp {c:Call} {x y:Operand} {j:Nat} (hop:o.op = .call c) (hc:c.callee = .value x) (ha:c.args = #[y]) (hx:a.eval x = .func (.yield j) #[] #[])
    (hY:YieldAt (wideR l) n P j #[a.eval y] w fun e W' => e = .returned (.bool true) ∧ K (a.put o.dst (.bool true)) W'):o.wpIn (wideR l) (n + 1) P a w K Q:=by
  obtain ⟨fn,tm,asg,bdy,hy,hR⟩:=hY
  refine ⟨fun _ _ => trivial,?_⟩
  rw [Oper.semAt_eq _ _ _ (by intro c h; rw [hop] at h; cases h)]
  have e:∀ ρ:Operand → Value,ρ x = .func (.yield j) #[] #[] → (Instr.yield j #[ρ y]).run P w = .ok (.round j fn tm asg bdy) w → (execOp ρ o).run P w = .ok (.round j fn tm asg bdy) w:=by
    intro ρ hx hy
    simp [execOp,hop,resolve,hc,ha,Deferred.ofValue,hx,invoke,hy,Sem.run_bind,Sem.run_pure,Result.andThen]
  rw [e a.eval hx hy]
  simp only [Oper.uponIn]
  exact ⟨fun h => by simp [wideR,Fence.wide] at h,hR.mono (by rintro e W' ⟨rfl,h⟩; exact h)⟩
theorem wpOpsIn_one {ops:Array Oper} {i:Nat} {rest:List Nat} (ho:ops[i]? = some o) (hg:o.guard = none) (h:o.wpIn (wideR l) n P a w (wpOpsIn (wideR l) n P ops Q rest) Q):wpOpsIn (wideR l) n P ops Q (i :: rest) a w:=by
  simp only [wpOpsIn,ho]
  rw [if_pos (by simp [Region.wanted,hg])]
  exact h
def notDefer (o:Oper):Bool:=match o.op with
  | .defer _ => false
  | _ => true
theorem notDefer_ne (h:notDefer o = true):∀ c,o.op ≠ .defer c:=by
  intro c hc
  simp [notDefer,hc] at h
theorem opIn (hd:notDefer o = true) (h:o.wp P a w K Q):o.wpIn (wideR l) n P a w K Q :=
  ⟨fun _ _ => trivial,by rw [Oper.semAt_eq _ _ _ (notDefer_ne hd)]; exact upIn h⟩
variable {I:Nat → Nat → Prop} {bs:List Nat} {A:AD} {w0:World} {st':St}
end
section
variable {P:Program} {M:List (FuncId × List Nat)} {K:St → Prop} {Q:Exit → Act → World → Prop} {n:Nat} {l:Option Nat} {I:Nat → Nat → Prop} {bs:List Nat} {A:AD} {w0:World}
theorem runInP {ops:Array Oper} {r m:Nat} (h0:tsz P nilE = 0):∀ (rest:List Oper) (i:Nat) {st:St} {a:Act} {w:World} {L:Loc},Sim (tsz P) I bs A w0 st a w L [] → (∀ j,j < rest.length → rest[j]? = ops[i + j]?) → rest.all notDefer = true →
    (∀ st a' w' L',Sim (tsz P) I bs A w0 st a' w' L' [] → K st → wpOpsIn (wideR l) n P ops Q (List.range' (i + rest.length) m) a' w') →
    runR P M r ops i rest K st → wpOpsIn (wideR l) n P ops Q (List.range' i (rest.length + m)) a w
  | [],i,st,a,w,L,h,_,_,hQ,hst => by
    have:=hQ st a w L h hst
    simpa using this
  | o :: rest,i,st,a,w,L,h,hr,hnd,hQ,hst => by
    simp only [runR,app] at hst
    simp only [List.all_cons,Bool.and_eq_true] at hnd
    have hi:ops[i]? = some o:=by simpa using (hr 0 (by simp)).symm
    have hr':∀ j,j < rest.length → rest[j]? = ops[i + 1 + j]?:=fun j hj => by have:=hr (j + 1) (by simpa using hj); rwa [List.getElem?_cons_succ,show i + (j + 1) = i + 1 + j by omega] at this
    have hQ':∀ st a' w' L',Sim (tsz P) I bs A w0 st a' w' L' [] → K st → wpOpsIn (wideR l) n P ops Q (List.range' (i + 1 + rest.length) m) a' w':=fun st a' w' L' h1 h2 => by
      have:=hQ st a' w' L' h1 h2
      rwa [List.length_cons,show i + (rest.length + 1) = i + 1 + rest.length by omega] at this
    rw [List.length_cons,show rest.length + 1 + m = (rest.length + m) + 1 by omega]
    simp only [List.range'_succ,wpOpsIn,hi]
    unfold grd at hst
    split at hst
    · rename_i b wn hg
      have hgs:guardSt ops st o = some (b == wn):=by rw [gcond_eq,hg]; rfl
      cases hbw:(b == wn)
      · rw [hbw] at hgs
        rw [guardSt_sound h hgs,if_neg (by simp)]
        exact ⟨fun _ _ => trivial,runInP h0 rest (i + 1) (h.setS _ (by simp [SVR,Im])) hr' hnd.2 hQ' (hst.2 (by revert hbw; cases b <;> cases wn <;> decide))⟩
      · rw [hbw] at hgs
        rw [guardSt_sound h hgs,if_pos rfl]
        refine opIn hnd.1 (Oper.wp_mono (fun a' w' hh => ?_) (stepR_sound (Q:=Q) h h0 (hst.1 (by simpa using hbw))))
        obtain ⟨st',L',h',hk⟩:=hh
        exact runInP h0 rest (i + 1) h' hr' hnd.2 hQ' hk
    · exact hst.elim
theorem runIn {ops:Array Oper} {r:Nat} (h0:tsz P nilE = 0) (hQ:∀ st a' w' L',Sim (tsz P) I bs A w0 st a' w' L' [] → K st → Q .normal a' w') (rest:List Oper) (i:Nat) {st:St} {a:Act} {w:World} {L:Loc} (hs:Sim (tsz P) I bs A w0 st a w L []) (hr:∀ j,rest[j]? = ops[i + j]?) (hnd:rest.all notDefer = true)
    (h:runR P M r ops i rest K st):wpOpsIn (wideR l) n P ops Q (List.range' i rest.length) a w:=by
  have:=runInP (l:=l) (n:=n) (Q:=Q) (m:=0) (K:=K) h0 rest i hs (fun j _ => hr j) hnd (fun st a' w' L' h1 h2 => by simpa [wpOpsIn] using hQ st a' w' L' h1 h2) h
  simpa using this
/-- A region's operations from the k-th on. -/
theorem opsT {ops:Array Oper} {id:Nat} {st:St} {L:Loc} {a:Act} {w:World} (M:List (FuncId × List Nat)) (k:Nat) (keep:List Nat) (ids:List Id) (st1:St) (h0:tsz P nilE = 0) (hs:Sim (tsz P) I bs A w0 st a w L []) (hnd:(ops.toList.drop k).all notDefer = true)
    (hr:∀ K:St → Prop,(∀ st',st'.drop keep ids = st1 → K st') → runR P M id ops k (ops.toList.drop k) K st) (h:∀ a' w' L',Sim (tsz P) I bs A w0 st1 a' w' L' [] → Q .normal a' w'):wpOpsIn (wideR l) n P ops Q (List.range' k (ops.toList.drop k).length) a w :=
  runIn (l:=l) (n:=n) (K:=fun st' => st'.drop keep ids = st1) (Q:=Q) h0 (fun st' a' w' L' h1 h2 => by
    obtain ⟨L2,h3⟩:=h1.lose keep ids
    rw [h2] at h3
    exact h a' w' L2 h3) (ops.toList.drop k) k hs (fun j => by rw [List.getElem?_drop]; simp) hnd (hr _ fun st' e => e)
/-- The first k operations of a region; the others stay. -/
theorem regP {ops:Array Oper} {id:Nat} {st:St} {L:Loc} {a:Act} {w:World} (M:List (FuncId × List Nat)) (k:Nat) (keep:List Nat) (ids:List Id) (st1:St) (h0:tsz P nilE = 0) (hs:Sim (tsz P) I bs A w0 st a w L []) (hk:k ≤ ops.size) (hnd:(ops.toList.take k).all notDefer = true)
    (hr:∀ K:St → Prop,(∀ st',st'.drop keep ids = st1 → K st') → runR P M id ops 0 (ops.toList.take k) K st) (h:∀ a' w' L',Sim (tsz P) I bs A w0 st1 a' w' L' [] → wpOpsIn (wideR l) n P ops Q (List.range' k (ops.size - k)) a' w'):(Code.region id ops false).wpIn (wideR l) n P Q a w:=by
  refine wpIn_region ?_
  have hl:(ops.toList.take k).length = k:=by rw [List.length_take,Array.length_toList]; omega
  have:=runInP (l:=l) (n:=n) (Q:=Q) (m:=ops.size - k) (K:=fun st' => st'.drop keep ids = st1) (ops:=ops) h0 (ops.toList.take k) 0 hs (fun j hj => by rw [List.getElem?_take,if_pos (by omega)]; simp) hnd (fun st' a' w' L' h1 h2 => by
    obtain ⟨L2,h3⟩:=h1.lose keep ids
    rw [h2] at h3
    have:=h a' w' L2 h3
    rw [hl,Nat.zero_add]
    exact this) (hr _ fun st' e => e)
  rw [hl,show k + (ops.size - k) = ops.size by omega] at this
  rw [List.range_eq_range']
  exact this
theorem regT {ops:Array Oper} {id:Nat} {st:St} {L:Loc} {a:Act} {w:World} (M:List (FuncId × List Nat)) (keep:List Nat) (ids:List Id) (st1:St) (h0:tsz P nilE = 0) (hs:Sim (tsz P) I bs A w0 st a w L []) (hnd:ops.toList.all notDefer = true)
    (hr:∀ K:St → Prop,(∀ st',st'.drop keep ids = st1 → K st') → runR P M id ops 0 ops.toList K st) (h:∀ a' w' L',Sim (tsz P) I bs A w0 st1 a' w' L' [] → Q .normal a' w'):(Code.region id ops false).wpIn (wideR l) n P Q a w:=by
  refine wpIn_region ?_
  have:=runIn (l:=l) (n:=n) (K:=fun st' => st'.drop keep ids = st1) (Q:=Q) h0 (fun st' a' w' L' h1 h2 => by
    obtain ⟨L2,h3⟩:=h1.lose keep ids
    rw [h2] at h3
    exact h a' w' L2 h3) ops.toList 0 hs (fun j => by simp) hnd (hr _ fun st' e => e)
  simpa [List.range_eq_range'] using this
end
section
variable {sz:Nat → Nat} {I:Nat → Nat → Prop} {bs:List Nat} {A:AD} {w0 w w':World} {st:St} {a:Act} {L:Loc}
theorem LT.blocks_cells {sz:Nat → Nat} {w:World} {I:Nat → Nat → Prop}:∀ t:LT,t.holds sz w I → ∀ b ∈ t.blocks,∃ arr e f,w.heap[b]? = some (.cells arr e f):=by
  refine LT.ind ?_ ?_
  · intro v p _ b hb; simp [LT.blocks] at hb
  · intro b cap e n cs ih h x hx
    simp only [LT.holds] at h
    simp only [LT.blocks,List.mem_cons,List.mem_flatMap] at hx
    rcases hx with rfl | ⟨c,hc,hx⟩
    · obtain ⟨⟨arr,h1,_⟩,_⟩:=h
      exact ⟨_,_,_,h1⟩
    · exact ih c hc (h.2.2.2.2 c hc) x hx
/-- A block that is no cells turns. -/
theorem Sim.turn (h:Sim sz I bs A w0 st a w L []) {b:Nat} (hb:w0.heap.size ≤ b) (hnc:∀ arr e f,w.heap[b]? ≠ some (.cells arr e f)) (hw:∀ k,k ≠ b → w'.heap[k]? = w.heap[k]?) (hos:w'.os = w.os) (htape:w'.tape = w.tape) (hout:w'.output = w.output) (hsz:w.heap.size ≤ w'.heap.size) (hdr:w.drawn ≤ w'.drawn):Sim sz I bs A w0 st a w' L []:=by
  have hI:∀ k b',I k b' → w'.heap[b']? = w.heap[b']?:=fun k b' hb' => hw b' (by rintro rfl; have:=(h.imm k _ hb').1; omega)
  have hO:∀ t:LT,t.holds sz w I → ∀ x ∈ t.blocks,w'.heap[x]? = w.heap[x]?:=by
    intro t ht x hx
    obtain ⟨arr,e,f,hc⟩:=LT.blocks_cells t ht x hx
    exact hw x (by rintro rfl; exact hnc _ _ _ hc)
  refine { h with keeps:=⟨hos.trans h.keeps.os,htape.trans h.keeps.tape,hout.trans h.keeps.output,Nat.le_trans h.keeps.size hsz,fun i hi hn => (hw i (by rintro rfl; omega)).trans (h.keeps.block i hi hn),Nat.le_trans h.keeps.drawn hdr⟩,holds:=?_,hholds:=by simp,slots:=?_ }
  · exact fun id t ht => LT.holds_frame (fun _ _ hb => hb) hI t (h.holds id t ht) (hO t (h.holds id t ht))
  · have:=SVRL.kill (L':=L) (fun _ => false) (fun _ node _ _ hn => ⟨node,hn,Shp.refl _⟩) (fun _ _ hb => hb) hI h.slots
    have e:st.sl.map (SV.kill fun _ => false) = st.sl:=by
      refine (List.map_congr_left fun s _ => ?_).trans (List.map_id _)
      simp [SV.kill,uses_false]
    rw [e] at this
    exact this
/-- What is known of what is only read, at a world of its own. -/
def SimI (sz:Nat → Nat) (I:Nat → Nat → Prop) (sl:List SV) (a:Act) (w:World):Prop:=Sim sz I [] ⟨fun _ _ => none,[]⟩ w ⟨sl,ofL []⟩ a w (fun _ => none) []
theorem SimI.mk (hI:∀ k b,I k b → b < w.heap.size) {sl:List SV} (hd:a.defers = []) (hs:SVRL sz (fun _ => none) w I a.tmps.toList sl):SimI sz I sl a w :=
  { keeps:=Kp.refl _ _,imm:=fun k b hb => ⟨hI k b hb,by simp⟩,er:=fun _ => rfl,holds:=by simp,nodup:=by simp,own:=by simp,apart:=by simp,hholds:=by simp,hnodup:=by simp,hown:=by simp,hapart:=by simp,slots:=hs,nodef:=hd,args:=by simp }
theorem Sim.toI {sl:List SV} (h:Sim sz I [] A w0 ⟨sl,ofL []⟩ a w L []) (hA:A.d = []:=by rfl):SimI sz I sl a w:=by
  have hL:L = fun _ => none:=by
    funext id
    have:=h.er id
    cases hid:L id with
    | none => rfl
    | some t => rw [hid] at this; simp [ofL] at this
  subst hL
  exact SimI.mk (fun k b hb => Nat.lt_of_lt_of_le (h.imm k b hb).1 h.keeps.size) (h.nodef.trans hA) h.slots
theorem SimI.later {sl:List SV} (h:SimI sz I sl a w) (hI:∀ k b,I k b → w'.heap[b]? = w.heap[b]?) (hs:∀ k b,I k b → b < w'.heap.size):SimI sz I sl a w':=by
  refine SimI.mk hs h.nodef ?_
  have:=SVRL.kill (L':=fun _ => none) (fun _ => false) (fun _ node _ _ hn => ⟨node,hn,Shp.refl _⟩) (fun _ _ hb => hb) hI h.slots
  have e:sl.map (SV.kill fun _ => false) = sl:=by
    refine (List.map_congr_left fun s _ => ?_).trans (List.map_id _)
    simp [SV.kill,uses_false]
  rw [e] at this
  exact this
/-- The values of some slots, each for itself. -/
theorem SVRL.of_slOf {N:Nat} {l:List (Nat × SV)} {vs:List Value} (hl:vs.length = N) (h:∀ x ∈ l,∃ v,vs[x.1]? = some v ∧ SVR sz L w I v x.2):SVRL sz L w I vs (slOf N l):=by
  refine SVRL.of_at (by rw [slOf_len,hl]) fun i v s hv hs => ?_
  have hi:i < N:=by rw [← hl]; exact (List.getElem?_eq_some_iff.1 hv).1
  rw [slOf_at,if_pos hi] at hs
  cases hs
  have key:∀ l:List (Nat × SV),(∀ x ∈ l,∃ v,vs[x.1]? = some v ∧ SVR sz L w I v x.2) → SVR sz L w I v (slGet l i):=by
    intro l
    induction l with
    | nil => intro _; simp [slGet,SVR]
    | cons x l ih =>
      intro h
      simp only [slGet]
      split
      · rename_i e
        subst e
        obtain ⟨v',h1,h2⟩:=h x List.mem_cons_self
        rw [hv] at h1
        cases h1
        exact h2
      · exact ih fun y hy => h y (List.mem_cons_of_mem _ hy)
  exact key l h
/-- What a slot holds. -/
theorem Sim.slot {hp:Id → Option PT} {N:Nat} {l:List (Nat × SV)} {hand:List LT} (h:Sim sz I bs A w0 ⟨slOf N l,hp⟩ a w L hand) {i:Nat} (hi:i < N):∃ v,a.tmps[i]? = some v ∧ SVR sz L w I v (slGet l i):=by
  obtain ⟨v,hv,hr⟩:=h.slots.at_ i (slGet l i) (by rw [slOf_at,if_pos hi])
  exact ⟨v,by rw [← Array.getElem?_toList]; exact hv,hr⟩
/-! ### a box under an argument's name, so that its block stays known -/
def A9 (b cap:Nat):AD:=⟨fun i j => if i = 9 ∧ j = 0 then some (.slice (some ⟨b,0,none⟩) 1 cap) else none,[]⟩
theorem own_of_one {t:LT} {e:Nat} {cs:List PT} (ht:t.holds sz w I) (he:t.erase = .sl 0 e 1 cs):∃ b cap ls,t = .own b cap e 1 ls ∧ ls.map LT.erase = cs:=by
  cases t with
  | leaf v p =>
    simp only [LT.erase] at he
    subst he
    simp only [LT.holds,Im] at ht
    omega
  | own b cap e' n ls =>
    simp only [LT.erase,PT.sl.injEq,true_and] at he
    obtain ⟨rfl,rfl,h⟩:=he
    exact ⟨b,cap,ls,rfl,h⟩
theorem Sim.back {w1:World} (h:Sim sz I bs A w1 st a w L []) (hk:Kp [] w0 w1) (hb:∀ b ∈ bs,w0.heap.size ≤ b) (hI:∀ k b,I k b → b < w0.heap.size):Sim sz I [] A w0 st a w L [] :=
  { h with keeps:=hk.trans h.keeps (fun b hx => .inr (hb b hx)),imm:=fun k b hb => ⟨hI k b hb,by simp⟩,own:=fun id t ht b hbt => .inr ((h.own id t ht b hbt).elim (hb b) fun hle => Nat.le_trans hk.size hle),hown:=by simp }
/-! ### a range over a function whose rounds touch one box -/
def BoxJ (P:Program) (I:Nat → Nat → Prop) (N s e:Nat) (w0:World) (a:Act) (b cap l D sz1:Nat) (rec:Loop) (B:PT) (W:World):Prop :=
  ∃ L,Sim (tsz P) I [] (A9 b cap) w0 ⟨slOf N [(s,.ptr ⟨.arg 9 0,[]⟩ 0)],ofL [(.arg 9 0,.sl 0 e 1 [B])]⟩ a W L [] ∧ W.heap[l]? = some (.loop rec) ∧ W.heap[D]? = some (.deferred (some [])) ∧ sz1 ≤ W.heap.size
theorem BoxJ.grow {P:Program} {N s e:Nat} {b cap l D sz1:Nat} {rec:Loop} {B:PT} {W W':World} (h:BoxJ P I N s e w0 a b cap l D sz1 rec B W) (hw:RowKit.Below W.heap.size W W') (hdr:W.drawn ≤ W'.drawn):BoxJ P I N s e w0 a b cap l D sz1 rec B W':=by
  obtain ⟨L,h1,h2,h3,h4⟩:=h
  exact ⟨L,h1.grow hw hdr,(hw.block l (Array.getElem?_eq_some_iff.1 h2).1).trans h2,(hw.block D (Array.getElem?_eq_some_iff.1 h3).1).trans h3,Nat.le_trans h4 hw.size⟩
/-- A code of a round carries one state to another. -/
def StepIn (P:Program) (I:Nat → Nat → Prop) (n l:Nat) (c:Code) (st st':St):Prop :=
  ∀ (bs:List Nat) (A:AD) (w0:World) (a:Act) (w:World) (L:Loc) (Q:Exit → Act → World → Prop),Sim (tsz P) I bs A w0 st a w L [] → (∀ a' w' L',Sim (tsz P) I bs A w0 st' a' w' L' [] → Q .normal a' w') → c.wpIn (wideR (some l)) n P Q a w
theorem Sim.entL {args:List PV} {n:Nat} {hand:List LT} (hle:args.length ≤ n) (h:Sim sz I bs A w0 (entrySt args n) a w L hand):Sim sz I bs A w0 ⟨slOf n (entL 0 args),ofL (argL 0 args)⟩ a w L hand:=by
  rw [entrySt_ofL] at h
  refine { h with slots:=h.slots.weak ?_ ?_,er:=h.er }
  · simp [slOf_len,entrySVs_len]; omega
  · intro j s hs
    rw [slOf_at] at hs
    split at hs
    · simp only [Option.some.injEq] at hs
      rw [slGet_ent,if_pos (Nat.zero_le _),Nat.sub_zero] at hs
      cases hj:(entrySVs 0 args)[j]? with
      | none => rw [hj] at hs; exact .inl hs.symm
      | some s' =>
        rw [hj] at hs
        simp only [Option.getD_some] at hs
        subst hs
        right
        have hl:j < (entrySVs 0 args).length:=(List.getElem?_eq_some_iff.1 hj).1
        rw [List.getElem?_append_left hl,hj]
    · simp at hs
theorem LV.c_of_erase {l:LV} {q:PT} (h:l.erase = .c q):∃ t,l = .c t ∧ t.erase = q:=by
  cases l <;> simp only [LV.erase,reduceCtorEq,PV.c.injEq] at h
  exact ⟨_,rfl,h⟩
end
end Go.V

namespace Go.V
open Go.RowKit
set_option linter.unusedSimpArgs false
set_option linter.unusedVariables false

/-! ### what is only read, under another label -/
mutual
def PT.up:PT → PT
  | .sl 0 e n cs => .sl 0 e n cs
  | .sl (_ + 1) e n cs => .sl 2 e n (PT.upL cs)
  | .fn _ g caps => .fn 2 g (PT.upC caps)
  | .raw v => .raw v
  | .hole => .hole
def PT.upL:List PT → List PT
  | [] => []
  | c :: cs => c.up :: PT.upL cs
def PT.upC:List (List PT) → List (List PT)
  | [] => []
  | c :: cs => PT.upL c :: PT.upC cs
end
section
variable {sz:Nat → Nat} {I I':Nat → Nat → Prop} {w w':World} {P:Program} {f:FuncId}
theorem PT.upL_eq:∀ l:List PT,PT.upL l = l.map PT.up
  | [] => by simp [PT.upL]
  | c :: cs => by simp [PT.upL,PT.upL_eq cs]
theorem Im.up (h1:∀ k b,I k b → I' 2 b):(∀ v p,Im w I v p → Im w I' v p.up) ∧ (∀ k (a:Option Addr) j cs,ImL w I k a j cs → ImL w I' 2 a j (PT.upL cs)) ∧ (∀ k vs cs,ImC w I k vs cs → ImC w I' 2 vs (PT.upC cs)):=by
  have key:∀ n:Nat,(∀ v p,SizeOf.sizeOf p < n → Im w I v p → Im w I' v p.up) ∧ (∀ k (a:Option Addr) j (cs:List PT),SizeOf.sizeOf cs < n → ImL w I k a j cs → ImL w I' 2 a j (PT.upL cs)) ∧ (∀ k vs (cs:List (List PT)),SizeOf.sizeOf cs < n → ImC w I k vs cs → ImC w I' 2 vs (PT.upC cs)):=by
    intro n
    induction n with
    | zero => exact ⟨fun _ _ h => by omega,fun _ _ _ _ h => by omega,fun _ _ _ h => by omega⟩
    | succ n ih =>
      refine ⟨?_,?_,?_⟩
      · intro v p hs h
        cases p with
        | raw u => simpa [PT.up,Im] using h
        | hole => simp [PT.up,Im]
        | sl o e k cs =>
          cases o with
          | zero =>
            simp only [Im,PT.up] at h ⊢
            exact h
          | succ o =>
            simp only [Im,PT.up] at h ⊢
            obtain ⟨a,cap,hv,hn,hl⟩:=h
            exact ⟨a,cap,hv,hn,ih.2.1 _ _ _ _ (by simp at hs; omega) hl⟩
        | fn k g caps =>
          simp only [Im,PT.up] at h ⊢
          obtain ⟨vs,hv,hc⟩:=h
          exact ⟨vs,hv,ih.2.2 _ _ _ (by simp at hs; omega) hc⟩
      · intro k a j cs hs h
        cases cs with
        | nil => simp [PT.upL,ImL]
        | cons c cs =>
          simp only [ImL,PT.upL] at h ⊢
          obtain ⟨⟨x,u,ha,hx,hcell,ho,hu⟩,hr⟩:=h
          exact ⟨⟨x,u,ha,h1 _ _ hx,hcell,ho,ih.1 _ _ (by simp at hs; omega) hu⟩,ih.2.1 _ _ _ _ (by simp at hs; omega) hr⟩
      · intro k vs cs hs h
        cases cs with
        | nil => simpa [PT.upC,ImC] using h
        | cons c cs =>
          simp only [ImC,PT.upC] at h ⊢
          obtain ⟨x,vs',hv,hl,hr⟩:=h
          exact ⟨x,vs',hv,ih.2.1 _ _ _ _ (by simp at hs; omega) hl,ih.2.2 _ _ _ (by simp at hs; omega) hr⟩
  exact ⟨fun v p => (key (SizeOf.sizeOf p + 1)).1 v p (Nat.lt_succ_self _),fun k a j cs => (key (SizeOf.sizeOf cs + 1)).2.1 k a j cs (Nat.lt_succ_self _),fun k vs cs => (key (SizeOf.sizeOf cs + 1)).2.2 k vs cs (Nat.lt_succ_self _)⟩
def PV.up:PV → PV
  | .c p => .c p.up
  | .agg ps => .agg (ps.map PT.up)
  | .ip _ ps => .ip 2 (PT.upL ps)
  | x => x
def PT.notOwn:PT → Bool
  | .sl 0 _ _ _ => false
  | _ => true
def PV.leafs:PV → Bool
  | .c p => p.notOwn
  | .agg ps => ps.all PT.notOwn
  | .ip _ _ => true
  | _ => false
def LT.up:LT → LT
  | .leaf v p => .leaf v p.up
  | t => t
def LV.up:LV → LV
  | .c t => .c t.up
  | .agg ts => .agg (ts.map LT.up)
  | .ip _ x ps => .ip 2 x (PT.upL ps)
  | l => l
theorem notOwn_leaf {t:LT} (h:t.erase.notOwn = true):∃ v p,t = .leaf v p:=by
  cases t with
  | leaf v p => exact ⟨v,p,rfl⟩
  | own b cap e n cs => simp [LT.erase,PT.notOwn] at h
theorem leafs_up {la:LV} (hl:la.erase.leafs = true) (hI:∀ k b,I k b → I' 2 b) (hh:la.holds sz w I):la.blocks = [] ∧ la.up.blocks = [] ∧ la.up.val = la.val ∧ la.up.erase = la.erase.up ∧ la.up.holds sz w I':=by
  cases la with
  | c t =>
    obtain ⟨v,p,rfl⟩:=notOwn_leaf (t:=t) (by simpa [LV.erase,PV.leafs] using hl)
    simp only [LV.holds,LT.holds] at hh
    refine ⟨by simp [LV.blocks,LT.blocks],by simp [LV.up,LT.up,LV.blocks,LT.blocks],rfl,by simp [LV.up,LT.up,LV.erase,LT.erase,PV.up],?_⟩
    simp only [LV.up,LT.up,LV.holds,LT.holds]
    exact ⟨(Im.up hI).1 _ _ hh.1,hh.2⟩
  | agg ts =>
    have hl':∀ t ∈ ts,∃ v p,t = .leaf v p:=fun t ht => by
      refine notOwn_leaf ?_
      simp only [LV.erase,PV.leafs,List.all_map,List.all_eq_true] at hl
      exact hl t ht
    simp only [LV.holds] at hh
    refine ⟨?_,?_,?_,?_,?_⟩
    · simp only [LV.blocks]
      refine List.flatMap_eq_nil_iff.2 fun t ht => ?_
      obtain ⟨v,p,rfl⟩:=hl' t ht
      simp [LT.blocks]
    · simp only [LV.up,LV.blocks]
      refine List.flatMap_eq_nil_iff.2 fun t ht => ?_
      obtain ⟨u,hu,rfl⟩:=List.mem_map.1 ht
      obtain ⟨v,p,rfl⟩:=hl' u hu
      simp [LT.up,LT.blocks]
    · simp only [LV.up,LV.val,List.map_map]
      congr 2
      refine List.map_congr_left fun t ht => ?_
      obtain ⟨v,p,rfl⟩:=hl' t ht
      rfl
    · simp only [LV.up,LV.erase,PV.up,List.map_map]
      congr 1
      refine List.map_congr_left fun t ht => ?_
      obtain ⟨v,p,rfl⟩:=hl' t ht
      simp [LT.up,LT.erase]
    · simp only [LV.up,LV.holds]
      intro t ht
      obtain ⟨u,hu,rfl⟩:=List.mem_map.1 ht
      have h:=hh u hu
      obtain ⟨v,p,rfl⟩:=hl' u hu
      simp only [LT.up,LT.holds] at h ⊢
      exact ⟨(Im.up hI).1 _ _ h.1,h.2⟩
  | ip k x ps =>
    simp only [LV.holds] at hh
    refine ⟨by simp [LV.blocks],by simp [LV.up,LV.blocks],rfl,by simp [LV.up,LV.erase,PV.up],?_⟩
    simp only [LV.up,LV.holds]
    exact (Im.up hI).2.1 _ _ _ _ hh
  | _ => simp [LV.erase,PV.leafs] at hl
theorem leafs_keep {la:LV} (hl:la.erase.leafs = true) (hI:∀ k b,I k b → w'.heap[b]? = w.heap[b]?) (hh:la.holds sz w I):la.holds sz w' I:=by
  cases la with
  | c t =>
    obtain ⟨v,p,rfl⟩:=notOwn_leaf (t:=t) (by simpa [LV.erase,PV.leafs] using hl)
    simp only [LV.holds,LT.holds] at hh ⊢
    exact ⟨(Im.all (fun _ _ hb => hb) hI).1 _ _ hh.1,hh.2⟩
  | agg ts =>
    simp only [LV.holds] at hh ⊢
    intro t ht
    have h:=hh t ht
    obtain ⟨v,p,rfl⟩:=notOwn_leaf (t:=t) (by
      simp only [LV.erase,PV.leafs,List.all_map,List.all_eq_true] at hl
      exact hl t ht)
    simp only [LT.holds] at h ⊢
    exact ⟨(Im.all (fun _ _ hb => hb) hI).1 _ _ h.1,h.2⟩
  | ip k x ps =>
    simp only [LV.holds] at hh ⊢
    exact (Im.all (fun _ _ hb => hb) hI).2.1 _ _ _ _ hh
  | _ => simp [LV.erase,PV.leafs] at hl
mutual
def PT.free:PT → Bool
  | .raw _ => true
  | .hole => true
  | .sl 0 _ _ cs => PT.freeL cs
  | .sl (_ + 1) _ _ _ => false
  | .fn _ _ _ => false
def PT.freeL:List PT → Bool
  | [] => true
  | c :: cs => c.free && PT.freeL cs
end
theorem PT.freeL_iff:∀ l:List PT,PT.freeL l = true ↔ ∀ c ∈ l,c.free = true
  | [] => by simp [PT.freeL]
  | c :: cs => by simp [PT.freeL,PT.freeL_iff cs]
theorem free_holds:∀ t:LT,t.erase.free = true → t.holds sz w I → t.holds sz w I':=by
  refine LT.ind ?_ ?_
  · intro v p hf h
    simp only [LT.erase] at hf
    simp only [LT.holds] at h ⊢
    refine ⟨?_,h.2⟩
    cases p with
    | raw u => simpa [Im] using h.1
    | hole => simp [Im]
    | sl o e n cs =>
      cases o with
      | zero => simpa [Im] using h.1
      | succ o => simp [PT.free] at hf
    | fn k g caps => simp [PT.free] at hf
  · intro b cap e n cs ih hf h
    simp only [LT.erase,PT.free,PT.freeL_iff] at hf
    simp only [LT.holds] at h ⊢
    exact ⟨h.1,h.2.1,h.2.2.1,h.2.2.2.1,fun c hc => ih c hc (hf _ (List.mem_map_of_mem hc)) (h.2.2.2.2 c hc)⟩
theorem free_c {p:PT} (hp:p.free = true) {lr:LV} (he:lr.erase = .c p) (h:lr.holds sz w I):lr.holds sz w I':=by
  obtain ⟨t,rfl,ht⟩:=LV.c_of_erase he
  simp only [LV.holds] at h ⊢
  exact free_holds t (ht ▸ hp) h
theorem free_cc {p q:PT} (hp:p.free = true) (hq:q.free = true) {lr:LV} (he:lr.erase = .tup [.c p,.c q]) (h:lr.holds sz w I):lr.holds sz w I':=by
  cases lr <;> simp only [LV.erase,reduceCtorEq,PV.tup.injEq] at he
  rename_i vs
  rw [LV.eraseL_eq] at he
  cases vs with
  | nil => simp at he
  | cons a vs => cases vs with
    | nil => simp at he
    | cons b vs =>
      simp only [List.map_cons,List.cons.injEq,List.map_eq_nil_iff] at he
      obtain ⟨h1,h2,rfl⟩:=he
      simp only [LV.holds,LV.holdsL] at h ⊢
      exact ⟨free_c hp h1 h.1,free_c hq h2 h.2.1,trivial⟩
theorem freeL_pi (xs:List Int):PT.freeL (xs.map fun n => .raw (.int .i64 n)) = true:=by
  rw [PT.freeL_iff]
  intro c hc
  obtain ⟨n,_,rfl⟩:=List.mem_map.1 hc
  rfl
theorem freeL_fm {α:Type} (g:α → List PT) (xs:List α) (h:∀ a,PT.freeL (g a) = true):PT.freeL (xs.flatMap g) = true:=by
  rw [PT.freeL_iff]
  intro c hc
  obtain ⟨a,_,ha⟩:=List.mem_flatMap.1 hc
  exact (PT.freeL_iff _).1 (h a) c ha
theorem CallOK.relabel {args:List PV} {res:PV} (h:CallOK P f (args.map PV.up) res (args.map PV.up)) (hl:args.all PV.leafs = true) (hr:∀ (w:World) (I I':Nat → Nat → Prop) (lr:LV),lr.erase = res → lr.holds (tsz P) w I → lr.holds (tsz P) w I'):CallOK P f args res args:=by
  intro I w las he hh hnd hI
  have hl':∀ la ∈ las,la.erase.leafs = true:=fun la hla => by
    rw [List.all_eq_true] at hl
    exact hl _ (he ▸ List.mem_map_of_mem hla)
  obtain ⟨J,hJe⟩:∃ J:Nat → Nat → Prop,J = fun k b => I k b ∨ (k = 2 ∧ ∃ j,I j b):=⟨_,rfl⟩
  have hJ:∀ k b,I k b → J 2 b:=fun k b hb => by rw [hJe]; exact .inr ⟨rfl,k,hb⟩
  have hb0:las.flatMap LV.blocks = []:=List.flatMap_eq_nil_iff.2 fun la hla => (leafs_up (hl' la hla) hJ (hh la hla)).1
  have hb1:(las.map LV.up).flatMap LV.blocks = []:=List.flatMap_eq_nil_iff.2 fun l hx => by
    obtain ⟨la,hla,rfl⟩:=List.mem_map.1 hx
    exact (leafs_up (hl' la hla) hJ (hh la hla)).2.1
  have hv:(las.map LV.up).map LV.val = las.map LV.val:=by
    rw [List.map_map]
    exact List.map_congr_left fun la hla => (leafs_up (hl' la hla) hJ (hh la hla)).2.2.1
  have he1:(las.map LV.up).map LV.erase = args.map PV.up:=by
    rw [← he,List.map_map,List.map_map]
    exact List.map_congr_left fun la hla => (leafs_up (hl' la hla) hJ (hh la hla)).2.2.2.1
  have:=h J w (las.map LV.up) he1 (fun l hx => by
    obtain ⟨la,hla,rfl⟩:=List.mem_map.1 hx
    exact (leafs_up (hl' la hla) hJ (hh la hla)).2.2.2.2) (by rw [hb1]; simp) (fun k b hb => by
    rw [hb1]
    rw [hJe] at hb
    rcases hb with hb | ⟨_,j,hb⟩
    · exact ⟨(hI k b hb).1,by simp⟩
    · exact ⟨(hI j b hb).1,by simp⟩)
  rw [hv] at this
  refine this.mono ?_
  rintro e w' ⟨lr,los,rfl,g1,g2,g3,g4,g5,g6,g7,g8⟩
  rw [hb1] at g8 g7
  have hk:∀ k b,I k b → w'.heap[b]? = w.heap[b]?:=fun k b hb => g8.block b (hI k b hb).1 (by simp)
  refine ⟨lr,las,rfl,g1,he,rfl,hr _ _ _ _ g1 g4,fun l hx => leafs_keep (hl' l hx) hk (hh l hx),?_,?_,?_⟩
  · rw [hb0,List.append_nil]
    exact (List.nodup_append.1 g6).1
  · rw [hb0,List.append_nil]
    intro b hb
    rcases g7 b (List.mem_append_left _ hb) with h | h
    · simp at h
    · exact .inr h
  · rw [hb0]
    exact g8
end
end Go.V

namespace Go.V
open Go.RowKit Go.Sort Go.Proofs
set_option linter.unusedSimpArgs false
set_option linter.unusedVariables false
set_option linter.unusedSectionVars false

/-! ### the kit's contract of a sort, of a row of one's own -/
section
variable {α:Type} [Inhabited α] (enc:α → List Value) {k:Nat}
end
end Go.V

namespace Go.V
open Go.RowKit
set_option linter.unusedSimpArgs false
set_option linter.unusedVariables false

/-! ### code with calls that wait for the return: ranges over functions -/
def nA:Nat → Nat → Option Value:=fun _ _ => none
/-- The calls that wait are marks of loops, none of which has anything to call. -/
def DefOK (ds:List Deferred) (z:Nat) (w:World):Prop:=(∀ d ∈ ds,∃ r:Nat,d.target = .collected r ∧ w.heap[r]? = some (Obj.deferred (some [])) ∧ z ≤ r) ∧ ds.Pairwise (fun d d' => d.target ≠ d'.target)
theorem DefOK.keep {ds:List Deferred} {z:Nat} {w w':World} (h:DefOK ds z w) (hk:∀ r:Nat,w.heap[r]? = some (Obj.deferred (some [])) → w'.heap[r]? = some (Obj.deferred (some []))):DefOK ds z w' :=
  ⟨fun d hd => let ⟨r,h1,h2,h3⟩:=h.1 d hd; ⟨r,h1,hk r h2,h3⟩,h.2⟩
section
variable {sz:Nat → Nat} {I:Nat → Nat → Prop} {bs bs':List Nat} {A A':AD} {w0 w w' w1:World} {st st':St} {a a':Act} {L L':Loc}
theorem Sim.rebase (h:Sim sz I bs A w0 st a w L []):∃ bs',Sim sz I bs' A w st a w L [] ∧ ∀ y ∈ bs',(y ∈ bs ∨ w0.heap.size ≤ y) ∧ ∃ arr e f,w.heap[y]? = some (.cells arr e f):=by
  classical
  have hm:∀ y,y ∈ (List.range w.heap.size).filter (fun y => decide (∃ id t,L id = some t ∧ y ∈ t.blocks)) ↔ ∃ id t,L id = some t ∧ y ∈ t.blocks:=by
    intro y
    rw [List.mem_filter]
    simp only [List.mem_range,decide_eq_true_eq]
    constructor
    · exact And.right
    · rintro ⟨id,t,h1,h2⟩
      exact ⟨LT.blocks_lt t (h.holds id t h1) y h2,id,t,h1,h2⟩
  refine ⟨(List.range w.heap.size).filter (fun y => decide (∃ id t,L id = some t ∧ y ∈ t.blocks)),{ h with keeps:=Kp.refl _ _,imm:=?_,own:=?_,hown:=by simp },?_⟩
  · intro k b hb
    refine ⟨h.immw k b hb,fun hx => ?_⟩
    obtain ⟨id,t,ht,hbt⟩:=(hm b).1 hx
    have hne:=h.imm_ne hb
    exact (h.own id t ht b hbt).elim hne.1 hne.2
  · intro id t ht b hb
    exact .inl ((hm b).2 ⟨id,t,ht,hb⟩)
  · intro y hy
    obtain ⟨id,t,ht,hbt⟩:=(hm y).1 hy
    exact ⟨h.own id t ht y hbt,LT.blocks_cells t (h.holds id t ht) y hbt⟩
theorem Sim.unbase (h0:Kp bs w0 w1) (hi:∀ k b,I k b → b < w0.heap.size ∧ b ∉ bs) (h:Sim sz I bs' A' w1 st' a' w' L' []) (hb:∀ y ∈ bs',y ∈ bs ∨ w0.heap.size ≤ y):Sim sz I bs A' w0 st' a' w' L' [] :=
  { h with keeps:=h0.trans h.keeps hb,imm:=hi,own:=fun id t ht b hbt => (h.own id t ht b hbt).elim (hb b) fun hle => .inr (Nat.le_trans h0.size hle),hown:=by simp }
theorem Sim.defs {f:Nat → Nat → Option Value} {ds ds':List Deferred} (h:Sim sz I bs ⟨f,ds⟩ w0 st a w L []):Sim sz I bs ⟨f,ds'⟩ w0 st { a with defers:=ds' } w L [] :=
  { h with slots:=h.slots,nodef:=rfl,args:=h.args }
theorem Sim.noArgs {f:Nat → Nat → Option Value} {ds:List Deferred} (h:Sim sz I bs ⟨f,ds⟩ w0 st a w L []):Sim sz I bs ⟨nA,ds⟩ w0 st a w L [] :=
  { h with slots:=h.slots,nodef:=h.nodef,args:=fun _ _ _ hv => by cases hv }
/-- What stands under the arguments' names is held fast. -/
theorem Sim.fix {f:Nat → Nat → Option Value} {ds:List Deferred} (h:Sim sz I bs ⟨f,ds⟩ w0 st a w L []):Sim sz I bs ⟨fun i j => (L (.arg i j)).map LT.val,ds⟩ w0 st a w L [] :=
  { h with slots:=h.slots,nodef:=h.nodef,args:=fun i j v hv => Option.map_eq_some_iff.1 hv }
end
/-- What was lent in between: under label 1 alone. -/
structure Lent (I:Nat → Nat → Prop) (bs:List Nat) (w0:World) (I':Nat → Nat → Prop) (bs':List Nat) (w0':World):Prop where
  one:∀ k b,k ≠ 1 → I' k b → I k b
  own:∀ y ∈ bs',y ∈ bs ∨ w0.heap.size ≤ y
  keeps:Kp bs w0 w0'
theorem Lent.refl (I:Nat → Nat → Prop) (bs:List Nat) (w0:World):Lent I bs w0 I bs w0:=⟨fun _ _ _ h => h,fun _ h => .inl h,Kp.refl _ _⟩
theorem Lent.trans {I1 I2 I3:Nat → Nat → Prop} {b1 b2 b3:List Nat} {w1 w2 w3:World} (h:Lent I1 b1 w1 I2 b2 w2) (k:Lent I2 b2 w2 I3 b3 w3):Lent I1 b1 w1 I3 b3 w3 :=
  ⟨fun q b hq hb => h.one q b hq (k.one q b hq hb),fun y hy => (k.own y hy).elim (h.own y) fun hle => .inr (Nat.le_trans h.keeps.size hle),h.keeps.trans k.keeps h.own⟩
def ewpD (P:Program) (c:Code) (Q:Exit → St → Prop) (st:St):Prop :=
  ∀ (z:Nat) (I:Nat → Nat → Prop) (bs:List Nat) (ds:List Deferred) (w0:World) (a:Act) (w:World) (L:Loc),Sim (tsz P) I bs ⟨nA,ds⟩ w0 st a w L [] → DefOK ds z w → z ≤ w0.heap.size →
    c.wp P (fun e a' w' => ∃ st' L' ds' I' bs' w0',Lent I bs w0 I' bs' w0' ∧ Sim (tsz P) I' bs' ⟨nA,ds'⟩ w0' st' a' w' L' [] ∧ DefOK ds' z w' ∧ Q e st') a w
section
variable {P:Program} {Q:Exit → St → Prop} {st st':St}
theorem ewpD_mono {c:Code} {Q':Exit → St → Prop} (h:ewpD P c Q st) (hq:∀ e st,Q e st → Q' e st):ewpD P c Q' st :=
  fun z I bs ds w0 a w L hs hd hz => wp_mono (h z I bs ds w0 a w L hs hd hz) fun e a' w' ⟨st',L',ds',I',bs',w0',h0,h1,h2,h3⟩ => ⟨st',L',ds',I',bs',w0',h0,h1,h2,hq _ _ h3⟩
/-- Plain code. -/
theorem ewpD_of {c:Code} (h:ewp P c Q st):ewpD P c Q st:=by
  intro z I bs ds w0 a w L hs hd hz
  obtain ⟨bs',hs',hb⟩:=hs.rebase
  refine wp_mono (h I bs' _ w a w L hs') ?_
  rintro e a' w' ⟨st',L',h1,h2⟩
  refine ⟨st',L',ds,I,bs,w0,Lent.refl _ _ _,Sim.unbase hs.keeps hs.imm h1 (fun y hy => (hb y hy).1),hd.keep fun r hr => ?_,h2⟩
  have hlt:r < w.heap.size:=(Array.getElem?_eq_some_iff.1 hr).1
  rw [h1.keeps.block r hlt (fun hx => by obtain ⟨_,arr,e,f,hc⟩:=hb r hx; rw [hr] at hc; cases hc)]
  exact hr
theorem ewpD_seq {x y:Code} (h:ewpD P x (eThen (ewpD P y Q) Q) st):ewpD P (.seq x y) Q st:=by
  intro z I bs ds w0 a w L hs hd hz
  refine wp_seq (wp_mono (h z I bs ds w0 a w L hs hd hz) ?_)
  rintro e a' w' ⟨st',L',ds',I',bs',w0',hl,h1,hd',h2⟩
  cases e <;> simp only [eThen] at h2 <;> simp only [Exit.then]
  · refine wp_mono (h2 z I' bs' ds' w0' a' w' L' h1 hd' (Nat.le_trans hz hl.keeps.size)) ?_
    rintro e a' w' ⟨st',L',ds',I',bs',w0',hl',h1,hd',h2⟩
    exact ⟨st',L',ds',I',bs',w0',hl.trans hl',h1,hd',h2⟩
  all_goals exact ⟨st',L',ds',I',bs',w0',hl,h1,hd',h2⟩
/-- Plain code, then the rest from what is known behind it. -/
theorem ewpD_cut {x y:Code} (st1:St) (keep:List Nat) (ids:List Id) (h1:∀ K:Exit → St → Prop,(∀ st',st'.drop keep ids = st1 → K .normal st') → (∀ e st',e ≠ .normal → Q e st' → K e st') → ewp P x K st) (h2:ewpD P y Q st1):ewpD P (.seq x y) Q st:=by
  refine ewpD_seq (ewpD_of (ewp_mono (h1 (fun e st' => match e with | .normal => st'.drop keep ids = st1 | e => Q e st') (fun st' h => h) fun e st' he hq => ?_) ?_))
  · cases e <;> first | exact absurd rfl he | exact hq
  · intro e st' hx
    cases e <;> simp only [eThen] at hx ⊢
    case normal =>
      intro z I bs ds w0 a w L hs hd hz
      obtain ⟨L',hs'⟩:=hs.lose keep ids
      rw [hx] at hs'
      exact h2 z I bs ds w0 a w L' hs' hd hz
    all_goals exact hx
theorem ewpD_drop {c:Code} (keep:List Nat) (ids:List Id) (h:ewpD P c Q (st.drop keep ids)):ewpD P c Q st:=by
  intro z I bs ds w0 a w L hs hd hz
  obtain ⟨L',hs'⟩:=hs.lose keep ids
  exact h z I bs ds w0 a w L' hs' hd hz
theorem ewpD_block {id:Nat} {c:Code} (h:ewpD P c (eBlock id Q) st):ewpD P (.block id c) Q st:=by
  intro z I bs ds w0 a w L hs hd hz
  refine wp_block (wp_mono (h z I bs ds w0 a w L hs hd hz) ?_)
  rintro e a' w' ⟨st',L',ds',I',bs',w0',hl,h1,hd',h2⟩
  cases e <;> simp only [eBlock] at h2 <;> simp only [Exit.inBlock]
  case exit id' =>
    split at h2
    · rw [if_pos (by assumption)]; exact ⟨st',L',ds',I',bs',w0',hl,h1,hd',h2⟩
    · rw [if_neg (by assumption)]; exact ⟨st',L',ds',I',bs',w0',hl,h1,hd',h2⟩
  all_goals exact ⟨st',L',ds',I',bs',w0',hl,h1,hd',h2⟩
theorem ewpD_skip (h:Q .normal st):ewpD P .skip Q st:=ewpD_of (ewp_skip h)
theorem ewpD_exit {id:Nat} (h:Q (.exit id) st):ewpD P (.exit id) Q st:=ewpD_of (ewp_exit h)
theorem ewpD_cond {c:Operand} {x y:Code} {b:Bool} (hc:opv st c = some (.t (.raw (.bool b)))) (ht:b = true → ewpD P x Q st) (hf:b = false → ewpD P y Q st):ewpD P (.cond c x y) Q st:=by
  intro z I bs ds w0 a w L hs hd hz
  have hv:a.eval c = .bool b:=by have:=opv_sound hs hc; simpa [SVR,Im] using this
  refine wp_cond hv ?_
  cases b
  · exact hf rfl z I bs ds w0 a w L hs hd hz
  · exact ht rfl z I bs ds w0 a w L hs hd hz
theorem ewpD_loop {c:Code} (Inv:Nat → St → Prop) (n:Nat) (h:Inv n st) (round:∀ n st,Inv n st → ewpD P c (eThen (fun st' => ∃ m,m < n ∧ Inv m st') Q) st):ewpD P (.loop c) Q st:=by
  intro z I bs ds w0 a w L hs hd hz
  classical
  let J:Nat → Act → World → Prop:=fun n a w => ∃ st L ds I' bs' w0',Lent I bs w0 I' bs' w0' ∧ Sim (tsz P) I' bs' ⟨nA,ds⟩ w0' st a w L [] ∧ DefOK ds z w ∧ Inv n st
  let μ:Act → World → Nat:=fun a w => if hx:∃ n,J n a w then Classical.choose (least hx) else 0
  have hμ:∀ a w n,J n a w → μ a w ≤ n:=by
    intro a w n hj
    have hx:∃ n,J n a w:=⟨n,hj⟩
    simp only [μ,dif_pos hx]
    exact (Classical.choose_spec (least hx)).2 n hj
  have hμ':∀ a w,(∃ n,J n a w) → J (μ a w) a w:=by
    intro a w hx
    simp only [μ,dif_pos hx]
    exact (Classical.choose_spec (least hx)).1
  refine wp_loop (fun a w => ∃ n,J n a w) μ ⟨n,st,L,ds,I,bs,w0,Lent.refl _ _ _,hs,hd,h⟩ ?_
  intro a w hx
  obtain ⟨st1,L1,ds1,I1,b1,w1,hl1,h1,hd1,h2⟩:=hμ' a w hx
  refine wp_mono (round _ _ h2 z I1 b1 ds1 w1 a w L1 h1 hd1 (Nat.le_trans hz hl1.keeps.size)) ?_
  rintro e a' w' ⟨st',L',ds',I',bs',w0',hl',h3,hd3,h4⟩
  cases e <;> simp only [eThen] at h4 <;> simp only [Exit.then]
  · obtain ⟨m,hm,hi⟩:=h4
    exact ⟨⟨m,st',L',ds',I',bs',w0',hl1.trans hl',h3,hd3,hi⟩,Nat.lt_of_le_of_lt (hμ a' w' m ⟨st',L',ds',I',bs',w0',hl1.trans hl',h3,hd3,hi⟩) hm⟩
  all_goals exact ⟨st',L',ds',I',bs',w0',hl1.trans hl',h3,hd3,h4⟩
theorem ewpD_sw {c:Code} {n:Nat} {l:List (Nat × SV)} {hp:List (Id × PT)} (x y:Id) (h:ewpD P c Q ⟨slOf n (swS x y l),ofL (swN x y hp)⟩):ewpD P c Q ⟨slOf n l,ofL hp⟩:=by
  intro z I bs ds w0 a w L hs hd hz
  have hs':Sim (tsz P) I bs ⟨nA,ds⟩ w0 ⟨SV.swL x y (slOf n l),fun id => ofL hp (Id.sw x y id)⟩ a w (fun id => L (Id.sw x y id)) [] :=
    { keeps:=hs.keeps,imm:=hs.imm,nodef:=hs.nodef,hholds:=by simp,hnodup:=by simp,hown:=by simp,hapart:=by simp
      er:=fun id => hs.er _
      holds:=fun id t ht => hs.holds _ t ht
      nodup:=fun id t ht => hs.nodup _ t ht
      own:=fun id t ht => hs.own _ t ht
      apart:=fun id id' t t' hne ht ht' => hs.apart _ _ t t' (fun e => hne (by have:=congrArg (Id.sw x y) e; rwa [Id.sw_sw,Id.sw_sw] at this)) ht ht'
      slots:=SVR.sw.2 _ _ hs.slots
      args:=fun i j v hv => by cases hv }
  have e:(⟨SV.swL x y (slOf n l),fun id => ofL hp (Id.sw x y id)⟩:St) = ⟨slOf n (swS x y l),ofL (swN x y hp)⟩:=by
    rw [slOf_sw]
    congr 1
    funext id
    exact swN_ofL x y hp id
  simp only [e] at hs'
  exact h z I bs ds w0 a w _ hs' hd hz
/-- Behind a while of lending: what is kept is no longer lent. -/
theorem Sim.thaw {sz:Nat → Nat} {I I':Nat → Nat → Prop} {bs bs':List Nat} {A':AD} {w0 w0' w':World} {st':St} {a':Act} {L2:Loc} {keep:List Nat} {ids:List Id} {N:Nat} {l:List (Nat × SV)} {hp:List (Id × PT)} (hle:Lent I bs w0 I' bs' w0') (himm:∀ k b,I k b → b < w0.heap.size ∧ b ∉ bs)
    (h2:Sim sz I' bs' A' w0' st' a' w' L2 []) (hd:st'.drop keep ids = ⟨slOf N l,ofL hp⟩) (hl:(l.all fun p => p.2.quiet) = true) (hh:(hp.all fun p => p.2.noTmp) = true):∃ L3,Sim sz I bs A' w0 ⟨slOf N l,ofL hp⟩ a' w' L3 []:=by
  obtain ⟨L3,h3⟩:=h2.lose keep ids
  rw [hd] at h3
  refine ⟨L3,?_⟩
  exact {
    keeps:=hle.keeps.trans h3.keeps hle.own
    imm:=himm
    er:=h3.er
    holds:=fun id t hid => LT.noTmp hle.one t (by
      have:=h3.er id
      rw [hid] at this
      exact ofL_all (f:=PT.noTmp) hh this.symm) (h3.holds id t hid)
    nodup:=h3.nodup
    own:=fun id t hid y hy => by
      rcases h3.own id t hid y hy with hq | hq
      · exact hle.own y hq
      · exact .inr (Nat.le_trans hle.keeps.size hq)
    apart:=h3.apart
    hholds:=by simp
    hnodup:=by simp
    hown:=by simp
    hapart:=by simp
    slots:=by
      refine SVRL.of_at h3.slots.len ?_
      intro i v s hv hs2
      obtain ⟨v',hv',hr⟩:=h3.slots.at_ i s hs2
      rw [hv] at hv'
      cases hv'
      refine quiet_sound hle.one ?_ hr
      have hs3:(slOf N l)[i]? = some s:=hs2
      rw [slOf_at] at hs3
      split at hs3
      · cases hs3
        exact slGet_all (f:=SV.quiet) rfl hl
      · cases hs3
    nodef:=h3.nodef
    args:=h3.args }
/-- Rows in a cell of one's own are lent from here on. -/
theorem ewpD_freeze {c:Code} {K:Exit → St → Prop} (x:Id) (hx:x.isOp = true) {e n:Nat} {cs:List PT} (ht:st.hp x = some (.sl 0 e n cs)) (hn:0 < n) (h:ewpD P c K (frzDSt x (.sl 0 e n cs) st)):ewpD P c K st:=by
  intro z I bs ds w0 a w L hs hd hz
  obtain ⟨I',bs',L',hs',hI1,hbs,_⟩:=hs.freezeD hx ht hn
  refine wp_mono (h z I' bs' ds w a w L' hs' hd (Nat.le_trans hz hs.keeps.size)) ?_
  rintro ex a' w' ⟨st',L2,ds',I2,b2,w2,hl,h2,hd',hK⟩
  exact ⟨st',L2,ds',I2,b2,w2,Lent.trans ⟨hI1,hbs,hs.keeps⟩ hl,h2,hd',hK⟩
/-! ### a closure over boxes of one's own, lent from here on -/
def capOf:PT → List PT
  | .sl _ _ _ cs => PT.unownL cs
  | _ => []
def dropI (ids:List Id):List (Id × PT) → List (Id × PT)
  | [] => []
  | (i,p) :: l => if ids.contains i = true then dropI ids l else (i,p) :: dropI ids l
theorem ofL_dropI (ids:List Id) (id:Id):∀ l:List (Id × PT),ofL (dropI ids l) id = if ids.contains id = true then none else ofL l id
  | [] => by simp [dropI,ofL]
  | (i,p) :: l => by
    have ih:=ofL_dropI ids id l
    simp only [dropI]
    split
    · rename_i hc
      rw [ih]
      simp only [ofL]
      split
      · rfl
      · rename_i hn
        rw [if_neg]
        rintro rfl
        exact hn hc
    · rename_i hc
      simp only [ofL,ih]
      split
      · rename_i he
        subst he
        rw [if_neg hc]
      · rfl
theorem imC_of {sz:Nat → Nat} {I I':Nat → Nat → Prop} {w:World} (hI:∀ k b,I k b → I' k b) (h1:∀ k b,I k b → I' 1 b):∀ ts:List LT,(∀ t ∈ ts,t.holds sz w I ∧ (∃ b cap e cs,t = .own b cap e 1 cs) ∧ ∀ y ∈ t.blocks,I' 1 y) → ImC w I' 1 (ts.map LT.ptr) ((ts.map LT.erase).map capOf)
  | [],_ => by simp [ImC]
  | t :: ts,h => by
    obtain ⟨h2,⟨b,cap,e,cs,rfl⟩,h3⟩:=h t (by simp)
    have h4:=own_imm hI h1 _ h2 h3
    simp only [LT.val,LT.erase,PT.unown,Im] at h4
    obtain ⟨ad,cap',he,_,h5⟩:=h4
    simp only [Value.slice.injEq] at he
    obtain ⟨rfl,_,_⟩:=he
    simp only [List.map_cons,ImC]
    refine ⟨_,_,rfl,?_,imC_of hI h1 ts fun t ht => h t (List.mem_cons_of_mem _ ht)⟩
    simp only [LT.erase,capOf]
    exact h5
/-- Names are lent from here on; a slot then holds what is only read. -/
theorem ewpD_lendG {c:Code} {K:Exit → St → Prop} {n:Nat} {l:List (Nat × SV)} {hp:List (Id × PT)} (ids:List Id) (g:Nat) (p:PT) (hgN:g < n)
    (hp':∀ (I I':Nat → Nat → Prop) (bs:List Nat) (A:AD) (w0:World) (a:Act) (w:World) (L:Loc) (v:Value),Sim (tsz P) I bs A w0 ⟨slOf n l,ofL hp⟩ a w L [] → (∀ k b,I k b → I' k b) → (∀ k b,I k b → I' 1 b) → (∀ id ∈ ids,∀ t,L id = some t → ∀ y ∈ t.blocks,I' 1 y) → SVR (tsz P) L w I v (slGet l g) → Im w I' v p)
    (h:ewpD P c K ⟨slOf n ((g,.t p) :: killL (fun q => ids.contains q.id) l),ofL (dropI ids hp)⟩):ewpD P c K ⟨slOf n l,ofL hp⟩:=by
  intro z I bs ds w0 a w L hs hd hz
  obtain ⟨v,hv,hr⟩:=hs.slot hgN
  obtain ⟨I',hI'⟩:∃ I':Nat → Nat → Prop,I' = fun k y => I k y ∨ (k = 1 ∧ ((∃ id ∈ ids,∃ t,L id = some t ∧ y ∈ t.blocks) ∨ ∃ k',I k' y)):=⟨_,rfl⟩
  have hII:∀ k y,I k y → I' k y:=fun k y hy => by rw [hI']; exact .inl hy
  have hI11:∀ k y,I k y → I' 1 y:=fun k y hy => by rw [hI']; exact .inr ⟨rfl,.inr ⟨k,hy⟩⟩
  have hI1:∀ k y,k ≠ 1 → I' k y → I k y:=by
    intro k y hk hy
    rw [hI'] at hy
    rcases hy with hy | ⟨rfl,_⟩
    · exact hy
    · exact absurd rfl hk
  have hnew:=hp' I I' bs ⟨nA,ds⟩ w0 a w L v hs hII hI11 (fun id hid t ht y hy => by rw [hI']; exact .inr ⟨rfl,.inl ⟨id,hid,t,ht,hy⟩⟩) hr
  obtain ⟨L',hL'⟩:∃ L':Loc,L' = fun id => if ids.contains id = true then none else L id:=⟨_,rfl⟩
  have hcase:∀ id t,L' id = some t → ¬ ids.contains id = true ∧ L id = some t:=by
    intro id t hid
    rw [hL'] at hid
    simp only at hid
    split at hid
    · cases hid
    · exact ⟨by assumption,hid⟩
  have hap:∀ id t,L' id = some t → ∀ y ∈ t.blocks,¬ ∃ id' ∈ ids,∃ t',L id' = some t' ∧ y ∈ t'.blocks:=by
    rintro id t hid y hy ⟨id',k1,t',k3,hy'⟩
    obtain ⟨hn,hid⟩:=hcase id t hid
    exact hs.apart id id' t t' (by rintro rfl; exact hn (by simpa using k1)) hid k3 y hy hy'
  classical
  have hm:∀ y,y ∈ (List.range w.heap.size).filter (fun y => decide (∃ id t,L' id = some t ∧ y ∈ t.blocks)) ↔ ∃ id t,L' id = some t ∧ y ∈ t.blocks:=by
    intro y
    rw [List.mem_filter]
    simp only [List.mem_range,decide_eq_true_eq]
    constructor
    · exact And.right
    · rintro ⟨id,t,h1,h2⟩
      exact ⟨LT.blocks_lt t (hs.holds id t (hcase id t h1).2) y h2,id,t,h1,h2⟩
  have hholds:∀ id t,L' id = some t → t.holds (tsz P) w I':=fun id t hid => LT.holds_frame hII (fun _ _ _ => rfl) t (hs.holds _ _ (hcase id t hid).2) (fun _ _ => rfl)
  have hs':Sim (tsz P) I' ((List.range w.heap.size).filter (fun y => decide (∃ id t,L' id = some t ∧ y ∈ t.blocks))) ⟨nA,ds⟩ w ⟨slOf n ((g,.t p) :: killL (fun q => ids.contains q.id) l),ofL (dropI ids hp)⟩ a w L' []:={
    keeps:=Kp.refl _ _
    imm:=by
      intro k y hy
      rw [hI'] at hy
      have key:∀ k,I k y → y < w.heap.size ∧ y ∉ (List.range w.heap.size).filter (fun y => decide (∃ id t,L' id = some t ∧ y ∈ t.blocks)):=by
        intro k hy
        refine ⟨hs.immw k y hy,fun hx => ?_⟩
        obtain ⟨id,t,hid,hyt⟩:=(hm y).1 hx
        have hne:=hs.imm_ne hy
        exact (hs.own id t (hcase id t hid).2 y hyt).elim hne.1 hne.2
      rcases hy with hy | ⟨_,⟨id',k1,t',k3,hy'⟩ | ⟨k',hy⟩⟩
      · exact key k hy
      · refine ⟨LT.blocks_lt t' (hs.holds id' t' k3) y hy',fun hx => ?_⟩
        obtain ⟨id,t,hid,hyt⟩:=(hm y).1 hx
        exact hap id t hid y hyt ⟨id',k1,t',k3,hy'⟩
      · exact key k' hy
    er:=by
      intro id
      have:=hs.er id
      simp only at this ⊢
      rw [ofL_dropI,hL']
      simp only
      split
      · rfl
      · exact this
    holds:=hholds
    nodup:=fun id t hid => hs.nodup id t (hcase id t hid).2
    own:=fun id t hid y hy => .inl ((hm y).2 ⟨id,t,hid,hy⟩)
    apart:=fun id id' t t' hne hid hid' => hs.apart id id' t t' hne (hcase id t hid).2 (hcase id' t' hid').2
    hholds:=by simp
    hnodup:=by simp
    hown:=by simp
    hapart:=by simp
    slots:=by
      have hk:SVRL (tsz P) L' w I' a.tmps.toList (slOf n (killL (fun q => ids.contains q.id) l)):=by
        have:=SVRL.kill (L':=L') (fun q => ids.contains q.id) (fun pl node hf _ hl => by
          refine ⟨node,?_,Shp.refl _⟩
          unfold look at hl ⊢
          rw [hL']
          simp only
          rw [if_neg (by simp only at hf; rw [hf]; simp)]
          exact hl) hII (fun _ _ _ => rfl) hs.slots
        simp only at this
        rwa [slOf_kill] at this
        all_goals rfl
      refine SVRL.of_at (by rw [slOf_len]; have:=hs.slots.len; simp only [slOf_len] at this; exact this) ?_
      intro i u s hu hsl
      have hi:i < n:=by
        have:=(List.getElem?_eq_some_iff.1 hsl).1
        simpa only [slOf_len] using this
      have hsl':(slOf n ((g,.t p) :: killL (fun q => ids.contains q.id) l))[i]? = some s:=hsl
      rw [slOf_at,if_pos hi] at hsl'
      cases hsl'
      simp only [slGet]
      split
      · rename_i he
        subst he
        rw [← Array.getElem?_toList,hu] at hv
        cases hv
        simp only [SVR]
        exact hnew
      · obtain ⟨u',hu',hr'⟩:=hk.at_ i _ (by rw [slOf_at,if_pos hi])
        rw [hu] at hu'
        cases hu'
        exact hr'
    nodef:=hs.nodef
    args:=fun i j v hv => by cases hv }
  refine wp_mono (h z I' _ ds w a w L' hs' hd (Nat.le_trans hz hs.keeps.size)) ?_
  rintro ex a' w' ⟨st',L2,ds',I2,b2,w2,hl,h2,hd',hK⟩
  exact ⟨st',L2,ds',I2,b2,w2,Lent.trans ⟨hI1,fun y hy => by
    obtain ⟨id,t,hid,hyt⟩:=(hm y).1 hy
    exact hs.own id t (hcase id t hid).2 y hyt,hs.keeps⟩ hl,h2,hd',hK⟩
theorem ewpD_lend {c:Code} {K:Exit → St → Prop} {n:Nat} {l:List (Nat × SV)} {hp:List (Id × PT)} {f:FuncId} {ss:List SV} {ids:List Id} {ps:List PT} (g:Nat) (hgN:g < n) (hg:slGet l g = .fnc f ss) (hb:boxIds ss = some ids) (hps:boxPTs (ofL hp) ids = some ps)
    (h:ewpD P c K ⟨slOf n ((g,.t (.fn 1 f (ps.map capOf))) :: killL (fun q => ids.contains q.id) l),ofL (dropI ids hp)⟩):ewpD P c K ⟨slOf n l,ofL hp⟩:=by
  refine ewpD_lendG ids g _ hgN ?_ h
  intro I I' bs A w0 a w L v hs hII hI11 hB hr
  rw [hg] at hr
  simp only [SVR] at hr
  obtain ⟨us,rfl,hus⟩:=hr
  obtain ⟨ts,e1,rfl,e3,e4,_⟩:=boxPTs_sound hs hb hus hps
  simp only [Im]
  refine ⟨_,rfl,?_⟩
  rw [← e1]
  exact imC_of hII hI11 ts fun t ht => by
    obtain ⟨id',k1,_,k3⟩:=e4 t ht
    exact ⟨hs.holds id' t k3,e3 t ht,fun y hy => hB id' k1 t k3 y hy⟩
/-- A row is lent from here on. -/
theorem ewpD_lendRow {c:Code} {K:Exit → St → Prop} {n:Nat} {l:List (Nat × SV)} {hp:List (Id × PT)} {e m:Nat} {cs:List PT} (x:Id) (g:Nat) (hgN:g < n) (hg:slGet l g = .ref ⟨x,[]⟩ 0 m) (hx:ofL hp x = some (.sl 0 e m cs)) (hcs:m = 0 → cs = [])
    (h:ewpD P c K ⟨slOf n ((g,.t (.sl 1 0 m (PT.unownL cs))) :: killL (fun q => [x].contains q.id) l),ofL (dropI [x] hp)⟩):ewpD P c K ⟨slOf n l,ofL hp⟩:=by
  refine ewpD_lendG [x] g _ hgN ?_ h
  intro I I' bs A w0 a w L v hs hII hI11 hB hr
  have her:=hs.er x
  simp only [hx,Option.map_eq_some_iff] at her
  obtain ⟨T,hT,hTe⟩:=her
  have hlT:look L ⟨x,[]⟩ = some T:=by simp [look,hT,LT.get]
  rw [hg] at hr
  simp only [SVR] at hr
  rcases hr with ⟨b,cap0,e',n',lcs,o',cap,hl,rfl,hco,hle,hlen,hcap⟩ | ⟨e'',hl,_,rfl,ad,rfl⟩
  · rw [hlT] at hl
    cases hl
    have h4:=own_imm hII hI11 _ (hs.holds x _ hT) (hB x (by simp) _ hT)
    simp only [LT.erase,PT.sl.injEq,true_and] at hTe
    obtain ⟨rfl,rfl,rfl⟩:=hTe
    simp only [LT.val,LT.erase,PT.unown,Im] at h4 ⊢
    obtain ⟨ad,cap',he,_,h5⟩:=h4
    simp only [Value.slice.injEq] at he
    obtain ⟨rfl,_,_⟩:=he
    refine ⟨_,_,rfl,hle,?_⟩
    rcases hco with rfl | rfl
    · have hn0:n' = 0:=by omega
      rw [hcs hn0]
      simp [PT.unownL,ImL]
    · exact h5
  · have:cs = []:=hcs rfl
    subst this
    simp only [Im,PT.unownL,ImL]
    exact ⟨_,_,rfl,Nat.le_refl _,trivial⟩
end
/-- The marks are shut one after another; then the function is left. -/
theorem leaves_of {P:Program} {fn:Func} {R:Ending → World → Prop} {sz:Nat → Nat} {I:Nat → Nat → Prop} {bs:List Nat} {f:Nat → Nat → Option Value} {w0:World} {st:St} {L:Loc} {n:Nat}:∀ (ds:List Deferred) {a:Act} {w:World},
    Sim sz I bs ⟨f,[]⟩ w0 st a w L [] → DefOK ds w0.heap.size w → (∀ w',Sim sz I bs ⟨f,[]⟩ w0 st a w' L [] → bodyPost P fn R .ret a w') → LeavesInM (wideR none) n P fn a.tmps R ds .returning w
  | [],a,w,hs,_,hR => (hR w hs).2
  | d :: ds,a,w,hs,hd,hR => by
    obtain ⟨r,h1,h2,h3⟩:=hd.1 d (by simp)
    have hp:=List.pairwise_cons.1 hd.2
    have hs2:=hs.turn (w':=w.putObj r (.deferred none)) h3 (by intro arr e f h; rw [h2] at h; cases h) (fun k hk => World.putObj_heap_other hk) rfl rfl rfl (by simp [World.putObj]) (Nat.le_refl _)
    refine ⟨by simp,.inl ⟨r,_,h1,run_takeDeferred h2,leaves_of ds hs2 ⟨fun d' hd' => ?_,hp.2⟩ hR⟩⟩
    obtain ⟨r',k1,k2,k3⟩:=hd.1 d' (List.mem_cons_of_mem _ hd')
    refine ⟨r',k1,?_,k3⟩
    rw [World.putObj_heap_other (by rintro rfl; exact hp.1 d' hd' (h1.trans k1.symm))]
    exact k2
/-- A function whose code holds ranges over functions and that is handed nothing of its own. -/
theorem okF {P : Program} {f : FuncId} (keep : List Nat) (ids : List Id) {fn : Func} {c : Code} {args outs : List PV} {res : PV} {n : Nat} {rs : Array ResultVar} (h0 : tsz P nilE = 0) (hf : P.funcs[f]? = some fn) (hn : (fn.name == "runtime.NumGoroutine") = false) (hb : fn.body = some c)
    (hnt:fn.ntmps = n) (hrs:fn.results = rs) (hle:args.length ≤ n) (hno:argL 0 args = []) (h:ewpD P c (ThawedX (PostS P rs.toList args (res,outs)) keep ids) ⟨slOf n (entL 0 args),ofL (argL 0 args)⟩):CallOK P f args res outs:=by
  subst hnt; subst hrs
  intro I w las he hh hnd hI
  refine CallsF.of_calls hf hn hb (callsIn_toR (l:=none) (n:=1) (callsIn_of_wp_marks hf hb trivial ?_ rfl))
  have hs:=Sim.entry las hh hnd hI fn.ntmps
  rw [he] at hs
  have hse:=Sim.entL hle hs
  refine wpIn_wide.2 (wp_mono (h w.heap.size I _ [] w _ w _ hse.noArgs ⟨by simp,.nil⟩ (Nat.le_refl _)) ?_)
  rintro e a' w' ⟨st1,L1,ds',I1,b1,w1,gl,g0,gd,N,l,hp,hd2,hl,hq,g2⟩
  obtain ⟨L',g1⟩:=Sim.thaw gl hse.imm g0 hd2 hl hq
  generalize (⟨slOf N l,ofL hp⟩:St) = st' at g1 g2
  have hnone:∀ i j,entryL las (.arg i j) = none:=by
    intro i j
    have:=hse.er (.arg i j)
    rw [hno] at this
    simpa [ofL] using this
  have fin:resOK (stRetS P fn.results.toList args st') (res,outs) → LeavesInM (wideR none) 1 P fn a'.tmps (CallPost P I w las res outs) a'.defers .returning w':=by
    intro hr
    unfold resOK at hr
    split at hr
    · rename_i y hy
      obtain ⟨k1,k2⟩:=hr
      have hy':stRet P fn (las.map LV.erase) st' = some (y.1,y.2):=by rw [he]; exact hy
      rw [g1.nodef]
      refine leaves_of (a:={ a' with defers:=[] }) ds' (f:=nA) g1.defs gd ?_
      intro w2 g3
      have g4:Sim (tsz P) I (las.flatMap LV.blocks) ⟨fun i j => (entryL las (.arg i j)).map LT.val,[]⟩ w st' { a' with defers:=[] } w2 L' [] :=
        { g3 with slots:=g3.slots,nodef:=rfl,args:=fun i j v hv => by simp only [hnone] at hv; cases hv }
      have hb:=stRet_sound g4 hh hy'
      obtain ⟨b1,v1,b2,b3⟩:=hb
      refine ⟨b1,v1,b2,?_⟩
      revert b3
      generalize Ending.returned v1 = e'
      rintro ⟨lr,los,rfl,r1,r2,r3,r4,r5,r6,r7,r8⟩
      obtain ⟨l',e1,e2,e3,e4⟩:=LV.nle h0 lr r4 res (r1 ▸ k1)
      simp only at k2
      subst k2
      exact ⟨l',los,by rw [e2],e1,r2,r3,e4,r5,by rw [e3]; exact r6,by rw [e3]; exact r7,r8⟩
    · exact hr.elim
  cases e <;> simp only [PostS] at g2
  · exact fin g2
  · exact fin g2
/-! ### a range over a function -/
/-- What a slot needs to stay what it is through the rounds. -/
def SlotOK (H:List (Id × PT)) (s:SV):Prop:=match s with
  | .t _ => True
  | .ptr ⟨.arg i j,[]⟩ 0 => ∃ e cs,ofL H (.arg i j) = some (.sl 0 e 1 cs)
  | _ => False
def RndJ (P:Program) (I:Nat → Nat → Prop) (N:Nat) (l:List (Nat × SV)) (bs:List Nat) (f:Nat → Nat → Option Value) (ds:List Deferred) (z:Nat) (w0:World) (a:Act) (lb D sz1:Nat) (rec:Loop) (H:List (Id × PT)) (W:World):Prop :=
  ∃ L,Sim (tsz P) I bs ⟨f,ds⟩ w0 ⟨slOf N l,ofL H⟩ a W L [] ∧ W.heap[lb]? = some (.loop rec) ∧ W.heap[D]? = some (Obj.deferred (some [])) ∧ sz1 ≤ W.heap.size ∧ DefOK ds z W
theorem RndJ.grow {P:Program} {I:Nat → Nat → Prop} {N:Nat} {l:List (Nat × SV)} {bs:List Nat} {f:Nat → Nat → Option Value} {ds:List Deferred} {z:Nat} {w0:World} {a:Act} {lb D sz1:Nat} {rec:Loop} {H:List (Id × PT)} {W W':World} (h:RndJ P I N l bs f ds z w0 a lb D sz1 rec H W) (hw:RowKit.Below W.heap.size W W') (hdr:W.drawn ≤ W'.drawn):RndJ P I N l bs f ds z w0 a lb D sz1 rec H W':=by
  obtain ⟨L,h1,h2,h3,h4,h5⟩:=h
  exact ⟨L,h1.grow hw hdr,(hw.block lb (Array.getElem?_eq_some_iff.1 h2).1).trans h2,(hw.block D (Array.getElem?_eq_some_iff.1 h3).1).trans h3,Nat.le_trans h4 hw.size,h5.keep fun r hr => (hw.block r (Array.getElem?_eq_some_iff.1 hr).1).trans hr⟩
theorem slGet_mem:∀ (l:List (Nat × SV)) (i:Nat),slGet l i = .junk ∨ ∃ x ∈ l,x.2 = slGet l i
  | [],i => .inl rfl
  | x :: l,i => by
    simp only [slGet]
    split
    · exact .inr ⟨x,by simp,rfl⟩
    · rcases slGet_mem l i with h | ⟨y,hy,h⟩
      · exact .inl h
      · exact .inr ⟨y,List.mem_cons_of_mem _ hy,h⟩
section
variable {sz:Nat → Nat} {I:Nat → Nat → Prop} {bs bs':List Nat} {A A':AD} {w0 w0' w w':World} {a a':Act} {L L':Loc}
/-- The slots of an act hold what they held, at what the names lead to now. -/
theorem Sim.onAct2 {f:Nat → Nat → Option Value} {ds ds':List Deferred} {N:Nat} {l:List (Nat × SV)} {hp:Id → Option PT} {H:List (Id × PT)} {sl:List SV} (h1:Sim sz I bs' ⟨f,ds⟩ w0' ⟨slOf N l,hp⟩ a w L []) (hf:∀ i j t,L (.arg i j) = some t → f i j = some t.val)
    (h2:Sim sz I bs ⟨f,ds'⟩ w0 ⟨sl,ofL H⟩ a' w' L' []) (hl:∀ x ∈ l,SlotOK H x.2) (hI:∀ k b,I k b → w'.heap[b]? = w.heap[b]?):Sim sz I bs ⟨f,ds⟩ w0 ⟨slOf N l,ofL H⟩ a w' L' []:=by
  have hlen:a.tmps.toList.length = N:=by
    have:=h1.slots.len
    simp only [slOf_len] at this
    exact this
  refine { h2 with nodef:=h1.nodef,slots:=?_,args:=h2.args }
  refine SVRL.of_at (by rw [slOf_len,hlen]) fun i v s hv hs => ?_
  obtain ⟨v',hv',hr⟩:=h1.slots.at_ i s hs
  rw [hv] at hv'
  cases hv'
  have hi:i < N:=by rw [← hlen]; exact (List.getElem?_eq_some_iff.1 hv).1
  have hs':(slOf N l)[i]? = some s:=hs
  rw [slOf_at,if_pos hi] at hs'
  cases hs'
  rcases slGet_mem l i with hj | ⟨x,hx,hj⟩
  · rw [hj]; simp only [SVR]
  · have hok:=hl x hx
    rw [hj] at hok
    generalize slGet l i = s at hr hok
    unfold SlotOK at hok
    split at hok
    · simp only [SVR] at hr ⊢
      exact (Im.all (fun _ _ hb => hb) hI).1 _ _ hr
    · obtain ⟨e,cs,hH⟩:=hok
      simp only [SVR] at hr ⊢
      obtain ⟨b,cap,e',n',cs',hlk,rfl⟩:=hr
      rename_i i' j'
      have hL:L (.arg i' j') = some (.own b cap e' n' cs'):=by
        cases hL:L (.arg i' j') with
        | none => simp [look,hL] at hlk
        | some t => simpa [look,hL,LT.get] using hlk
      obtain ⟨t',ht',hv'⟩:=h2.args i' j' _ (hf i' j' _ hL)
      have her:=h2.er (.arg i' j')
      rw [ht'] at her
      simp only [hH,Option.map_some,Option.some.injEq] at her
      obtain ⟨b2,cap2,ls,rfl,hls⟩:=own_of_one (h2.holds _ _ ht') her
      simp only [LT.val,Value.slice.injEq,Option.some.injEq,Addr.mk.injEq,and_true] at hv'
      obtain ⟨rfl,rfl,rfl⟩:=hv'
      exact ⟨b2,cap2,e,1,ls,by simp [look,ht',LT.get],rfl⟩
    · exact hok.elim
end
theorem rndD {P:Program} {I:Nat → Nat → Prop} {n fn N p lb D sz1 z:Nat} {l:List (Nat × SV)} {bs:List Nat} {f:Nat → Nat → Option Value} {ds:List Deferred} {w:World} {a:Act} {L:Loc} {rec:Loop} {asg bdy:Code} {H0 H H':List (Id × PT)} {sv:SV} {va:Value} {st1:St} {sl2:List SV} {W:World}
    (h1:Sim (tsz P) I bs ⟨f,ds⟩ w ⟨slOf N l,ofL H0⟩ a w L []) (hf:∀ i j t,L (.arg i j) = some t → f i j = some t.val) (hlD:lb ≠ D) (hl0:w.heap.size ≤ lb) (hl:∀ x ∈ l,SlotOK H' x.2)
    (hrec:rec = { state:=.ready,pending:=none,fn:=fn,tmps:=a.tmps,params:=#[p],assign:=asg,body:=bdy,defers:=D })
    (hA:StepIn P I n lb asg ⟨slOf N ((p,sv) :: l),ofL H⟩ st1) (hB:StepIn P I n lb bdy st1 ⟨sl2,ofL H'⟩)
    (hJ:RndJ P I N l bs f ds z w a lb D sz1 rec H W) (hva:∀ L,SVR (tsz P) L W I va sv) :
    YieldAt (wideR none) n P lb #[va] W fun e' W' => e' = .returned (.bool true) ∧ RndJ P I N l bs f ds z w a lb D sz1 rec H' W':=by
  obtain ⟨L1,hs,hlb,hD,hsz,hdf⟩:=hJ
  have hs1:=hs.defs (ds':=[]) |>.put (some p) (v:=va) (s:=sv) (hva L1)
  have hact:Act.put { a with defers:=[] } (some p) va = { tmps:=a.tmps.setIfInBounds p va,defers:=[] }:=rfl
  rw [hact] at hs1
  refine ⟨fn,a.tmps.setIfInBounds p va,asg,bdy,?_,roundIn_of_wpIn trivial ?_⟩
  · have:=run_yield (P:=P) (args:=#[va]) hlb (by rw [hrec]; rfl)
    rw [this,hrec]
    simp
  simp only [slOf_set] at hs1
  obtain ⟨bs1,hs2,hb1⟩:=hs1.rebase
  have nc:∀ (w:World) (bs1:List Nat) (k:Nat) (o:Obj),(∀ y ∈ bs1,∃ arr e f,w.heap[y]? = some (.cells arr e f)) → w.heap[k]? = some o → (∀ arr e f,o ≠ .cells arr e f) → k ∉ bs1:=fun w bs1 k o hc hk ho hx => by
    obtain ⟨arr,e,f,h⟩:=hc k hx
    rw [hk] at h
    cases h
    exact ho _ _ _ rfl
  have hc1:∀ y ∈ bs1,∃ arr e f,W.heap[y]? = some (.cells arr e f):=fun y hy => (hb1 y hy).2
  have ll:lb < W.heap.size:=(Array.getElem?_eq_some_iff.1 hlb).1
  have lD:D < W.heap.size:=(Array.getElem?_eq_some_iff.1 hD).1
  refine hA _ _ _ _ _ _ _ hs2 ?_
  intro a3 w3 L3 hs3
  have hl3:w3.heap[lb]? = some (.loop rec):=(hs3.keeps.block lb ll (nc _ _ _ _ hc1 hlb (by simp))).trans hlb
  have hD3:w3.heap[D]? = some (Obj.deferred (some [])):=(hs3.keeps.block D lD (nc _ _ _ _ hc1 hD (by simp))).trans hD
  have hdf3:DefOK ds z w3:=hdf.keep fun r hr => (hs3.keeps.block r (Array.getElem?_eq_some_iff.1 hr).1 (nc _ _ _ _ hc1 hr (by simp))).trans hr
  have hz3:=hs3.keeps.size
  refine ⟨_,run_beginRound (P:=P) hl3 (by rw [hrec]),?_⟩
  have hs4:=(Sim.unbase hs.keeps hs.imm hs3 (fun y hy => (hb1 y hy).1)).turn (w':=w3.putObj lb (.loop { rec with state:=.busy })) hl0 (by intro arr e f h; rw [hl3] at h; cases h) (fun k hk => World.putObj_heap_other hk) rfl rfl rfl (by simp [World.putObj]) (Nat.le_refl _)
  have hl4:(w3.putObj lb (.loop { rec with state:=.busy })).heap[lb]? = some (.loop { rec with state:=.busy }):=World.putObj_heap_same (by omega)
  have hD4:(w3.putObj lb (.loop { rec with state:=.busy })).heap[D]? = some (Obj.deferred (some [])):=(World.putObj_heap_other (fun h => hlD h.symm)).trans hD3
  have hdf4:DefOK ds z (w3.putObj lb (.loop { rec with state:=.busy })):=hdf3.keep fun r hr => (World.putObj_heap_other (by rintro rfl; rw [hl3] at hr; cases hr)).trans hr
  have hz4:w3.heap.size ≤ (w3.putObj lb (.loop { rec with state:=.busy })).heap.size:=by simp [World.putObj]
  generalize w3.putObj lb (.loop { rec with state:=.busy }) = w4 at hs4 hl4 hD4 hz4 hdf4
  obtain ⟨bs2,hs5,hb2⟩:=hs4.rebase
  have hc2:∀ y ∈ bs2,∃ arr e f,w4.heap[y]? = some (.cells arr e f):=fun y hy => (hb2 y hy).2
  have ll4:lb < w4.heap.size:=(Array.getElem?_eq_some_iff.1 hl4).1
  have lD4:D < w4.heap.size:=(Array.getElem?_eq_some_iff.1 hD4).1
  refine hB _ _ _ _ _ _ _ hs5 ?_
  intro a6 w6 L6 hs6
  have hl6:w6.heap[lb]? = some (.loop { rec with state:=.busy }):=(hs6.keeps.block lb ll4 (nc _ _ _ _ hc2 hl4 (by simp))).trans hl4
  have hD6:w6.heap[D]? = some (Obj.deferred (some [])):=(hs6.keeps.block D lD4 (nc _ _ _ _ hc2 hD4 (by simp))).trans hD4
  have hdf6:DefOK ds z w6:=hdf4.keep fun r hr => (hs6.keeps.block r (Array.getElem?_eq_some_iff.1 hr).1 (nc _ _ _ _ hc2 hr (by simp))).trans hr
  have hz6:=hs6.keeps.size
  have hs7:=(Sim.unbase hs4.keeps hs4.imm hs6 (fun y hy => (hb2 y hy).1)).turn (w':=w6.putObj lb (.loop { { rec with state:=.busy } with state:=if (none:Option Code).isNone then .ready else .done,pending:=none })) hl0 (by intro arr e f h; rw [hl6] at h; cases h) (fun k hk => World.putObj_heap_other hk) rfl rfl rfl (by simp [World.putObj]) (Nat.le_refl _)
  refine ⟨_,_,run_endRound none hl6,rfl,L6,Sim.onAct2 h1 hf hs7 hl (fun k b hb => hs7.keeps.block b (h1.imm k b hb).1 (h1.imm k b hb).2),?_,(World.putObj_heap_other (fun h => hlD h.symm)).trans hD6,?_,hdf6.keep fun r hr => (World.putObj_heap_other (by rintro rfl; rw [hl6] at hr; cases hr)).trans hr⟩
  · rw [World.putObj_heap_same (by omega),hrec]
    rfl
  · exact Nat.le_trans (show sz1 ≤ w6.heap.size by omega) (by simp [World.putObj])
theorem rangeD {P:Program} {n N g p f q m:Nat} {caps:List (List PT)} {asg bdy:Code} {l:List (Nat × SV)} {H:Nat → List (Id × PT)} {sv:Nat → SV} {st1:Nat → St} {sl2:Nat → List SV} {Q:Exit → St → Prop} (hgN:g < N) (hgl:slGet l g = .t (.fn q f caps))
    (hcf:∀ args w,(callFunc f args).run P w = .ok (.enter f args) w)
    (hit:∀ (I:Nat → Nat → Prop) (l:Nat) (vs:List Value) (J:Nat → World → Prop) (W:World),ImC W I q vs caps → (∀ k b,I k b → b < W.heap.size) → (∀ i W',J i W' → W.heap.size ≤ W'.heap.size ∧ ∀ k b,I k b → W'.heap[b]? = W.heap[b]?) →
      (∀ i W1 W2,J i W1 → RowKit.Below W1.heap.size W1 W2 → W1.drawn ≤ W2.drawn → J i W2) → (∀ i,i < m → ∀ (W1:World) (va:Value),J i W1 → (∀ L,SVR (tsz P) L W1 I va (sv i)) → YieldAt (wideR none) n P l #[va] W1 fun e W' => e = .returned (.bool true) ∧ J (i + 1) W') → J 0 W →
      CallsIn (wideR none) (n + 1) P f (#[.func (.yield l) #[] #[]] ++ vs.toArray) W fun e W' => (∃ v,e = .returned v) ∧ J m W')
    (hA:∀ I lb i,i < m → StepIn P I n lb asg ⟨slOf N ((p,sv i) :: l),ofL (H i)⟩ (st1 i))
    (hB:∀ I lb i,i < m → StepIn P I n lb bdy (st1 i) ⟨sl2 i,ofL (H (i + 1))⟩)
    (hl:∀ i,i ≤ m → ∀ x ∈ l,SlotOK (H i) x.2)
    (hQ:Q .normal ⟨slOf N l,ofL (H m)⟩):ewpD P (.rangeFunc (.tmp g) #[p] asg bdy) Q ⟨slOf N l,ofL (H 0)⟩:=by
  intro z I bs0 ds w0 a w L hs0 hd0 hz0
  obtain ⟨bs,hs',hb⟩:=hs0.rebase
  have h1:=hs'.fix
  generalize hfe:(fun i j => (L (.arg i j)).map LT.val) = ff at h1
  have hff:∀ i j t,L (.arg i j) = some t → ff i j = some t.val:=fun i j t ht => by rw [← hfe]; simp [ht]
  obtain ⟨vg,hvg,hrg⟩:=h1.slot hgN
  have hrg':Im w I vg (.fn q f caps):=by simpa [hgl,SVR] using hrg
  simp only [Im] at hrg'
  obtain ⟨vs,rfl,hvs⟩:=hrg'
  have heg:a.eval (.tmp g) = .func (.func f) #[] vs.toArray:=by simp only [Act.eval,Array.getD_eq_getD_getElem?,hvg,Option.getD_some]
  have hIw:∀ k b,I k b → b < w.heap.size:=fun k b hb => (h1.imm k b hb).1
  refine (wpIn_wide (n:=n + 1 + 1)).1 ?_
  show (Code.rangeFunc (.tmp g) #[p] asg bdy).wpIn (wideR none) (n + 1 + 1) P _ a w
  refine wpIn_rangeFunc ?_
  intro fn hfn
  obtain ⟨rec,hrec⟩:∃ rec:Loop,rec = { state:=.ready,pending:=none,fn:=fn,tmps:=a.tmps,params:=#[p],assign:=asg,body:=bdy,defers:=w.heap.size }:=⟨_,rfl⟩
  obtain ⟨W1,hW1⟩:∃ W1,(w.alloc (.deferred (some []))).alloc (.loop rec) = W1:=⟨_,rfl⟩
  have hL1:W1.heap[w.heap.size + 1]? = some (.loop rec):=by
    rw [← hW1]; have:=World.alloc_heap_new (w.alloc (.deferred (some []))) (.loop rec); rwa [World.size_alloc] at this
  have hK1:W1.heap[w.heap.size]? = some (Obj.deferred (some [])):=by
    rw [← hW1]; exact (RowKit.Below.heap_alloc _ _ _ (by simp)).trans (World.alloc_heap_new w _)
  have hb1:RowKit.Below w.heap.size w W1:=by
    rw [← hW1]; exact ((RowKit.Below.refl _ w).alloc (Nat.le_refl _) _).alloc (by simp) _
  have hs2:=h1.grow hb1 (by rw [← hW1]; exact Nat.le_refl _)
  refine ⟨w.heap.size + 1,[{ target:=.collected w.heap.size,args:=#[] }],W1,{ target:=.fn (.func f) vs.toArray,args:=#[.func (.yield (w.heap.size + 1)) #[] #[]] },W1,f,
    #[.func (.yield (w.heap.size + 1)) #[] #[]] ++ vs.toArray,W1,?_,?_,?_,?_,fun _ => by omega,?_⟩
  · rw [← hW1,hrec]; exact run_enterLoop_outer _ _ _ _ _
  · simp only [resolve,rangeCall,heg]
    simp [go_sem]
  · intro f' hf'; trivial
  · simp [invoke,go_sem,hcf]
  · refine (hit I (w.heap.size + 1) vs (fun i W => RndJ P I N l bs ff ds z w a (w.heap.size + 1) w.heap.size W1.heap.size rec (H i) W) W1 ?_ ?_ ?_ ?_ ?_ ?_).mono ?_
    · exact (Im.all (fun _ _ hb => hb) (fun k b hb => hb1.block b (hIw k b hb))).2.2 _ _ _ hvs
    · exact fun k b hb => Nat.lt_of_lt_of_le (hIw k b hb) hb1.size
    · rintro i W' ⟨L',j1,j2,j3,j4,_⟩
      exact ⟨j4,fun k b hb => (j1.keeps.block b (h1.imm k b hb).1 (h1.imm k b hb).2).trans (hs2.keeps.block b (h1.imm k b hb).1 (h1.imm k b hb).2).symm⟩
    · exact fun i Wa Wb hJ hw hdr => hJ.grow hw hdr
    · intro i hi Wa va hJ hva
      exact rndD h1 hff (by omega) (by omega) (hl (i + 1) (by omega)) hrec (hA I _ i hi) (hB I _ i hi) hJ hva
    · exact ⟨L,hs2,hL1,hK1,Nat.le_refl _,hd0.keep fun r hr => (hb1.block r (Array.getElem?_eq_some_iff.1 hr).1).trans hr⟩
    · rintro e' W2 ⟨⟨v0,rfl⟩,L2,hs3,hl2,hD2,hz2,hdf2⟩
      have hend:=run_endLoop (P:=P) hl2 (by rw [hrec]; simp)
      have hp:rec.pending = none:=by rw [hrec]
      rw [hp] at hend
      refine ⟨none,_,hend,?_⟩
      have hD3:(W2.putObj (w.heap.size + 1) (.loop { rec with state:=.exhausted })).heap[w.heap.size]? = some (Obj.deferred (some [])):=(World.putObj_heap_other (by omega)).trans hD2
      have hs4:=hs3.turn (w':=W2.putObj (w.heap.size + 1) (.loop { rec with state:=.exhausted })) (b:=w.heap.size + 1) (by omega) (by intro arr e f h; rw [hl2] at h; cases h) (fun k hk => World.putObj_heap_other hk) rfl rfl rfl (by simp [World.putObj]) (Nat.le_refl _)
      have hdf4:DefOK ds z (W2.putObj (w.heap.size + 1) (.loop { rec with state:=.exhausted })):=hdf2.keep fun r hr => (World.putObj_heap_other (by rintro rfl; rw [hl2] at hr; cases hr)).trans hr
      rw [hp] at hs4 hD3 hdf4
      have hnd:a.defers = ds:=h1.nodef
      refine ⟨_,L2,{ target:=.collected w.heap.size,args:=#[] } :: ds,I,bs0,w0,Lent.refl _ _ _,?_,⟨fun d hd => ?_,?_⟩,hQ⟩
      · have:=(Sim.unbase hs0.keeps hs0.imm hs4 (fun y hy => (hb y hy).1)).noArgs.defs (ds':={ target:=.collected w.heap.size,args:=#[] } :: ds)
        rw [← hnd] at this ⊢
        exact this
      · rcases List.mem_cons.1 hd with rfl | hd
        · exact ⟨_,rfl,hD3,Nat.le_trans hz0 hs0.keeps.size⟩
        · exact hdf4.1 d hd
      · refine List.pairwise_cons.2 ⟨fun d hd => ?_,hdf4.2⟩
        obtain ⟨r,k1,k2,_⟩:=hd0.1 d hd
        rw [k1]
        intro he
        have:=(Array.getElem?_eq_some_iff.1 k2).1
        simp only [Target.collected.injEq] at he
        omega
attribute [simp] capOf dropI
end Go.V
