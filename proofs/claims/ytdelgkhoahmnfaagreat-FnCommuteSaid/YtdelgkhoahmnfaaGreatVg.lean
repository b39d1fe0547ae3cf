/- The road V: code reckoned over trees of values, proved sound against the model once. No conditions. -/
import Derived.Test.YtdelgkhoahmnfaaGreatVf
import Derived.RangeFuncCalls
import Derived.RangeFuncLeaves
import Derived.Shelf.GgSortFunc.InsertionK
import Derived.Shelf.SlSortCmp.InsertionK
set_option linter.all false
namespace Go.V
open Go.RowKit
set_option linter.unusedSimpArgs false
set_option linter.unusedVariables false

/-! ### a function whose two results are one row -/
def dupT (st:St) (t1 t2:Nat):Option PT:=match st.sl[t1]?,st.sl[t2]? with
  | some (.ref pl1 o1 n1),some (.ref pl2 o2 n2) => if pl1 = pl2 ∧ pl1.path = [] ∧ pl1.id.isOp = true ∧ o1 = 0 ∧ o2 = 0 ∧ n1 = n2 then (match st.hp pl1.id with
      | some (.sl 0 e n cs) => if n = n1 then some (.sl 0 e n cs) else none
      | _ => none)
    else none
  | _,_ => none
def PostD (t1 t2:Nat) (args:List PV) (p:PT) (outs:List PV):Exit → St → Prop
  | .normal,st => dupT st t1 t2 = some p ∧ outVs st.hp 0 args = some outs
  | .ret,st => dupT st t1 t2 = some p ∧ outVs st.hp 0 args = some outs
  | _,_ => False
theorem PostD_normal {t1 t2:Nat} {args outs:List PV} {p:PT} {st:St}:PostD t1 t2 args p outs .normal st = (dupT st t1 t2 = some p ∧ outVs st.hp 0 args = some outs):=rfl
theorem PostD_ret {t1 t2:Nat} {args outs:List PV} {p:PT} {st:St}:PostD t1 t2 args p outs .ret st = (dupT st t1 t2 = some p ∧ outVs st.hp 0 args = some outs):=rfl
section
variable {sz:Nat → Nat} {I:Nat → Nat → Prop} {w:World} {L:Loc}
end
def PostX (P:Program) (t1 t2:Nat) (rs:List ResultVar) (args:List PV) (r:PV × List PV):Exit → St → Prop:=match r.1 with
  | .dup p => PostD t1 t2 args p r.2
  | _ => PostS P rs args r
theorem PostX_dup {P:Program} {t1 t2:Nat} {rs:List ResultVar} {args outs:List PV} {p:PT}:PostX P t1 t2 rs args (.dup p,outs) = PostD t1 t2 args p outs:=rfl
theorem PostX_tup {P:Program} {t1 t2:Nat} {rs:List ResultVar} {args outs:List PV} {l:List PV}:PostX P t1 t2 rs args (.tup l,outs) = PostS P rs args (.tup l,outs):=rfl
attribute [simp] PostD_normal PostD_ret dupT PostX_dup PostX_tup
end Go.V

namespace Go.V
open Go.RowKit
set_option linter.unusedSimpArgs false
set_option linter.unusedVariables false

/-! ### a function that hands back a closure over a box of its own -/
def boxIds:List SV → Option (List Id)
  | [] => some []
  | .ptr pl o :: ss => if pl.path = [] ∧ pl.id.isOp = true ∧ o = 0 then (boxIds ss).map (pl.id :: ·) else none
  | _ :: _ => none
def boxPTs (hp:Id → Option PT):List Id → Option (List PT)
  | [] => some []
  | id :: ids => match hp id,boxPTs hp ids with
    | some (.sl 0 e 1 cs),some ps => some (.sl 0 e 1 cs :: ps)
    | _,_ => none
def cloT (st:St) (g:FuncId) (t1:Nat):Option (List PT):=match st.sl[t1]? with
  | some (.fnc g' ss) => if g' = g then (match boxIds ss with
      | some ids => if ids.Nodup then boxPTs st.hp ids else none
      | none => none)
    else none
  | _ => none
def PostC (g:FuncId) (t1:Nat) (args:List PV) (ps:List PT) (outs:List PV):Exit → St → Prop
  | .normal,st => cloT st g t1 = some ps ∧ outVs st.hp 0 args = some outs
  | .ret,st => cloT st g t1 = some ps ∧ outVs st.hp 0 args = some outs
  | _,_ => False
theorem PostC_normal {g:FuncId} {t1:Nat} {args outs:List PV} {ps:List PT} {st:St}:PostC g t1 args ps outs .normal st = (cloT st g t1 = some ps ∧ outVs st.hp 0 args = some outs):=rfl
theorem PostC_ret {g:FuncId} {t1:Nat} {args outs:List PV} {ps:List PT} {st:St}:PostC g t1 args ps outs .ret st = (cloT st g t1 = some ps ∧ outVs st.hp 0 args = some outs):=rfl
theorem boxPTs_sound {sz:Nat → Nat} {I:Nat → Nat → Prop} {bs:List Nat} {A:AD} {w0 w:World} {st:St} {a:Act} {L:Loc} (h:Sim sz I bs A w0 st a w L []):∀ {ss:List SV} {ids:List Id} {us:List Value} {ps:List PT},boxIds ss = some ids → SVRL sz L w I us ss → boxPTs st.hp ids = some ps →
    ∃ ts:List LT,ts.map LT.erase = ps ∧ us = ts.map LT.ptr ∧ (∀ t ∈ ts,∃ b cap e cs,t = .own b cap e 1 cs) ∧ (∀ t ∈ ts,∃ id ∈ ids,id.isOp = true ∧ L id = some t) ∧ (ids.Nodup → (ts.flatMap LT.blocks).Nodup)
  | [],ids,us,ps,h1,h2,h3 => by
    simp only [boxIds,Option.some.injEq] at h1
    subst h1
    simp only [boxPTs,Option.some.injEq] at h3
    subst h3
    simp only [SVRL] at h2
    subst h2
    exact ⟨[],rfl,rfl,by simp,by simp,by simp⟩
  | s :: ss,ids,us,ps,h1,h2,h3 => by
    cases s <;> simp only [boxIds,reduceCtorEq] at h1
    rename_i pl o
    split at h1
    · rename_i hc
      obtain ⟨hpath,hop,rfl⟩:=hc
      obtain ⟨id,path⟩:=pl
      simp only at hpath hop h1
      subst hpath
      rw [Option.map_eq_some_iff] at h1
      obtain ⟨ids',h1,rfl⟩:=h1
      simp only [boxPTs] at h3
      split at h3
      · rename_i e cs ps' hhp hps
        cases h3
        simp only [SVRL] at h2
        obtain ⟨v,us',rfl,r1,r2⟩:=h2
        obtain ⟨ts,e1,e2,e3,e4,e5⟩:=boxPTs_sound h h1 r2 hps
        have her:=h.er id
        rw [hhp,Option.map_eq_some_iff] at her
        obtain ⟨t,ht,hte⟩:=her
        simp only [SVR] at r1
        obtain ⟨b,cap0,e2',n2,cs2,hlk,rfl⟩:=r1
        have hlk':look L ⟨id,[]⟩ = some t:=by simp [look,ht,LT.get]
        rw [hlk'] at hlk
        cases hlk
        have hte2:=hte
        simp only [LT.erase,PT.sl.injEq,true_and] at hte2
        obtain ⟨rfl,rfl,_⟩:=hte2
        refine ⟨.own b cap0 e2' 1 cs2 :: ts,by rw [List.map_cons,hte,e1],by rw [List.map_cons,e2]; rfl,?_,?_,?_⟩
        · intro t' ht'
          rcases List.mem_cons.1 ht' with rfl | ht'
          · exact ⟨_,_,_,_,rfl⟩
          · exact e3 t' ht'
        · intro t' ht'
          rcases List.mem_cons.1 ht' with rfl | ht'
          · exact ⟨id,by simp,hop,ht⟩
          · obtain ⟨id',k1,k2,k3⟩:=e4 t' ht'
            exact ⟨id',List.mem_cons_of_mem _ k1,k2,k3⟩
        · intro hn
          have hn':=List.nodup_cons.1 hn
          rw [List.flatMap_cons]
          refine List.nodup_append.2 ⟨h.nodup id _ ht,e5 hn'.2,fun x hx y hy hxy => ?_⟩
          subst hxy
          obtain ⟨t',ht',hxt⟩:=List.mem_flatMap.1 hy
          obtain ⟨id',k1,k2,k3⟩:=e4 t' ht'
          exact h.apart id id' _ _ (by rintro rfl; exact hn'.1 k1) ht k3 x hx hxt
      · cases h3
    · cases h1
theorem okC {P : Program} {f : FuncId} {fn : Func} {c : Code} {args outs : List PV} {ps : List PT} {n t1 : Nat} (g : FuncId) (h0 : tsz P nilE = 0) (hf : P.funcs[f]? = some fn) (hn : (fn.name == "runtime.NumGoroutine") = false) (hb : fn.body = some c)
    (hnt:fn.ntmps = n) (hrs:fn.results = #[.tmp t1]) (hle:args.length ≤ n) (h:ewp P c (PostC g t1 args ps outs) ⟨slOf n (entL 0 args),ofL (argL 0 args)⟩):CallOK P f args (.clo g ps) outs:=by
  subst hnt
  have h1:=ewp_entry hle h
  intro I w las he hh hnd hI
  refine CallsF.of_calls hf hn hb (calls_of_wp hf hb ?_)
  have hs:=Sim.entry las hh hnd hI fn.ntmps
  rw [he] at hs
  refine wp_mono (h1 I _ _ w _ w _ hs) ?_
  rintro e a' w' ⟨st',L',g1,g2⟩
  have fin:(cloT st' g t1 = some ps ∧ outVs st'.hp 0 args = some outs) → bodyPost P fn (CallPost P I w las (.clo g ps) outs) .ret a' w':=by
    rintro ⟨hd,hout⟩
    unfold cloT at hd
    split at hd
    · rename_i g' ss hs1
      split at hd
      · rename_i hg
        subst hg
        split at hd
        · rename_i ids hids
          split at hd
          · rename_i hnodup
            obtain ⟨vs,hrun,hvs⟩:=results_sound g1 (fn:=fn) (ss:=[.fnc g' ss]) (by rw [hrs]; simp [resSVs,resSV,hs1])
            simp only [SVRL] at hvs
            obtain ⟨v1,_,rfl,r1,rfl⟩:=hvs
            simp only [SVR] at r1
            obtain ⟨us,rfl,u1⟩:=r1
            obtain ⟨ts,e1,rfl,e3,e4,e5⟩:=boxPTs_sound g1 hids u1 hd
            have hIw:∀ k b,I k b → w'.heap[b]? = w.heap[b]?:=fun k b hb => g1.keeps.block b (g1.imm k b hb).1 (g1.imm k b hb).2
            rw [← he] at hout
            obtain ⟨o1,o2,o3,o4,o5⟩:=outLVs_sound g1 (las:=las) (i:=0) (fun t hs ht => LT.holds_frame (fun _ _ hb => hb) hIw t ht (fun b hb => by rw [notSl_blocks (by rw [hs]; decide)] at hb; simp at hb))
              (fun k x ps hx => (Im.all (fun _ _ hb => hb) hIw).2.1 _ _ _ _ hx) hh (fun k la hk j t ht => by simp [entryL,hk,ht]) hout
            refine ⟨g1.nodef,_,hrun,.clo g' ts,outLVs L' 0 las,rfl,by simp only [LV.erase,e1],o1,o2,?_,o3,?_,?_,g1.keeps⟩
            · simp only [LV.holds]
              intro t ht
              obtain ⟨id,_,_,k3⟩:=e4 t ht
              exact ⟨g1.holds id _ k3,e3 t ht⟩
            · simp only [LV.blocks]
              refine List.nodup_append.2 ⟨e5 hnodup,o4,fun x hx y hy hxy => ?_⟩
              subst hxy
              obtain ⟨t,ht,hxt⟩:=List.mem_flatMap.1 hx
              obtain ⟨id,_,k2,k3⟩:=e4 t ht
              obtain ⟨k,j,u,_,hu,hbu⟩:=o5 x hy
              exact g1.apart _ _ _ _ (Id.isOp_ne k2 k j) k3 hu x hxt hbu
            · simp only [LV.blocks]
              intro b hb
              rcases List.mem_append.1 hb with hb | hb
              · obtain ⟨t,ht,hxt⟩:=List.mem_flatMap.1 hb
                obtain ⟨id,_,_,k3⟩:=e4 t ht
                exact g1.own _ _ k3 b hxt
              · obtain ⟨k,j,u,_,hu,hbu⟩:=o5 b hb
                exact g1.own _ _ hu b hbu
          · cases hd
        · cases hd
      · cases hd
    · cases hd
  cases e <;> simp only [PostC] at g2
  · exact fin g2
  · exact fin g2
attribute [simp] PostC_normal PostC_ret cloT boxIds boxPTs
end Go.V

namespace Go.V
open Go.RowKit
set_option linter.unusedSimpArgs false
set_option linter.unusedVariables false

/-! ### regions walked within a round of a range over a function -/
def wideR (l:Option Nat):Fence:={ Fence.wide with round:=l }
section
variable {P:Program} {o:Oper} {a:Act} {w w':World} {K:Act → World → Prop} {Q:Exit → Act → World → Prop} {n:Nat} {l:Option Nat} {E:Env}
theorem callsIn_wideR {f:FuncId} {args:Array Value} {R:Ending → World → Prop} (h:Calls P f args w R):CallsIn (wideR l) n P f args w R:=by
  cases l with
  | none => exact callsIn_wide.2 h
  | some l => exact CallsIn.inRound l (callsIn_wide.2 h)
theorem callsIn_toR {f:FuncId} {args:Array Value} {R:Ending → World → Prop} (h:CallsIn (wideR l) n P f args w R):Calls P f args w R:=by
  cases l with
  | none => exact callsIn_wide.1 h
  | some l => exact callsIn_wide.1 (CallsIn.outOfRound (l:=l) h)
theorem rowsIn_wideR {row:String} {args:Array Value} {R:Value → World → Prop} (h:Rows P row args w R):RowsIn (wideR l) n P row args w R :=
  fun c cs _ => let ⟨v,w',r,s⟩:=h c cs; ⟨v,w',r,(StepsIn.of_steps s).mono fun m _ => by
    intro g _
    exact ⟨fun h => by simp [wideR,Fence.wide] at h,Or.inl trivial,fun _ _ => trivial,fun _ h => by simp [wideR,Fence.wide] at h⟩⟩
theorem upIn {r:Result Next} (h:o.upon P a K Q r):o.uponIn (wideR l) n P a K Q r:=by
  cases r with
  | ok x w' =>
    cases x <;> simp only [Oper.upon,Oper.uponIn] at h ⊢ <;> first
      | exact h
      | exact ⟨fun h => by simp [wideR,Fence.wide] at h,callsIn_wideR h⟩
      | exact ⟨fun h => by simp [wideR,Fence.wide] at h,rowsIn_wideR h⟩
  | halt x w' =>
    cases x <;> simp only [Oper.upon,Oper.uponIn] at h ⊢ <;> exact h
theorem yieldOp {c:Call} {x y:Operand} {j:Nat} (hop:o.op = .call c) (hc:c.callee = .value x) (ha:c.args = #[y]) (hx:a.eval x = .func (.yield j) #[] #[])
    (hY:YieldAt (wideR l) n P j #[a.eval y] w fun e W' => e = .returned (.bool true) ∧ K (a.put o.dst (.bool true)) W'):o.wpIn (wideR l) (n + 1) P a w K Q:=by
  obtain ⟨fn,tm,asg,bdy,hy,hR⟩:=hY
  refine ⟨fun _ _ => trivial,?_⟩
  rw [Oper.semAt_eq _ _ _ (by intro c h; rw [hop] at h; cases h)]
  have e:∀ ρ:Operand → Value,ρ x = .func (.yield j) #[] #[] → (Instr.yield j #[ρ y]).run P w = .ok (.round j fn tm asg bdy) w → (execOp ρ o).run P w = .ok (.round j fn tm asg bdy) w:=by
    intro ρ hx hy
    simp [execOp,hop,resolve,hc,ha,Deferred.ofValue,hx,invoke,hy,Sem.run_bind,Sem.run_pure,Result.andThen]
  rw [e a.eval hx hy]
  simp only [Oper.uponIn]
  exact ⟨fun h => by simp [wideR,Fence.wide] at h,hR.mono (by rintro e W' ⟨rfl,h⟩; exact h)⟩
theorem wpOpsIn_one {ops:Array Oper} {i:Nat} {rest:List Nat} (ho:ops[i]? = some o) (hg:o.guard = none) (h:o.wpIn (wideR l) n P a w (wpOpsIn (wideR l) n P ops Q rest) Q):wpOpsIn (wideR l) n P ops Q (i :: rest) a w:=by
  simp only [wpOpsIn,ho]
  rw [if_pos (by simp [Region.wanted,hg])]
  exact h
def notDefer (o:Oper):Bool:=match o.op with
  | .defer _ => false
  | _ => true
theorem notDefer_ne (h:notDefer o = true):∀ c,o.op ≠ .defer c:=by
  intro c hc
  simp [notDefer,hc] at h
theorem opIn (hd:notDefer o = true) (h:o.wp P a w K Q):o.wpIn (wideR l) n P a w K Q :=
  ⟨fun _ _ => trivial,by rw [Oper.semAt_eq _ _ _ (notDefer_ne hd)]; exact upIn h⟩
variable {I:Nat → Nat → Prop} {bs:List Nat} {A:AD} {w0:World} {st':St}
end
section
variable {P:Program} {M:List (FuncId × List Nat)} {K:St → Prop} {Q:Exit → Act → World → Prop} {n:Nat} {l:Option Nat} {I:Nat → Nat → Prop} {bs:List Nat} {A:AD} {w0:World}
theorem runInP {ops:Array Oper} {r m:Nat} (h0:tsz P nilE = 0):∀ (rest:List Oper) (i:Nat) {st:St} {a:Act} {w:World} {L:Loc},Sim (tsz P) I bs A w0 st a w L [] → (∀ j,j < rest.length → rest[j]? = ops[i + j]?) → rest.all notDefer = true →
    (∀ st a' w' L',Sim (tsz P) I bs A w0 st a' w' L' [] → K st → wpOpsIn (wideR l) n P ops Q (List.range' (i + rest.length) m) a' w') →
    runR P M r ops i rest K st → wpOpsIn (wideR l) n P ops Q (List.range' i (rest.length + m)) a w
  | [],i,st,a,w,L,h,_,_,hQ,hst => by
    have:=hQ st a w L h hst
    simpa using this
  | o :: rest,i,st,a,w,L,h,hr,hnd,hQ,hst => by
    simp only [runR,app] at hst
    simp only [List.all_cons,Bool.and_eq_true] at hnd
    have hi:ops[i]? = some o:=by simpa using (hr 0 (by simp)).symm
    have hr':∀ j,j < rest.length → rest[j]? = ops[i + 1 + j]?:=fun j hj => by have:=hr (j + 1) (by simpa using hj); rwa [List.getElem?_cons_succ,show i + (j + 1) = i + 1 + j by omega] at this
    have hQ':∀ st a' w' L',Sim (tsz P) I bs A w0 st a' w' L' [] → K st → wpOpsIn (wideR l) n P ops Q (List.range' (i + 1 + rest.length) m) a' w':=fun st a' w' L' h1 h2 => by
      have:=hQ st a' w' L' h1 h2
      rwa [List.length_cons,show i + (rest.length + 1) = i + 1 + rest.length by omega] at this
    rw [List.length_cons,show rest.length + 1 + m = (rest.length + m) + 1 by omega]
    simp only [List.range'_succ,wpOpsIn,hi]
    unfold grd at hst
    split at hst
    · rename_i b wn hg
      have hgs:guardSt ops st o = some (b == wn):=by rw [gcond_eq,hg]; rfl
      cases hbw:(b == wn)
      · rw [hbw] at hgs
        rw [guardSt_sound h hgs,if_neg (by simp)]
        exact ⟨fun _ _ => trivial,runInP h0 rest (i + 1) (h.setS _ (by simp [SVR,Im])) hr' hnd.2 hQ' (hst.2 (by revert hbw; cases b <;> cases wn <;> decide))⟩
      · rw [hbw] at hgs
        rw [guardSt_sound h hgs,if_pos rfl]
        refine opIn hnd.1 (Oper.wp_mono (fun a' w' hh => ?_) (stepR_sound (Q:=Q) h h0 (hst.1 (by simpa using hbw))))
        obtain ⟨st',L',h',hk⟩:=hh
        exact runInP h0 rest (i + 1) h' hr' hnd.2 hQ' hk
    · exact hst.elim
theorem runIn {ops:Array Oper} {r:Nat} (h0:tsz P nilE = 0) (hQ:∀ st a' w' L',Sim (tsz P) I bs A w0 st a' w' L' [] → K st → Q .normal a' w') (rest:List Oper) (i:Nat) {st:St} {a:Act} {w:World} {L:Loc} (hs:Sim (tsz P) I bs A w0 st a w L []) (hr:∀ j,rest[j]? = ops[i + j]?) (hnd:rest.all notDefer = true)
    (h:runR P M r ops i rest K st):wpOpsIn (wideR l) n P ops Q (List.range' i rest.length) a w:=by
  have:=runInP (l:=l) (n:=n) (Q:=Q) (m:=0) (K:=K) h0 rest i hs (fun j _ => hr j) hnd (fun st a' w' L' h1 h2 => by simpa [wpOpsIn] using hQ st a' w' L' h1 h2) h
  simpa using this
/-- A region's operations from the k-th on. -/
theorem opsT {ops:Array Oper} {id:Nat} {st:St} {L:Loc} {a:Act} {w:World} (M:List (FuncId × List Nat)) (k:Nat) (keep:List Nat) (ids:List Id) (st1:St) (h0:tsz P nilE = 0) (hs:Sim (tsz P) I bs A w0 st a w L []) (hnd:(ops.toList.drop k).all notDefer = true)
    (hr:∀ K:St → Prop,(∀ st',st'.drop keep ids = st1 → K st') → runR P M id ops k (ops.toList.drop k) K st) (h:∀ a' w' L',Sim (tsz P) I bs A w0 st1 a' w' L' [] → Q .normal a' w'):wpOpsIn (wideR l) n P ops Q (List.range' k (ops.toList.drop k).length) a w :=
  runIn (l:=l) (n:=n) (K:=fun st' => st'.drop keep ids = st1) (Q:=Q) h0 (fun st' a' w' L' h1 h2 => by
    obtain ⟨L2,h3⟩:=h1.lose keep ids
    rw [h2] at h3
    exact h a' w' L2 h3) (ops.toList.drop k) k hs (fun j => by rw [List.getElem?_drop]; simp) hnd (hr _ fun st' e => e)
/-- The first k operations of a region; the others stay. -/
theorem regP {ops:Array Oper} {id:Nat} {st:St} {L:Loc} {a:Act} {w:World} (M:List (FuncId × List Nat)) (k:Nat) (keep:List Nat) (ids:List Id) (st1:St) (h0:tsz P nilE = 0) (hs:Sim (tsz P) I bs A w0 st a w L []) (hk:k ≤ ops.size) (hnd:(ops.toList.take k).all notDefer = true)
    (hr:∀ K:St → Prop,(∀ st',st'.drop keep ids = st1 → K st') → runR P M id ops 0 (ops.toList.take k) K st) (h:∀ a' w' L',Sim (tsz P) I bs A w0 st1 a' w' L' [] → wpOpsIn (wideR l) n P ops Q (List.range' k (ops.size - k)) a' w'):(Code.region id ops false).wpIn (wideR l) n P Q a w:=by
  refine wpIn_region ?_
  have hl:(ops.toList.take k).length = k:=by rw [List.length_take,Array.length_toList]; omega
  have:=runInP (l:=l) (n:=n) (Q:=Q) (m:=ops.size - k) (K:=fun st' => st'.drop keep ids = st1) (ops:=ops) h0 (ops.toList.take k) 0 hs (fun j hj => by rw [List.getElem?_take,if_pos (by omega)]; simp) hnd (fun st' a' w' L' h1 h2 => by
    obtain ⟨L2,h3⟩:=h1.lose keep ids
    rw [h2] at h3
    have:=h a' w' L2 h3
    rw [hl,Nat.zero_add]
    exact this) (hr _ fun st' e => e)
  rw [hl,show k + (ops.size - k) = ops.size by omega] at this
  rw [List.range_eq_range']
  exact this
theorem regT {ops:Array Oper} {id:Nat} {st:St} {L:Loc} {a:Act} {w:World} (M:List (FuncId × List Nat)) (keep:List Nat) (ids:List Id) (st1:St) (h0:tsz P nilE = 0) (hs:Sim (tsz P) I bs A w0 st a w L []) (hnd:ops.toList.all notDefer = true)
    (hr:∀ K:St → Prop,(∀ st',st'.drop keep ids = st1 → K st') → runR P M id ops 0 ops.toList K st) (h:∀ a' w' L',Sim (tsz P) I bs A w0 st1 a' w' L' [] → Q .normal a' w'):(Code.region id ops false).wpIn (wideR l) n P Q a w:=by
  refine wpIn_region ?_
  have:=runIn (l:=l) (n:=n) (K:=fun st' => st'.drop keep ids = st1) (Q:=Q) h0 (fun st' a' w' L' h1 h2 => by
    obtain ⟨L2,h3⟩:=h1.lose keep ids
    rw [h2] at h3
    exact h a' w' L2 h3) ops.toList 0 hs (fun j => by simp) hnd (hr _ fun st' e => e)
  simpa [List.range_eq_range'] using this
end
section
variable {sz:Nat → Nat} {I:Nat → Nat → Prop} {bs:List Nat} {A:AD} {w0 w w':World} {st:St} {a:Act} {L:Loc}
theorem LT.blocks_cells {sz:Nat → Nat} {w:World} {I:Nat → Nat → Prop}:∀ t:LT,t.holds sz w I → ∀ b ∈ t.blocks,∃ arr e f,w.heap[b]? = some (.cells arr e f):=by
  refine LT.ind ?_ ?_
  · intro v p _ b hb; simp [LT.blocks] at hb
  · intro b cap e n cs ih h x hx
    simp only [LT.holds] at h
    simp only [LT.blocks,List.mem_cons,List.mem_flatMap] at hx
    rcases hx with rfl | ⟨c,hc,hx⟩
    · obtain ⟨⟨arr,h1,_⟩,_⟩:=h
      exact ⟨_,_,_,h1⟩
    · exact ih c hc (h.2.2.2.2 c hc) x hx
/-- A block that is no cells turns. -/
theorem Sim.turn (h:Sim sz I bs A w0 st a w L []) {b:Nat} (hb:w0.heap.size ≤ b) (hnc:∀ arr e f,w.heap[b]? ≠ some (.cells arr e f)) (hw:∀ k,k ≠ b → w'.heap[k]? = w.heap[k]?) (hos:w'.os = w.os) (htape:w'.tape = w.tape) (hout:w'.output = w.output) (hsz:w.heap.size ≤ w'.heap.size) (hdr:w.drawn ≤ w'.drawn):Sim sz I bs A w0 st a w' L []:=by
  have hI:∀ k b',I k b' → w'.heap[b']? = w.heap[b']?:=fun k b' hb' => hw b' (by rintro rfl; have:=(h.imm k _ hb').1; omega)
  have hO:∀ t:LT,t.holds sz w I → ∀ x ∈ t.blocks,w'.heap[x]? = w.heap[x]?:=by
    intro t ht x hx
    obtain ⟨arr,e,f,hc⟩:=LT.blocks_cells t ht x hx
    exact hw x (by rintro rfl; exact hnc _ _ _ hc)
  refine { h with keeps:=⟨hos.trans h.keeps.os,htape.trans h.keeps.tape,hout.trans h.keeps.output,Nat.le_trans h.keeps.size hsz,fun i hi hn => (hw i (by rintro rfl; omega)).trans (h.keeps.block i hi hn),Nat.le_trans h.keeps.drawn hdr⟩,holds:=?_,hholds:=by simp,slots:=?_ }
  · exact fun id t ht => LT.holds_frame (fun _ _ hb => hb) hI t (h.holds id t ht) (hO t (h.holds id t ht))
  · have:=SVRL.kill (L':=L) (fun _ => false) (fun _ node _ _ hn => ⟨node,hn,Shp.refl _⟩) (fun _ _ hb => hb) hI h.slots
    have e:st.sl.map (SV.kill fun _ => false) = st.sl:=by
      refine (List.map_congr_left fun s _ => ?_).trans (List.map_id _)
      simp [SV.kill,uses_false]
    rw [e] at this
    exact this
/-- What is known of what is only read, at a world of its own. -/
def SimI (sz:Nat → Nat) (I:Nat → Nat → Prop) (sl:List SV) (a:Act) (w:World):Prop:=Sim sz I [] ⟨fun _ _ => none,[]⟩ w ⟨sl,ofL []⟩ a w (fun _ => none) []
theorem SimI.mk (hI:∀ k b,I k b → b < w.heap.size) {sl:List SV} (hd:a.defers = []) (hs:SVRL sz (fun _ => none) w I a.tmps.toList sl):SimI sz I sl a w :=
  { keeps:=Kp.refl _ _,imm:=fun k b hb => ⟨hI k b hb,by simp⟩,er:=fun _ => rfl,holds:=by simp,nodup:=by simp,own:=by simp,apart:=by simp,hholds:=by simp,hnodup:=by simp,hown:=by simp,hapart:=by simp,slots:=hs,nodef:=hd,args:=by simp }
theorem Sim.toI {sl:List SV} (h:Sim sz I [] A w0 ⟨sl,ofL []⟩ a w L []) (hA:A.d = []:=by rfl):SimI sz I sl a w:=by
  have hL:L = fun _ => none:=by
    funext id
    have:=h.er id
    cases hid:L id with
    | none => rfl
    | some t => rw [hid] at this; simp [ofL] at this
  subst hL
  exact SimI.mk (fun k b hb => Nat.lt_of_lt_of_le (h.imm k b hb).1 h.keeps.size) (h.nodef.trans hA) h.slots
theorem SimI.later {sl:List SV} (h:SimI sz I sl a w) (hI:∀ k b,I k b → w'.heap[b]? = w.heap[b]?) (hs:∀ k b,I k b → b < w'.heap.size):SimI sz I sl a w':=by
  refine SimI.mk hs h.nodef ?_
  have:=SVRL.kill (L':=fun _ => none) (fun _ => false) (fun _ node _ _ hn => ⟨node,hn,Shp.refl _⟩) (fun _ _ hb => hb) hI h.slots
  have e:sl.map (SV.kill fun _ => false) = sl:=by
    refine (List.map_congr_left fun s _ => ?_).trans (List.map_id _)
    simp [SV.kill,uses_false]
  rw [e] at this
  exact this
/-- The values of some slots, each for itself. -/
theorem SVRL.of_slOf {N:Nat} {l:List (Nat × SV)} {vs:List Value} (hl:vs.length = N) (h:∀ x ∈ l,∃ v,vs[x.1]? = some v ∧ SVR sz L w I v x.2):SVRL sz L w I vs (slOf N l):=by
  refine SVRL.of_at (by rw [slOf_len,hl]) fun i v s hv hs => ?_
  have hi:i < N:=by rw [← hl]; exact (List.getElem?_eq_some_iff.1 hv).1
  rw [slOf_at,if_pos hi] at hs
  cases hs
  have key:∀ l:List (Nat × SV),(∀ x ∈ l,∃ v,vs[x.1]? = some v ∧ SVR sz L w I v x.2) → SVR sz L w I v (slGet l i):=by
    intro l
    induction l with
    | nil => intro _; simp [slGet,SVR]
    | cons x l ih =>
      intro h
      simp only [slGet]
      split
      · rename_i e
        subst e
        obtain ⟨v',h1,h2⟩:=h x List.mem_cons_self
        rw [hv] at h1
        cases h1
        exact h2
      · exact ih fun y hy => h y (List.mem_cons_of_mem _ hy)
  exact key l h
/-- What a slot holds. -/
theorem Sim.slot {hp:Id → Option PT} {N:Nat} {l:List (Nat × SV)} {hand:List LT} (h:Sim sz I bs A w0 ⟨slOf N l,hp⟩ a w L hand) {i:Nat} (hi:i < N):∃ v,a.tmps[i]? = some v ∧ SVR sz L w I v (slGet l i):=by
  obtain ⟨v,hv,hr⟩:=h.slots.at_ i (slGet l i) (by rw [slOf_at,if_pos hi])
  exact ⟨v,by rw [← Array.getElem?_toList]; exact hv,hr⟩
/-! ### a box under an argument's name, so that its block stays known -/
def A9 (b cap:Nat):AD:=⟨fun i j => if i = 9 ∧ j = 0 then some (.slice (some ⟨b,0,none⟩) 1 cap) else none,[]⟩
theorem own_of_one {t:LT} {e:Nat} {cs:List PT} (ht:t.holds sz w I) (he:t.erase = .sl 0 e 1 cs):∃ b cap ls,t = .own b cap e 1 ls ∧ ls.map LT.erase = cs:=by
  cases t with
  | leaf v p =>
    simp only [LT.erase] at he
    subst he
    simp only [LT.holds,Im] at ht
    omega
  | own b cap e' n ls =>
    simp only [LT.erase,PT.sl.injEq,true_and] at he
    obtain ⟨rfl,rfl,h⟩:=he
    exact ⟨b,cap,ls,rfl,h⟩
theorem Sim.toArg {N s:Nat} {x:Id} {e:Nat} {cs:List PT} {l:List (Nat × SV)} {hp:Id → Option PT} (hpx:hp x = some (.sl 0 e 1 cs)) (hsN:s < N) (h:Sim sz I [] A w0 ⟨slOf N ((s,.ptr ⟨x,[]⟩ 0) :: l),hp⟩ a w L []) (hA:A.d = []:=by rfl) :
    ∃ b cap L',a.tmps[s]? = some (.pointer (some ⟨b,0,none⟩)) ∧ Sim sz I [] (A9 b cap) w0 ⟨slOf N [(s,.ptr ⟨.arg 9 0,[]⟩ 0)],ofL [(.arg 9 0,.sl 0 e 1 cs)]⟩ a w L' []:=by
  have her:=h.er x
  simp only [hpx,Option.map_eq_some_iff] at her
  obtain ⟨t,ht,hte⟩:=her
  have hth:=h.holds x t ht
  obtain ⟨b,cap,ls,rfl,hls⟩:=own_of_one hth hte
  obtain ⟨v,hv,hr⟩:=h.slot (i:=s) hsN
  have hr':SVR sz L w I v (.ptr ⟨x,[]⟩ 0):=by simpa [slGet] using hr
  simp only [SVR] at hr'
  obtain ⟨b',cap',e',n',cs',hlk,rfl⟩:=hr'
  have hlk':look L ⟨x,[]⟩ = some (.own b cap e 1 ls):=by simp [look,ht,LT.get]
  rw [hlk'] at hlk
  cases hlk
  have hlen:a.tmps.toList.length = N:=by
    have:=h.slots.len
    simp only [slOf_len] at this
    exact this
  have one:∀ id t,(if id = Id.arg 9 0 then some (LT.own b cap e 1 ls) else none) = some t → id = .arg 9 0 ∧ t = .own b cap e 1 ls:=by
    intro id t h
    split at h
    · cases h; exact ⟨by assumption,rfl⟩
    · cases h
  refine ⟨b,cap,fun id => if id = .arg 9 0 then some (.own b cap e 1 ls) else none,hv,{ keeps:=h.keeps,imm:=h.imm,nodef:=h.nodef.trans hA,hholds:=by simp,hnodup:=by simp,hown:=by simp,hapart:=by simp,er:=?_,holds:=?_,nodup:=?_,own:=?_,apart:=?_,slots:=?_,args:=?_ }⟩
  · intro id
    by_cases hid:id = .arg 9 0
    · subst hid
      simp only [if_true,ofL,Option.map_some,LT.erase,hls]
    · simp only [if_neg hid,ofL,Option.map_none]
  · intro id t ht'
    obtain ⟨_,rfl⟩:=one id t ht'
    exact hth
  · intro id t ht'
    obtain ⟨_,rfl⟩:=one id t ht'
    exact h.nodup x _ ht
  · intro id t ht' y hy
    obtain ⟨_,rfl⟩:=one id t ht'
    exact h.own x _ ht y hy
  · intro id id' t t' hne ht1 ht2
    obtain ⟨e1,_⟩:=one id t ht1
    obtain ⟨e2,_⟩:=one id' t' ht2
    exact absurd (e1.trans e2.symm) hne
  · refine SVRL.of_slOf hlen fun y hy => ?_
    rw [List.mem_singleton.1 hy]
    refine ⟨_,by rw [Array.getElem?_toList]; exact hv,?_⟩
    simp only [SVR]
    exact ⟨b,cap,e,1,ls,by simp [look,LT.get],rfl⟩
  · intro i j v hA
    unfold A9 at hA
    simp only at hA
    split at hA
    · rename_i hij
      obtain ⟨rfl,rfl⟩:=hij
      cases hA
      exact ⟨.own b cap e 1 ls,by simp,by simp only [LT.val]⟩
    · cases hA
theorem Sim.box9 {b cap e:Nat} {cs:List PT} {sl:List SV} (h:Sim sz I bs (A9 b cap) w0 ⟨sl,ofL [(.arg 9 0,.sl 0 e 1 cs)]⟩ a w L []):∃ ls,L (.arg 9 0) = some (.own b cap e 1 ls) ∧ ls.map LT.erase = cs:=by
  obtain ⟨t,ht,hv⟩:=h.args 9 0 (.slice (some ⟨b,0,none⟩) 1 cap) (by simp [A9])
  have her:=h.er (.arg 9 0)
  rw [ht] at her
  simp only [ofL,if_true,Option.map_some,Option.some.injEq] at her
  obtain ⟨b',cap',ls,rfl,hls⟩:=own_of_one (h.holds _ _ ht) her
  simp only [LT.val,Value.slice.injEq,Option.some.injEq,Addr.mk.injEq,and_true] at hv
  obtain ⟨rfl,_,rfl⟩:=hv
  exact ⟨ls,ht,hls⟩
theorem Sim.onAct {N s b cap e:Nat} {cs:List PT} {sl:List SV} {a':Act} (h:Sim sz I bs (A9 b cap) w0 ⟨sl,ofL [(.arg 9 0,.sl 0 e 1 cs)]⟩ a' w L []) (hs:a.tmps[s]? = some (.pointer (some ⟨b,0,none⟩))) (hl:a.tmps.toList.length = N) (hd:a.defers = []) :
    Sim sz I bs (A9 b cap) w0 ⟨slOf N [(s,.ptr ⟨.arg 9 0,[]⟩ 0)],ofL [(.arg 9 0,.sl 0 e 1 cs)]⟩ a w L []:=by
  obtain ⟨ls,ht,_⟩:=h.box9
  refine { h with nodef:=hd,slots:=SVRL.of_slOf hl fun y hy => ?_ }
  rw [List.mem_singleton.1 hy]
  refine ⟨_,by rw [Array.getElem?_toList]; exact hs,?_⟩
  simp only [SVR]
  exact ⟨b,cap,e,1,ls,by simp [look,ht,LT.get],rfl⟩
theorem ofL_mem {l:List (Id × PT)} {id:Id} {t:PT} (h:ofL l id = some t):id ∈ l.map Prod.fst:=by
  induction l with
  | nil => simp [ofL] at h
  | cons x l ih =>
    obtain ⟨i,p⟩:=x
    simp only [ofL] at h
    split at h
    · rename_i e
      subst e
      exact List.mem_cons_self
    · exact List.mem_cons_of_mem _ (ih h)
theorem Sim.reset {sl:List SV} {l:List (Id × PT)} (h:Sim sz I [] A w0 ⟨sl,ofL l⟩ a w L []):∃ bs',Sim sz I bs' A w ⟨sl,ofL l⟩ a w L [] ∧ ∀ b ∈ bs',w0.heap.size ≤ b ∧ ∃ arr e f,w.heap[b]? = some (.cells arr e f):=by
  have hcase:∀ id t,L id = some t → id ∈ l.map Prod.fst:=by
    intro id t ht
    have her:=h.er id
    rw [ht,Option.map_some] at her
    exact ofL_mem her.symm
  refine ⟨(l.map Prod.fst).flatMap (blk L),{ h with keeps:=Kp.refl _ _,imm:=?_,own:=?_,hown:=by simp },?_⟩
  · intro k b hb
    refine ⟨h.immw k b hb,fun hx => ?_⟩
    obtain ⟨x,_,hx⟩:=List.mem_flatMap.1 hx
    obtain ⟨t,ht,hbt⟩:=mem_blk hx
    have hne:=h.imm_ne hb
    exact (h.own x t ht b hbt).elim hne.1 hne.2
  · intro id t ht b hb
    left
    refine List.mem_flatMap.2 ⟨id,hcase id t ht,?_⟩
    unfold blk
    rw [ht]
    exact hb
  · intro b hb
    obtain ⟨x,_,hx⟩:=List.mem_flatMap.1 hb
    obtain ⟨t,ht,hbt⟩:=mem_blk hx
    exact ⟨(h.own x t ht b hbt).elim (by simp) id,LT.blocks_cells t (h.holds x t ht) b hbt⟩
theorem svrl_any {sz:Nat → Nat} {I:Nat → Nat → Prop} {w:World} {L L':Loc}:∀ {ps:List PT} {vs:List Value},SVRL sz L w I vs (ps.map SV.t) → SVRL sz L' w I vs (ps.map SV.t)
  | [],vs,hs => by simpa [SVRL] using hs
  | p :: ps,vs,hs => by
    simp only [List.map_cons,SVRL] at hs ⊢
    obtain ⟨v,vs',rfl,h1,h2⟩:=hs
    exact ⟨v,vs',rfl,by simpa only [SVR] using h1,svrl_any h2⟩
theorem Sim.back {w1:World} (h:Sim sz I bs A w1 st a w L []) (hk:Kp [] w0 w1) (hb:∀ b ∈ bs,w0.heap.size ≤ b) (hI:∀ k b,I k b → b < w0.heap.size):Sim sz I [] A w0 st a w L [] :=
  { h with keeps:=hk.trans h.keeps (fun b hx => .inr (hb b hx)),imm:=fun k b hb => ⟨hI k b hb,by simp⟩,own:=fun id t ht b hbt => .inr ((h.own id t ht b hbt).elim (hb b) fun hle => Nat.le_trans hk.size hle),hown:=by simp }
/-! ### a range over a function whose rounds touch one box -/
def BoxJ (P:Program) (I:Nat → Nat → Prop) (N s e:Nat) (w0:World) (a:Act) (b cap l D sz1:Nat) (rec:Loop) (B:PT) (W:World):Prop :=
  ∃ L,Sim (tsz P) I [] (A9 b cap) w0 ⟨slOf N [(s,.ptr ⟨.arg 9 0,[]⟩ 0)],ofL [(.arg 9 0,.sl 0 e 1 [B])]⟩ a W L [] ∧ W.heap[l]? = some (.loop rec) ∧ W.heap[D]? = some (.deferred (some [])) ∧ sz1 ≤ W.heap.size
theorem BoxJ.grow {P:Program} {N s e:Nat} {b cap l D sz1:Nat} {rec:Loop} {B:PT} {W W':World} (h:BoxJ P I N s e w0 a b cap l D sz1 rec B W) (hw:RowKit.Below W.heap.size W W') (hdr:W.drawn ≤ W'.drawn):BoxJ P I N s e w0 a b cap l D sz1 rec B W':=by
  obtain ⟨L,h1,h2,h3,h4⟩:=h
  exact ⟨L,h1.grow hw hdr,(hw.block l (Array.getElem?_eq_some_iff.1 h2).1).trans h2,(hw.block D (Array.getElem?_eq_some_iff.1 h3).1).trans h3,Nat.le_trans h4 hw.size⟩
/-- A code of a round carries one state to another. -/
def StepIn (P:Program) (I:Nat → Nat → Prop) (n l:Nat) (c:Code) (st st':St):Prop :=
  ∀ (bs:List Nat) (A:AD) (w0:World) (a:Act) (w:World) (L:Loc) (Q:Exit → Act → World → Prop),Sim (tsz P) I bs A w0 st a w L [] → (∀ a' w' L',Sim (tsz P) I bs A w0 st' a' w' L' [] → Q .normal a' w') → c.wpIn (wideR (some l)) n P Q a w
theorem boxRound {P:Program} {n fn N s p e b cap l D sz1:Nat} {rec:Loop} {asg bdy:Code} {B B':PT} {sv:SV} {va:Value} {st1:List SV} {l1:List (Id × PT)} {sl2:List SV} {W:World} (hlD:l ≠ D) (hl0:w0.heap.size ≤ l) (hd:a.defers = []) (hN:a.tmps.toList.length = N) (hsb:a.tmps[s]? = some (.pointer (some ⟨b,0,none⟩)))
    (hI:∀ k b,I k b → b < w0.heap.size) (hrec:rec = { state:=.ready,pending:=none,fn:=fn,tmps:=a.tmps,params:=#[p],assign:=asg,body:=bdy,defers:=D })
    (hA:StepIn P I n l asg ⟨slOf N [(p,sv),(s,.ptr ⟨.arg 9 0,[]⟩ 0)],ofL [(.arg 9 0,.sl 0 e 1 [B])]⟩ ⟨st1,ofL l1⟩)
    (hB:StepIn P I n l bdy ⟨st1,ofL l1⟩ ⟨sl2,ofL [(.arg 9 0,.sl 0 e 1 [B'])]⟩)
    (hJ:BoxJ P I N s e w0 a b cap l D sz1 rec B W) (hva:∀ L,SVR (tsz P) L W I va sv) :
    YieldAt (wideR none) n P l #[va] W fun e' W' => e' = .returned (.bool true) ∧ BoxJ P I N s e w0 a b cap l D sz1 rec B' W':=by
  obtain ⟨L,hs,hl,hD,hsz⟩:=hJ
  have hs1:=hs.put (some p) (v:=va) (s:=sv) (hva L)
  have hact:a.put (some p) va = { tmps:=a.tmps.setIfInBounds p va,defers:=[] }:=by
    rw [← hd]; rfl
  refine ⟨fn,a.tmps.setIfInBounds p va,asg,bdy,?_,roundIn_of_wpIn trivial ?_⟩
  · have:=run_yield (P:=P) (args:=#[va]) hl (by rw [hrec]; rfl)
    rw [this,hrec]
    simp
  rw [← hact]
  simp only [slOf_set] at hs1
  obtain ⟨bs1,hs2,hb1⟩:=hs1.reset
  have nl:l ∉ bs1:=fun h => by obtain ⟨_,arr,e,f,hc⟩:=hb1 l h; rw [hl] at hc; cases hc
  have nD:D ∉ bs1:=fun h => by obtain ⟨_,arr,e,f,hc⟩:=hb1 D h; rw [hD] at hc; cases hc
  have ll:l < W.heap.size:=(Array.getElem?_eq_some_iff.1 hl).1
  have lD:D < W.heap.size:=(Array.getElem?_eq_some_iff.1 hD).1
  refine hA _ _ _ _ _ _ _ hs2 ?_
  intro a3 w3 L3 hs3
  have hl3:w3.heap[l]? = some (.loop rec):=(hs3.keeps.block l ll nl).trans hl
  have hD3:w3.heap[D]? = some (.deferred (some [])):=(hs3.keeps.block D lD nD).trans hD
  have hz3:=hs3.keeps.size
  refine ⟨_,run_beginRound (P:=P) hl3 (by rw [hrec]),?_⟩
  have hs4:=(hs3.back hs.keeps (fun b hb => (hb1 b hb).1) hI).turn (w':=w3.putObj l (.loop { rec with state:=.busy })) hl0 (by intro arr e f h; rw [hl3] at h; cases h) (fun k hk => World.putObj_heap_other hk) rfl rfl rfl (by simp [World.putObj]) (Nat.le_refl _)
  have hl4:(w3.putObj l (.loop { rec with state:=.busy })).heap[l]? = some (.loop { rec with state:=.busy }):=World.putObj_heap_same (by omega)
  have hD4:(w3.putObj l (.loop { rec with state:=.busy })).heap[D]? = some (.deferred (some [])):=(World.putObj_heap_other (fun h => hlD h.symm)).trans hD3
  have hz4:w3.heap.size ≤ (w3.putObj l (.loop { rec with state:=.busy })).heap.size:=by simp [World.putObj]
  generalize w3.putObj l (.loop { rec with state:=.busy }) = w4 at hs4 hl4 hD4 hz4
  obtain ⟨bs2,hs5,hb2⟩:=hs4.reset
  have nl2:l ∉ bs2:=fun h => by obtain ⟨_,arr,e,f,hc⟩:=hb2 l h; rw [hl4] at hc; cases hc
  have nD2:D ∉ bs2:=fun h => by obtain ⟨_,arr,e,f,hc⟩:=hb2 D h; rw [hD4] at hc; cases hc
  have ll4:l < w4.heap.size:=(Array.getElem?_eq_some_iff.1 hl4).1
  have lD4:D < w4.heap.size:=(Array.getElem?_eq_some_iff.1 hD4).1
  refine hB _ _ _ _ _ _ _ hs5 ?_
  intro a6 w6 L6 hs6
  have hl6:w6.heap[l]? = some (.loop { rec with state:=.busy }):=(hs6.keeps.block l ll4 nl2).trans hl4
  have hD6:w6.heap[D]? = some (.deferred (some [])):=(hs6.keeps.block D lD4 nD2).trans hD4
  have hz6:=hs6.keeps.size
  have hs7:=(((hs6.back hs4.keeps (fun b hb => (hb2 b hb).1) hI).onAct hsb hN hd)).turn (w':=w6.putObj l (.loop { { rec with state:=.busy } with state:=if (none:Option Code).isNone then .ready else .done,pending:=none })) hl0 (by intro arr e f h; rw [hl6] at h; cases h) (fun k hk => World.putObj_heap_other hk) rfl rfl rfl (by simp [World.putObj]) (Nat.le_refl _)
  refine ⟨_,_,run_endRound none hl6,rfl,L6,hs7,?_,(World.putObj_heap_other (fun h => hlD h.symm)).trans hD6,?_⟩
  · rw [World.putObj_heap_same (by omega),hrec]
    rfl
  · exact Nat.le_trans (show sz1 ≤ w6.heap.size by omega) (by simp [World.putObj])
theorem boxLoop {P:Program} {n N s g p e q f m:Nat} {caps:List (List PT)} {asg bdy:Code} {B:Nat → PT} {sv:Nat → SV} {st1:Nat → List SV} {l1:Nat → List (Id × PT)} {sl2:Nat → List SV} {x:Id} {hp:Id → Option PT} {Q:Exit → Act → World → Prop}
    (h:Sim (tsz P) I [] A w0 ⟨slOf N [(s,.ptr ⟨x,[]⟩ 0),(g,.t (.fn q f caps))],hp⟩ a w L []) (hpx:hp x = some (.sl 0 e 1 [B 0])) (hsN:s < N) (hgN:g < N) (hgs:s ≠ g)
    (hcf:∀ args w,(callFunc f args).run P w = .ok (.enter f args) w)
    (hit:∀ (l:Nat) (vs:List Value) (J:Nat → World → Prop) (W:World),ImC W I q vs caps → (∀ k b,I k b → b < W.heap.size) → (∀ i W',J i W' → W.heap.size ≤ W'.heap.size ∧ ∀ k b,I k b → W'.heap[b]? = W.heap[b]?) →
      (∀ i W1 W2,J i W1 → RowKit.Below W1.heap.size W1 W2 → W1.drawn ≤ W2.drawn → J i W2) → (∀ i,i < m → ∀ (W1:World) (va:Value),J i W1 → (∀ L,SVR (tsz P) L W1 I va (sv i)) → YieldAt (wideR none) n P l #[va] W1 fun e W' => e = .returned (.bool true) ∧ J (i + 1) W') → J 0 W →
      CallsIn (wideR none) (n + 1) P f (#[.func (.yield l) #[] #[]] ++ vs.toArray) W fun e W' => (∃ v,e = .returned v) ∧ J m W')
    (hA:∀ l i,i < m → StepIn P I n l asg ⟨slOf N [(p,sv i),(s,.ptr ⟨.arg 9 0,[]⟩ 0)],ofL [(.arg 9 0,.sl 0 e 1 [B i])]⟩ ⟨st1 i,ofL (l1 i)⟩)
    (hB:∀ l i,i < m → StepIn P I n l bdy ⟨st1 i,ofL (l1 i)⟩ ⟨sl2 i,ofL [(.arg 9 0,.sl 0 e 1 [B (i + 1)])]⟩)
    (hQ:∀ (D b cap:Nat) (w':World) (L':Loc),Sim (tsz P) I [] (A9 b cap) w0 ⟨slOf N [(s,.ptr ⟨.arg 9 0,[]⟩ 0)],ofL [(.arg 9 0,.sl 0 e 1 [B m])]⟩ a w' L' [] → a.tmps[s]? = some (.pointer (some ⟨b,0,none⟩)) → w'.heap[D]? = some (.deferred (some [])) → w0.heap.size ≤ D →
      Q .normal { a with defers:=[{ target:=.collected D,args:=#[] }] } w') (hA0:A.d = []:=by rfl) :
    (Code.rangeFunc (.tmp g) #[p] asg bdy).wpIn (wideR none) (n + 1 + 1) P Q a w:=by
  obtain ⟨vg,hvg,hrg⟩:=h.slot hgN
  have hrg':Im w I vg (.fn q f caps):=by simpa [slGet,Ne.symm hgs,SVR] using hrg
  simp only [Im] at hrg'
  obtain ⟨vs,rfl,hvs⟩:=hrg'
  have heg:a.eval (.tmp g) = .func (.func f) #[] vs.toArray:=by simp only [Act.eval,Array.getD_eq_getD_getElem?,hvg,Option.getD_some]
  obtain ⟨b,cap,L1,hsb,hs1⟩:=Sim.toArg hpx hsN h hA0
  have hN:a.tmps.toList.length = N:=by
    have:=h.slots.len
    simp only [slOf_len] at this
    exact this
  have hd:=h.nodef.trans hA0
  have hz:=h.keeps.size
  have hI:∀ k b,I k b → b < w0.heap.size:=fun k b hb => (h.imm k b hb).1
  refine wpIn_rangeFunc ?_
  intro fn hfn
  obtain ⟨rec,hrec⟩:∃ rec:Loop,rec = { state:=.ready,pending:=none,fn:=fn,tmps:=a.tmps,params:=#[p],assign:=asg,body:=bdy,defers:=w.heap.size }:=⟨_,rfl⟩
  obtain ⟨W1,hW1⟩:∃ W1,(w.alloc (.deferred (some []))).alloc (.loop rec) = W1:=⟨_,rfl⟩
  have hL1:W1.heap[w.heap.size + 1]? = some (.loop rec):=by
    rw [← hW1]; have:=World.alloc_heap_new (w.alloc (.deferred (some []))) (.loop rec); rwa [World.size_alloc] at this
  have hK1:W1.heap[w.heap.size]? = some (.deferred (some [])):=by
    rw [← hW1]; exact (RowKit.Below.heap_alloc _ _ _ (by simp)).trans (World.alloc_heap_new w _)
  have hb1:RowKit.Below w.heap.size w W1:=by
    rw [← hW1]; exact ((RowKit.Below.refl _ w).alloc (Nat.le_refl _) _).alloc (by simp) _
  have hs2:=hs1.grow hb1 (by rw [← hW1]; exact Nat.le_refl _)
  refine ⟨w.heap.size + 1,[{ target:=.collected w.heap.size,args:=#[] }],W1,{ target:=.fn (.func f) vs.toArray,args:=#[.func (.yield (w.heap.size + 1)) #[] #[]] },W1,f,
    #[.func (.yield (w.heap.size + 1)) #[] #[]] ++ vs.toArray,W1,?_,?_,?_,?_,fun _ => by omega,?_⟩
  · rw [← hW1,hrec]; exact run_enterLoop_outer _ _ _ _ _
  · simp only [resolve,rangeCall,heg]
    simp [go_sem]
  · intro f' hf'; trivial
  · simp [invoke,go_sem,hcf]
  · refine (hit (w.heap.size + 1) vs (fun i W => BoxJ P I N s e w0 a b cap (w.heap.size + 1) w.heap.size W1.heap.size rec (B i) W) W1 ?_ ?_ ?_ ?_ ?_ ?_).mono ?_
    · exact (Im.all (fun _ _ hb => hb) (fun k b hb => hb1.block b (h.immw k b hb))).2.2 _ _ _ hvs
    · exact fun k b hb => Nat.lt_of_lt_of_le (h.immw k b hb) hb1.size
    · rintro i W' ⟨L',j1,j2,j3,j4⟩
      exact ⟨j4,fun k b hb => (j1.keeps.block b (hI k b hb) (by simp)).trans (hs2.keeps.block b (hI k b hb) (by simp)).symm⟩
    · exact fun i Wa Wb hJ hw hdr => hJ.grow hw hdr
    · intro i hi Wa va hJ hva
      exact boxRound (by omega) (by omega) hd hN hsb hI hrec (hA _ i hi) (hB _ i hi) hJ hva
    · exact ⟨L1,hs2,hL1,hK1,Nat.le_refl _⟩
    · rintro e' W2 ⟨⟨v0,rfl⟩,L2,hs3,hl2,hD2,hz2⟩
      have hend:=run_endLoop (P:=P) hl2 (by rw [hrec]; simp)
      have hp:rec.pending = none:=by rw [hrec]
      rw [hp] at hend
      refine ⟨none,_,hend,?_⟩
      have hD3:(W2.putObj (w.heap.size + 1) (.loop { rec with state:=.exhausted })).heap[w.heap.size]? = some (.deferred (some [])):=(World.putObj_heap_other (by omega)).trans hD2
      have hs4:=hs3.turn (w':=W2.putObj (w.heap.size + 1) (.loop { rec with state:=.exhausted })) (b:=w.heap.size + 1) (by omega) (by intro arr e f h; rw [hl2] at h; cases h) (fun k hk => World.putObj_heap_other hk) rfl rfl rfl (by simp [World.putObj]) (Nat.le_refl _)
      simp only [hd,List.append_nil]
      rw [hp] at hs4 hD3
      exact hQ w.heap.size b cap _ L2 hs4 hsb hD3 hz
/-- The box's row is loaded and handed back. -/
theorem boxFin {P:Program} {n N s e t d d2 b cap D r:Nat} {fn:Func} {o1 o2:Oper} {B:PT} {las los:List LV} (h:Sim (tsz P) I [] (A9 b cap) w0 ⟨slOf N [(s,.ptr ⟨.arg 9 0,[]⟩ 0)],ofL [(.arg 9 0,.sl 0 e 1 [B])]⟩ a w L []) (hsb:a.tmps[s]? = some (.pointer (some ⟨b,0,none⟩))) (hK:w.heap[D]? = some (.deferred (some []))) (hD:w0.heap.size ≤ D)
    (ho1:o1.op = .load t (.tmp s)) (hd1:o1.dst = some d) (hg1:o1.guard = none) (ho2:o2.op = .assign (.tmp d)) (hd2:o2.dst = some d2) (hg2:o2.guard = none) (ht:tagg P t = some false) (hdN:d < N) (hd2N:d2 < N) (hrs:fn.results = #[.tmp d2])
    {outs:List PV} (hoe:los.map LV.erase = outs) (hlb:las.flatMap LV.blocks = []) (hob:los.flatMap LV.blocks = []) (hof:los.map LV.full = las.map LV.full) (hol:∀ w',Kp [] w0 w' → ∀ l ∈ los,l.holds (tsz P) w' I) :
    (Code.seq (.region r #[o1,o2] false) .ret).wpIn (wideR none) n P (bodyPostM (wideR none) n P fn (CallPost P I w0 las (.c B) outs)) { a with defers:=[{ target:=.collected D,args:=#[] }] } w:=by
  obtain ⟨ls,hL,hls⟩:=h.box9
  have hh:=h.holds _ _ hL
  have hnd:=h.nodup _ _ hL
  have hown:=h.own _ _ hL
  obtain ⟨u,rfl,hu⟩:∃ u,ls = [u] ∧ u.erase = B:=by
    cases ls with
    | nil => simp at hls
    | cons u ls => cases ls with
      | nil => exact ⟨u,rfl,by simpa using hls⟩
      | cons v ls => simp at hls
  simp only [LT.holds] at hh
  obtain ⟨⟨arr,hb,_,harr⟩,_,_,_,hch⟩:=hh
  have hu1:=hch u (by simp)
  have hcell:w.cell? ⟨b,0,none⟩ = some u.val:=by
    have:=harr 0 u rfl
    simp [World.cell?,hb,this]
  have hN:a.tmps.toList.length = N:=by
    have:=h.slots.len
    simp only [slOf_len] at this
    exact this
  have hN':a.tmps.size = N:=by simpa using hN
  have hev:∀ ds,Act.eval { a with defers:=ds } (.tmp s) = .pointer (some ⟨b,0,none⟩):=by
    intro ds
    simp only [Act.eval,Array.getD_eq_getD_getElem?,hsb,Option.getD_some]
  refine wpIn_seq (wpIn_region ?_)
  refine wpOpsIn_one (o:=o1) (i:=0) (rest:=[1]) rfl hg1 (opIn (by simp [notDefer,ho1]) ?_)
  have e1:(execOp (Act.eval { a with defers:=[{ target:=.collected D,args:=#[] }] }) o1).run P w = .ok (.value u.val) w:=by
    simp [execOp,ho1,hev,Instr.loadAt,Instr.sureAddr,Sem.run_bind,run_loadVar_one ht hcell,Result.andThen,Sem.run_pure]
  simp only [Oper.wp,e1,Oper.upon,hd1]
  refine wpOpsIn_one (o:=o2) (i:=1) (rest:=[]) rfl hg2 (opIn (by simp [notDefer,ho2]) ?_)
  have e2:∀ a':Act,(execOp a'.eval o2).run P w = .ok (.value (a'.eval (.tmp d))) w:=by
    intro a'
    simp [execOp,ho2,Sem.run_pure]
  simp only [Oper.wp,e2,Oper.upon,hd2]
  have e3:Act.eval (Act.put { a with defers:=[{ target:=.collected D,args:=#[] }] } (some d) u.val) (.tmp d) = u.val:=by
    simp [Act.eval,Act.put,Array.getD_eq_getD_getElem?,hN',hdN]
  rw [e3]
  refine wpIn_ret ?_
  have hs5:=h.turn (w':=w.putObj D (.deferred none)) (b:=D) hD (by intro arr e f h; rw [hK] at h; cases h) (fun k hk => World.putObj_heap_other hk) rfl rfl rfl (by simp [World.putObj]) (Nat.le_refl _)
  have hu5:u.holds (tsz P) (w.putObj D (.deferred none)) I:=by
    have:=hs5.holds _ _ hL
    simp only [LT.holds] at this
    exact this.2.2.2.2 u (by simp)
  refine ⟨by simp,.inl ⟨_,_,rfl,run_takeDeferred hK,u.val,?_,.c u,los,rfl,by simp only [LV.erase,hu],hoe,hof,?_,hol _ hs5.keeps,?_,?_,?_⟩⟩
  · rw [results_tmp hrs]
    simp [Act.put,Array.getD_eq_getD_getElem?,hN',hd2N]
  · simpa only [LV.holds] using hu5
  · rw [hob,List.append_nil]
    simp only [LV.blocks]
    simp only [LT.blocks,List.flatMap_cons,List.flatMap_nil,List.append_nil,List.nodup_cons] at hnd
    exact hnd.2
  · rw [hob,List.append_nil]
    simp only [LV.blocks]
    intro b' hb'
    exact .inr ((hown b' (by simp [LT.blocks,hb'])).elim (by simp) id)
  · rw [hlb]
    exact hs5.keeps
theorem Sim.entL {args:List PV} {n:Nat} {hand:List LT} (hle:args.length ≤ n) (h:Sim sz I bs A w0 (entrySt args n) a w L hand):Sim sz I bs A w0 ⟨slOf n (entL 0 args),ofL (argL 0 args)⟩ a w L hand:=by
  rw [entrySt_ofL] at h
  refine { h with slots:=h.slots.weak ?_ ?_,er:=h.er }
  · simp [slOf_len,entrySVs_len]; omega
  · intro j s hs
    rw [slOf_at] at hs
    split at hs
    · simp only [Option.some.injEq] at hs
      rw [slGet_ent,if_pos (Nat.zero_le _),Nat.sub_zero] at hs
      cases hj:(entrySVs 0 args)[j]? with
      | none => rw [hj] at hs; exact .inl hs.symm
      | some s' =>
        rw [hj] at hs
        simp only [Option.getD_some] at hs
        subst hs
        right
        have hl:j < (entrySVs 0 args).length:=(List.getElem?_eq_some_iff.1 hj).1
        rw [List.getElem?_append_left hl,hj]
    · simp at hs
theorem LV.c_of_erase {l:LV} {q:PT} (h:l.erase = .c q):∃ t,l = .c t ∧ t.erase = q:=by
  cases l <;> simp only [LV.erase,reduceCtorEq,PV.c.injEq] at h
  exact ⟨_,rfl,h⟩
/-- A nil row that is handed in is no block. -/
theorem nil_leaf {P:Program} {t:LT} (h0:tsz P nilE = 0) (ht:t.holds (tsz P) w I) (he:t.erase = .sl 0 nilE 0 []):∃ v,t = .leaf v (.sl 0 nilE 0 []):=by
  cases t with
  | leaf v p => simp only [LT.erase] at he; subst he; exact ⟨v,rfl⟩
  | own b cap e n cs =>
    simp only [LT.erase,PT.sl.injEq,true_and] at he
    obtain ⟨rfl,_,_⟩:=he
    simp only [LT.holds] at ht
    omega
end
end Go.V

namespace Go.V
open Go.RowKit
set_option linter.unusedSimpArgs false
set_option linter.unusedVariables false

/-! ### what is only read, under another label -/
mutual
def PT.up:PT → PT
  | .sl 0 e n cs => .sl 0 e n cs
  | .sl (_ + 1) e n cs => .sl 2 e n (PT.upL cs)
  | .fn _ g caps => .fn 2 g (PT.upC caps)
  | .raw v => .raw v
  | .hole => .hole
def PT.upL:List PT → List PT
  | [] => []
  | c :: cs => c.up :: PT.upL cs
def PT.upC:List (List PT) → List (List PT)
  | [] => []
  | c :: cs => PT.upL c :: PT.upC cs
end
section
variable {sz:Nat → Nat} {I I':Nat → Nat → Prop} {w w':World} {P:Program} {f:FuncId}
theorem PT.upL_eq:∀ l:List PT,PT.upL l = l.map PT.up
  | [] => by simp [PT.upL]
  | c :: cs => by simp [PT.upL,PT.upL_eq cs]
theorem Im.up (h1:∀ k b,I k b → I' 2 b):(∀ v p,Im w I v p → Im w I' v p.up) ∧ (∀ k (a:Option Addr) j cs,ImL w I k a j cs → ImL w I' 2 a j (PT.upL cs)) ∧ (∀ k vs cs,ImC w I k vs cs → ImC w I' 2 vs (PT.upC cs)):=by
  have key:∀ n:Nat,(∀ v p,SizeOf.sizeOf p < n → Im w I v p → Im w I' v p.up) ∧ (∀ k (a:Option Addr) j (cs:List PT),SizeOf.sizeOf cs < n → ImL w I k a j cs → ImL w I' 2 a j (PT.upL cs)) ∧ (∀ k vs (cs:List (List PT)),SizeOf.sizeOf cs < n → ImC w I k vs cs → ImC w I' 2 vs (PT.upC cs)):=by
    intro n
    induction n with
    | zero => exact ⟨fun _ _ h => by omega,fun _ _ _ _ h => by omega,fun _ _ _ h => by omega⟩
    | succ n ih =>
      refine ⟨?_,?_,?_⟩
      · intro v p hs h
        cases p with
        | raw u => simpa [PT.up,Im] using h
        | hole => simp [PT.up,Im]
        | sl o e k cs =>
          cases o with
          | zero =>
            simp only [Im,PT.up] at h ⊢
            exact h
          | succ o =>
            simp only [Im,PT.up] at h ⊢
            obtain ⟨a,cap,hv,hn,hl⟩:=h
            exact ⟨a,cap,hv,hn,ih.2.1 _ _ _ _ (by simp at hs; omega) hl⟩
        | fn k g caps =>
          simp only [Im,PT.up] at h ⊢
          obtain ⟨vs,hv,hc⟩:=h
          exact ⟨vs,hv,ih.2.2 _ _ _ (by simp at hs; omega) hc⟩
      · intro k a j cs hs h
        cases cs with
        | nil => simp [PT.upL,ImL]
        | cons c cs =>
          simp only [ImL,PT.upL] at h ⊢
          obtain ⟨⟨x,u,ha,hx,hcell,ho,hu⟩,hr⟩:=h
          exact ⟨⟨x,u,ha,h1 _ _ hx,hcell,ho,ih.1 _ _ (by simp at hs; omega) hu⟩,ih.2.1 _ _ _ _ (by simp at hs; omega) hr⟩
      · intro k vs cs hs h
        cases cs with
        | nil => simpa [PT.upC,ImC] using h
        | cons c cs =>
          simp only [ImC,PT.upC] at h ⊢
          obtain ⟨x,vs',hv,hl,hr⟩:=h
          exact ⟨x,vs',hv,ih.2.1 _ _ _ _ (by simp at hs; omega) hl,ih.2.2 _ _ _ (by simp at hs; omega) hr⟩
  exact ⟨fun v p => (key (SizeOf.sizeOf p + 1)).1 v p (Nat.lt_succ_self _),fun k a j cs => (key (SizeOf.sizeOf cs + 1)).2.1 k a j cs (Nat.lt_succ_self _),fun k vs cs => (key (SizeOf.sizeOf cs + 1)).2.2 k vs cs (Nat.lt_succ_self _)⟩
def PV.up:PV → PV
  | .c p => .c p.up
  | .agg ps => .agg (ps.map PT.up)
  | .ip _ ps => .ip 2 (PT.upL ps)
  | x => x
def PT.notOwn:PT → Bool
  | .sl 0 _ _ _ => false
  | _ => true
def PV.leafs:PV → Bool
  | .c p => p.notOwn
  | .agg ps => ps.all PT.notOwn
  | .ip _ _ => true
  | _ => false
def LT.up:LT → LT
  | .leaf v p => .leaf v p.up
  | t => t
def LV.up:LV → LV
  | .c t => .c t.up
  | .agg ts => .agg (ts.map LT.up)
  | .ip _ x ps => .ip 2 x (PT.upL ps)
  | l => l
theorem notOwn_leaf {t:LT} (h:t.erase.notOwn = true):∃ v p,t = .leaf v p:=by
  cases t with
  | leaf v p => exact ⟨v,p,rfl⟩
  | own b cap e n cs => simp [LT.erase,PT.notOwn] at h
theorem leafs_up {la:LV} (hl:la.erase.leafs = true) (hI:∀ k b,I k b → I' 2 b) (hh:la.holds sz w I):la.blocks = [] ∧ la.up.blocks = [] ∧ la.up.val = la.val ∧ la.up.erase = la.erase.up ∧ la.up.holds sz w I':=by
  cases la with
  | c t =>
    obtain ⟨v,p,rfl⟩:=notOwn_leaf (t:=t) (by simpa [LV.erase,PV.leafs] using hl)
    simp only [LV.holds,LT.holds] at hh
    refine ⟨by simp [LV.blocks,LT.blocks],by simp [LV.up,LT.up,LV.blocks,LT.blocks],rfl,by simp [LV.up,LT.up,LV.erase,LT.erase,PV.up],?_⟩
    simp only [LV.up,LT.up,LV.holds,LT.holds]
    exact ⟨(Im.up hI).1 _ _ hh.1,hh.2⟩
  | agg ts =>
    have hl':∀ t ∈ ts,∃ v p,t = .leaf v p:=fun t ht => by
      refine notOwn_leaf ?_
      simp only [LV.erase,PV.leafs,List.all_map,List.all_eq_true] at hl
      exact hl t ht
    simp only [LV.holds] at hh
    refine ⟨?_,?_,?_,?_,?_⟩
    · simp only [LV.blocks]
      refine List.flatMap_eq_nil_iff.2 fun t ht => ?_
      obtain ⟨v,p,rfl⟩:=hl' t ht
      simp [LT.blocks]
    · simp only [LV.up,LV.blocks]
      refine List.flatMap_eq_nil_iff.2 fun t ht => ?_
      obtain ⟨u,hu,rfl⟩:=List.mem_map.1 ht
      obtain ⟨v,p,rfl⟩:=hl' u hu
      simp [LT.up,LT.blocks]
    · simp only [LV.up,LV.val,List.map_map]
      congr 2
      refine List.map_congr_left fun t ht => ?_
      obtain ⟨v,p,rfl⟩:=hl' t ht
      rfl
    · simp only [LV.up,LV.erase,PV.up,List.map_map]
      congr 1
      refine List.map_congr_left fun t ht => ?_
      obtain ⟨v,p,rfl⟩:=hl' t ht
      simp [LT.up,LT.erase]
    · simp only [LV.up,LV.holds]
      intro t ht
      obtain ⟨u,hu,rfl⟩:=List.mem_map.1 ht
      have h:=hh u hu
      obtain ⟨v,p,rfl⟩:=hl' u hu
      simp only [LT.up,LT.holds] at h ⊢
      exact ⟨(Im.up hI).1 _ _ h.1,h.2⟩
  | ip k x ps =>
    simp only [LV.holds] at hh
    refine ⟨by simp [LV.blocks],by simp [LV.up,LV.blocks],rfl,by simp [LV.up,LV.erase,PV.up],?_⟩
    simp only [LV.up,LV.holds]
    exact (Im.up hI).2.1 _ _ _ _ hh
  | _ => simp [LV.erase,PV.leafs] at hl
theorem leafs_keep {la:LV} (hl:la.erase.leafs = true) (hI:∀ k b,I k b → w'.heap[b]? = w.heap[b]?) (hh:la.holds sz w I):la.holds sz w' I:=by
  cases la with
  | c t =>
    obtain ⟨v,p,rfl⟩:=notOwn_leaf (t:=t) (by simpa [LV.erase,PV.leafs] using hl)
    simp only [LV.holds,LT.holds] at hh ⊢
    exact ⟨(Im.all (fun _ _ hb => hb) hI).1 _ _ hh.1,hh.2⟩
  | agg ts =>
    simp only [LV.holds] at hh ⊢
    intro t ht
    have h:=hh t ht
    obtain ⟨v,p,rfl⟩:=notOwn_leaf (t:=t) (by
      simp only [LV.erase,PV.leafs,List.all_map,List.all_eq_true] at hl
      exact hl t ht)
    simp only [LT.holds] at h ⊢
    exact ⟨(Im.all (fun _ _ hb => hb) hI).1 _ _ h.1,h.2⟩
  | ip k x ps =>
    simp only [LV.holds] at hh ⊢
    exact (Im.all (fun _ _ hb => hb) hI).2.1 _ _ _ _ hh
  | _ => simp [LV.erase,PV.leafs] at hl
mutual
def PT.free:PT → Bool
  | .raw _ => true
  | .hole => true
  | .sl 0 _ _ cs => PT.freeL cs
  | .sl (_ + 1) _ _ _ => false
  | .fn _ _ _ => false
def PT.freeL:List PT → Bool
  | [] => true
  | c :: cs => c.free && PT.freeL cs
end
theorem PT.freeL_iff:∀ l:List PT,PT.freeL l = true ↔ ∀ c ∈ l,c.free = true
  | [] => by simp [PT.freeL]
  | c :: cs => by simp [PT.freeL,PT.freeL_iff cs]
theorem free_holds:∀ t:LT,t.erase.free = true → t.holds sz w I → t.holds sz w I':=by
  refine LT.ind ?_ ?_
  · intro v p hf h
    simp only [LT.erase] at hf
    simp only [LT.holds] at h ⊢
    refine ⟨?_,h.2⟩
    cases p with
    | raw u => simpa [Im] using h.1
    | hole => simp [Im]
    | sl o e n cs =>
      cases o with
      | zero => simpa [Im] using h.1
      | succ o => simp [PT.free] at hf
    | fn k g caps => simp [PT.free] at hf
  · intro b cap e n cs ih hf h
    simp only [LT.erase,PT.free,PT.freeL_iff] at hf
    simp only [LT.holds] at h ⊢
    exact ⟨h.1,h.2.1,h.2.2.1,h.2.2.2.1,fun c hc => ih c hc (hf _ (List.mem_map_of_mem hc)) (h.2.2.2.2 c hc)⟩
theorem free_c {p:PT} (hp:p.free = true) {lr:LV} (he:lr.erase = .c p) (h:lr.holds sz w I):lr.holds sz w I':=by
  obtain ⟨t,rfl,ht⟩:=LV.c_of_erase he
  simp only [LV.holds] at h ⊢
  exact free_holds t (ht ▸ hp) h
theorem free_cc {p q:PT} (hp:p.free = true) (hq:q.free = true) {lr:LV} (he:lr.erase = .tup [.c p,.c q]) (h:lr.holds sz w I):lr.holds sz w I':=by
  cases lr <;> simp only [LV.erase,reduceCtorEq,PV.tup.injEq] at he
  rename_i vs
  rw [LV.eraseL_eq] at he
  cases vs with
  | nil => simp at he
  | cons a vs => cases vs with
    | nil => simp at he
    | cons b vs =>
      simp only [List.map_cons,List.cons.injEq,List.map_eq_nil_iff] at he
      obtain ⟨h1,h2,rfl⟩:=he
      simp only [LV.holds,LV.holdsL] at h ⊢
      exact ⟨free_c hp h1 h.1,free_c hq h2 h.2.1,trivial⟩
theorem free_agg {ps:List PT} (hp:PT.freeL ps = true) {lr:LV} (he:lr.erase = .agg ps) (h:lr.holds sz w I):lr.holds sz w I':=by
  cases lr <;> simp only [LV.erase,reduceCtorEq,PV.agg.injEq] at he
  rename_i ts
  subst he
  simp only [LV.holds] at h ⊢
  rw [PT.freeL_iff] at hp
  exact fun t ht => free_holds t (hp _ (List.mem_map_of_mem ht)) (h t ht)
theorem free_ac {ps:List PT} {q:PT} (hp:PT.freeL ps = true) (hq:q.free = true) {lr:LV} (he:lr.erase = .tup [.agg ps,.c q]) (h:lr.holds sz w I):lr.holds sz w I':=by
  cases lr <;> simp only [LV.erase,reduceCtorEq,PV.tup.injEq] at he
  rename_i vs
  rw [LV.eraseL_eq] at he
  cases vs with
  | nil => simp at he
  | cons a vs => cases vs with
    | nil => simp at he
    | cons b vs =>
      simp only [List.map_cons,List.cons.injEq,List.map_eq_nil_iff] at he
      obtain ⟨h1,h2,rfl⟩:=he
      simp only [LV.holds,LV.holdsL] at h ⊢
      exact ⟨free_agg hp h1 h.1,free_c hq h2 h.2.1,trivial⟩
theorem free_ccc {p q r:PT} (hp:p.free = true) (hq:q.free = true) (hr:r.free = true) {lr:LV} (he:lr.erase = .tup [.c p,.c q,.c r]) (h:lr.holds sz w I):lr.holds sz w I':=by
  cases lr <;> simp only [LV.erase,reduceCtorEq,PV.tup.injEq] at he
  rename_i vs
  rw [LV.eraseL_eq] at he
  cases vs with
  | nil => simp at he
  | cons a vs => cases vs with
    | nil => simp at he
    | cons b vs => cases vs with
      | nil => simp at he
      | cons c vs =>
        simp only [List.map_cons,List.cons.injEq,List.map_eq_nil_iff] at he
        obtain ⟨h1,h2,h3,rfl⟩:=he
        simp only [LV.holds,LV.holdsL] at h ⊢
        exact ⟨free_c hp h1 h.1,free_c hq h2 h.2.1,free_c hr h3 h.2.2.1,trivial⟩
theorem freeL_pi (xs:List Int):PT.freeL (xs.map fun n => .raw (.int .i64 n)) = true:=by
  rw [PT.freeL_iff]
  intro c hc
  obtain ⟨n,_,rfl⟩:=List.mem_map.1 hc
  rfl
theorem freeL_fm {α:Type} (g:α → List PT) (xs:List α) (h:∀ a,PT.freeL (g a) = true):PT.freeL (xs.flatMap g) = true:=by
  rw [PT.freeL_iff]
  intro c hc
  obtain ⟨a,_,ha⟩:=List.mem_flatMap.1 hc
  exact (PT.freeL_iff _).1 (h a) c ha
theorem CallOK.relabel {args:List PV} {res:PV} (h:CallOK P f (args.map PV.up) res (args.map PV.up)) (hl:args.all PV.leafs = true) (hr:∀ (w:World) (I I':Nat → Nat → Prop) (lr:LV),lr.erase = res → lr.holds (tsz P) w I → lr.holds (tsz P) w I'):CallOK P f args res args:=by
  intro I w las he hh hnd hI
  have hl':∀ la ∈ las,la.erase.leafs = true:=fun la hla => by
    rw [List.all_eq_true] at hl
    exact hl _ (he ▸ List.mem_map_of_mem hla)
  obtain ⟨J,hJe⟩:∃ J:Nat → Nat → Prop,J = fun k b => I k b ∨ (k = 2 ∧ ∃ j,I j b):=⟨_,rfl⟩
  have hJ:∀ k b,I k b → J 2 b:=fun k b hb => by rw [hJe]; exact .inr ⟨rfl,k,hb⟩
  have hb0:las.flatMap LV.blocks = []:=List.flatMap_eq_nil_iff.2 fun la hla => (leafs_up (hl' la hla) hJ (hh la hla)).1
  have hb1:(las.map LV.up).flatMap LV.blocks = []:=List.flatMap_eq_nil_iff.2 fun l hx => by
    obtain ⟨la,hla,rfl⟩:=List.mem_map.1 hx
    exact (leafs_up (hl' la hla) hJ (hh la hla)).2.1
  have hv:(las.map LV.up).map LV.val = las.map LV.val:=by
    rw [List.map_map]
    exact List.map_congr_left fun la hla => (leafs_up (hl' la hla) hJ (hh la hla)).2.2.1
  have he1:(las.map LV.up).map LV.erase = args.map PV.up:=by
    rw [← he,List.map_map,List.map_map]
    exact List.map_congr_left fun la hla => (leafs_up (hl' la hla) hJ (hh la hla)).2.2.2.1
  have:=h J w (las.map LV.up) he1 (fun l hx => by
    obtain ⟨la,hla,rfl⟩:=List.mem_map.1 hx
    exact (leafs_up (hl' la hla) hJ (hh la hla)).2.2.2.2) (by rw [hb1]; simp) (fun k b hb => by
    rw [hb1]
    rw [hJe] at hb
    rcases hb with hb | ⟨_,j,hb⟩
    · exact ⟨(hI k b hb).1,by simp⟩
    · exact ⟨(hI j b hb).1,by simp⟩)
  rw [hv] at this
  refine this.mono ?_
  rintro e w' ⟨lr,los,rfl,g1,g2,g3,g4,g5,g6,g7,g8⟩
  rw [hb1] at g8 g7
  have hk:∀ k b,I k b → w'.heap[b]? = w.heap[b]?:=fun k b hb => g8.block b (hI k b hb).1 (by simp)
  refine ⟨lr,las,rfl,g1,he,rfl,hr _ _ _ _ g1 g4,fun l hx => leafs_keep (hl' l hx) hk (hh l hx),?_,?_,?_⟩
  · rw [hb0,List.append_nil]
    exact (List.nodup_append.1 g6).1
  · rw [hb0,List.append_nil]
    intro b hb
    rcases g7 b (List.mem_append_left _ hb) with h | h
    · simp at h
    · exact .inr h
  · rw [hb0]
    exact g8
end
end Go.V

namespace Go.V
open Go.RowKit Go.Sort Go.Proofs
set_option linter.unusedSimpArgs false
set_option linter.unusedVariables false
set_option linter.unusedSectionVars false

/-! ### the kit's contract of a sort, of a row of one's own -/
section
variable {α:Type} [Inhabited α] (enc:α → List Value) {k:Nat}
def rowC (xs:List α):List PT:=xs.flatMap fun x => (enc x).map PT.raw
theorem flat_get (hlen:∀ x,(enc x).length = k):∀ (xs:List α) (i r:Nat) (hi:i < xs.length),r < k → (xs.flatMap enc)[i * k + r]? = (enc xs[i])[r]?
  | x :: xs,0,r,_,hr => by
    rw [List.flatMap_cons,Nat.zero_mul,Nat.zero_add,List.getElem?_append_left (by rw [hlen]; exact hr)]
    rfl
  | x :: xs,i + 1,r,hi,hr => by
    have ih:=flat_get hlen xs i r (by simpa using hi) hr
    rw [List.flatMap_cons,List.getElem?_append_right (by rw [hlen,Nat.add_mul]; omega),hlen]
    have:(i + 1) * k + r - k = i * k + r:=by rw [Nat.add_mul]; omega
    rw [this,ih]
    rfl
theorem flat_len (hlen:∀ x,(enc x).length = k) (xs:List α):(xs.flatMap enc).length = xs.length * k:=by
  induction xs with
  | nil => simp
  | cons x xs ih => simp [List.flatMap_cons,ih,hlen,Nat.add_mul,Nat.add_comm]
theorem flatK_eq (hlen:∀ x,(enc x).length = k) (hk:0 < k) (xs:List α):flatK enc k xs.toArray = (xs.flatMap enc).toArray:=by
  apply Array.ext_getElem?
  intro t
  by_cases ht:t < xs.length * k
  · have h1:t / k < xs.length:=(Nat.div_lt_iff_lt_mul hk).2 ht
    have h2:t % k < k:=Nat.mod_lt _ hk
    have e:(xs.flatMap enc)[t]? = (enc xs[t / k])[t % k]?:=by
      have:=flat_get enc hlen xs (t / k) (t % k) h1 h2
      rwa [Nat.mul_comm,Nat.div_add_mod] at this
    have hs:t < (flatK enc k xs.toArray).size:=by simpa using ht
    have e2:(xs.flatMap enc).toArray[t]? = (xs.flatMap enc)[t]?:=by simp
    rw [e2,e,Array.getElem?_eq_getElem hs,← getElem!_pos _ t hs,get_flatK enc k _ t (by simpa using ht)]
    have h3:xs.toArray[t / k]! = xs[t / k]:=by
      rw [getElem!_pos xs.toArray (t / k) (by simpa using h1)]
      simp
    rw [h3,List.getElem?_eq_getElem (by rw [hlen]; exact h2),getElem!_pos (enc xs[t / k]) (t % k) (by rw [hlen]; exact h2)]
  · have e2:(xs.flatMap enc).toArray[t]? = (xs.flatMap enc)[t]?:=by simp
    rw [Array.getElem?_eq_none (by simpa using ht),e2,List.getElem?_eq_none (by rw [flat_len enc hlen]; omega)]
theorem rowC_vals (xs:List α) {ls:List LT} {sz:Nat → Nat} {w:World} {I:Nat → Nat → Prop} (he:ls.map LT.erase = rowC enc xs) (hh:∀ c ∈ ls,c.holds sz w I):ls = (xs.flatMap enc).map fun v => LT.leaf v (.raw v):=by
  have e1:rowC enc xs = (xs.flatMap enc).map PT.raw:=by simp [rowC,List.map_flatMap]
  rw [e1] at he
  generalize xs.flatMap enc = vs at he
  induction ls generalizing vs with
  | nil => cases vs with
    | nil => rfl
    | cons v vs => simp at he
  | cons c ls ih => cases vs with
    | nil => simp at he
    | cons v vs =>
      simp only [List.map_cons,List.cons.injEq] at he ⊢
      refine ⟨?_,ih (fun c hc => hh c (List.mem_cons_of_mem _ hc)) vs he.2⟩
      have hc:=hh c List.mem_cons_self
      cases c with
      | leaf u p =>
        simp only [LT.erase] at he
        obtain ⟨rfl,_⟩:=he
        simp only [LT.holds,Im] at hc
        rw [hc.1]
      | own b cap e n cs => simp [LT.erase] at he
theorem raws_holds (xs:List α) (h1:∀ x,∀ v ∈ enc x,one v = true) {sz:Nat → Nat} {w:World} {I:Nat → Nat → Prop}:∀ c ∈ (xs.flatMap enc).map (fun v => LT.leaf v (.raw v)),c.holds sz w I:=by
  intro c hc
  obtain ⟨v,hv,rfl⟩:=List.mem_map.1 hc
  obtain ⟨x,_,hx⟩:=List.mem_flatMap.1 hv
  simp only [LT.holds,Im]
  exact ⟨trivial,h1 x v hx⟩
theorem raws_blocks (vs:List Value):(vs.map fun v => LT.leaf v (.raw v)).flatMap LT.blocks = []:=by
  rw [List.flatMap_eq_nil_iff]
  intro t ht
  obtain ⟨v,_,rfl⟩:=List.mem_map.1 ht
  simp [LT.blocks]
theorem callOK_sort {P:Program} {f g e:Nat} (hsz:tsz P e = k) (hk:0 < k) (hlen:∀ x,(enc x).length = k) (h1:∀ x,∀ v ∈ enc x,one v = true) (xs ys:List α) (hn:xs ≠ []) (hyl:ys.length = xs.length)
    (hen:∀ args w,(callFunc f args).run P w = .ok (.enter f args) w)
    (hc:∀ (blk cap:Nat) (w:World),HoldsK enc k w blk 0 xs.toArray → blk < w.heap.size → Calls P f #[.slice (some ⟨blk,0,none⟩) xs.length cap,.func (.func g) #[] #[]] w fun e' w' => e' = .returned (.tuple #[]) ∧ ∃ n os,w' = sortWorldK enc k w blk 0 n ys.toArray os) :
    CallOK P f [.c (.sl 0 e xs.length (rowC enc xs)),.c (.fn 0 g [])] (.tup []) [.c (.sl 0 e ys.length (rowC enc ys)),.c (.fn 0 g [])]:=by
  intro I w las he hh hnd hI
  obtain ⟨l0,r,rfl⟩:∃ l0 r,las = l0 :: r:=by cases las with
    | nil => simp at he
    | cons l0 r => exact ⟨l0,r,rfl⟩
  obtain ⟨l1,r,rfl⟩:∃ l1 r',r = l1 :: r':=by cases r with
    | nil => simp at he
    | cons l0 r => exact ⟨l0,r,rfl⟩
  simp only [List.map_cons,List.cons.injEq,List.map_eq_nil_iff] at he
  obtain ⟨e0,e1,rfl⟩:=he
  obtain ⟨t0,rfl,e0'⟩:=LV.c_of_erase e0
  obtain ⟨t1,rfl,e1'⟩:=LV.c_of_erase e1
  obtain ⟨v1,rfl⟩:=leaf_of_erase e1' rfl
  have hh0:=hh (.c t0) (by simp)
  have hh1:=hh (.c (.leaf v1 (.fn 0 g []))) (by simp)
  simp only [LV.holds] at hh0 hh1
  simp only [LT.holds,Im,ImC] at hh1
  obtain ⟨⟨us,rfl,rfl⟩,hone⟩:=hh1
  have hpos:0 < xs.length:=List.length_pos_iff.2 hn
  cases t0 with
  | leaf v p =>
    simp only [LT.erase] at e0'
    subst e0'
    simp only [LT.holds,Im] at hh0
    omega
  | own b cap e' n ls =>
    simp only [LT.erase,PT.sl.injEq,true_and] at e0'
    obtain ⟨rfl,rfl,hls⟩:=e0'
    simp only [LT.holds] at hh0
    obtain ⟨⟨arr,hb,hcap,harr⟩,hll,hnc,hpos2,hch⟩:=hh0
    have hlv:=rowC_vals enc xs hls hch
    have hbw:b < w.heap.size:=(Array.getElem?_eq_some_iff.1 hb).1
    have hflen:=flat_len enc hlen xs
    have hH:HoldsK enc k w b 0 xs.toArray:=by
      unfold HoldsK Holds
      intro j hj
      rw [flatK_eq enc hlen hk] at hj ⊢
      have hj':j < (xs.flatMap enc).length:=by simpa using hj
      have hv:arr[j]? = some ((xs.flatMap enc)[j]):=by
        have:=harr j (.leaf (xs.flatMap enc)[j] (.raw (xs.flatMap enc)[j])) (by rw [hlv]; simp [List.getElem?_map,List.getElem?_eq_getElem hj'])
        simpa [LT.val] using this
      have hg:(xs.flatMap enc).toArray[j]! = (xs.flatMap enc)[j]:=by
        rw [getElem!_pos (xs.flatMap enc).toArray j hj]
        simp
      rw [Nat.zero_add,hg]
      refine ⟨by simp [World.cell?,hb,hv],by simp [World.frozen?,hb]⟩
    have hcalls:=hc b cap w hH hbw
    have hbl:([LV.c (.own b cap e' xs.length ls),LV.c (.leaf (.func (.func g) #[] #[]) (.fn 0 g []))]:List LV).flatMap LV.blocks = [b]:=by
      rw [hlv]
      simp only [List.flatMap_cons,List.flatMap_nil,LV.blocks,LT.blocks,raws_blocks,List.append_nil]
    unfold CallsF
    simp only [List.map_cons,List.map_nil,LV.val,LT.val]
    rw [hen]
    refine hcalls.mono ?_
    rintro e1 w' ⟨rfl,m,os,rfl⟩
    rw [hbl]
    have hheap:(sortWorldK enc k w b 0 m ys.toArray os).heap = (w.heap.modify b (onCells (putCells id 0 (ys.flatMap enc).toArray))) ++ os:=by
      unfold sortWorldK putRowK
      rw [flatK_eq enc hlen hk]
      rfl
    have hsize:(w.heap.modify b (onCells (putCells id 0 (ys.flatMap enc).toArray))).size = w.heap.size:=by simp
    have hb':(sortWorldK enc k w b 0 m ys.toArray os).heap[b]? = some (.cells (putCells id 0 (ys.flatMap enc).toArray arr) e' (0,0)):=by
      rw [hheap,Array.getElem?_append_left (by rw [hsize]; exact hbw),Array.getElem?_modify,if_pos rfl,hb]
      rfl
    have hother:∀ i,i < w.heap.size → i ≠ b → (sortWorldK enc k w b 0 m ys.toArray os).heap[i]? = w.heap[i]?:=by
      intro i hi hne
      rw [hheap,Array.getElem?_append_left (by rw [hsize]; exact hi),Array.getElem?_modify,if_neg (fun h => hne h.symm)]
    refine ⟨.tup [],[.c (.own b cap e' ys.length ((ys.flatMap enc).map fun v => .leaf v (.raw v))),.c (.leaf (.func (.func g) #[] #[]) (.fn 0 g []))],by simp [LV.val,LV.valL],by simp [LV.erase,LV.eraseL],?_,?_,by simp [LV.holds,LV.holdsL],?_,?_,?_,?_⟩
    · simp [LV.erase,LT.erase,rowC,List.map_flatMap,Function.comp_def]
    · simp [LV.full,LV.trees,LT.val,hyl]
    · intro l hl
      simp only [List.mem_cons,List.not_mem_nil,or_false] at hl
      rcases hl with rfl | rfl
      · simp only [LV.holds,LT.holds]
        refine ⟨⟨_,hb',?_,?_⟩,?_,by rw [hyl]; exact hnc,hpos2,raws_holds enc ys h1⟩
        · simpa [putCells] using hcap
        · intro j c hj
          rw [List.getElem?_map,Option.map_eq_some_iff] at hj
          obtain ⟨v,hv,rfl⟩:=hj
          have hjl:j < (ys.flatMap enc).length:=(List.getElem?_eq_some_iff.1 hv).1
          have hja:j < arr.size:=by
            have h5:=flat_len enc hlen ys
            have:xs.length * k ≤ cap * k:=Nat.mul_le_mul_right k hnc
            rw [hsz] at hcap
            rw [hyl] at h5
            omega
          have hg:(ys.flatMap enc).toArray[j]! = v:=by
            rw [getElem!_pos (ys.flatMap enc).toArray j (by simpa using hjl)]
            rw [List.getElem?_eq_getElem hjl] at hv
            simpa using hv
          simp only [putCells,Array.getElem?_mapIdx,Array.getElem?_eq_getElem hja,Option.map_some,LT.val]
          rw [if_pos ⟨Nat.zero_le _,by simpa using hjl⟩,Nat.sub_zero,hg]
          rfl
        · rw [List.length_map,flat_len enc hlen,hsz]
      · simp only [LV.holds,LT.holds,Im,ImC]
        exact ⟨⟨[],rfl,rfl⟩,hone⟩
    · simp only [List.flatMap_cons,List.flatMap_nil,LV.blocks,LV.blocksL,LT.blocks,raws_blocks,List.append_nil,List.nil_append,List.nodup_cons,List.not_mem_nil,not_false_eq_true,List.nodup_nil,and_self]
    · intro b' hb2
      simp only [List.flatMap_cons,List.flatMap_nil,LV.blocks,LV.blocksL,LT.blocks,raws_blocks,List.append_nil,List.nil_append] at hb2
      exact .inl hb2
    · refine ⟨rfl,rfl,rfl,?_,fun i hi hn => hother i hi (by simpa using hn),Nat.le_add_right _ _⟩
      rw [hheap,Array.size_append,hsize]
      exact Nat.le_add_right _ _
/-- A comparison of two rows of cells, as the kit's sort asks it. -/
theorem cmpLays_of {P:Program} {g:Nat} {cf:α → α → Int} (h1:∀ x,∀ v ∈ enc x,one v = true) (hen:∀ args w,(callFunc g args).run P w = .ok (.enter g args) w)
    (hc:∀ x y,CallOK P g [.agg ((enc x).map PT.raw),.agg ((enc y).map PT.raw)] (.c (.raw (.int .i64 (cf x y)))) [.agg ((enc x).map PT.raw),.agg ((enc y).map PT.raw)]) (blk off size:Nat) (w:World):CmpLays P g #[] enc k cf blk off size w:=by
  intro m os dk hs x y
  generalize sortWorldK enc k w blk off m dk os = W
  have key:=hc x y (fun _ _ => False) W [.agg ((enc x).map fun v => .leaf v (.raw v)),.agg ((enc y).map fun v => .leaf v (.raw v))] (by simp [LV.erase,LT.erase,Function.comp_def]) (by
    intro la hla
    simp only [List.mem_cons,List.not_mem_nil,or_false] at hla
    rcases hla with rfl | rfl
    · simp only [LV.holds]
      intro t ht
      obtain ⟨v,hv,rfl⟩:=List.mem_map.1 ht
      simp only [LT.holds,Im]
      exact ⟨trivial,h1 x v hv⟩
    · simp only [LV.holds]
      intro t ht
      obtain ⟨v,hv,rfl⟩:=List.mem_map.1 ht
      simp only [LT.holds,Im]
      exact ⟨trivial,h1 y v hv⟩) (by simp only [List.flatMap_cons,List.flatMap_nil,LV.blocks,raws_blocks,List.append_nil,List.nodup_nil]) (by simp)
  unfold CallsF at key
  rw [hen] at key
  simp only [List.map_cons,List.map_nil,LV.val,LT.val,List.map_map,Function.comp_def,List.map_id'] at key
  have ea:(#[Value.agg (enc x).toArray,Value.agg (enc y).toArray] ++ #[]:Array Value) = #[Value.agg (enc x).toArray,Value.agg (enc y).toArray]:=by simp
  rw [ea]
  refine key.mono ?_
  rintro e w' ⟨lr,los,rfl,g1,_,_,g4,_,_,_,g8⟩
  obtain ⟨t,rfl,ht⟩:=LV.c_of_erase g1
  obtain ⟨v,rfl⟩:=leaf_of_erase ht rfl
  simp only [LV.holds,LT.holds,Im] at g4
  refine ⟨by simp only [LV.val,LT.val]; rw [g4.1],w'.drawn - W.drawn,w'.heap.extract W.heap.size w'.heap.size,?_⟩
  have hbk:=g8.block
  have hz:=g8.size
  have hd:=g8.drawn
  have hheap:w'.heap = W.heap ++ w'.heap.extract W.heap.size w'.heap.size:=by
    apply Array.ext_getElem?
    intro i
    by_cases hi:i < W.heap.size
    · rw [Array.getElem?_append_left hi]
      exact hbk i hi (by simp only [List.flatMap_cons,List.flatMap_nil,LV.blocks,raws_blocks,List.append_nil,List.not_mem_nil,not_false_eq_true])
    · rw [Array.getElem?_append_right (by omega),Array.getElem?_extract]
      by_cases hi2:i < w'.heap.size
      · rw [if_pos (by omega)]
        congr 1
        omega
      · rw [if_neg (by omega),Array.getElem?_eq_none (by omega)]
  unfold grow World.drewN
  have e1:=g8.os
  have e2:=g8.tape
  have e3:=g8.output
  obtain ⟨hp',tp',dr',os',ou'⟩:=w'
  simp only at *
  subst e1 e2 e3
  simp only [World.mk.injEq,true_and,and_true]
  exact ⟨hheap,by omega⟩
end
end Go.V

namespace Go.V
open Go.RowKit
set_option linter.unusedSimpArgs false
set_option linter.unusedVariables false

/-! ### code with calls that wait for the return: ranges over functions -/
/-- The calls that wait are marks of loops, none of which has anything to call. -/
def DefOK (ds:List Deferred) (z:Nat) (w:World):Prop:=(∀ d ∈ ds,∃ r:Nat,d.target = .collected r ∧ w.heap[r]? = some (Obj.deferred (some [])) ∧ z ≤ r) ∧ ds.Pairwise (fun d d' => d.target ≠ d'.target)
theorem DefOK.keep {ds:List Deferred} {z:Nat} {w w':World} (h:DefOK ds z w) (hk:∀ r:Nat,w.heap[r]? = some (Obj.deferred (some [])) → w'.heap[r]? = some (Obj.deferred (some []))):DefOK ds z w' :=
  ⟨fun d hd => let ⟨r,h1,h2,h3⟩:=h.1 d hd; ⟨r,h1,hk r h2,h3⟩,h.2⟩
section
variable {sz:Nat → Nat} {I:Nat → Nat → Prop} {bs bs':List Nat} {A A':AD} {w0 w w' w1:World} {st st':St} {a a':Act} {L L':Loc}
end
section
variable {P:Program} {Q:Exit → St → Prop} {st st':St}
/-! ### a closure over boxes of one's own, lent from here on -/
def capOf:PT → List PT
  | .sl _ _ _ cs => PT.unownL cs
  | _ => []
def dropI (ids:List Id):List (Id × PT) → List (Id × PT)
  | [] => []
  | (i,p) :: l => if ids.contains i = true then dropI ids l else (i,p) :: dropI ids l
end
/-! ### a range over a function -/
def RndJ (P:Program) (I:Nat → Nat → Prop) (N:Nat) (l:List (Nat × SV)) (bs:List Nat) (f:Nat → Nat → Option Value) (ds:List Deferred) (z:Nat) (w0:World) (a:Act) (lb D sz1:Nat) (rec:Loop) (H:List (Id × PT)) (W:World):Prop :=
  ∃ L,Sim (tsz P) I bs ⟨f,ds⟩ w0 ⟨slOf N l,ofL H⟩ a W L [] ∧ W.heap[lb]? = some (.loop rec) ∧ W.heap[D]? = some (Obj.deferred (some [])) ∧ sz1 ≤ W.heap.size ∧ DefOK ds z W
theorem RndJ.grow {P:Program} {I:Nat → Nat → Prop} {N:Nat} {l:List (Nat × SV)} {bs:List Nat} {f:Nat → Nat → Option Value} {ds:List Deferred} {z:Nat} {w0:World} {a:Act} {lb D sz1:Nat} {rec:Loop} {H:List (Id × PT)} {W W':World} (h:RndJ P I N l bs f ds z w0 a lb D sz1 rec H W) (hw:RowKit.Below W.heap.size W W') (hdr:W.drawn ≤ W'.drawn):RndJ P I N l bs f ds z w0 a lb D sz1 rec H W':=by
  obtain ⟨L,h1,h2,h3,h4,h5⟩:=h
  exact ⟨L,h1.grow hw hdr,(hw.block lb (Array.getElem?_eq_some_iff.1 h2).1).trans h2,(hw.block D (Array.getElem?_eq_some_iff.1 h3).1).trans h3,Nat.le_trans h4 hw.size,h5.keep fun r hr => (hw.block r (Array.getElem?_eq_some_iff.1 hr).1).trans hr⟩
section
variable {sz:Nat → Nat} {I:Nat → Nat → Prop} {bs bs':List Nat} {A A':AD} {w0 w0' w w':World} {a a':Act} {L L':Loc}
end
attribute [simp] capOf dropI
end Go.V
