/- The road V: code reckoned over trees of values, proved sound against the model once. No conditions. -/
import Derived.Test.YtcmdgenpipojpaaGreatVa
import Derived.IntWalk
set_option linter.all false
namespace Go.V
open Go.RowKit
set_option linter.unusedSimpArgs false
set_option linter.unusedVariables false
section
variable {sz:Nat → Nat} {I:Nat → Nat → Prop} {bs:List Nat} {A:AD} {w0 w w':World} {st st' st1:St} {a:Act} {L L0:Loc} {hand hand':List LT} {P:Program} {o:Oper} {Q:Exit → Act → World → Prop}

theorem look_child {pl:Pl} {b cap e n:Nat} {cs:List LT} (hl:look L pl = some (.own b cap e n cs)) (j:Nat):look L ⟨pl.id,pl.path ++ [j]⟩ = cs[j]?:=by
  unfold look at hl ⊢
  cases hi:L pl.id with
  | none => simp [hi] at hl
  | some r =>
    simp only [hi] at hl ⊢
    rw [LT.get_append,hl]
    simp only [Option.bind_some,LT.get]
    cases cs[j]? <;> simp [LT.get]

/-- A cell of a node of one's own. -/
theorem cellSV_sound {pl:Pl} {b cap e n:Nat} {cs:List LT} (hh:(LT.own b cap e n cs).holds sz w I) (hl:look L pl = some (.own b cap e n cs)) {j:Nat} {c:LT} (hc:cs[j]? = some c) :
    SVR sz L w I c.val (cellSV pl j c.erase):=by
  have hch:c.holds sz w I:=by simp only [LT.holds] at hh; exact hh.2.2.2.2 c (List.mem_of_getElem? hc)
  have hlc:=(look_child hl j).trans hc
  cases c with
  | leaf v p =>
    simp only [LT.holds] at hch
    simp only [LT.erase,LT.val]
    cases p with
    | raw u => simp only [cellSV,SVR]; exact hch.1
    | fn k g l => simp only [cellSV,SVR]; exact hch.1
    | hole => simp only [cellSV,SVR]
    | sl o e' n' cs' =>
      cases o with
      | succ o => simp only [cellSV,SVR]; exact hch.1
      | zero =>
        have h1:=hch.1
        simp only [Im] at h1
        obtain ⟨rfl,rfl,ad,rfl⟩:=h1
        simp only [cellSV,SVR]
        exact .inr ⟨e',hlc,trivial,trivial,ad,rfl⟩
  | own b' cap' e' n' lcs =>
    simp only [LT.erase,LT.val,cellSV,SVR]
    simp only [LT.holds] at hch
    obtain ⟨⟨arr,h1,h2,h3⟩,h4,h5,h6,h7⟩:=hch
    exact .inl ⟨b',cap',e',n',lcs,0,cap',hlc,rfl,.inr rfl,h5,by omega,by omega⟩
theorem cellsSV_sound {pl:Pl} {b cap e n:Nat} {cs:List LT} (hh:(LT.own b cap e n cs).holds sz w I) (hl:look L pl = some (.own b cap e n cs)) :
    ∀ (ds:List LT) (j:Nat),(∀ i c,ds[i]? = some c → cs[j + i]? = some c) → SVRL sz L w I (ds.map LT.val) (cellsSV pl j (ds.map LT.erase))
  | [],_,_ => by simp [cellsSV,SVRL]
  | d :: ds,j,hd => by
    simp only [List.map_cons,cellsSV,SVRL]
    refine ⟨_,_,rfl,cellSV_sound hh hl (hd 0 d rfl),cellsSV_sound hh hl ds (j + 1) fun i c hc => ?_⟩
    have:=hd (i + 1) c (by simpa using hc)
    rwa [show j + 1 + i = j + (i + 1) by omega]

/-! ### load -/
def loadSV (P:Program) (st:St) (t:TypeId):SV → Option SV
  | .ptr pl c => match lookP st.hp pl,tagg P t with
    | some (.sl 0 _ _ cs),some true => if c + tsz P t ≤ cs.length then some (.agg (cellsSV pl c ((cs.drop c).take (tsz P t)))) else none
    | some (.sl 0 _ _ cs),some false => match cs[c]? with
      | some p => some (cellSV pl c p)
      | none => none
    | _,_ => none
  | .ip _ ps => match tagg P t with
    | some true => if tsz P t ≤ ps.length then some (.agg ((ps.take (tsz P t)).map .t)) else none
    | some false => match ps[0]? with
      | some p => some (.t p)
      | none => none
    | none => none
  | _ => none
def stLoad (P:Program) (st:St) (o:Oper):Option St :=
  match o.op with
  | .load t x => match opv st x with
    | some s => (loadSV P st t s).map (st.set o.dst)
    | none => none
  | _ => none

theorem LT.holds_one {t:LT} (h:t.holds sz w I):one t.val = true:=by
  cases t with
  | leaf v p => simp only [LT.holds] at h; exact h.2
  | own b cap e n cs => rfl
theorem cell_at {b:Nat} {arr:Array Value} {e:TypeId} {f:Nat × Nat} (h:w.heap[b]? = some (.cells arr e f)) (j:Nat):w.cell? ⟨b,j,none⟩ = arr[j]?:=by
  simp [World.cell?,h]
theorem run_loadVar_agg {t:TypeId} {x:Addr} (ht:tagg P t = some true) (vs:List Value) (hl:vs.length = tsz P t) (hc:∀ (j:Nat) v,vs[j]? = some v → w.cell? (x.add j) = some v) :
    (loadVar t x).run P w = .ok (.agg vs.toArray) w:=by
  have hr:=run_loadCells_list (P:=P) w x vs hc
  rw [hl] at hr
  simp only [loadVar,Sem.run_bind,run_isAgg ht,Result.andThen_ok,if_true,run_tsz (info_of_tagg ht),hr,Sem.run_pure]
theorem run_loadVar_one {t:TypeId} {x:Addr} (ht:tagg P t = some false) {v:Value} (hc:w.cell? x = some v):(loadVar t x).run P w = .ok v w:=by
  simp only [loadVar,Sem.run_bind,run_isAgg ht,Result.andThen_ok,Bool.false_eq_true,if_false]
  simp [load,Sem.run,hc]
theorem ImL.vals {q:Nat} {x:Addr}:∀ (ps:List PT) (j:Nat),ImL w I q (some x) j ps → ∃ vs:List Value,vs.length = ps.length ∧ (∀ (i:Nat) v,vs[i]? = some v → w.cell? (x.add (j + i)) = some v) ∧ (∀ v ∈ vs,one v = true) ∧ SVRL sz L w I vs (ps.map .t)
  | [],_,_ => ⟨[],rfl,by simp,by simp,by simp [SVRL]⟩
  | p :: ps,j,h => by
    simp only [ImL] at h
    obtain ⟨⟨y,u,hy,hb,hc,ho,hu⟩,hr⟩:=h
    cases hy
    obtain ⟨vs,h1,h2,h4,h3⟩:=ImL.vals ps (j + 1) hr
    refine ⟨u :: vs,by simp [h1],fun i v hv => ?_,by simpa using ⟨ho,h4⟩,?_⟩
    · cases i with
      | zero => simp at hv; subst hv; exact hc
      | succ i => have:=h2 i v (by simpa using hv); rwa [show j + (i + 1) = j + 1 + i by omega]
    · simp only [List.map_cons,SVRL]; exact ⟨u,vs,rfl,by simp only [SVR]; exact hu,h3⟩

theorem loadSV_sound (h:Sim sz I bs A w0 st a w L hand) {t:TypeId} {v:Value} {s s':SV} (hv:SVR sz L w I v s) (hst:loadSV P st t s = some s') :
    ∃ x v',v = .pointer (some x) ∧ (loadVar t x).run P w = .ok v' w ∧ SVR sz L w I v' s':=by
  unfold loadSV at hst
  split at hst
  · rename_i pl c
    simp only [SVR] at hv
    obtain ⟨b,cap0,e,n,lcs,hl,rfl⟩:=hv
    have hh:=h.look_holds hl
    have hh':=hh
    simp only [LT.holds] at hh'
    obtain ⟨⟨arr,h1,h2,h3⟩,h4,h5,h6,h7⟩:=hh'
    split at hst
    · rename_i e' n' cs hlp hag
      rw [h.lookP,hl] at hlp
      simp only [Option.map_some,LT.erase,Option.some.injEq,PT.sl.injEq,true_and] at hlp
      obtain ⟨rfl,rfl,rfl⟩:=hlp
      split at hst
      · rename_i hc
        cases hst
        rw [List.length_map] at hc
        have hds:∀ i d,((lcs.drop c).take (tsz P t))[i]? = some d → lcs[c + i]? = some d:=by
          intro i d hd
          rw [List.getElem?_take] at hd
          split at hd
          · rwa [List.getElem?_drop] at hd
          · simp at hd
        have:=cellsSV_sound hh hl ((lcs.drop c).take (tsz P t)) c hds
        refine ⟨_,.agg (((lcs.drop c).take (tsz P t)).map LT.val).toArray,rfl,?_,?_⟩
        · refine run_loadVar_agg hag _ (by simp; omega) fun j v hj => ?_
          rw [List.getElem?_map,Option.map_eq_some_iff] at hj
          obtain ⟨d,hd,rfl⟩:=hj
          rw [add_own,cell_at h1]
          exact h3 _ d (hds j d hd)
        · simp only [SVR]
          refine ⟨_,rfl,by simpa [List.map_take,List.map_drop] using this,fun u hu => ?_⟩
          obtain ⟨d,hd,rfl⟩:=List.mem_map.1 hu
          exact LT.holds_one (h7 d (List.mem_of_mem_drop (List.mem_of_mem_take hd)))
      · simp at hst
    · rename_i e' n' cs hlp hag
      rw [h.lookP,hl] at hlp
      simp only [Option.map_some,LT.erase,Option.some.injEq,PT.sl.injEq,true_and] at hlp
      obtain ⟨rfl,rfl,rfl⟩:=hlp
      split at hst
      · rename_i p hp
        cases hst
        rw [List.getElem?_map,Option.map_eq_some_iff] at hp
        obtain ⟨d,hd,rfl⟩:=hp
        exact ⟨_,d.val,rfl,run_loadVar_one hag (by rw [cell_at h1]; exact h3 _ d hd),cellSV_sound hh hl hd⟩
      · simp at hst
    · simp at hst
  · rename_i q ps
    simp only [SVR] at hv
    obtain ⟨y,rfl,hl⟩:=hv
    obtain ⟨vs,g1,g2,g4,g3⟩:=ImL.vals (sz:=sz) (L:=L) ps 0 hl
    split at hst
    · rename_i hag
      split at hst
      · rename_i hc
        cases hst
        refine ⟨_,.agg (vs.take (tsz P t)).toArray,rfl,?_,?_⟩
        · refine run_loadVar_agg hag _ (by rw [List.length_take]; omega) fun j v hj => ?_
          rw [List.getElem?_take] at hj
          split at hj
          · have:=g2 j v hj; simpa using this
          · simp at hj
        · simp only [SVR]
          refine ⟨_,rfl,by simpa [List.map_take] using g3.takeDrop.2 (tsz P t),fun u hu => ?_⟩
          exact g4 u (List.mem_of_mem_take hu)
      · simp at hst
    · rename_i hag
      split at hst
      · rename_i p hp
        cases hst
        obtain ⟨u,hb,hc,ho1,hu⟩:=ImL.at_ ps 0 0 p hl hp
        exact ⟨_,u,rfl,run_loadVar_one hag (by simpa [add_zero] using hc),by simp only [SVR]; exact hu⟩
      · simp at hst
    · simp at hst
  · simp at hst
theorem stLoad_sound (h:Sim sz I bs A w0 st a w L []) (hst:stLoad P st o = some st'):o.wp P a w (PurePost (sz) I w L st a o st') Q:=by
  unfold stLoad at hst
  split at hst
  · rename_i t x ho
    split at hst
    · rename_i s hx
      simp only [Option.map_eq_some_iff] at hst
      obtain ⟨s',hs',rfl⟩:=hst
      obtain ⟨y,v',hv,hr,hsv⟩:=loadSV_sound h (opv_sound h hx) hs'
      refine wp_val (v:=v') ?_ ⟨rfl,_,_,rfl,rfl,hsv⟩
      unfold execOp
      rw [ho]
      refine run_v ?_
      simp only [Instr.loadAt,hv,Instr.sureAddr,Sem.run_bind,Sem.run_pure,Result.andThen_ok,hr]
    · simp at hst
  · simp at hst
end
end Go.V

namespace Go.V
open Go.RowKit
set_option linter.unusedSimpArgs false
set_option linter.unusedVariables false
section
variable {sz:Nat → Nat} {I:Nat → Nat → Prop} {bs:List Nat} {A:AD} {w0 w w':World} {st st' st1:St} {a:Act} {L L0:Loc} {hand hand':List LT} {P:Program} {o:Oper} {Q:Exit → Act → World → Prop}

theorem setCell_heap {b o:Nat} {v:Value} {w:World} {arr:Array Value} {e:TypeId} {f:Nat × Nat} (h:w.heap[b]? = some (.cells arr e f)):(w.setCell ⟨b,o,none⟩ v).heap[b]? = some (.cells (arr.setIfInBounds o v) e f):=by
  simp [World.setCell,Array.getElem?_modify,h]
theorem setCell_other {b o k:Nat} {v:Value} {w:World} (h:k ≠ b):(w.setCell ⟨b,o,none⟩ v).heap[k]? = w.heap[k]?:=by
  simp [World.setCell,Array.getElem?_modify,Ne.symm h]
theorem setCells_heap {b:Nat} {e:TypeId} {f:Nat × Nat}:∀ (vs:List Value) (o:Nat) (w:World) (arr:Array Value),w.heap[b]? = some (.cells arr e f) →
    ∃ arr',(w.setCells b o vs).heap[b]? = some (.cells arr' e f) ∧ arr'.size = arr.size ∧ ∀ j,arr'[j]? = if o ≤ j ∧ j < o + vs.length ∧ j < arr.size then vs[j - o]? else arr[j]?
  | [],o,w,arr,h => ⟨arr,h,rfl,fun j => by rw [if_neg (by simp; omega)]⟩
  | v :: vs,o,w,arr,h => by
    obtain ⟨arr',h1,h2,h3⟩:=setCells_heap vs (o + 1) _ _ (setCell_heap (o:=o) (v:=v) h)
    refine ⟨arr',h1,by simpa using h2,fun j => ?_⟩
    rw [h3]
    simp only [Array.size_setIfInBounds,List.length_cons,Array.getElem?_setIfInBounds]
    by_cases hj:j = o
    · subst hj
      have h0:j < j + (vs.length + 1):=by omega
      have h0':¬ (j + 1 ≤ j):=by omega
      by_cases hs:j < arr.size <;> simp [hs,h0,h0']
    · by_cases hc:o ≤ j ∧ j < o + (vs.length + 1) ∧ j < arr.size
      · rw [if_pos ⟨by omega,by omega,hc.2.2⟩,if_pos hc]
        rw [show j - o = (j - (o + 1)) + 1 by omega]
        simp
      · rw [if_neg (by omega),if_neg hc]
        simp [Ne.symm hj]
theorem setCells_kp (b:Nat):∀ (vs:List Value) (o:Nat) (w:World),Kp [b] w (w.setCells b o vs)
  | [],o,w => Kp.refl _ _
  | v :: vs,o,w => by
    have h1:Kp [b] w (w.setCell ⟨b,o,none⟩ v):=⟨rfl,rfl,rfl,by simp [World.setCell],fun i _ hi => setCell_other (by simpa using hi),Nat.le_refl _⟩
    exact h1.trans (setCells_kp b vs (o + 1) _) (by intro x hx; exact .inl hx)

/-- A node some of whose cells are others. -/
theorem splice_at {α:Type} (cs ts:List α) (c:Nat) (hc:c + ts.length ≤ cs.length) (j:Nat):(cs.take c ++ ts ++ cs.drop (c + ts.length))[j]? = if c ≤ j ∧ j < c + ts.length then ts[j - c]? else cs[j]?:=by
  have hlen:(cs.take c).length = c:=by rw [List.length_take]; omega
  by_cases h1:j < c
  · rw [if_neg (by omega),List.append_assoc,List.getElem?_append_left (by omega),List.getElem?_take_of_lt h1]
  · by_cases h2:j < c + ts.length
    · rw [if_pos ⟨by omega,h2⟩,List.append_assoc,List.getElem?_append_right (by omega),List.getElem?_append_left (by omega),hlen]
    · rw [if_neg (by omega),List.append_assoc,List.getElem?_append_right (by omega),List.getElem?_append_right (by omega),hlen,List.getElem?_drop]
      congr 1; omega
theorem splice_len {α:Type} (cs ts:List α) (c:Nat) (hc:c + ts.length ≤ cs.length):(cs.take c ++ ts ++ cs.drop (c + ts.length)).length = cs.length:=by
  simp; omega

def PT.isSl:PT → Bool
  | .sl 0 _ _ _ => true
  | _ => false
/-- The places below the cells c, c + 1, .. that led somewhere. -/
def cellsPre (pl:Pl):Nat → Nat → Pl → Bool
  | _,0,_ => false
  | c,k + 1,q => Pl.pre ⟨pl.id,pl.path ++ [c]⟩ q || cellsPre pl (c + 1) k q

theorem pre_ext (i:Id) (p:List Nat) (j:Nat) (r:List Nat):Pl.pre ⟨i,p ++ [j]⟩ ⟨i,p ++ j :: r⟩ = true:=by
  simp only [Pl.pre,BEq.rfl,Bool.true_and,List.isPrefixOf_iff_prefix]
  exact ⟨r,by simp⟩

/-! ### store -/
def stStore (P:Program) (st:St) (o:Oper):Option St :=
  match o.op with
  | .store t x y => match opv st x,opv st y with
    | some (.ptr pl c),some s => if s.compsB = true then match takeAll (tsz P) st [] (comps s) with
        | some (ps,ks,st1) => match lookP st1.hp pl with
          | some (.sl 0 e n cs) => if ps.length = tsz P t ∧ 0 < ps.length ∧ c + ps.length ≤ cs.length ∧ ks.any (·.pre pl) = false then
              some ((⟨st1.sl.map (SV.kill (cellsPre pl c ps.length)),hputP st1.hp pl (.sl 0 e n (cs.take c ++ ps ++ cs.drop (c + ps.length)))⟩:St).set o.dst (.t (.raw undef))) else none
          | _ => none
        | none => none
      else none
    | _,_ => none
  | _ => none

theorem cellsPre_false {pl:Pl}:∀ (k c:Nat) (q:Pl),cellsPre pl c k q = false → ∀ i,i < k → Pl.pre ⟨pl.id,pl.path ++ [c + i]⟩ q = false
  | 0,_,_,_,i,hi => by omega
  | k + 1,c,q,h,i,hi => by
    simp only [cellsPre,Bool.or_eq_false_iff] at h
    cases i with
    | zero => exact h.1
    | succ i =>
      have:=cellsPre_false k (c + 1) q h.2 i (by omega)
      rwa [show c + (i + 1) = c + 1 + i by omega]

theorem stStore_sound (h:Sim (tsz P) I bs A w0 st a w L []) (hst:stStore P st o = some st'):o.wp P a w (fun a' w' => ∃ L',Sim (tsz P) I bs A w0 st' a' w' L' []) Q:=by
  unfold stStore at hst
  split at hst
  · rename_i t x y ho
    split at hst
    · rename_i pl c s hx hy
      split at hst
      · rename_i hcB
        split at hst
        · rename_i ps ks st1 hta
          split at hst
          · rename_i e n cs hlp
            split at hst
            · rename_i hcond
              cases hst
              obtain ⟨hsz,hpos,hfit,hkill⟩:=hcond
              have hxv:=opv_sound h hx
              have hyv:=opv_sound h hy
              obtain ⟨hcs,h1⟩:=compsB_sound hyv hcB
              obtain ⟨L1,ts,g1,g2,g3,g4⟩:=takeAll_sound (comps s) h hcs h1 (Stays.refl _ _) hta
              rw [List.nil_append] at g1
              simp only [SVR] at hxv
              obtain ⟨b,cap0,e0,n0,lcs0,hl0,hxv⟩:=hxv
              obtain ⟨node1,hl1,n1,lcs,rfl,hle1⟩:=g4 pl _ hkill (by trivial) hl0
              rw [g1.lookP,hl1] at hlp
              simp only [Option.map_some,LT.erase,Option.some.injEq,PT.sl.injEq,true_and] at hlp
              obtain ⟨rfl,rfl,rfl⟩:=hlp
              have htl:ts.length = ps.length:=by rw [← g3,List.length_map]
              have hh:=g1.look_holds hl1
              have hh':=hh
              simp only [LT.holds] at hh'
              obtain ⟨⟨arr,q1,q2,q3⟩,q4,q5,q6,q7⟩:=hh'
              rw [List.length_map] at hfit
              have hfit':c + ts.length ≤ lcs.length:=by omega
              have harr:lcs.length ≤ arr.size:=by rw [q4]; exact Nat.le_trans (Nat.mul_le_mul_right _ q5) q2
              obtain ⟨arr',r1,r2,r3⟩:=setCells_heap (a.eval y).cells.toList c w arr q1
              have hkp:=setCells_kp b (a.eval y).cells.toList c w
              have hvl:(a.eval y).cells.toList.length = ts.length:=by rw [← g2,List.length_map]
              -- nothing of the trees but the node's own block turns
              have hbn:b ∉ ts.flatMap LT.blocks ∧ ∀ d ∈ lcs,b ∉ d.blocks:=by
                have hl1':=hl1
                unfold look at hl1'
                cases hi:L1 pl.id with
                | none => simp [hi] at hl1'
                | some r =>
                  simp only [hi] at hl1'
                  obtain ⟨rest,p1,_⟩:=LT.split _ r pl.path hl1'
                  refine ⟨g1.hapart _ _ hi b (p1.mem_iff.2 (by simp [LT.blocks])),fun d hd hb => ?_⟩
                  have:=p1.nodup_iff.1 (g1.nodup _ _ hi)
                  simp only [LT.blocks,List.cons_append,List.nodup_cons,List.mem_append,not_or] at this
                  exact this.1.1 (List.mem_flatMap.2 ⟨d,hd,hb⟩)
              have hIk:∀ k b',I k b' → (w.setCells b c (a.eval y).cells.toList).heap[b']? = w.heap[b']?:=fun k b' hb' => hkp.block b' (g1.immw k b' hb') (by
                intro hx
                simp only [List.mem_singleton] at hx
                subst hx
                have hne:=g1.imm_ne hb'
                have hl1':=hl1
                unfold look at hl1'
                cases hi:L1 pl.id with
                | none => simp [hi] at hl1'
                | some r =>
                  simp only [hi] at hl1'
                  obtain ⟨rest,p1,_⟩:=LT.split _ r pl.path hl1'
                  rcases g1.own _ _ hi _ (p1.mem_iff.2 (by simp [LT.blocks]):b' ∈ r.blocks) with hq | hq
                  · exact hne.1 hq
                  · exact hne.2 hq)
              have hfr:∀ d:LT,d.holds (tsz P) w I → b ∉ d.blocks → d.holds (tsz P) (w.setCells b c (a.eval y).cells.toList) I:=fun d hd hb =>
                LT.holds_frame (fun _ _ hb => hb) hIk d hd fun b' hb' => hkp.block b' (LT.blocks_lt d hd b' hb') (by
                  intro hx; simp only [List.mem_singleton] at hx; subst hx; exact hb hb')
              have hspl:=splice_at lcs ts c hfit'
              have hmem:∀ d ∈ lcs.take c ++ ts ++ lcs.drop (c + ts.length),d ∈ lcs ∨ d ∈ ts:=by
                intro d hd
                simp only [List.mem_append] at hd
                rcases hd with (hd | hd) | hd
                · exact .inl (List.mem_of_mem_take hd)
                · exact .inr hd
                · exact .inl (List.mem_of_mem_drop hd)
              have hup:=g1.update (hand':=[]) (t':=.own b cap0 e0 n1 (lcs.take c ++ ts ++ lcs.drop (c + ts.length))) hl1 [b] hkp (by intro x hx; simp only [List.mem_singleton] at hx; subst hx; exact .inl (by simp [LT.blocks])) rfl ?_ (by simp) ?_ ?_ (cellsPre pl c ps.length) ?_
              · obtain ⟨L2,s1,s2,s3⟩:=hup
                refine wp_skip' (w':=w.setCells b c (a.eval y).cells.toList) ?_ ⟨L2,?_⟩
                · unfold execOp
                  rw [ho]
                  have hstore:=run_storeCells_cells (P:=P) b c (a.eval y).cells.toList 0 w (fun j hj => by
                    rw [cell_at q1,Array.getElem?_eq_getElem (by omega)]; rfl) (fun j hj => by simp [World.frozen?,q1]) (fun v hv => by rw [one_oneCell]; exact h1 v hv)
                  have hsize:(a.eval y).cells.size = tsz P t:=by rw [← Array.length_toList,hvl,htl]; exact hsz
                  have hinfo:∃ i,P.info? t = some i:=tsz_info (by omega)
                  simp only [Instr.storeAt,hxv,Instr.sureAddr,Sem.run_bind,Sem.run_pure,Result.andThen_ok,storeVar,run_tsz hinfo,hsize,ne_eq,not_true_eq_false,if_false]
                  rw [hstore]
                  rfl
                · have:=s1.setS o.dst (v:=undef) (s:=.t (.raw undef)) (by simp [SVR,Im])
                  rw [LT.erase] at this
                  simpa [List.map_append,List.map_take,List.map_drop,g3,htl] using this
              · simp only [LT.holds]
                refine ⟨⟨arr',r1,by omega,?_⟩,by rw [splice_len _ _ _ hfit']; exact q4,q5,q6,?_⟩
                · intro j d hd
                  rw [hspl] at hd
                  rw [r3]
                  split at hd
                  · rename_i hj
                    rw [if_pos ⟨hj.1,by rw [hvl]; exact hj.2,by have:=hj.2; omega⟩]
                    exact map_at g2 _ d hd
                  · rename_i hj
                    rw [if_neg (by omega)]
                    exact q3 j d hd
                · intro d hd
                  rcases hmem d hd with hd | hd
                  · exact hfr d (q7 d hd) (hbn.2 d hd)
                  · exact hfr d (g1.hholds d hd) fun hb => hbn.1 (List.mem_flatMap.2 ⟨d,hd,hb⟩)
              · -- no block twice
                simp only [List.flatMap_nil,List.append_nil,LT.blocks,List.nodup_cons]
                have hl1':=hl1
                unfold look at hl1'
                cases hi:L1 pl.id with
                | none => simp [hi] at hl1'
                | some r =>
                  simp only [hi] at hl1'
                  obtain ⟨rest,p1,_⟩:=LT.split _ r pl.path hl1'
                  have hnd:=p1.nodup_iff.1 (g1.nodup _ _ hi)
                  simp only [LT.blocks] at hnd
                  have hnd1:=(List.nodup_append.1 hnd).1
                  rw [List.nodup_cons] at hnd1
                  refine ⟨fun hb => ?_,?_⟩
                  · obtain ⟨d,hd,hbd⟩:=List.mem_flatMap.1 hb
                    rcases hmem d hd with hd | hd
                    · exact hbn.2 d hd hbd
                    · exact hbn.1 (List.mem_flatMap.2 ⟨d,hd,hbd⟩)
                  · simp only [List.flatMap_append]
                    have e1:lcs.flatMap LT.blocks = (lcs.take c).flatMap LT.blocks ++ (lcs.drop c).flatMap LT.blocks:=by rw [← List.flatMap_append,List.take_append_drop]
                    have sub1:((lcs.take c).flatMap LT.blocks ++ (lcs.drop (c + ts.length)).flatMap LT.blocks).Sublist (lcs.flatMap LT.blocks):=by
                      rw [e1]
                      refine List.Sublist.append_left ?_ _
                      rw [← List.drop_drop]
                      exact flat_sub _ (List.drop_sublist _ _)
                    have n1':=hnd1.2.sublist sub1
                    have dis:∀ x ∈ (lcs.take c).flatMap LT.blocks ++ (lcs.drop (c + ts.length)).flatMap LT.blocks,x ∉ ts.flatMap LT.blocks:=by
                      intro x hx
                      have hxl:=sub1.subset hx
                      exact g1.hapart _ _ hi x (p1.mem_iff.2 (List.mem_append_left _ (by simp only [LT.blocks]; exact List.mem_cons_of_mem _ hxl)))
                    have n2:(((lcs.take c).flatMap LT.blocks ++ (lcs.drop (c + ts.length)).flatMap LT.blocks) ++ ts.flatMap LT.blocks).Nodup :=
                      List.nodup_append.2 ⟨n1',g1.hnodup,fun x hx y hy hxy => dis x hx (hxy ▸ hy)⟩
                    refine (List.Perm.nodup_iff ?_).1 n2
                    rw [List.append_assoc,List.append_assoc]
                    exact List.perm_append_comm.append_left _
              · intro x hx
                simp only [List.flatMap_nil,List.append_nil,LT.blocks,List.mem_cons] at hx
                rcases hx with rfl | hx
                · exact .inl (by simp [LT.blocks])
                · obtain ⟨d,hd,hbd⟩:=List.mem_flatMap.1 hx
                  rcases hmem d hd with hd | hd
                  · exact .inl (by simp only [LT.blocks]; exact List.mem_cons_of_mem _ (List.mem_flatMap.2 ⟨d,hd,hbd⟩))
                  · exact .inr (.inl (List.mem_flatMap.2 ⟨d,hd,hbd⟩))
              · intro r node hf hrf hnode
                cases r with
                | nil =>
                  simp only [LT.get,Option.some.injEq] at hnode
                  subst hnode
                  exact ⟨_,rfl,n1,_,rfl,by rw [splice_len _ _ _ hfit']; exact Nat.le_refl _⟩
                | cons j r =>
                  simp only [LT.get] at hnode ⊢
                  rw [hspl]
                  cases hj:lcs[j]? with
                  | none => simp [hj] at hnode
                  | some d =>
                    simp only [hj] at hnode
                    by_cases hjr:c ≤ j ∧ j < c + ts.length
                    · exfalso
                      have:=cellsPre_false _ c _ hf (j - c) (by omega)
                      rw [show c + (j - c) = j by omega] at this
                      rw [pre_ext] at this
                      cases this
                    · rw [if_neg hjr]
                      exact ⟨node,hnode,Shp.refl _⟩
            · simp at hst
          · simp at hst
        · simp at hst
      · simp at hst
    · simp at hst
  · simp at hst
end
end Go.V

namespace Go.V
open Go.RowKit
set_option linter.unusedSimpArgs false
set_option linter.unusedVariables false
section
variable {sz:Nat → Nat} {I:Nat → Nat → Prop} {bs:List Nat} {A:AD} {w0 w w':World} {st st' st1:St} {a:Act} {L L0:Loc} {hand hand':List LT} {P:Program} {o:Oper} {Q:Exit → Act → World → Prop}

/-! ### builtins that only look -/
def stLook (P:Program) (st:St) (o:Oper):Option St :=
  match o.op with
  | .call ⟨.builtin .len,args,tys⟩ => match args.toList,tys.toList with
    | [x],[t] => match opv st x,P.underlying t with
      | some s,some (.slice _) => match sizeVal s st with
        | some n => some (st.set o.dst (.t (.raw (.int .i64 n))))
        | none => none
      | some s,some .string => match s.toVal with
        | some (.string b) => some (st.set o.dst (.t (.raw (.int .i64 b.size))))
        | _ => none
      | _,_ => none
    | _,_ => none
  | .call ⟨.builtin .min,args,tys⟩ => match args.toList.mapM (valv st) with
    | some us => (pureRun P (Builtin.min_ tys o.type us.toArray)).map fun r => st.set o.dst (SV.ofV r)
    | none => none
  | .call ⟨.builtin .max,args,tys⟩ => match args.toList.mapM (valv st) with
    | some us => (pureRun P (Builtin.max_ tys o.type us.toArray)).map fun r => st.set o.dst (SV.ofV r)
    | none => none
  | _ => none

theorem mapM_eval (h:Sim sz I bs A w0 st a w L hand):∀ (xs:List Operand) (us:List Value),xs.mapM (valv st) = some us → xs.map a.eval = us:=by
  intro xs
  induction xs with
  | nil => intro us hu; simp only [List.mapM_nil,Option.pure_def,Option.some.injEq] at hu; subst hu; rfl
  | cons x xs ih =>
    intro us hu
    simp only [List.mapM_cons,Option.pure_def,Option.bind_eq_bind,Option.bind_eq_some_iff,Option.some.injEq] at hu
    obtain ⟨s,h1,l',h2,rfl⟩:=hu
    simp [valv_sound h h1,ih l' h2]
theorem arr_map (xs:Array Operand) (f:Operand → Value):xs.map f = (xs.toList.map f).toArray:=by rw [← Array.toList_map,Array.toArray_toList]

theorem stLook_sound (h:Sim sz I bs A w0 st a w L []) (hst:stLook P st o = some st'):o.wp P a w (PurePost (sz) I w L st a o st') Q:=by
  unfold stLook at hst
  split at hst
  · rename_i args tys ho
    split at hst
    · rename_i x t hargs htys
      have ea:args = #[x]:=by rw [← Array.toArray_toList (xs:=args),hargs]
      have et:tys = #[t]:=by rw [← Array.toArray_toList (xs:=tys),htys]
      subst ea; subst et
      split at hst
      · rename_i s e hx hu
        split at hst
        · rename_i n hn
          cases hst
          have hv:=opv_sound h hx
          have:∃ ad cap,a.eval x = .slice ad n cap:=by
            cases s with
            | t p =>
              cases p with
              | sl ow e' m cs =>
                simp only [sizeVal,Option.some.injEq] at hn
                subst hn
                simp only [SVR] at hv
                cases ow with
                | zero => simp only [Im] at hv; obtain ⟨rfl,_,ad,hv⟩:=hv; exact ⟨_,_,hv⟩
                | succ ow => simp only [Im] at hv; obtain ⟨ad,cap,hv,_⟩:=hv; exact ⟨_,_,hv⟩
              | _ => simp [sizeVal] at hn
            | ref pl off len =>
              simp only [sizeVal,Option.some.injEq] at hn
              subst hn
              simp only [SVR] at hv
              rcases hv with ⟨b,cap0,e',n',lcs,o',cap,_,hv,_⟩ | ⟨e',_,_,rfl,ad,hv⟩
              · exact ⟨_,_,hv⟩
              · exact ⟨_,_,hv⟩
            | _ => simp [sizeVal] at hn
          obtain ⟨ad,cap,hv'⟩:=this
          refine wp_val (v:=.int .i64 n) ?_ ⟨rfl,_,_,rfl,rfl,(by simp [SVR,Im])⟩
          unfold execOp
          rw [ho]
          simp [resolve,invoke,builtin,Builtin.len_,hv',run_underlying hu,Result.andThen,goInt]
        · simp at hst
      · rename_i s hx hu
        split at hst
        · rename_i b hb
          cases hst
          have hv:=toVal_sound hb (opv_sound h hx)
          refine wp_val (v:=.int .i64 b.size) ?_ ⟨rfl,_,_,rfl,rfl,(by simp [SVR,Im])⟩
          unfold execOp
          rw [ho]
          simp [resolve,invoke,builtin,Builtin.len_,hv,run_underlying hu,Result.andThen,goInt]
        · simp at hst
      · simp at hst
    · simp at hst
  · rename_i args tys ho
    split at hst
    · rename_i us hus
      simp only [Option.map_eq_some_iff] at hst
      obtain ⟨r,hr,rfl⟩:=hst
      refine wp_val (v:=r) ?_ ⟨rfl,_,_,rfl,rfl,(SVR.ofV r)⟩
      unfold execOp
      rw [ho]
      have hrr:(Builtin.min_ tys o.type (args.map a.eval)).run P w = .ok r w:=by rw [arr_map,mapM_eval h _ _ hus]; exact pureRun_run hr
      simp only [resolve,invoke,builtin,Sem.run_bind,Sem.run_pure,Result.andThen_ok,hrr]
    · simp at hst
  · rename_i args tys ho
    split at hst
    · rename_i us hus
      simp only [Option.map_eq_some_iff] at hst
      obtain ⟨r,hr,rfl⟩:=hst
      refine wp_val (v:=r) ?_ ⟨rfl,_,_,rfl,rfl,(SVR.ofV r)⟩
      unfold execOp
      rw [ho]
      have hrr:(Builtin.max_ tys o.type (args.map a.eval)).run P w = .ok r w:=by rw [arr_map,mapM_eval h _ _ hus]; exact pureRun_run hr
      simp only [resolve,invoke,builtin,Sem.run_bind,Sem.run_pure,Result.andThen_ok,hrr]
    · simp at hst
  · simp at hst

/-! ### rows that are made -/
def stMake (P:Program) (r i:Nat) (st:St) (o:Oper):Option St :=
  match o.op with
  | .makeSlice t x y => match telem P t,valv st x,valv st y with
    | some e,some (.int .i64 n),some (.int .i64 m) => match tzero P e with
      | some z => if n = m ∧ 0 ≤ n ∧ n ≤ 281474976710656 ∧ tby P e * n ≤ 281474976710656 ∧ 0 < tsz P e ∧ z.cells.size = tsz P e ∧ z.cells.toList.all one = true then
          some ((newRoot st (.op r i 0) (.sl 0 e n.toNat (List.replicate n.toNat (z.cells.toList.map PT.ofV)).flatten)).set o.dst (.ref ⟨.op r i 0,[]⟩ 0 n.toNat)) else none
      | none => none
    | _,_,_ => none
  | .buildSlice t len parts => match telem P t,parts.toList.mapM (fun p => opv st p.2) with
    | some e,some ss => if parts.toList.map (·.1) = List.range len ∧ ss.all SV.compsB = true ∧ ss.all (fun s => (comps s).length == tsz P e) = true ∧ 0 < tsz P e ∧ len * tsz P e ≤ 16777216 ∧ (tzero P e).isSome = true then
        match takeAll (tsz P) st [] (ss.flatMap comps) with
        | some (ps,_,st1) => some ((newRoot st1 (.op r i 0) (.sl 0 e len ps)).set o.dst (.ref ⟨.op r i 0,[]⟩ 0 len))
        | none => none
      else none
    | _,_ => none
  | _ => none

theorem rep_at {α:Type} (l:List α):∀ (n j:Nat),(List.replicate n l).flatten[j]? = if j < n * l.length then l[j % l.length]? else none
  | 0,j => by simp
  | n + 1,j => by
    rw [List.replicate_succ,List.flatten_cons]
    by_cases hj:j < l.length
    · rw [List.getElem?_append_left hj,if_pos (by rw [Nat.add_mul]; omega),Nat.mod_eq_of_lt hj]
    · rw [List.getElem?_append_right (by omega),rep_at l n]
      by_cases hk:j - l.length < n * l.length
      · rw [if_pos hk,if_pos (by rw [Nat.add_mul]; omega),Nat.mod_eq_sub_mod (a:=j) (by omega)]
      · rw [if_neg hk,if_neg (by rw [Nat.add_mul]; omega)]

theorem fold_sets (off:Nat):∀ (vs:List Value) (k:Nat) (cs:List Value),off + k + vs.length ≤ cs.length →
    (((vs.zipIdx k).foldl (fun (acc:Array Value) (p:Value × Nat) => acc.setIfInBounds (off + p.2) p.1) cs.toArray)).toList = cs.take (off + k) ++ vs ++ cs.drop (off + k + vs.length)
  | [],k,cs,_ => by simp
  | v :: vs,k,cs,h => by
    simp only [List.length_cons] at h
    simp only [List.zipIdx_cons,List.foldl_cons,List.setIfInBounds_toArray]
    rw [fold_sets off vs (k + 1) (cs.set (off + k) v) (by simp; omega)]
    rw [show off + (k + 1) = off + k + 1 by omega]
    apply List.ext_getElem?
    intro j
    simp only [List.length_cons,List.append_assoc,List.cons_append]
    by_cases h1:j < off + k
    · rw [List.getElem?_append_left (by simp; omega),List.getElem?_append_left (by simp; omega),List.getElem?_take_of_lt (by omega),List.getElem?_take_of_lt h1,List.getElem?_set_ne (by omega)]
    · by_cases h2:j = off + k
      · subst h2
        rw [List.getElem?_append_left (by simp; omega),List.getElem?_take_of_lt (by omega),List.getElem?_set_self (by omega),List.getElem?_append_right (by simp; omega)]
        simp [List.length_take]
        rw [show off + k - min (off + k) cs.length = 0 by omega]
        rfl
      · have l1:(List.take (off + k + 1) (cs.set (off + k) v)).length = off + k + 1:=by simp; omega
        have l2:(List.take (off + k) cs).length = off + k:=by simp; omega
        conv => rhs; rw [List.getElem?_append_right (by omega),l2]
        rw [List.getElem?_append_right (by omega),l1]
        rw [show j - (off + k) = (j - (off + k + 1)) + 1 by omega,List.getElem?_cons_succ]
        by_cases h3:j - (off + k + 1) < vs.length
        · rw [List.getElem?_append_left h3,List.getElem?_append_left h3]
        · rw [List.getElem?_append_right (by omega),List.getElem?_append_right (by omega),List.getElem?_drop,List.getElem?_drop,List.getElem?_set_ne (by omega)]
          congr 1; omega

theorem fill_dense {size:Nat}:∀ (vs:List Value) (k len:Nat) (cs:List Value),(∀ v ∈ vs,v.cells.size = size) → k + vs.length = len → cs.length = len * size →
    ∃ arr,Instr.fill (fun i => some (i * size,size)) cs.toArray ((List.range' k vs.length).zip vs) = some arr ∧ arr.toList = cs.take (k * size) ++ vs.flatMap (·.cells.toList)
  | [],k,len,cs,_,hk,hl => by
    simp at hk
    subst hk
    exact ⟨cs.toArray,by simp [Instr.fill],by simp [← hl]⟩
  | v :: vs,k,len,cs,hv,hk,hl => by
    simp only [List.length_cons] at hk
    have hvs:=hv v (by simp)
    have hle:k * size + size ≤ cs.length:=by
      rw [hl,← Nat.succ_mul]; exact Nat.mul_le_mul_right _ (by omega)
    have hf:=fold_sets (k * size) v.cells.toList 0 cs (by simp [hvs]; omega)
    simp only [Nat.add_zero] at hf
    let cs':=cs.take (k * size) ++ v.cells.toList ++ cs.drop (k * size + size)
    have hl':cs'.length = len * size:=by simp [cs',hvs]; omega
    obtain ⟨arr,h1,h2⟩:=fill_dense vs (k + 1) len cs' (fun u hu => hv u (by simp [hu])) (by omega) hl'
    refine ⟨arr,?_,?_⟩
    · simp only [List.length_cons,List.range'_succ,List.zip_cons_cons,Instr.fill]
      rw [if_neg (by simp [hvs]; omega)]
      have e:(v.cells.zipIdx.foldl (fun cs (x:Value × Nat) => cs.setIfInBounds (k * size + x.2) x.1) cs.toArray) = cs'.toArray:=by
        apply Array.toList_inj.1
        rw [← Array.foldl_toList,Array.toList_zipIdx]
        rw [hf]
        simp [cs',hvs]
      have e':(v.cells.zipIdx.foldl (fun cs x => match x with | (c,j) => cs.setIfInBounds (k * size + j) c) cs.toArray) = cs'.toArray:=e
      rw [e']
      exact h1
    · rw [h2]
      have:cs'.take ((k + 1) * size) = cs.take (k * size) ++ v.cells.toList:=by
        have l1:(cs.take (k * size) ++ v.cells.toList).length = (k + 1) * size:=by simp [hvs,Nat.add_mul]; omega
        rw [← l1]
        exact List.take_left' rfl
      rw [this]
      simp
end
end Go.V

namespace Go.V
open Go.RowKit
set_option linter.unusedSimpArgs false
set_option linter.unusedVariables false
section
variable {sz:Nat → Nat} {I:Nat → Nat → Prop} {bs:List Nat} {A:AD} {w0 w w':World} {st st' st1:St} {a:Act} {L L0:Loc} {hand hand':List LT} {P:Program} {o:Oper} {Q:Exit → Act → World → Prop}

theorem run_tzero {e:TypeId} {z:Value} (h:tzero P e = some z):(zeroValue e).run P w = .ok z w:=by
  unfold tzero at h
  split at h
  · rename_i inf hi
    simp [zeroValue,typeInfo,hi,h]
  · simp at h
theorem tzero_info {e:TypeId} {z:Value} (h:tzero P e = some z):∃ i,P.info? e = some i:=by
  unfold tzero at h
  split at h
  · exact ⟨_,by assumption⟩
  · simp at h
theorem run_askRoom (n:Nat):(askRoom n).run P w = .ok () w:=by
  unfold askRoom
  split <;> rfl
theorem range_cells {z:Array Value} {n:Nat} (hz:0 < z.size):((Array.range (n * z.size)).map fun i => z[i % z.size]!).toList = (List.replicate n z.toList).flatten:=by
  apply List.ext_getElem?
  intro j
  rw [rep_at]
  simp only [Array.toList_map,Array.toList_range,List.getElem?_map,Array.length_toList]
  by_cases hj:j < n * z.size
  · rw [if_pos hj,List.getElem?_range hj]
    have:j % z.size < z.size:=Nat.mod_lt _ hz
    simp [Array.getElem!_eq_getD,Array.getD,this]
  · rw [if_neg hj,List.getElem?_eq_none (by simpa using hj)]; rfl

theorem range0:Array.range 0 = (#[]:Array Nat):=by apply Array.toList_inj.1; simp [Array.toList_range]
theorem stMake_sound (h:Sim (tsz P) I bs A w0 st a w L []) {r i:Nat} (hst:stMake P r i st o = some st'):o.wp P a w (fun a' w' => ∃ L',Sim (tsz P) I bs A w0 st' a' w' L' []) Q:=by
  unfold stMake at hst
  split at hst
  · rename_i t x y ho
    split at hst
    · rename_i e n m he hx hy
      split at hst
      · rename_i z hz
        split at hst
        · rename_i hc
          cases hst
          obtain ⟨rfl,h0,h48,hby,hsz,hzc,hone⟩:=hc
          obtain ⟨inf,hinf⟩:=tzero_info hz
          have hw:IntKind.i64.wrap n = n:=IntWalk.i64_in n (by omega)
          have g:=leaf_hand h (List.replicate n.toNat z.cells.toList).flatten (fun v hv => by
            obtain ⟨l,hl,hvl⟩:=List.mem_flatten.1 hv
            rw [List.eq_of_mem_replicate hl] at hvl
            exact List.all_eq_true.1 hone v hvl)
          have hlen:((List.replicate n.toNat z.cells.toList).flatten).length = n.toNat * tsz P e:=by simp [List.length_flatten,hzc]
          have g4:=g.allocRoot (hand:=[]) (.op r i 0) (by simp) (e:=e) (n:=n.toNat) (cap:=n.toNat) (arr:=((List.replicate n.toNat z.cells.toList).flatten).toArray) (by simpa using hlen) hsz (Nat.le_refl _) (by simp [hzc]) (fun j c hj => by
            have:=map_at (leaf_val _) j c hj
            simpa using this)
          rw [leaf_erase] at g4
          have hps:(List.replicate n.toNat z.cells.toList).flatten.map PT.ofV = (List.replicate n.toNat (z.cells.toList.map PT.ofV)).flatten:=by
            rw [List.map_flatten,List.map_replicate]
          rw [hps] at g4
          refine wp_val (v:=.slice (some ⟨w.heap.size,0,none⟩) n.toNat n.toNat) ?_ ⟨_,g4.setS _ (SVR.newRef L _ (Nat.le_refl _) (by simpa using hlen))⟩
          unfold execOp
          rw [ho]
          refine run_v ?_
          have hb2:¬ (281474976710656 < (inf.bytes:Int) * n):=by
            have:tby P e = inf.bytes:=by simp [tby,hinf]
            rw [this] at hby; omega
          have hn0:¬ n < 0:=by omega
          simp only [valv_sound h hx,valv_sound h hy,Instr.makeSlice,Sem.run_bind,run_underlying (telem_und he),Result.andThen_ok,asInt,asIntOf,Sem.run_pure,typeInfo,hw]
          simp only [Go.program,Sem.run,hinf,Result.andThen_ok,Sem.run_bind,Sem.run_pure,run_askRoom,run_tsz ⟨inf,hinf⟩]
          have hcond:(decide (n < 0) || decide ((inf.bytes:Int) * n > 2 ^ 48)) = false:=by simp [hn0]; omega
          simp only [hcond,Bool.false_or,hn0,decide_false,Bool.or_false,gt_iff_lt,Int.lt_irrefl,Bool.false_eq_true,if_false]
          by_cases hz0:n.toNat * tsz P e = 0
          · have hnz:n.toNat = 0:=by
              rcases Nat.mul_eq_zero.1 hz0 with h1 | h1
              · exact h1
              · omega
            have hn1:n = 0:=by omega
            subst hn1
            simp [newRow,Result.andThen,run_tsz (w:=w) ⟨inf,hinf⟩,range0]
          · have harr:(Array.map (fun x => z.cells[x % z.cells.size]!) (Array.range (n.toNat * tsz P e))) = ((List.replicate n.toNat z.cells.toList).flatten).toArray:=by
              apply Array.toList_inj.1
              have:=range_cells (z:=z.cells) (n:=n.toNat) (by omega)
              rw [hzc] at this ⊢
              rw [this]
            simp [hb2,hn0,hz0,run_tzero hz,harr,newRow,Result.andThen,run_tsz (w:=w) ⟨inf,hinf⟩]
        · simp at hst
      · simp at hst
    · simp at hst
  · rename_i t len parts ho
    split at hst
    · rename_i e ss he hss
      split at hst
      · rename_i hc
        obtain ⟨hidx,hcB,hcl,hsz,h24,hzs⟩:=hc
        obtain ⟨z,hz⟩:=Option.isSome_iff_exists.1 hzs
        split at hst
        · rename_i ps ks st1 hta
          cases hst
          -- the parts' values
          have key:∀ (xs:List (Nat × Operand)) (ss:List SV),xs.mapM (fun p => opv st p.2) = some ss → (∀ s ∈ ss,s.compsB = true) → (∀ s ∈ ss,(comps s).length = tsz P e) →
              (∀ v ∈ xs.map (fun p => a.eval p.2),v.cells.size = tsz P e) ∧ SVRL (tsz P) L w I ((xs.map fun p => a.eval p.2).flatMap (·.cells.toList)) (ss.flatMap comps) ∧ (∀ u ∈ (xs.map fun p => a.eval p.2).flatMap (·.cells.toList),one u = true) ∧ ss.length = xs.length:=by
            intro xs
            induction xs with
            | nil => intro ss hs _ _; simp only [List.mapM_nil,Option.pure_def,Option.some.injEq] at hs; subst hs; simp [SVRL]
            | cons x xs ih =>
              intro ss hs h1 h2
              simp only [List.mapM_cons,Option.pure_def,Option.bind_eq_bind,Option.bind_eq_some_iff,Option.some.injEq] at hs
              obtain ⟨s,hs1,l',hs2,rfl⟩:=hs
              obtain ⟨i1,i2,i3,i4⟩:=ih l' hs2 (fun q hq => h1 q (by simp [hq])) (fun q hq => h2 q (by simp [hq]))
              obtain ⟨c1,c2⟩:=compsB_sound (opv_sound h hs1) (h1 s (by simp))
              have hsize:(a.eval x.2).cells.size = tsz P e:=by rw [← h2 s (by simp),← c1.len,Array.length_toList]
              refine ⟨?_,?_,?_,by simp [i4]⟩
              · intro v hv
                simp only [List.map_cons,List.mem_cons] at hv
                rcases hv with rfl | hv
                · exact hsize
                · exact i1 v hv
              · simp only [List.map_cons,List.flatMap_cons]; exact c1.append i2
              · intro u hu
                simp only [List.map_cons,List.flatMap_cons,List.mem_append] at hu
                rcases hu with hu | hu
                · exact c2 u hu
                · exact i3 u hu
          obtain ⟨k1,k2,k3,k4⟩:=key parts.toList ss hss (fun s hs => List.all_eq_true.1 hcB s hs) (fun s hs => by have:=List.all_eq_true.1 hcl s hs; simpa using this)
          obtain ⟨L',ts,g1,g2,g3,_⟩:=takeAll_sound (ss.flatMap comps) h k2 k3 (Stays.refl _ _) hta
          have hplen:parts.toList.length = len:=by have:=congrArg List.length hidx; simpa using this
          have hflen:((parts.toList.map fun p => a.eval p.2).flatMap (·.cells.toList)).length = len * tsz P e:=by
            have:∀ (vs:List Value),(∀ v ∈ vs,v.cells.size = tsz P e) → (vs.flatMap (·.cells.toList)).length = vs.length * tsz P e:=by
              intro vs
              induction vs with
              | nil => simp
              | cons v vs ih => intro hv; simp only [List.flatMap_cons,List.length_append,List.length_cons,Array.length_toList,ih (fun u hu => hv u (by simp [hu])),hv v (by simp),Nat.add_mul]; omega
            rw [this _ k1,List.length_map,hplen]
          have htl:ts.length = len * tsz P e:=by rw [← hflen,← g2,List.length_map]
          have g4:=g1.allocRoot (hand:=[]) (hand':=ts) (.op r i 0) (by simp) (e:=e) (n:=len) (cap:=len) (arr:=((parts.toList.map fun p => a.eval p.2).flatMap (·.cells.toList)).toArray) htl hsz (Nat.le_refl _) (by simp only [List.size_toArray,hflen]; exact Nat.le_refl _) (fun j c hj => by
            have:=map_at g2 j c hj
            simpa using this)
          rw [g3] at g4
          refine wp_val (v:=.slice (some ⟨w.heap.size,0,none⟩) len len) ?_ ⟨_,g4.setS _ (SVR.newRef L' _ (Nat.le_refl _) htl)⟩
          unfold execOp
          rw [ho]
          refine run_v ?_
          have hparts:(parts.map fun x => match x with | (i,x) => (i,a.eval x)).toList = (List.range' 0 (parts.toList.map fun p => a.eval p.2).length).zip (parts.toList.map fun p => a.eval p.2):=by
            rw [Array.toList_map,List.length_map,hplen,← List.range_eq_range',← hidx]
            apply List.ext_getElem?
            intro j
            simp only [List.getElem?_map,List.getElem?_zip_eq_some,List.zip,List.getElem?_zipWith]
            cases parts.toList[j]? <;> simp
          have hcs:∀ zc:Array Value,((Array.range (len * tsz P e)).map (fun x => zc[x % zc.size]!)) = ((List.range (len * tsz P e)).map (fun x => zc[x % zc.size]!)).toArray:=by
            intro zc
            apply Array.toList_inj.1
            simp
          have hfill:∀ zc:Array Value,Instr.fill (fun i => some (i * tsz P e,tsz P e)) ((Array.range (len * tsz P e)).map (fun x => zc[x % zc.size]!)) (parts.map fun x => match x with | (i,x) => (i,a.eval x)).toList = some ((parts.toList.map fun p => a.eval p.2).flatMap (·.cells.toList)).toArray:=by
            intro zc
            obtain ⟨arr,f1,f2⟩:=fill_dense (size:=tsz P e) (parts.toList.map fun p => a.eval p.2) 0 len ((List.range (len * tsz P e)).map (fun x => zc[x % zc.size]!)) k1 (by simp [hplen]) (by simp)
            rw [hcs,hparts,f1]
            congr 1
            apply Array.toList_inj.1
            rw [f2]
            simp
          have hle:¬ (len * tsz P e > 2 ^ 24):=by omega
          simp only [Instr.buildSlice,Sem.run_bind,run_underlying (telem_und he),Result.andThen_ok,run_tsz (tsz_info hsz),hle,if_false,Sem.run_pure]
          by_cases hz0:len * tsz P e = 0
          · have hl0:len = 0:=by
              rcases Nat.mul_eq_zero.1 hz0 with h1 | h1
              · exact h1
              · omega
            have hp:parts = #[]:=by
              apply Array.eq_empty_of_size_eq_zero
              rw [← Array.length_toList,hplen,hl0]
            simp [hp,hl0,Instr.fill,range0,newRow,Result.andThen]
          · simp only [hz0,if_false,Sem.run_bind,run_tzero hz,Result.andThen_ok,Sem.run_pure,hfill,newRow]
            simp [Result.andThen]
        · simp at hst
      · simp at hst
    · simp at hst
  · simp at hst
end
end Go.V

namespace Go.V
open Go.RowKit
set_option linter.unusedSimpArgs false
set_option linter.unusedVariables false
def PT.flat:PT → Bool
  | .raw v => one v
  | _ => false
def appSrc (P:Program) (st:St) (e:TypeId):SV → Option (Nat × List PT × Bool)
  | .t (.sl _ _ m cs) => if cs.length = m * tsz P e then some (m,cs,false) else none
  | .ref pl off m => match lookP st.hp pl with
    | some (.sl 0 e' _ cs) => if ((cs.drop off).take (m * tsz P e)).length = m * tsz P e ∧ (tsz P e' = tsz P e ∨ m = 0) then
        (if ((cs.drop off).take (m * tsz P e)).all PT.flat then some (m,(cs.drop off).take (m * tsz P e),false)
         else if off = 0 then some (m,(cs.drop off).take (m * tsz P e),true) else none)
      else none
    | _ => none
  | _ => none
def stAppFin (P:Program) (r i:Nat) (o:Oper) (st1:St) (e e0 n m:Nat) (cs news:List PT):Option St :=
  if (e0 = e ∨ e0 = nilE) ∧ (n + m) * tby P e ≤ 140737488355328 ∧ n + m ≤ 9223372036854775807 ∧ (tzero P e).any (fun z => z.cells.size == tsz P e) = true then
    some ((newRoot st1 (.op r i 0) (.sl 0 e (n + m) (cs ++ news))).set o.dst (.ref ⟨.op r i 0,[]⟩ 0 (n + m))) else none
def stAppend (P:Program) (r i:Nat) (st:St) (o:Oper):Option St :=
  match o.op with
  | .call ⟨.builtin .append,args,tys⟩ => match args.toList,tys.toList with
    | [s,x],[t,t'] => if t = t' then match telem P t,opv st s,opv st x with
      | some e,some sv,some xv => if sv.oneB = true ∧ xv.oneB = true ∧ 0 < tsz P e then match appSrc P st e xv with
        | some (m,news,consume) =>
          if m = 0 then (if (sizeVal sv st).isSome then some (st.set o.dst sv) else none) else
          if consume then match takeAll (tsz P) st [] [xv,sv] with
            | some ([.sl 0 _ m1 news1,.sl 0 e0 n cs],_,st1) => if m1 = m ∧ news1.length = m * tsz P e then stAppFin P r i o st1 e e0 n m cs news1 else none
            | _ => none
          else match takeAll (tsz P) st [] [sv] with
            | some ([.sl 0 e0 n cs],_,st1) => stAppFin P r i o st1 e e0 n m cs news
            | _ => none
        | none => none
        else none
      | _,_,_ => none
      else none
    | _,_ => none
  | _ => none
section
variable {sz:Nat → Nat} {I:Nat → Nat → Prop} {bs:List Nat} {A:AD} {w0 w w':World} {st st' st1:St} {a:Act} {L L0:Loc} {hand hand':List LT} {P:Program} {o:Oper} {Q:Exit → Act → World → Prop}

theorem drew_below (w:World):Below w.heap.size w w.drew:=⟨rfl,rfl,rfl,Nat.le_refl _,fun _ _ => rfl⟩

/-- The append itself: tsv is the row (in the hand), tn the new elements. -/
theorem append_core {tsv:LT} {tn:List LT} (h:Sim (tsz P) I bs A w0 st1 a w L ([tsv] ++ tn)) (h0:tsz P nilE = 0) {t ty e e0 n m c:Nat} {cs:List PT} {x:Addr} (id:Id) (hid:∀ i j,id ≠ .arg i j) (ht:telem P t = some e) (her:tsv.erase = .sl 0 e0 n cs) (he0:e0 = e ∨ e0 = nilE)
    (hb:(n + m) * tby P e ≤ 140737488355328) (hm:n + m ≤ 9223372036854775807) (hs:0 < tsz P e) {z:Value} (hz:tzero P e = some z) (hzs:z.cells.size = tsz P e)
    (htn:tn.length = m * tsz P e) (hm0:0 < m) (hx:∀ (j:Nat) u,(tn.map LT.val)[j]? = some u → w.cell? (x.add j) = some u) :
    ∃ v' w' L',(Builtin.append_ #[t,t] ty #[tsv.val,.slice (some x) m c]).run P w = .ok v' w' ∧ Sim (tsz P) I bs A w0 (newRoot st1 id (.sl 0 e (n + m) (cs ++ tn.map LT.erase))) a w' L' [] ∧
      SVR (tsz P) L' w' I v' (.ref ⟨id,[]⟩ 0 (n + m)):=by
  have hu:=telem_und ht
  obtain ⟨inf,hinf⟩:=tsz_info hs
  have hisz:inf.size = tsz P e:=by simp [tsz,hinf]
  have hiby:inf.bytes = tby P e:=by simp [tby,hinf]
  have hiz:inf.zero = some z:=by unfold tzero at hz; rw [hinf] at hz; exact hz
  have hone:∀ u ∈ tn.map LT.val,u.oneCell' = true:=by
    intro u hu
    obtain ⟨d,hd,rfl⟩:=List.mem_map.1 hu
    rw [one_oneCell]
    exact LT.holds_one (h.hholds d (by simp [hd]))
  have hnl:(tn.map LT.val).length = m * inf.size:=by rw [List.length_map,hisz,htn]
  -- what a new row gives
  have grow:∀ (lcs:List LT) (old:Nat),Sim (tsz P) I bs A w0 st1 a w L (lcs ++ tn) → lcs.length = n * tsz P e → old < n + m →
      Sim (tsz P) I bs A w0 (newRoot st1 id (.sl 0 e (n + m) (lcs.map LT.erase ++ tn.map LT.erase))) a
        (w.drew.alloc (.cells ((lcs.map LT.val).toArray ++ (tn.map LT.val).toArray ++ Builtin.zeroCells z.cells (grownCap w (n + m) old e - (n + m))) e))
        (updF L id (some (rootT w.drew.heap.size (grownCap w (n + m) old e) e (n + m) (lcs ++ tn)))) [] ∧
      SVR (tsz P) (updF L id (some (rootT w.drew.heap.size (grownCap w (n + m) old e) e (n + m) (lcs ++ tn)))) (w.drew.alloc (.cells ((lcs.map LT.val).toArray ++ (tn.map LT.val).toArray ++ Builtin.zeroCells z.cells (grownCap w (n + m) old e - (n + m))) e)) I
        (.slice (some ⟨w.heap.size,0,none⟩) (n + m) (grownCap w (n + m) old e)) (.ref ⟨id,[]⟩ 0 (n + m)):=by
    intro lcs old hsim hll hold
    have hge:=grownCap_ge w (n + m) old e
    have hlen:(lcs ++ tn).length = (n + m) * tsz P e:=by rw [List.length_append,hll,htn,Nat.add_mul]
    have hsz2:((lcs.map LT.val).toArray ++ (tn.map LT.val).toArray ++ Builtin.zeroCells z.cells (grownCap w (n + m) old e - (n + m))).size = grownCap w (n + m) old e * tsz P e:=by
      simp only [Array.size_append,List.size_toArray,size_zeroCells,hzs,List.length_map,hll,htn,← Nat.add_mul]
      congr 1; omega
    have g:=(hsim.grow (drew_below w) (Nat.le_succ _)).allocRoot (hand:=[]) (hand':=lcs ++ tn) id hid (e:=e) (n:=n + m) (cap:=grownCap w (n + m) old e)
      (arr:=(lcs.map LT.val).toArray ++ (tn.map LT.val).toArray ++ Builtin.zeroCells z.cells (grownCap w (n + m) old e - (n + m))) hlen hs hge (by rw [hsz2]; exact Nat.le_refl _) (by
        intro j d hd
        have hjl:j < (lcs ++ tn).length:=(List.getElem?_eq_some_iff.1 hd).1
        have e1:((lcs.map LT.val).toArray ++ (tn.map LT.val).toArray) = ((lcs ++ tn).map LT.val).toArray:=by simp
        rw [e1,Array.getElem?_append_left (by simpa using hjl)]
        simp only [List.getElem?_toArray,List.getElem?_map,hd,Option.map_some])
    rw [List.map_append] at g
    exact ⟨g,SVR.newRef L id hge hlen⟩
  cases htsv:tsv with
  | leaf v p =>
    rw [htsv] at her h
    have hh:=h.hholds (.leaf v p) (by simp)
    simp only [LT.holds] at hh
    simp only [LT.erase] at her
    subst her
    have hi:=hh.1
    simp only [Im] at hi
    obtain ⟨rfl,rfl,ad,rfl⟩:=hi
    have hsim:Sim (tsz P) I bs A w0 st1 a w L ([] ++ tn):=h.drop (by simp)
    obtain ⟨g1,g2⟩:=grow [] 0 hsim (by simp) (by omega)
    simp only [Nat.zero_add] at hb hm g1 g2 ⊢
    cases ad with
    | none =>
      have hr:=run_append_nil (P:=P) w t ty e inf z hu hinf hiz x m c (tn.map LT.val) hnl hx hm0 (by omega) (by rw [hiby]; omega)
      refine ⟨_,_,_,hr,by simpa using g1,by simpa using g2⟩
    | some ad =>
      have hr:=run_append_grow (P:=P) w t ty e inf z hu hinf hiz ad 0 0 [] (by simp) (by simp) x m c (tn.map LT.val) hnl hx (by omega) (by omega) (growslice_fits (by omega) (by rw [hiby]; simpa using hb))
      simp only [Nat.zero_add] at hr
      refine ⟨_,_,_,hr,by simpa using g1,by simpa using g2⟩
  | own b cap e1 n1 lcs =>
    rw [htsv] at her h
    simp only [LT.erase,PT.sl.injEq,true_and] at her
    obtain ⟨rfl,rfl,rfl⟩:=her
    have hh:=h.hholds (.own b cap e1 n1 lcs) (by simp)
    have hh':=hh
    simp only [LT.holds] at hh'
    obtain ⟨⟨arr,q1,q2,q3⟩,q4,q5,q6,q7⟩:=hh'
    have hee:e1 = e:=by
      rcases he0 with h1 | h1
      · exact h1
      · rw [h1,h0] at q6; exact absurd q6.1 (Nat.lt_irrefl 0)
    subst hee
    have hval:∀ (j:Nat) u,(lcs.map LT.val)[j]? = some u → w.cell? ((⟨b,0,none⟩:Addr).add j) = some u:=by
      intro j u hj
      rw [List.getElem?_map,Option.map_eq_some_iff] at hj
      obtain ⟨d,hd,rfl⟩:=hj
      rw [add_own,Nat.zero_add,cell_at q1]
      exact q3 j d hd
    have hnd:=h.hnodup
    simp only [List.cons_append,List.nil_append,List.flatMap_cons,LT.blocks] at hnd
    have hnd1:=List.nodup_cons.1 hnd
    by_cases hroom:n1 + m ≤ cap
    · -- in place
      have hfit:n1 * tsz P e1 + m * tsz P e1 ≤ arr.size:=by rw [← Nat.add_mul]; exact Nat.le_trans (Nat.mul_le_mul_right _ hroom) q2
      have hr:=run_append_room_cells (P:=P) w t ty e1 inf hu hinf b 0 n1 cap x m c (tn.map LT.val) hnl hx hone hroom
        (fun j hj => by rw [List.length_map] at hj; rw [cell_at q1,hisz,Array.getElem?_eq_getElem (by omega)]; rfl) (fun j hj => by simp [World.frozen?,q1])
      simp only [Nat.zero_add,hisz] at hr
      obtain ⟨arr',r1,r2,r3⟩:=setCells_heap (tn.map LT.val) (n1 * tsz P e1) w arr q1
      have hkp:=setCells_kp b (tn.map LT.val) (n1 * tsz P e1) w
      have hbI:∀ k b',I k b' → (w.setCells b (n1 * tsz P e1) (tn.map LT.val)).heap[b']? = w.heap[b']?:=fun k b' hb' => hkp.block b' (h.immw k b' hb') (by
        intro hxx
        simp only [List.mem_singleton] at hxx
        subst hxx
        have hne:=h.imm_ne hb'
        rcases h.hown b' (by simp [LT.blocks]) with hq | hq
        · exact hne.1 hq
        · exact hne.2 hq)
      have hfr:∀ d:LT,d.holds (tsz P) w I → b ∉ d.blocks → d.holds (tsz P) (w.setCells b (n1 * tsz P e1) (tn.map LT.val)) I:=fun d hd hbd =>
        LT.holds_frame (fun _ _ hb => hb) hbI d hd fun b' hb' => hkp.block b' (LT.blocks_lt d hd b' hb') (by
          intro hxx; simp only [List.mem_singleton] at hxx; subst hxx; exact hbd hb')
      have hrt:=h.root (hand':=[]) id hid (t':=.own b cap e1 (n1 + m) (lcs ++ tn)) [b] hkp (by intro y hy; simp only [List.mem_singleton] at hy; subst hy; simp [LT.blocks]) ?_ (by simp) ?_ ?_
      · refine ⟨_,_,_,hr,by simpa [newRoot,LT.erase] using hrt,?_⟩
        have:=SVR.newRef (w:=w.setCells b (n1 * tsz P e1) (tn.map LT.val)) (I:=I) L id (b:=b) (e:=e1) (cs:=lcs ++ tn) hroom (by rw [List.length_append,q4,htn,Nat.add_mul])
        rwa [rootT,if_neg (by omega)] at this
      · simp only [LT.holds]
        refine ⟨⟨arr',r1,by omega,?_⟩,by rw [List.length_append,q4,htn,Nat.add_mul],hroom,⟨hs,q6.2⟩,?_⟩
        · intro j d hd
          rw [r3]
          rw [List.getElem?_append] at hd
          rw [List.length_map]
          split at hd
          · rename_i hj
            rw [if_neg (by omega)]
            exact q3 j d hd
          · rename_i hj
            have hjl:j - lcs.length < tn.length:=(List.getElem?_eq_some_iff.1 hd).1
            rw [if_pos ⟨by omega,by omega,by omega⟩,← q4,List.getElem?_map,hd]
            rfl
        · intro d hd
          rcases List.mem_append.1 hd with hd | hd
          · exact hfr d (q7 d hd) fun hbd => hnd1.1 (List.mem_append_left _ (List.mem_flatMap.2 ⟨d,hd,hbd⟩))
          · exact hfr d (h.hholds d (by simp [hd])) fun hbd => hnd1.1 (List.mem_append_right _ (List.mem_flatMap.2 ⟨d,hd,hbd⟩))
      · simp only [List.flatMap_nil,List.append_nil,LT.blocks,List.flatMap_append]
        exact hnd
      · intro y hy
        simp only [List.flatMap_nil,List.append_nil,LT.blocks,List.flatMap_append] at hy
        refine .inl ?_
        simp only [List.cons_append,List.nil_append,List.flatMap_cons,LT.blocks]
        exact hy
    · -- a new row
      have hsim:Sim (tsz P) I bs A w0 st1 a w L (lcs ++ tn):=h.rehand (fun d hd => by
          rcases List.mem_append.1 hd with hd | hd
          · exact q7 d hd
          · exact h.hholds d (by simp [hd])) (by rw [List.flatMap_append]; exact hnd1.2) (fun y hy => by
          rw [List.flatMap_append] at hy
          simp only [List.cons_append,List.nil_append,List.flatMap_cons,LT.blocks]
          exact List.mem_cons_of_mem _ hy)
      obtain ⟨g1,g2⟩:=grow lcs cap hsim q4 (by omega)
      have hr:=run_append_grow (P:=P) w t ty e1 inf z hu hinf hiz ⟨b,0,none⟩ n1 cap (lcs.map LT.val) (by rw [List.length_map,q4,hisz]) hval x m c (tn.map LT.val) hnl hx (by omega) (by omega) (growslice_fits (by omega) (by rw [hiby]; exact hb))
      exact ⟨_,_,_,hr,g1,g2⟩

theorem slice_val {v:Value} {s:SV} (hr:SVR sz L w I v s) {st:St} {n:Nat} (h:sizeVal s st = some n):∃ ad cap,v = .slice ad n cap ∧ n ≤ cap:=by
  cases s with
  | t p =>
    cases p with
    | sl ow e' m cs =>
      simp only [sizeVal,Option.some.injEq] at h
      subst h
      simp only [SVR] at hr
      cases ow with
      | zero => simp only [Im] at hr; obtain ⟨rfl,_,ad,hv⟩:=hr; exact ⟨_,_,hv,Nat.le_refl _⟩
      | succ ow => simp only [Im] at hr; obtain ⟨ad,cap,hv,hc,_⟩:=hr; exact ⟨_,_,hv,hc⟩
    | _ => simp [sizeVal] at h
  | ref pl off len =>
    simp only [sizeVal,Option.some.injEq] at h
    subst h
    simp only [SVR] at hr
    rcases hr with ⟨b,cap0,e',n',lcs,o',cap,_,hv,_,hc,_⟩ | ⟨e',_,_,rfl,ad,hv⟩
    · exact ⟨_,_,hv,hc⟩
    · exact ⟨_,_,hv,Nat.le_refl _⟩
  | _ => simp [sizeVal] at h

theorem append_none {t ty e n cap c:Nat} {ad ax:Option Addr} (ht:telem P t = some e) (hi:∃ i,P.info? e = some i) (hn:n ≤ cap) :
    (Builtin.append_ #[t,t] ty #[.slice ad n cap,.slice ax 0 c]).run P w = .ok (.slice ad n cap) w:=by
  obtain ⟨i,hi⟩:=hi
  cases ad <;> cases ax <;> simp [Builtin.append_,run_underlying (telem_und ht),Go.sizeOf,typeInfo,hi,Builtin.lenOf,Builtin.firstCells,loadCells,loadCellsFrom,hn,Result.andThen,storeCells]

/-- What is appended, where it is only copied. -/
theorem appSrc_copy (h:Sim (tsz P) I bs A w0 st a w L hand) {v:Value} {xv:SV} {e m:Nat} {news:List PT} (hr:SVR (tsz P) L w I v xv) (hs:appSrc P st e xv = some (m,news,false)) :
    ∃ ad c,v = .slice ad m c ∧ ∃ tn:List LT,tn.map LT.erase = news ∧ tn.length = m * tsz P e ∧ (∀ d ∈ tn,d.holds (tsz P) w I ∧ d.blocks = []) ∧
      (0 < tn.length → ∃ x,ad = some x ∧ ∀ (j:Nat) u,(tn.map LT.val)[j]? = some u → w.cell? (x.add j) = some u):=by
  cases xv with
  | t p =>
    cases p with
    | sl ow e' m' cs =>
      simp only [appSrc] at hs
      split at hs
      · rename_i hl
        simp only [Option.some.injEq,Prod.mk.injEq,and_true] at hs
        obtain ⟨rfl,rfl⟩:=hs
        simp only [SVR] at hr
        cases ow with
        | zero =>
          simp only [Im] at hr
          obtain ⟨rfl,rfl,ad,rfl⟩:=hr
          exact ⟨ad,0,rfl,[],rfl,by simp,by simp,by simp⟩
        | succ ow =>
          simp only [Im] at hr
          obtain ⟨ad,cap,rfl,hc,hi⟩:=hr
          refine ⟨ad,cap,rfl,?_⟩
          cases hcs:cs with
          | nil => subst hcs; exact ⟨[],rfl,by simpa using hl,by simp,by simp⟩
          | cons c0 cs0 =>
            have hi':=hi
            rw [hcs] at hi'
            simp only [ImL] at hi'
            obtain ⟨⟨y,u,rfl,_⟩,_⟩:=hi'
            rw [← hcs]
            obtain ⟨vs,g1,g2,g4,g3⟩:=ImL.vals (sz:=tsz P) (L:=L) cs 0 hi
            have hzl:(List.zipWith LT.leaf vs cs).length = cs.length:=by simp [g1]
            refine ⟨List.zipWith LT.leaf vs cs,?_,by rw [hzl,hl],?_,fun _ => ⟨y,rfl,?_⟩⟩
            · apply List.ext_getElem?
              intro j
              rw [List.getElem?_map,List.getElem?_zipWith]
              by_cases hj:j < cs.length
              · rw [List.getElem?_eq_getElem hj,List.getElem?_eq_getElem (by omega)]; simp [LT.erase]
              · rw [List.getElem?_eq_none (by omega:cs.length ≤ j),List.getElem?_eq_none (by omega:vs.length ≤ j)]; rfl
            · intro d hd
              obtain ⟨j,hj⟩:=List.getElem?_of_mem hd
              have hjl:j < cs.length:=by rw [← hzl]; exact (List.getElem?_eq_some_iff.1 hj).1
              rw [List.getElem?_zipWith,List.getElem?_eq_getElem hjl,List.getElem?_eq_getElem (by omega)] at hj
              simp only [Option.some.injEq] at hj
              subst hj
              obtain ⟨v',hv',hsv⟩:=g3.at_ j (.t cs[j]) (by simp [hjl])
              rw [List.getElem?_eq_getElem (by omega)] at hv'
              cases hv'
              simp only [SVR] at hsv
              exact ⟨by simp only [LT.holds]; exact ⟨hsv,g4 _ (List.getElem_mem _)⟩,by simp [LT.blocks]⟩
            · intro j u hj
              rw [List.getElem?_map,List.getElem?_zipWith] at hj
              by_cases hjl:j < cs.length
              · rw [List.getElem?_eq_getElem hjl,List.getElem?_eq_getElem (by omega)] at hj
                simp only [Option.map_some,Option.some.injEq,LT.val] at hj
                subst hj
                have:=g2 j _ (List.getElem?_eq_getElem (by omega))
                simpa using this
              · rw [List.getElem?_eq_none (by omega:cs.length ≤ j),List.getElem?_eq_none (by omega:vs.length ≤ j)] at hj
                simp at hj
      · simp at hs
    | _ => simp [appSrc] at hs
  | ref pl off m' =>
    simp only [appSrc] at hs
    split at hs
    · rename_i e' n cs hlp
      split at hs
      · rename_i hl
        split at hs
        · rename_i hflat
          simp only [Option.some.injEq,Prod.mk.injEq,and_true] at hs
          obtain ⟨rfl,rfl⟩:=hs
          rw [h.lookP,Option.map_eq_some_iff] at hlp
          obtain ⟨node,hnode,her⟩:=hlp
          simp only [SVR] at hr
          rcases hr with ⟨b,cap0,e1,n1,lcs,o',cap,hlk,rfl,hco,hle,hlen,hcap⟩ | ⟨e1,hlk,rfl,rfl,ad,rfl⟩
          · rw [hlk] at hnode
            cases hnode
            simp only [LT.erase,PT.sl.injEq,true_and] at her
            obtain ⟨rfl,rfl,rfl⟩:=her
            have hh:=h.look_holds hlk
            simp only [LT.holds] at hh
            obtain ⟨⟨arr,q1,q2,q3⟩,q4,q5,q6,q7⟩:=hh
            refine ⟨_,_,rfl,(lcs.drop off).take (m' * tsz P e),by rw [List.map_take,List.map_drop],?_,?_,fun hpos => ?_⟩
            · have:=hl.1
              rw [← List.map_drop,← List.map_take,List.length_map] at this
              exact this
            · intro d hd
              refine ⟨q7 d (List.mem_of_mem_drop (List.mem_of_mem_take hd)),?_⟩
              have hf:=List.all_eq_true.1 hflat d.erase (by rw [← List.map_drop,← List.map_take]; exact List.mem_map_of_mem hd)
              cases d with
              | leaf v p => simp [LT.blocks]
              | own b' cap' e' n' cs' => simp [LT.erase,PT.flat] at hf
            · have hm:m' ≠ 0:=by rintro rfl; simp at hpos
              have hoo : o' = off := by rcases hco with hco | hco; · omega
                                        · exact hco
              subst hoo
              refine ⟨_,rfl,fun j u hj => ?_⟩
              rw [List.getElem?_map,Option.map_eq_some_iff] at hj
              obtain ⟨d,hd,rfl⟩:=hj
              rw [List.getElem?_take] at hd
              split at hd
              · rw [List.getElem?_drop] at hd
                rw [add_own,cell_at q1]
                exact q3 _ d hd
              · simp at hd
          · rw [hlk] at hnode
            cases hnode
            simp only [LT.erase,PT.sl.injEq,true_and] at her
            obtain ⟨rfl,rfl,rfl⟩:=her
            exact ⟨ad,0,rfl,[],by simp,by simp,by simp,by simp⟩
        · split at hs <;> simp at hs
      · simp at hs
    · simp at hs
  | _ => simp [appSrc] at hs

theorem stAppend_sound (h:Sim (tsz P) I bs A w0 st a w L []) (h0:tsz P nilE = 0) {r i:Nat} (hst:stAppend P r i st o = some st'):o.wp P a w (fun a' w' => ∃ L',Sim (tsz P) I bs A w0 st' a' w' L' []) Q:=by
  unfold stAppend at hst
  split at hst
  · rename_i args tys ho
    split at hst
    · rename_i s x t t' hargs htys
      have ea:args = #[s,x]:=by rw [← Array.toArray_toList (xs:=args),hargs]
      have et:tys = #[t,t']:=by rw [← Array.toArray_toList (xs:=tys),htys]
      subst ea; subst et
      split at hst
      · rename_i htt
        subst htt
        split at hst
        · rename_i e sv xv he hs hx
          split at hst
          · rename_i hcond
            obtain ⟨ho1,ho2,hsz⟩:=hcond
            split at hst
            · rename_i m news consume hsrc
              have hsv:=opv_sound h hs
              have hxv:=opv_sound h hx
              have hrun:∀ {v':Value} {w':World},(Builtin.append_ #[t,t] o.type #[a.eval s,a.eval x]).run P w = .ok v' w' → (execOp a.eval o).run P w = .ok (.value v') w':=by
                intro v' w' hr
                unfold execOp
                rw [ho]
                simp [resolve,invoke,builtin,hr,Result.andThen]
              have hxs:sizeVal xv st = some m:=by
                cases xv with
                | t p =>
                  cases p with
                  | sl ow e' m' cs =>
                    simp only [appSrc] at hsrc
                    split at hsrc
                    · simp only [Option.some.injEq,Prod.mk.injEq] at hsrc; obtain ⟨rfl,_⟩:=hsrc; rfl
                    · simp at hsrc
                  | _ => simp [appSrc] at hsrc
                | ref pl off m' =>
                  simp only [appSrc] at hsrc
                  split at hsrc
                  · split at hsrc
                    · split at hsrc
                      · simp only [Option.some.injEq,Prod.mk.injEq] at hsrc; obtain ⟨rfl,_⟩:=hsrc; rfl
                      · split at hsrc
                        · simp only [Option.some.injEq,Prod.mk.injEq] at hsrc; obtain ⟨rfl,_⟩:=hsrc; rfl
                        · simp at hsrc
                    · simp at hsrc
                  · simp at hsrc
                | _ => simp [appSrc] at hsrc
              obtain ⟨ax,cx,hvx,_⟩:=slice_val hxv hxs
              have fin:∀ {st1:St} {L1:Loc} {tsv:LT} {tn:List LT} {e0 n:Nat} {cs news:List PT},Sim (tsz P) I bs A w0 st1 a w L1 ([tsv] ++ tn) → tsv.val = a.eval s → tsv.erase = .sl 0 e0 n cs → tn.map LT.erase = news → tn.length = m * tsz P e → m ≠ 0 →
                  (∃ y,ax = some y ∧ ∀ (j:Nat) u,(tn.map LT.val)[j]? = some u → w.cell? (y.add j) = some u) → stAppFin P r i o st1 e e0 n m cs news = some st' → o.wp P a w (fun a' w' => ∃ L',Sim (tsz P) I bs A w0 st' a' w' L' []) Q:=by
                intro st1 L1 tsv tn e0 n cs news g1 g2 g3 g4 g5 hm ⟨y,hy,hc⟩ hf
                unfold stAppFin at hf
                split at hf
                · rename_i hcc
                  cases hf
                  obtain ⟨c1,c2,c3,c4⟩:=hcc
                  rw [Option.any_eq_true] at c4
                  obtain ⟨z,hz,hzs⟩:=c4
                  subst hy
                  obtain ⟨v',w',L',r1,r2,r3⟩:=append_core g1 h0 (t:=t) (ty:=o.type) (c:=cx) (.op r i 0) (by simp) he g3 c1 c2 c3 hsz hz (by simpa using hzs) g5 (by omega) hc
                  rw [g4] at r2
                  refine wp_val (hrun (by rw [hvx,← g2]; exact r1)) ⟨L',r2.setS _ r3⟩
                · simp at hf
              split at hst
              · rename_i hm
                subst hm
                split at hst
                · rename_i hsome
                  cases hst
                  obtain ⟨n,hn⟩:=Option.isSome_iff_exists.1 hsome
                  obtain ⟨ad,cap,hv,hnc⟩:=slice_val hsv hn
                  refine wp_val (v:=a.eval s) (hrun ?_) ⟨L,h.setS _ hsv⟩
                  rw [hvx,hv]
                  exact append_none he (tsz_info hsz) hnc
                · simp at hst
              · rename_i hm
                split at hst
                · split at hst
                  · rename_i e1 m1 news1 e0 n cs ks st1 hta
                    split at hst
                    · rename_i hmm
                      obtain ⟨rfl,hnl⟩:=hmm
                      have hr2:SVRL (tsz P) L w I [a.eval x,a.eval s] [xv,sv]:=by
                        simp only [SVRL]; exact ⟨_,_,rfl,hxv,_,_,rfl,hsv,rfl⟩
                      obtain ⟨L1,ts,g1,g2,g3,_⟩:=takeAll_sound _ h hr2 (by
                        intro v hv
                        simp only [List.mem_cons,List.not_mem_nil,or_false] at hv
                        rcases hv with rfl | rfl
                        · exact oneB_sound hxv ho2
                        · exact oneB_sound hsv ho1) (Stays.refl _ _) hta
                      obtain ⟨tx,tsv,rfl⟩:∃ tx tsv,ts = [tx,tsv]:=by
                        cases ts with
                        | nil => simp at g2
                        | cons t1 ts => cases ts with
                          | nil => simp at g2
                          | cons t2 ts => cases ts with
                            | nil => exact ⟨t1,t2,rfl⟩
                            | cons t3 ts => simp at g2
                      simp only [List.map_cons,List.map_nil,List.cons.injEq,and_true] at g2 g3
                      rw [List.nil_append] at g1
                      cases htx:tx with
                      | leaf v p =>
                        rw [htx] at g3 g1
                        have hh:=g1.hholds (.leaf v p) (by simp)
                        simp only [LT.holds] at hh
                        simp only [LT.erase] at g3
                        have hi:=hh.1
                        rw [g3.1] at hi
                        simp only [Im] at hi
                        exact absurd hi.1 hm
                      | own b cap e' n' lcs =>
                        rw [htx] at g3 g1 g2
                        simp only [LT.erase,PT.sl.injEq,true_and] at g3
                        obtain ⟨⟨rfl,rfl,rfl⟩,g3'⟩:=g3
                        have hh:=g1.hholds (.own b cap e' n' lcs) (by simp)
                        simp only [LT.holds] at hh
                        obtain ⟨⟨arr,q1,q2,q3⟩,q4,q5,q6,q7⟩:=hh
                        have hnd:=g1.hnodup
                        simp only [List.flatMap_cons,List.flatMap_nil,LT.blocks,List.append_nil,List.cons_append,List.nodup_cons] at hnd
                        have hsim:Sim (tsz P) I bs A w0 st1 a w L1 ([tsv] ++ lcs):=g1.rehand (fun d hd => by
                          rcases List.mem_append.1 hd with hd | hd
                          · exact g1.hholds d (by simp only [List.mem_singleton] at hd; simp [hd])
                          · exact q7 d hd) (by
                          simp only [List.flatMap_append,List.flatMap_cons,List.flatMap_nil,List.append_nil]
                          exact List.perm_append_comm.nodup_iff.1 hnd.2) (fun y hy => by
                          simp only [List.flatMap_append,List.flatMap_cons,List.flatMap_nil,List.append_nil,List.mem_append] at hy
                          simp only [List.flatMap_cons,List.flatMap_nil,LT.blocks,List.append_nil,List.mem_append,List.mem_cons]
                          rcases hy with hy | hy
                          · exact .inr hy
                          · exact .inl (.inr hy))
                        have hax:ax = some ⟨b,0,none⟩:=by
                          have:=g2.1.symm.trans rfl
                          rw [hvx] at g2
                          simp only [LT.val,Value.slice.injEq] at g2
                          exact g2.1.1.symm
                        refine fin hsim g2.2 g3' rfl (by simpa using hnl) hm ⟨_,hax,fun j u hj => ?_⟩ hst
                        rw [List.getElem?_map,Option.map_eq_some_iff] at hj
                        obtain ⟨d,hd,rfl⟩:=hj
                        rw [add_own,Nat.zero_add,cell_at q1]
                        exact q3 j d hd
                    · simp at hst
                  · simp at hst
                · rename_i hcons
                  have hcf:consume = false:=by simpa using hcons
                  subst hcf
                  split at hst
                  · rename_i e0 n cs ks st1 hta
                    obtain ⟨ad,c,hv,tn,t1,t2,t3,t4⟩:=appSrc_copy h hxv hsrc
                    have hr2:SVRL (tsz P) L w I [a.eval s] [sv]:=by
                      simp only [SVRL]; exact ⟨_,_,rfl,hsv,rfl⟩
                    obtain ⟨L1,ts,g1,g2,g3,_⟩:=takeAll_sound _ h hr2 (by
                      intro v hv
                      simp only [List.mem_cons,List.not_mem_nil,or_false] at hv
                      subst hv
                      exact oneB_sound hsv ho1) (Stays.refl _ _) hta
                    obtain ⟨tsv,rfl⟩:∃ tsv,ts = [tsv]:=by
                      cases ts with
                      | nil => simp at g2
                      | cons t1 ts => cases ts with
                        | nil => exact ⟨t1,rfl⟩
                        | cons t2 ts => simp at g2
                    simp only [List.map_cons,List.map_nil,List.cons.injEq,and_true] at g2 g3
                    rw [List.nil_append] at g1
                    have hnil:tn.flatMap LT.blocks = []:=List.flatMap_eq_nil_iff.2 fun d hd => (t3 d hd).2
                    have hsim:Sim (tsz P) I bs A w0 st1 a w L1 ([tsv] ++ tn):=g1.rehand (fun d hd => by
                      rcases List.mem_append.1 hd with hd | hd
                      · exact g1.hholds d hd
                      · exact (t3 d hd).1) (by rw [List.flatMap_append,hnil,List.append_nil]; exact g1.hnodup) (fun y hy => by rw [List.flatMap_append,hnil,List.append_nil] at hy; exact hy)
                    have hpos:0 < tn.length:=by rw [t2]; exact Nat.mul_pos (by omega) hsz
                    obtain ⟨y,hy,hc⟩:=t4 hpos
                    refine fin hsim g2 g3 t1 t2 hm ⟨y,?_,hc⟩ hst
                    rw [hvx] at hv
                    simp only [Value.slice.injEq] at hv
                    rw [hv.1]; exact hy
                  · simp at hst
            · simp at hst
          · simp at hst
        · simp at hst
      · simp at hst
    · simp at hst
  · simp at hst
end
end Go.V

namespace Go.V
open Go.RowKit
set_option linter.unusedSimpArgs false
set_option linter.unusedVariables false

/-! ### what a call is handed, with its blocks -/
inductive LV where
  | c (t:LT)
  | agg (ts:List LT)
  | tup (vs:List LV)
  | bp (t:LT)
  | ip (k:Nat) (x:Addr) (ps:List PT)
  | dup (t:LT) (v1 v2:Value)
  | clo (g:FuncId) (ts:List LT)

/-- A value that leads to a tree as a whole. -/
def RefT (sz:Nat → Nat):LT → Value → Prop
  | .own b cap0 e n cs,v => ∃ o cap,v = .slice (some ⟨b,o,none⟩) n cap ∧ (cap = 0 ∨ o = 0) ∧ n ≤ cap ∧ 0 + n * sz e ≤ cs.length ∧ 0 + cap * sz e = cap0 * sz e
  | .leaf u (.sl 0 _ 0 []),v => v = u ∧ ∃ a,v = .slice a 0 0
  | _,_ => False
def LT.ptr:LT → Value
  | .own b _ _ _ _ => .pointer (some ⟨b,0,none⟩)
  | .leaf v _ => v
mutual
def LV.val:LV → Value
  | .c t => t.val
  | .agg ts => .agg (ts.map LT.val).toArray
  | .tup vs => .tuple (LV.valL vs).toArray
  | .bp t => t.ptr
  | .ip _ x _ => .pointer (some x)
  | .dup _ v1 v2 => .tuple #[v1,v2]
  | .clo g ts => .func (.func g) #[] (ts.map LT.ptr).toArray
def LV.valL:List LV → List Value
  | [] => []
  | v :: vs => v.val :: LV.valL vs
end
mutual
def LV.erase:LV → PV
  | .c t => .c t.erase
  | .agg ts => .agg (ts.map LT.erase)
  | .tup vs => .tup (LV.eraseL vs)
  | .bp t => .bp t.erase
  | .ip k _ ps => .ip k ps
  | .dup t _ _ => .dup t.erase
  | .clo g ts => .clo g (ts.map LT.erase)
def LV.eraseL:List LV → List PV
  | [] => []
  | v :: vs => v.erase :: LV.eraseL vs
end
mutual
def LV.blocks:LV → List Nat
  | .c t => t.blocks
  | .agg ts => ts.flatMap LT.blocks
  | .tup vs => LV.blocksL vs
  | .bp t => t.blocks
  | .ip _ _ _ => []
  | .dup t _ _ => t.blocks
  | .clo _ ts => ts.flatMap LT.blocks
def LV.blocksL:List LV → List Nat
  | [] => []
  | v :: vs => v.blocks ++ LV.blocksL vs
end
mutual
def LV.holds (sz:Nat → Nat) (w:World) (I:Nat → Nat → Prop):LV → Prop
  | .c t => t.holds sz w I
  | .agg ts => ∀ t ∈ ts,t.holds sz w I
  | .tup vs => LV.holdsL sz w I vs
  | .bp t => t.holds sz w I ∧ ∃ b cap e cs,t = .own b cap e 1 cs
  | .ip k x ps => ImL w I k (some x) 0 ps
  | .dup t v1 v2 => t.holds sz w I ∧ RefT sz t v1 ∧ RefT sz t v2
  | .clo _ ts => ∀ t ∈ ts,t.holds sz w I ∧ ∃ b cap e cs,t = .own b cap e 1 cs
def LV.holdsL (sz:Nat → Nat) (w:World) (I:Nat → Nat → Prop):List LV → Prop
  | [] => True
  | v :: vs => v.holds sz w I ∧ LV.holdsL sz w I vs
end
theorem LV.valL_eq:∀ l:List LV,LV.valL l = l.map LV.val
  | [] => by simp [LV.valL]
  | v :: vs => by simp [LV.valL,LV.valL_eq vs]
theorem LV.eraseL_eq:∀ l:List LV,LV.eraseL l = l.map LV.erase
  | [] => by simp [LV.eraseL]
  | v :: vs => by simp [LV.eraseL,LV.eraseL_eq vs]
theorem LV.blocksL_eq:∀ l:List LV,LV.blocksL l = l.flatMap LV.blocks
  | [] => by simp [LV.blocksL]
  | v :: vs => by simp [LV.blocksL,LV.blocksL_eq vs]
theorem LV.holdsL_iff {sz:Nat → Nat} {w:World} {I:Nat → Nat → Prop}:∀ l:List LV,LV.holdsL sz w I l ↔ ∀ v ∈ l,v.holds sz w I
  | [] => by simp [LV.holdsL]
  | v :: vs => by simp [LV.holdsL,LV.holdsL_iff vs]

/-- The trees in it. -/
def LV.trees:LV → List LT
  | .c t => [t]
  | .agg ts => ts
  | .tup vs => treesL vs
  | .bp t => [t]
  | .ip _ _ _ => []
  | .dup t _ _ => [t]
  | .clo _ ts => ts
where treesL:List LV → List LT
  | [] => []
  | v :: vs => v.trees ++ treesL vs
theorem LV.treesL_eq:∀ l:List LV,LV.trees.treesL l = l.flatMap LV.trees
  | [] => by simp [LV.trees.treesL]
  | v :: vs => by simp [LV.trees.treesL,LV.treesL_eq vs]
def LV.full (l:LV):List Value:=l.trees.map LT.val

section
variable {sz:Nat → Nat} {I I':Nat → Nat → Prop} {bs:List Nat} {A:AD} {w0 w w':World} {st st' st1:St} {a:Act} {L L0:Loc} {hand hand':List LT} {P:Program} {o:Oper} {Q:Exit → Act → World → Prop}

theorem PT.unownL_eq:∀ l:List PT,PT.unownL l = l.map PT.unown
  | [] => by simp [PT.unownL]
  | c :: cs => by simp [PT.unownL,PT.unownL_eq cs]
theorem PT.noTmpL_iff:∀ l:List PT,PT.noTmpL l = true ↔ ∀ c ∈ l,c.noTmp = true
  | [] => by simp [PT.noTmpL]
  | c :: cs => by simp [PT.noTmpL,PT.noTmpL_iff cs]

/-- What is only read may be read as kind 1. -/
theorem Im.lift1 (hI:∀ k b,I k b → I' k b) (h1:∀ k b,I k b → I' 1 b):(∀ v p,Im w I v p → Im w I' v p.unown) ∧ (∀ k (a:Option Addr) j cs,ImL w I k a j cs → ImL w I' 1 a j (PT.unownL cs)) ∧ (∀ k vs cs,ImC w I k vs cs → ImC w I' 1 vs (PT.unownC cs)):=by
  have key:∀ n:Nat,(∀ v p,SizeOf.sizeOf p < n → Im w I v p → Im w I' v p.unown) ∧ (∀ k (a:Option Addr) j (cs:List PT),SizeOf.sizeOf cs < n → ImL w I k a j cs → ImL w I' 1 a j (PT.unownL cs)) ∧ (∀ k vs (cs:List (List PT)),SizeOf.sizeOf cs < n → ImC w I k vs cs → ImC w I' 1 vs (PT.unownC cs)):=by
    intro n
    induction n with
    | zero => exact ⟨fun _ _ h => by omega,fun _ _ _ _ h => by omega,fun _ _ _ h => by omega⟩
    | succ n ih =>
      refine ⟨?_,?_,?_⟩
      · intro v p hs h
        cases p with
        | raw u => simpa [PT.unown,Im] using h
        | hole => simp [PT.unown,Im]
        | sl o e k cs =>
          cases o with
          | zero =>
            simp only [Im] at h
            obtain ⟨rfl,rfl,ad,rfl⟩:=h
            simp only [PT.unown,PT.unownL,Im,ImL]
            exact ⟨ad,0,rfl,Nat.le_refl _,trivial⟩
          | succ o =>
            simp only [Im,PT.unown] at h ⊢
            obtain ⟨a,cap,hv,hn,hl⟩:=h
            exact ⟨a,cap,hv,hn,ih.2.1 _ _ _ _ (by simp at hs; omega) hl⟩
        | fn k g caps =>
          simp only [Im,PT.unown] at h ⊢
          obtain ⟨vs,hv,hc⟩:=h
          exact ⟨vs,hv,ih.2.2 _ _ _ (by simp at hs; omega) hc⟩
      · intro k a j cs hs h
        cases cs with
        | nil => simp [PT.unownL,ImL]
        | cons c cs =>
          simp only [ImL,PT.unownL] at h ⊢
          obtain ⟨⟨x,u,ha,hx,hcell,ho,hu⟩,hr⟩:=h
          exact ⟨⟨x,u,ha,h1 _ _ hx,hcell,ho,ih.1 _ _ (by simp at hs; omega) hu⟩,ih.2.1 _ _ _ _ (by simp at hs; omega) hr⟩
      · intro k vs cs hs h
        cases cs with
        | nil => simpa [PT.unownC,ImC] using h
        | cons c cs =>
          simp only [ImC,PT.unownC] at h ⊢
          obtain ⟨x,vs',hv,hl,hr⟩:=h
          exact ⟨x,vs',hv,ih.2.1 _ _ _ _ (by simp at hs; omega) hl,ih.2.2 _ _ _ (by simp at hs; omega) hr⟩
  exact ⟨fun v p => (key (SizeOf.sizeOf p + 1)).1 v p (Nat.lt_succ_self _),fun k a j cs => (key (SizeOf.sizeOf cs + 1)).2.1 k a j cs (Nat.lt_succ_self _),fun k vs cs => (key (SizeOf.sizeOf cs + 1)).2.2 k vs cs (Nat.lt_succ_self _)⟩

/-- What is one's own may be read, as kind 1. -/
theorem own_imm (hI:∀ k b,I k b → I' k b) (h1:∀ k b,I k b → I' 1 b):∀ t:LT,t.holds sz w I → (∀ b ∈ t.blocks,I' 1 b) → Im w I' t.val t.erase.unown:=by
  refine LT.ind ?_ ?_
  · intro v p h _
    simp only [LT.holds] at h
    simp only [LT.val,LT.erase]
    exact (Im.lift1 hI h1).1 _ _ h.1
  · intro b cap e n cs ih h hb
    simp only [LT.holds] at h
    obtain ⟨⟨arr,h1,h2,h3⟩,h4,h5,h6,h7⟩:=h
    simp only [LT.val,LT.erase,PT.unown,Im]
    refine ⟨_,_,rfl,h5,?_⟩
    have key:∀ (ds:List LT) (j:Nat),(∀ i d,ds[i]? = some d → cs[j + i]? = some d) → ImL w I' 1 (some ⟨b,0,none⟩) j (PT.unownL (ds.map LT.erase)):=by
      intro ds
      induction ds with
      | nil => intro j _; simp [PT.unownL,ImL]
      | cons d ds ihd =>
        intro j hd
        have hdj:=hd 0 d rfl
        have hdm:=List.mem_of_getElem? hdj
        simp only [List.map_cons,PT.unownL,ImL]
        refine ⟨⟨_,d.val,rfl,hb b (by simp [LT.blocks]),?_,LT.holds_one (h7 d hdm),ih d hdm (h7 d hdm) fun x hx => hb x (by simp only [LT.blocks]; exact List.mem_cons_of_mem _ (List.mem_flatMap.2 ⟨d,hdm,hx⟩))⟩,ihd (j + 1) fun i d' hd' => ?_⟩
        · rw [add_own,Nat.zero_add,cell_at h1]; exact h3 j d hdj
        · have:=hd (i + 1) d' (by simpa using hd'); rwa [show j + 1 + i = j + (i + 1) by omega]
    exact key cs 0 fun i d hd => by simpa using hd

/-- What holds nothing of kind 1 needs no leave to read it. -/
theorem Im.noTmp (hI:∀ k b,k ≠ 1 → I' k b → I k b):(∀ v p,p.noTmp = true → Im w I' v p → Im w I v p) ∧ (∀ k (a:Option Addr) j cs,PT.noTmpL cs = true → (k ≠ 1 ∨ cs = []) → ImL w I' k a j cs → ImL w I k a j cs) ∧ (∀ k vs cs,PT.noTmpC cs = true → (k ≠ 1 ∨ PT.emptyC cs = true) → ImC w I' k vs cs → ImC w I k vs cs):=by
  have key:∀ n:Nat,(∀ v p,SizeOf.sizeOf p < n → p.noTmp = true → Im w I' v p → Im w I v p) ∧ (∀ k (a:Option Addr) j (cs:List PT),SizeOf.sizeOf cs < n → PT.noTmpL cs = true → (k ≠ 1 ∨ cs = []) → ImL w I' k a j cs → ImL w I k a j cs) ∧ (∀ k vs (cs:List (List PT)),SizeOf.sizeOf cs < n → PT.noTmpC cs = true → (k ≠ 1 ∨ PT.emptyC cs = true) → ImC w I' k vs cs → ImC w I k vs cs):=by
    intro n
    induction n with
    | zero => exact ⟨fun _ _ h => by omega,fun _ _ _ _ h => by omega,fun _ _ _ h => by omega⟩
    | succ n ih =>
      refine ⟨?_,?_,?_⟩
      · intro v p hs hn h
        cases p with
        | raw u => simpa [Im] using h
        | hole => trivial
        | sl o e k cs =>
          simp only [PT.noTmp,Bool.and_eq_true,Bool.or_eq_true,bne_iff_ne,ne_eq,List.isEmpty_iff] at hn
          cases o with
          | zero => simpa [Im] using h
          | succ o =>
            simp only [Im] at h ⊢
            obtain ⟨a,cap,hv,hnn,hl⟩:=h
            exact ⟨a,cap,hv,hnn,ih.2.1 _ _ _ _ (by simp at hs; omega) hn.2 hn.1 hl⟩
        | fn k g caps =>
          simp only [PT.noTmp,Bool.and_eq_true,Bool.or_eq_true,bne_iff_ne,ne_eq] at hn
          simp only [Im] at h ⊢
          obtain ⟨vs,hv,hc⟩:=h
          exact ⟨vs,hv,ih.2.2 _ _ _ (by simp at hs; omega) hn.2 hn.1 hc⟩
      · intro k a j cs hs hn hk h
        cases cs with
        | nil => simp [ImL]
        | cons c cs =>
          simp only [PT.noTmpL,Bool.and_eq_true] at hn
          have hk1:k ≠ 1:=hk.resolve_right (by simp)
          simp only [ImL] at h ⊢
          obtain ⟨⟨x,u,ha,hx,hcell,ho,hu⟩,hr⟩:=h
          exact ⟨⟨x,u,ha,hI _ _ hk1 hx,hcell,ho,ih.1 _ _ (by simp at hs; omega) hn.1 hu⟩,ih.2.1 _ _ _ _ (by simp at hs; omega) hn.2 (.inl hk1) hr⟩
      · intro k vs cs hs hn hk h
        cases cs with
        | nil => simpa [ImC] using h
        | cons c cs =>
          simp only [PT.noTmpC,Bool.and_eq_true] at hn
          simp only [ImC] at h ⊢
          obtain ⟨x,vs',hv,hl,hr⟩:=h
          refine ⟨x,vs',hv,ih.2.1 _ _ _ _ (by simp at hs; omega) hn.1 ?_ hl,ih.2.2 _ _ _ (by simp at hs; omega) hn.2 ?_ hr⟩
          · rcases hk with hk | hk
            · exact .inl hk
            · simp only [PT.emptyC,Bool.and_eq_true,List.isEmpty_iff] at hk; exact .inr hk.1
          · rcases hk with hk | hk
            · exact .inl hk
            · simp only [PT.emptyC,Bool.and_eq_true] at hk; exact .inr hk.2
  exact ⟨fun v p => (key (SizeOf.sizeOf p + 1)).1 v p (Nat.lt_succ_self _),fun k a j cs => (key (SizeOf.sizeOf cs + 1)).2.1 k a j cs (Nat.lt_succ_self _),fun k vs cs => (key (SizeOf.sizeOf cs + 1)).2.2 k vs cs (Nat.lt_succ_self _)⟩
theorem LT.noTmp (hI:∀ k b,k ≠ 1 → I' k b → I k b):∀ t:LT,t.erase.noTmp = true → t.holds sz w I' → t.holds sz w I:=by
  refine LT.ind ?_ ?_
  · intro v p hn h
    simp only [LT.holds,LT.erase] at h hn ⊢
    exact ⟨(Im.noTmp hI).1 _ _ hn h.1,h.2⟩
  · intro b cap e n cs ih hn h
    simp only [LT.holds,LT.erase,PT.noTmp,Bool.and_eq_true] at h hn ⊢
    refine ⟨h.1,h.2.1,h.2.2.1,h.2.2.2.1,fun c hc => ih c hc ?_ (h.2.2.2.2 c hc)⟩
    exact (PT.noTmpL_iff _).1 hn.2 c.erase (List.mem_map_of_mem hc)
end
end Go.V

namespace Go.V
open Go.RowKit
set_option linter.unusedSimpArgs false
set_option linter.unusedVariables false

/-! ### the state at a function's entry -/
def cellEntry (i j:Nat):PT → SV
  | .sl 0 _ n _ => .ref ⟨.arg i j,[]⟩ 0 n
  | .hole => .junk
  | p => .t p
def cellEntries (i:Nat):Nat → List PT → List SV
  | _,[] => []
  | j,p :: ps => cellEntry i j p :: cellEntries i (j + 1) ps
def entrySV (i:Nat):PV → SV
  | .c p => cellEntry i 0 p
  | .agg ps => .agg (cellEntries i 0 ps)
  | .bp _ => .ptr ⟨.arg i 0,[]⟩ 0
  | .ip k ps => .ip k ps
  | .tup _ => .junk
  | .dup _ => .junk
  | .clo _ _ => .junk
def entrySVs:Nat → List PV → List SV
  | _,[] => []
  | i,x :: xs => entrySV i x :: entrySVs (i + 1) xs
def slP (p:PT):Option PT:=if p.isSl then some p else none
def PV.at (j:Nat):PV → Option PT
  | .c p => if j = 0 then slP p else none
  | .agg ps => (ps[j]?).bind slP
  | .bp p => if j = 0 then some p else none
  | _ => none
def entryHp (args:List PV):Id → Option PT
  | .arg i j => (args[i]?).bind (PV.at j)
  | _ => none
def entrySt (args:List PV) (n:Nat):St:=⟨entrySVs 0 args ++ List.replicate (n - args.length) (.t (.raw undef)),entryHp args⟩

def slT (t:LT):Option LT:=if t.erase.isSl then some t else none
def LV.at (j:Nat):LV → Option LT
  | .c t => if j = 0 then slT t else none
  | .agg ts => (ts[j]?).bind slT
  | .bp t => if j = 0 then some t else none
  | _ => none
def entryL (las:List LV):Loc
  | .arg i j => (las[i]?).bind (LV.at j)
  | _ => none

theorem slT_some {t u:LT} (h:slT t = some u):u = t ∧ t.erase.isSl = true:=by
  unfold slT at h
  split at h
  · cases h; exact ⟨rfl,by assumption⟩
  · simp at h
theorem nodup_at {α β:Type} (f:α → List β) {cs:List α} {i:Nat} {c:α} (hn:(cs.flatMap f).Nodup) (hc:cs[i]? = some c):(f c).Nodup ∧ ∀ j d,j ≠ i → cs[j]? = some d → ∀ x ∈ f c,x ∉ f d:=by
  obtain ⟨rest,h1,_,h3⟩:=flat_split f cs i c hc
  have:=List.nodup_append.1 (h1.nodup_iff.1 hn)
  exact ⟨this.1,fun j d hj hd x hx hxd => this.2.2 x hx x (h3 j d hj hd x hxd) rfl⟩
theorem LV.at_blocks {la:LV} {j:Nat} {t:LT} (h:la.at j = some t):∀ b ∈ t.blocks,b ∈ la.blocks:=by
  cases la with
  | c u =>
    simp only [LV.at] at h
    split at h
    · obtain ⟨rfl,_⟩:=slT_some h; simp [LV.blocks]
    · simp at h
  | agg ts =>
    simp only [LV.at,Option.bind_eq_some_iff] at h
    obtain ⟨u,hu,h⟩:=h
    obtain ⟨rfl,_⟩:=slT_some h
    intro b hb
    simp only [LV.blocks]
    exact List.mem_flatMap.2 ⟨_,List.mem_of_getElem? hu,hb⟩
  | bp u =>
    simp only [LV.at] at h
    split at h
    · cases h; simp [LV.blocks]
    · simp at h
  | _ => simp [LV.at] at h
theorem LV.at_nodup {la:LV} {j:Nat} {t:LT} (h:la.at j = some t) (hn:la.blocks.Nodup):t.blocks.Nodup ∧ ∀ j' t',j' ≠ j → la.at j' = some t' → ∀ b ∈ t.blocks,b ∉ t'.blocks:=by
  cases la with
  | c u =>
    simp only [LV.at] at h
    split at h
    · rename_i hj
      obtain ⟨rfl,_⟩:=slT_some h
      refine ⟨by simpa [LV.blocks] using hn,fun j' t' hj' ht' => ?_⟩
      simp only [LV.at] at ht'
      rw [if_neg (by omega)] at ht'
      simp at ht'
    · simp at h
  | agg ts =>
    simp only [LV.at,Option.bind_eq_some_iff] at h
    obtain ⟨u,hu,h⟩:=h
    obtain ⟨rfl,_⟩:=slT_some h
    simp only [LV.blocks] at hn
    obtain ⟨n1,n2⟩:=nodup_at LT.blocks hn hu
    refine ⟨n1,fun j' t' hj' ht' => ?_⟩
    simp only [LV.at,Option.bind_eq_some_iff] at ht'
    obtain ⟨u',hu',ht'⟩:=ht'
    obtain ⟨rfl,_⟩:=slT_some ht'
    exact n2 j' _ hj' hu'
  | bp u =>
    simp only [LV.at] at h
    split at h
    · rename_i hj
      cases h
      refine ⟨by simpa [LV.blocks] using hn,fun j' t' hj' ht' => ?_⟩
      simp only [LV.at] at ht'
      rw [if_neg (by omega)] at ht'
      simp at ht'
    · simp at h
  | _ => simp [LV.at] at h
section
variable {sz:Nat → Nat} {I I':Nat → Nat → Prop} {bs:List Nat} {A:AD} {w0 w w':World} {st st' st1:St} {a:Act} {L L0:Loc} {hand hand':List LT} {P:Program} {o:Oper} {Q:Exit → Act → World → Prop}
theorem LV.at_holds {la:LV} {j:Nat} {t:LT} (h:la.at j = some t) (hh:la.holds sz w I):t.holds sz w I:=by
  cases la with
  | c u =>
    simp only [LV.at] at h
    split at h
    · obtain ⟨rfl,_⟩:=slT_some h; simpa [LV.holds] using hh
    · simp at h
  | agg ts =>
    simp only [LV.at,Option.bind_eq_some_iff] at h
    obtain ⟨u,hu,h⟩:=h
    obtain ⟨rfl,_⟩:=slT_some h
    simp only [LV.holds] at hh
    exact hh _ (List.mem_of_getElem? hu)
  | bp u =>
    simp only [LV.at] at h
    split at h
    · cases h; simp only [LV.holds] at hh; exact hh.1
    · simp at h
  | _ => simp [LV.at] at h
theorem slT_erase (t:LT):(slT t).map LT.erase = slP t.erase:=by
  unfold slT slP
  split <;> rfl
theorem LV.at_erase (la:LV) (j:Nat):(la.at j).map LT.erase = la.erase.at j:=by
  cases la with
  | c t => simp only [LV.at,LV.erase,PV.at]; split <;> simp [slT_erase]
  | agg ts =>
    simp only [LV.at,LV.erase,PV.at,List.getElem?_map]
    cases ts[j]? <;> simp [slT_erase]
  | bp t => simp only [LV.at,LV.erase,PV.at]; split <;> rfl
  | tup vs => simp [LV.at,LV.erase,PV.at]
  | dup t v1 v2 => simp [LV.at,LV.erase,PV.at]
  | clo g t => simp [LV.at,LV.erase,PV.at]
  | ip k x ps => simp [LV.at,LV.erase,PV.at]

theorem cellEntry_sound {las:List LV} {i j:Nat} {t:LT} (ht:t.holds sz w I) (hl:t.erase.isSl = true → entryL las (.arg i j) = some t):SVR sz (entryL las) w I t.val (cellEntry i j t.erase):=by
  cases t with
  | leaf v p =>
    simp only [LT.holds] at ht
    simp only [LT.erase,LT.val] at hl ⊢
    cases p with
    | sl k e n cs =>
      cases k with
      | zero =>
        have h1:=ht.1
        simp only [Im] at h1
        obtain ⟨rfl,rfl,ad,rfl⟩:=h1
        simp only [cellEntry,SVR]
        refine .inr ⟨e,?_,trivial,trivial,ad,rfl⟩
        simp [look,hl (by simp [PT.isSl]),LT.get]
      | succ k => simp only [cellEntry,SVR]; exact ht.1
    | hole => simp [cellEntry,SVR]
    | raw u => simp only [cellEntry,SVR]; exact ht.1
    | fn k g c => simp only [cellEntry,SVR]; exact ht.1
  | own b cap e n cs =>
    simp only [LT.holds] at ht
    obtain ⟨⟨arr,h1,h2,h3⟩,h4,h5,h6,h7⟩:=ht
    simp only [LT.erase,LT.val,cellEntry,SVR] at hl ⊢
    refine .inl ⟨b,cap,e,n,cs,0,cap,?_,rfl,.inr rfl,h5,by omega,by omega⟩
    simp [look,hl (by simp [PT.isSl]),LT.get]
theorem cellEntries_sound {las:List LV} {i:Nat}:∀ (ts:List LT) (j:Nat),(∀ t ∈ ts,t.holds sz w I) → (∀ k t,ts[k]? = some t → t.erase.isSl = true → entryL las (.arg i (j + k)) = some t) →
    SVRL sz (entryL las) w I (ts.map LT.val) (cellEntries i j (ts.map LT.erase))
  | [],_,_,_ => by simp [cellEntries,SVRL]
  | t :: ts,j,h,hl => by
    simp only [List.map_cons,cellEntries,SVRL]
    refine ⟨_,_,rfl,cellEntry_sound (h t (by simp)) (fun hs => by simpa using hl 0 t rfl hs),cellEntries_sound ts (j + 1) (fun u hu => h u (by simp [hu])) fun k u hu hs => ?_⟩
    have:=hl (k + 1) u (by simpa using hu) hs
    rwa [show j + 1 + k = j + (k + 1) by omega]
theorem entrySV_sound {las:List LV} {i:Nat} {la:LV} (hi:las[i]? = some la) (hh:la.holds sz w I):SVR sz (entryL las) w I la.val (entrySV i la.erase):=by
  have hl:∀ j t,la.at j = some t → entryL las (.arg i j) = some t:=fun j t h => by simp [entryL,hi,h]
  cases la with
  | c t =>
    simp only [LV.holds] at hh
    simp only [LV.val,LV.erase,entrySV]
    exact cellEntry_sound hh fun hs => hl 0 t (by simp [LV.at,slT,hs])
  | agg ts =>
    simp only [LV.holds] at hh
    simp only [LV.val,LV.erase,entrySV,SVR]
    refine ⟨_,rfl,cellEntries_sound ts 0 hh fun k t ht hs => ?_,fun u hu => ?_⟩
    · rw [Nat.zero_add]; exact hl k t (by simp [LV.at,ht,slT,hs])
    · obtain ⟨t,ht,rfl⟩:=List.mem_map.1 hu; exact LT.holds_one (hh t ht)
  | tup vs => simp [LV.erase,entrySV,SVR]
  | dup t v1 v2 => simp [LV.erase,entrySV,SVR]
  | clo g t => simp [LV.erase,entrySV,SVR]
  | bp t =>
    simp only [LV.holds] at hh
    obtain ⟨_,b,cap,e,cs,rfl⟩:=hh
    simp only [LV.val,LV.erase,entrySV,SVR,LT.ptr]
    exact ⟨b,cap,e,1,cs,by simp [look,hl 0 (.own b cap e 1 cs) (by simp [LV.at]),LT.get],rfl⟩
  | ip k x ps =>
    simp only [LV.holds] at hh
    simp only [LV.val,LV.erase,entrySV,SVR]
    exact ⟨x,rfl,hh⟩
theorem entrySVs_sound {las:List LV}:∀ (l:List LV) (i:Nat),(∀ k la,l[k]? = some la → las[i + k]? = some la) → (∀ la ∈ l,la.holds sz w I) → SVRL sz (entryL las) w I (l.map LV.val) (entrySVs i (l.map LV.erase))
  | [],_,_,_ => by simp [entrySVs,SVRL]
  | la :: l,i,hl,hh => by
    simp only [List.map_cons,entrySVs,SVRL]
    refine ⟨_,_,rfl,entrySV_sound (by simpa using hl 0 la rfl) (hh la (by simp)),entrySVs_sound l (i + 1) (fun k x hx => ?_) fun x hx => hh x (by simp [hx])⟩
    have:=hl (k + 1) x (by simpa using hx)
    rwa [show i + 1 + k = i + (k + 1) by omega]
theorem SVRL.undefs (n:Nat):SVRL sz L w I (List.replicate n undef) (List.replicate n (.t (.raw undef))):=by
  induction n with
  | zero => simp [SVRL]
  | succ n ih => simp only [List.replicate_succ,SVRL]; exact ⟨_,_,rfl,by simp [SVR,Im],ih⟩

theorem Sim.entry (las:List LV) (hh:∀ la ∈ las,la.holds sz w I) (hn:(las.flatMap LV.blocks).Nodup) (hI:∀ k b,I k b → b < w.heap.size ∧ b ∉ las.flatMap LV.blocks) (n:Nat) :
    Sim sz I (las.flatMap LV.blocks) ⟨fun i j => (entryL las (.arg i j)).map LT.val,[]⟩ w (entrySt (las.map LV.erase) n) { tmps:=(las.map LV.val).toArray ++ Array.replicate (n - (las.map LV.val).toArray.size) undef,defers:=[] } w (entryL las) []:=by
  have hcase:∀ id t,entryL las id = some t → ∃ i j la,id = .arg i j ∧ las[i]? = some la ∧ la.at j = some t:=by
    intro id t h
    cases id with
    | op r i j => simp [entryL] at h
    | arg i j =>
      simp only [entryL,Option.bind_eq_some_iff] at h
      obtain ⟨la,h1,h2⟩:=h
      exact ⟨i,j,la,rfl,h1,h2⟩
  exact
    { keeps:=Kp.refl _ _
      imm:=hI
      er:=by
        intro id
        cases id with
        | op r i j => rfl
        | arg i j =>
          simp only [entryL,entrySt,entryHp,List.getElem?_map]
          cases las[i]? with
          | none => rfl
          | some la => simp [LV.at_erase]
      holds:=by
        intro id t h
        obtain ⟨i,j,la,rfl,h1,h2⟩:=hcase id t h
        exact LV.at_holds h2 (hh la (List.mem_of_getElem? h1))
      nodup:=by
        intro id t h
        obtain ⟨i,j,la,rfl,h1,h2⟩:=hcase id t h
        exact (LV.at_nodup h2 (nodup_at LV.blocks hn h1).1).1
      own:=by
        intro id t h b hb
        obtain ⟨i,j,la,rfl,h1,h2⟩:=hcase id t h
        exact .inl (List.mem_flatMap.2 ⟨la,List.mem_of_getElem? h1,LV.at_blocks h2 b hb⟩)
      apart:=by
        intro id id' t t' hne h h' b hb
        obtain ⟨i,j,la,rfl,h1,h2⟩:=hcase id t h
        obtain ⟨i',j',la',rfl,h1',h2'⟩:=hcase id' t' h'
        by_cases hii:i = i'
        · subst hii
          rw [h1] at h1'
          cases h1'
          have hjj:j' ≠ j:=by rintro rfl; exact hne rfl
          exact (LV.at_nodup h2 (nodup_at LV.blocks hn h1).1).2 j' t' hjj h2' b hb
        · exact fun hb' => (nodup_at LV.blocks hn h1).2 i' la' (Ne.symm hii) h1' b (LV.at_blocks h2 b hb) (LV.at_blocks h2' b hb')
      hholds:=by simp
      hnodup:=by simp
      hown:=by simp
      hapart:=by simp
      slots:=by
        simp only [Array.toList_append,List.size_toArray,List.length_map,Array.toList_replicate,entrySt]
        exact (entrySVs_sound las 0 (fun k la h => by simpa using h) hh).append (SVRL.undefs _)
      nodef:=rfl
      args:=by
        intro i j v hv
        simp only [Option.map_eq_some_iff] at hv
        exact hv }
end
end Go.V

namespace Go.V
open Go.RowKit
set_option linter.unusedSimpArgs false
set_option linter.unusedVariables false

/-! ### what a function hands back -/
def resSV (P:Program) (st:St):ResultVar → Option SV
  | .tmp t => st.sl[t]?
  | .cell a t => match st.sl[a]? with
    | some s => loadSV P st t s
    | none => none
def resSVs (P:Program) (st:St):List ResultVar → Option (List SV)
  | [] => some []
  | r :: rs => match resSV P st r,resSVs P st rs with
    | some s,some ss => some (s :: ss)
    | _,_ => none
def regroup:List SV → List PT → List PV
  | [],_ => []
  | .agg l :: ss,ps => .agg (ps.take l.length) :: regroup ss (ps.drop l.length)
  | _ :: ss,p :: ps => .c p :: regroup ss ps
  | _ :: _,[] => []
def regroupL:List SV → List LT → List LV
  | [],_ => []
  | .agg l :: ss,ps => .agg (ps.take l.length) :: regroupL ss (ps.drop l.length)
  | _ :: ss,p :: ps => .c p :: regroupL ss ps
  | _ :: _,[] => []
def retPV:List PV → PV
  | [x] => x
  | l => .tup l
def retLV:List LV → LV
  | [x] => x
  | l => .tup l
def outP (hp:Id → Option PT) (i j:Nat) (p:PT):Option PT:=if p.isSl then hp (.arg i j) else some p
def outPs (hp:Id → Option PT) (i:Nat):Nat → List PT → Option (List PT)
  | _,[] => some []
  | j,p :: ps => match outP hp i j p,outPs hp i (j + 1) ps with
    | some q,some qs => some (q :: qs)
    | _,_ => none
def outV (hp:Id → Option PT) (i:Nat):PV → Option PV
  | .c p => (outP hp i 0 p).map .c
  | .agg ps => (outPs hp i 0 ps).map .agg
  | .bp _ => match hp (.arg i 0) with
    | some (.sl 0 e 1 cs) => some (.bp (.sl 0 e 1 cs))
    | _ => none
  | .ip k ps => some (.ip k ps)
  | .tup _ => none
  | .dup _ => none
  | .clo _ _ => none
def outVs (hp:Id → Option PT):Nat → List PV → Option (List PV)
  | _,[] => some []
  | i,x :: xs => match outV hp i x,outVs hp (i + 1) xs with
    | some q,some qs => some (q :: qs)
    | _,_ => none
def stRet (P:Program) (fn:Func) (args:List PV) (st:St):Option (PV × List PV) :=
  match resSVs P st fn.results.toList with
  | none => none
  | some ss => if ss.all SV.compsB = true then match takeAll (tsz P) st [] (ss.flatMap comps) with
      | some (ps,_,st1) => match outVs st1.hp 0 args with
        | some outs => some (retPV (regroup ss ps),outs)
        | none => none
      | none => none
    else none

section
variable {sz:Nat → Nat} {I I':Nat → Nat → Prop} {bs:List Nat} {A:AD} {w0 w w':World} {st st' st1:St} {a:Act} {L L0:Loc} {hand hand':List LT} {P:Program} {o:Oper} {Q:Exit → Act → World → Prop}

def resSem (tmps:Array Value):ResultVar → Sem Value
  | .tmp t => pure (tmps.getD t undef)
  | .cell a t => do loadVar t (← asAddr (tmps.getD a undef))
theorem resSV_sound (h:Sim sz I bs A w0 st a w L hand):∀ {r:ResultVar} {s:SV},resSV P st r = some s → ∃ v,(resSem a.tmps r).run P w = .ok v w ∧ SVR sz L w I v s:=by
  intro r s hr
  have slot:∀ (t:Nat) (s:SV),st.sl[t]? = some s → SVR sz L w I (a.tmps.getD t undef) s:=by
    intro t s ht
    obtain ⟨v,hv,hsv⟩:=h.slots.at_ t s ht
    rw [Array.getElem?_toList] at hv
    rw [Array.getD_eq_getD_getElem?,hv]
    exact hsv
  cases r with
  | tmp t =>
    simp only [resSV] at hr
    exact ⟨_,rfl,slot t s hr⟩
  | cell x t =>
    simp only [resSV] at hr
    split at hr
    · rename_i s' hs'
      obtain ⟨y,v',hv,hrun,hsv⟩:=loadSV_sound h (slot x s' hs') hr
      refine ⟨v',?_,hsv⟩
      simp only [resSem,hv,asAddr,Sem.run_bind,Sem.run_pure,Result.andThen_ok,hrun]
    · simp at hr
theorem resSVs_sound (h:Sim sz I bs A w0 st a w L hand):∀ {rs:List ResultVar} {ss:List SV},resSVs P st rs = some ss → ∃ vs,
    (rs.mapM (resSem a.tmps)).run P w = .ok vs w ∧ SVRL sz L w I vs ss
  | [],ss,hr => by
    simp only [resSVs,Option.some.injEq] at hr
    subst hr
    exact ⟨[],by simp,by simp [SVRL]⟩
  | r :: rs,ss,hr => by
    simp only [resSVs] at hr
    split at hr
    · rename_i s ss' h1 h2
      cases hr
      obtain ⟨v,g1,g2⟩:=resSV_sound h h1
      obtain ⟨vs,g3,g4⟩:=resSVs_sound h h2
      refine ⟨v :: vs,?_,by simp only [SVRL]; exact ⟨v,vs,rfl,g2,g4⟩⟩
      simp only [List.mapM_cons,Sem.run_bind,g1,Result.andThen_ok,g3,Sem.run_pure]
    · simp at hr
theorem results_sound (h:Sim sz I bs A w0 st a w L hand) {fn:Func} {ss:List SV} (hr:resSVs P st fn.results.toList = some ss):∃ vs,(results fn a.tmps).run P w = .ok (match vs with | [v] => v | _ => .tuple vs.toArray) w ∧ SVRL sz L w I vs ss:=by
  obtain ⟨vs,h1,h2⟩:=resSVs_sound h hr
  refine ⟨vs,?_,h2⟩
  have e:results fn a.tmps = (do let vs ← fn.results.mapM (resSem a.tmps); pure (if h:vs.size = 1 then vs[0] else .tuple vs)):=by
    unfold results
    congr 1
  rw [e,Array.mapM_eq_mapM_toList]
  simp only [Sem.run_bind,map_eq_pure_bind,h1,Result.andThen_ok,Sem.run_pure]
  cases vs with
  | nil => rfl
  | cons v vs =>
    cases vs with
    | nil => rfl
    | cons u vs => simp

theorem flat_comps:∀ {vs:List Value} {ss:List SV},SVRL sz L w I vs ss → ss.all SV.compsB = true → SVRL sz L w I (vs.flatMap fun v => v.cells.toList) (ss.flatMap comps) ∧ ∀ u ∈ vs.flatMap fun v => v.cells.toList,one u = true
  | vs,[],h,_ => by simp only [SVRL] at h; subst h; simp [SVRL]
  | vs,s :: ss,h,hc => by
    simp only [SVRL] at h
    obtain ⟨v,vs',rfl,h1,h2⟩:=h
    simp only [List.all_cons,Bool.and_eq_true] at hc
    obtain ⟨g1,g2⟩:=compsB_sound h1 hc.1
    obtain ⟨g3,g4⟩:=flat_comps h2 hc.2
    refine ⟨by simpa using g1.append g3,fun u hu => ?_⟩
    simp only [List.flatMap_cons,List.mem_append] at hu
    exact hu.elim (g2 u) (g4 u)

theorem one_cells {v:Value} (h:one v = true):v.cells = #[v]:=by
  unfold Value.cells
  split
  · simp [one] at h
  · rfl
theorem regroupL_c {s:SV} (hs:∀ l,s ≠ .agg l) (t:LT) (ts:List LT) (ss:List SV):regroupL (s :: ss) (t :: ts) = .c t :: regroupL ss ts:=by
  cases s <;> first | rfl | exact absurd rfl (hs _)
theorem regroup_c {s:SV} (hs:∀ l,s ≠ .agg l) (t:PT) (ts:List PT) (ss:List SV):regroup (s :: ss) (t :: ts) = .c t :: regroup ss ts:=by
  cases s <;> first | rfl | exact absurd rfl (hs _)
theorem regroup_sound:∀ {ss:List SV} {vs:List Value} {ts:List LT},SVRL sz L w I vs ss → ss.all SV.compsB = true → ts.map LT.val = (vs.flatMap fun v => v.cells.toList) → (∀ t ∈ ts,t.holds sz w I) →
    (regroupL ss ts).map LV.val = vs ∧ (regroupL ss ts).map LV.erase = regroup ss (ts.map LT.erase) ∧ (regroupL ss ts).flatMap LV.blocks = ts.flatMap LT.blocks ∧ ∀ l ∈ regroupL ss ts,l.holds sz w I
  | [],vs,ts,h,_,ht,_ => by
    simp only [SVRL] at h
    subst h
    simp only [List.flatMap_nil,List.map_eq_nil_iff] at ht
    subst ht
    simp [regroupL,regroup]
  | s :: ss,vs,ts,h,hc,ht,hh => by
    simp only [SVRL] at h
    obtain ⟨v,vs',rfl,h1,h2⟩:=h
    simp only [List.all_cons,Bool.and_eq_true] at hc
    by_cases hs:∃ l,s = .agg l
    · obtain ⟨l,rfl⟩:=hs
      simp only [SVR] at h1
      obtain ⟨us,rfl,h3,h4⟩:=h1
      have hlen:=h3.len
      simp only [List.flatMap_cons] at ht
      have hcell:(Value.agg us.toArray).cells.toList = us:=rfl
      rw [hcell] at ht
      have e1:(ts.take l.length).map LT.val = us:=by rw [List.map_take,ht,List.take_left' hlen]
      have e2:(ts.drop l.length).map LT.val = (vs'.flatMap fun v => v.cells.toList):=by rw [List.map_drop,ht,List.drop_left' hlen]
      obtain ⟨g1,g2,g3,g4⟩:=regroup_sound h2 hc.2 e2 (fun t ht => hh t (List.mem_of_mem_drop ht))
      simp only [regroupL,regroup,List.map_cons,List.flatMap_cons,LV.val,LV.erase,LV.blocks,e1,g1,g2,g3,List.map_take,List.map_drop,true_and]
      refine ⟨?_,?_⟩
      · rw [← List.flatMap_append,List.take_append_drop]
      · intro x hx
        rcases List.mem_cons.1 hx with rfl | hx
        · simp only [LV.holds]; exact fun t ht => hh t (List.mem_of_mem_take ht)
        · exact g4 x hx
    · have hs':∀ l,s ≠ .agg l:=fun l e => hs ⟨l,e⟩
      have ho:one v = true:=by
        refine oneB_sound h1 ?_
        have:=hc.1
        cases s <;> first | exact this | exact absurd rfl (hs' _)
      simp only [List.flatMap_cons,one_cells ho,List.cons_append,List.nil_append] at ht
      cases ts with
      | nil => simp at ht
      | cons t ts =>
        simp only [List.map_cons,List.cons.injEq] at ht
        obtain ⟨g1,g2,g3,g4⟩:=regroup_sound h2 hc.2 ht.2 (fun t ht => hh t (by simp [ht]))
        rw [regroupL_c hs',List.map_cons,List.map_cons,List.map_cons,regroup_c hs']
        simp only [List.map_cons,List.flatMap_cons,LV.val,LV.erase,LV.blocks,ht.1,g1,g2,g3,true_and]
        intro x hx
        rcases List.mem_cons.1 hx with rfl | hx
        · simp only [LV.holds]; exact hh t (by simp)
        · exact g4 x hx

theorem retLV_val:∀ ls:List LV,(retLV ls).val = match ls.map LV.val with | [v] => v | vs => .tuple vs.toArray
  | [] => by simp [retLV,LV.val,LV.valL]
  | [x] => rfl
  | x :: y :: ls => by simp [retLV,LV.val,LV.valL_eq]
theorem retLV_erase:∀ ls:List LV,(retLV ls).erase = retPV (ls.map LV.erase)
  | [] => by simp [retLV,retPV,LV.erase,LV.eraseL]
  | [x] => rfl
  | x :: y :: ls => by simp [retLV,retPV,LV.erase,LV.eraseL_eq]
theorem retLV_blocks:∀ ls:List LV,(retLV ls).blocks = ls.flatMap LV.blocks
  | [] => by simp [retLV,LV.blocks,LV.blocksL]
  | [x] => by simp [retLV]
  | x :: y :: ls => by simp [retLV,LV.blocks,LV.blocksL_eq]
theorem retLV_holds:∀ ls:List LV,(∀ l ∈ ls,l.holds sz w I) → (retLV ls).holds sz w I
  | [],_ => by simp [retLV,LV.holds,LV.holdsL]
  | [x],h => h x (by simp)
  | x :: y :: ls,h => by simp only [retLV,LV.holds]; exact (LV.holdsL_iff _).2 h
end

/-! ### the arguments' trees at the end -/
def outT (L:Loc) (i j:Nat) (t:LT):LT:=if t.erase.isSl then (L (.arg i j)).getD t else t
def outTs (L:Loc) (i:Nat):Nat → List LT → List LT
  | _,[] => []
  | j,t :: ts => outT L i j t :: outTs L i (j + 1) ts
def outLV (L:Loc) (i:Nat):LV → LV
  | .c t => .c (outT L i 0 t)
  | .agg ts => .agg (outTs L i 0 ts)
  | .bp t => .bp ((L (.arg i 0)).getD t)
  | .ip k x ps => .ip k x ps
  | .tup vs => .tup vs
  | .dup t v1 v2 => .dup t v1 v2
  | .clo g t => .clo g t
def outLVs (L:Loc):Nat → List LV → List LV
  | _,[] => []
  | i,x :: xs => outLV L i x :: outLVs L (i + 1) xs
section
variable {sz:Nat → Nat} {I I':Nat → Nat → Prop} {bs:List Nat} {A:AD} {w0 w w':World} {st st' st1:St} {a:Act} {L L0:Loc} {hand hand':List LT} {P:Program} {o:Oper} {Q:Exit → Act → World → Prop}

/-- A tree that was handed in, or one that stands at the argument's name. -/
def FromA (L:Loc) (i j:Nat) (u:LT):Prop:=u.blocks = [] ∨ L (.arg i j) = some u
theorem notSl_blocks {t:LT} (h:¬ t.erase.isSl = true):t.blocks = []:=by
  cases t with
  | leaf v p => simp [LT.blocks]
  | own b cap e n cs => simp [LT.erase,PT.isSl] at h
theorem outT_sound (h:Sim sz I bs A w0 st a w L hand) {i j:Nat} {t:LT} {q:PT} (ht:t.erase.isSl = false → t.holds sz w I) (hA:t.erase.isSl = true → A i j = some t.val) (ho:outP st.hp i j t.erase = some q) :
    (outT L i j t).erase = q ∧ (outT L i j t).val = t.val ∧ (outT L i j t).holds sz w I ∧ FromA L i j (outT L i j t):=by
  unfold outP at ho
  unfold outT
  split at ho
  · rename_i hs
    obtain ⟨u,hu,hv⟩:=h.args i j _ (hA hs)
    rw [← h.er,hu] at ho
    simp only [Option.map_some,Option.some.injEq] at ho
    rw [if_pos hs,hu]
    exact ⟨ho,hv,h.holds _ _ hu,.inr hu⟩
  · rename_i hs
    cases ho
    rw [if_neg hs]
    exact ⟨rfl,rfl,ht (by simpa using hs),.inl (notSl_blocks hs)⟩
theorem outTs_sound (h:Sim sz I bs A w0 st a w L hand) {i:Nat}:∀ {ts:List LT} {j:Nat} {qs:List PT},(∀ t ∈ ts,t.erase.isSl = false → t.holds sz w I) → (∀ k t,ts[k]? = some t → t.erase.isSl = true → A i (j + k) = some t.val) → outPs st.hp i j (ts.map LT.erase) = some qs →
    (outTs L i j ts).map LT.erase = qs ∧ (outTs L i j ts).map LT.val = ts.map LT.val ∧ (∀ u ∈ outTs L i j ts,u.holds sz w I) ∧ ∀ k u,(outTs L i j ts)[k]? = some u → FromA L i (j + k) u
  | [],j,qs,_,_,ho => by simp only [List.map_nil,outPs,Option.some.injEq] at ho; subst ho; simp [outTs]
  | t :: ts,j,qs,ht,hA,ho => by
    simp only [List.map_cons,outPs] at ho
    split at ho
    · rename_i q qs' h1 h2
      cases ho
      obtain ⟨g1,g2,g3,g4⟩:=outT_sound h (ht t (by simp)) (fun hs => by simpa using hA 0 t rfl hs) h1
      obtain ⟨f1,f2,f3,f4⟩:=outTs_sound h (fun u hu => ht u (by simp [hu])) (fun k u hu hs => by have:=hA (k + 1) u (by simpa using hu) hs; rwa [show j + 1 + k = j + (k + 1) by omega]) h2
      refine ⟨by simp [outTs,g1,f1],by simp [outTs,g2,f2],?_,?_⟩
      · intro u hu
        simp only [outTs,List.mem_cons] at hu
        rcases hu with rfl | hu
        · exact g3
        · exact f3 u hu
      · intro k u hu
        cases k with
        | zero => simp only [outTs,List.getElem?_cons_zero,Option.some.injEq] at hu; subst hu; exact g4
        | succ k =>
          have:=f4 k u (by simpa [outTs] using hu)
          rwa [show j + 1 + k = j + (k + 1) by omega] at this
    · simp at ho
theorem froms_nodup (h:Sim sz I bs A w0 st a w L hand) {i:Nat}:∀ (us:List LT) (j:Nat),(∀ k u,us[k]? = some u → FromA L i (j + k) u) → (us.flatMap LT.blocks).Nodup ∧ ∀ b ∈ us.flatMap LT.blocks,∃ k t,j ≤ k ∧ L (.arg i k) = some t ∧ b ∈ t.blocks
  | [],_,_ => by simp
  | u :: us,j,hu => by
    obtain ⟨h1,h2⟩:=froms_nodup h us (j + 1) fun k x hx => by have:=hu (k + 1) x (by simpa using hx); rwa [show j + 1 + k = j + (k + 1) by omega]
    have h0:=hu 0 u rfl
    simp only [Nat.add_zero] at h0
    rw [List.flatMap_cons]
    rcases h0 with h0 | h0
    · rw [h0,List.nil_append]
      exact ⟨h1,fun b hb => let ⟨k,t,hk,ht,hbt⟩:=h2 b hb; ⟨k,t,by omega,ht,hbt⟩⟩
    · refine ⟨List.nodup_append.2 ⟨h.nodup _ _ h0,h1,fun x hx y hy hxy => ?_⟩,fun b hb => ?_⟩
      · subst hxy
        obtain ⟨k,t,hk,ht,hbt⟩:=h2 x hy
        exact h.apart _ _ _ _ (by intro e; cases e; omega) h0 ht x hx hbt
      · rcases List.mem_append.1 hb with hb | hb
        · exact ⟨j,u,Nat.le_refl _,h0,hb⟩
        · obtain ⟨k,t,hk,ht,hbt⟩:=h2 b hb
          exact ⟨k,t,by omega,ht,hbt⟩

theorem outLV_sound (h:Sim sz I bs A w0 st a w L hand) {i:Nat} {la:LV} {q:PV} (hframe:∀ t:LT,t.erase.isSl = false → t.holds sz w0 I → t.holds sz w I) (hip:∀ k (x:Addr) ps,ImL w0 I k (some x) 0 ps → ImL w I k (some x) 0 ps)
    (hh:la.holds sz w0 I) (hA:∀ j t,la.at j = some t → A i j = some t.val) (ho:outV st.hp i la.erase = some q) :
    (outLV L i la).erase = q ∧ (outLV L i la).full = la.full ∧ (outLV L i la).holds sz w I ∧ (outLV L i la).blocks.Nodup ∧ ∀ b ∈ (outLV L i la).blocks,∃ j t,L (.arg i j) = some t ∧ b ∈ t.blocks:=by
  cases la with
  | c t =>
    simp only [LV.erase,outV,Option.map_eq_some_iff] at ho
    obtain ⟨p,hp,rfl⟩:=ho
    simp only [LV.holds] at hh
    obtain ⟨g1,g2,g3,g4⟩:=outT_sound h (i:=i) (j:=0) (t:=t) (fun hs => hframe t hs hh) (fun hs => hA 0 t (by simp [LV.at,slT,hs])) hp
    have:=froms_nodup h [outT L i 0 t] 0 (i:=i) (fun k u hu => by
      cases k with
      | zero => simp only [List.getElem?_cons_zero,Option.some.injEq] at hu; subst hu; exact g4
      | succ k => simp at hu)
    simp only [List.flatMap_cons,List.flatMap_nil,List.append_nil] at this
    exact ⟨by simp [outLV,LV.erase,g1],by simp [outLV,LV.full,LV.trees,g2],by simpa [outLV,LV.holds] using g3,by simpa [outLV,LV.blocks] using this.1,fun b hb => let ⟨k,t,_,ht,hbt⟩:=this.2 b (by simpa [outLV,LV.blocks] using hb); ⟨k,t,ht,hbt⟩⟩
  | agg ts =>
    simp only [LV.erase,outV,Option.map_eq_some_iff] at ho
    obtain ⟨p,hp,rfl⟩:=ho
    simp only [LV.holds] at hh
    obtain ⟨g1,g2,g3,g4⟩:=outTs_sound h (i:=i) (j:=0) (ts:=ts) (fun t ht hs => hframe t hs (hh t ht)) (fun k t hk hs => by rw [Nat.zero_add]; exact hA k t (by simp [LV.at,hk,slT,hs])) hp
    have:=froms_nodup h (outTs L i 0 ts) 0 (i:=i) g4
    exact ⟨by simp [outLV,LV.erase,g1],by simp [outLV,LV.full,LV.trees,g2],by simpa [outLV,LV.holds] using g3,by simpa [outLV,LV.blocks] using this.1,fun b hb => let ⟨k,t,_,ht,hbt⟩:=this.2 b (by simpa [outLV,LV.blocks] using hb); ⟨k,t,ht,hbt⟩⟩
  | bp t =>
    simp only [LV.erase,outV] at ho
    split at ho
    · rename_i e cs hhp
      cases ho
      simp only [LV.holds] at hh
      obtain ⟨_,b,cap0,e0,cs0,rfl⟩:=hh
      obtain ⟨u,hu,hv⟩:=h.args i 0 _ (hA 0 _ (by simp [LV.at]; rfl))
      have her:=h.er (.arg i 0)
      rw [hu,hhp] at her
      simp only [Option.map_some,Option.some.injEq] at her
      have hhu:=h.holds _ _ hu
      simp only [outLV,hu,Option.getD_some,LV.erase,her,LV.full,LV.trees,List.map_cons,List.map_nil,hv,LV.holds,LV.blocks,true_and]
      cases u with
      | leaf v p =>
        simp only [LT.holds] at hhu
        simp only [LT.erase] at her
        subst her
        simp [Im] at hhu
      | own b' cap' e' n' cs' =>
        simp only [LT.val,Value.slice.injEq,Option.some.injEq,Addr.mk.injEq,and_true] at hv
        obtain ⟨rfl,rfl,rfl⟩:=hv
        exact ⟨⟨hhu,b',cap',e',cs',rfl⟩,h.nodup _ _ hu,fun b hb => ⟨0,_,hu,hb⟩⟩
    · simp at ho
  | ip k x ps =>
    simp only [LV.erase,outV,Option.some.injEq] at ho
    subst ho
    simp only [LV.holds] at hh
    exact ⟨rfl,rfl,by simp only [outLV,LV.holds]; exact hip _ _ _ hh,by simp [outLV,LV.blocks],by simp [outLV,LV.blocks]⟩
  | tup vs => simp [LV.erase,outV] at ho
  | dup t v1 v2 => simp [LV.erase,outV] at ho
  | clo g t => simp [LV.erase,outV] at ho
theorem outLVs_sound (h:Sim sz I bs A w0 st a w L hand) (hframe:∀ t:LT,t.erase.isSl = false → t.holds sz w0 I → t.holds sz w I) (hip:∀ k (x:Addr) ps,ImL w0 I k (some x) 0 ps → ImL w I k (some x) 0 ps) :
    ∀ {las:List LV} {i:Nat} {qs:List PV},(∀ la ∈ las,la.holds sz w0 I) → (∀ k la,las[k]? = some la → ∀ j t,la.at j = some t → A (i + k) j = some t.val) → outVs st.hp i (las.map LV.erase) = some qs →
    (outLVs L i las).map LV.erase = qs ∧ (outLVs L i las).map LV.full = las.map LV.full ∧ (∀ l ∈ outLVs L i las,l.holds sz w I) ∧ ((outLVs L i las).flatMap LV.blocks).Nodup ∧ ∀ b ∈ (outLVs L i las).flatMap LV.blocks,∃ k j t,i ≤ k ∧ L (.arg k j) = some t ∧ b ∈ t.blocks
  | [],i,qs,_,_,ho => by simp only [List.map_nil,outVs,Option.some.injEq] at ho; subst ho; simp [outLVs]
  | la :: las,i,qs,hh,hA,ho => by
    simp only [List.map_cons,outVs] at ho
    split at ho
    · rename_i q qs' h1 h2
      cases ho
      obtain ⟨g1,g2,g3,g4,g5⟩:=outLV_sound h (i:=i) hframe hip (hh la (by simp)) (fun j t ht => by simpa using hA 0 la rfl j t ht) h1
      obtain ⟨f1,f2,f3,f4,f5⟩:=outLVs_sound h hframe hip (las:=las) (i:=i + 1) (fun l hl => hh l (by simp [hl])) (fun k l hl j t ht => by have:=hA (k + 1) l (by simpa using hl) j t ht; rwa [show i + 1 + k = i + (k + 1) by omega]) h2
      simp only [outLVs,List.map_cons,g1,f1,g2,f2,List.flatMap_cons,true_and]
      refine ⟨?_,List.nodup_append.2 ⟨g4,f4,fun x hx y hy hxy => ?_⟩,fun b hb => ?_⟩
      · intro l hl
        rcases List.mem_cons.1 hl with rfl | hl
        · exact g3
        · exact f3 l hl
      · subst hxy
        obtain ⟨j,t,ht,hbt⟩:=g5 x hx
        obtain ⟨k,j',t',hk,ht',hbt'⟩:=f5 x hy
        exact h.apart _ _ _ _ (by intro e; cases e; omega) ht ht' x hbt hbt'
      · rcases List.mem_append.1 hb with hb | hb
        · obtain ⟨j,t,ht,hbt⟩:=g5 b hb
          exact ⟨i,j,t,Nat.le_refl _,ht,hbt⟩
        · obtain ⟨k,j',t',hk,ht',hbt'⟩:=f5 b hb
          exact ⟨k,j',t',by omega,ht',hbt'⟩
    · simp at ho
end

/-- A call of a function, with a body or without. -/
def CallsF (P:Program) (f:FuncId) (args:Array Value) (w:World) (R:Ending → World → Prop):Prop :=
  match (callFunc f args).run P w with
  | .ok (.enter g as) w' => Calls P g as w' R
  | .ok (.value v) w' => R (.returned v) w'
  | _ => False
theorem CallsF.of_calls {P : Program} {f : FuncId} {fn : Func} {c : Code} {args : Array Value} {w : World} {R : Ending → World → Prop} (hf : P.funcs[f]? = some fn) (hn : (fn.name == "runtime.NumGoroutine") = false) (hb : fn.body = some c) (h : Calls P f args w R) : CallsF P f args w R := by
  unfold CallsF
  have:(callFunc f args).run P w = .ok (.enter f args) w:=by
    have h1 : fn.name ≠ "runtime.NumGoroutine" := by simpa using hn
    simp [callFunc,hf,h1,hb]
  rw [this]
  exact h

/-- What a call does: what it hands back, and what becomes of what it was handed. -/
def CallOK (P:Program) (f:FuncId) (args:List PV) (res:PV) (outs:List PV):Prop :=
  ∀ (I:Nat → Nat → Prop) (w:World) (las:List LV),las.map LV.erase = args → (∀ la ∈ las,la.holds (tsz P) w I) → (las.flatMap LV.blocks).Nodup →
    (∀ k b,I k b → b < w.heap.size ∧ b ∉ las.flatMap LV.blocks) →
    CallsF P f (las.map LV.val).toArray w fun e w' => ∃ (lr:LV) (los:List LV),e = .returned lr.val ∧ lr.erase = res ∧ los.map LV.erase = outs ∧ los.map LV.full = las.map LV.full ∧
      lr.holds (tsz P) w' I ∧ (∀ l ∈ los,l.holds (tsz P) w' I) ∧ (lr.blocks ++ los.flatMap LV.blocks).Nodup ∧ (∀ b ∈ lr.blocks ++ los.flatMap LV.blocks,b ∈ las.flatMap LV.blocks ∨ w.heap.size ≤ b) ∧
      Kp (las.flatMap LV.blocks) w w'

/-- What stands when a function's body is left. -/
def CallPost (P:Program) (I:Nat → Nat → Prop) (w0:World) (las:List LV) (res:PV) (outs:List PV) (e:Ending) (w':World):Prop :=
  ∃ (lr:LV) (los:List LV),e = .returned lr.val ∧ lr.erase = res ∧ los.map LV.erase = outs ∧ los.map LV.full = las.map LV.full ∧
      lr.holds (tsz P) w' I ∧ (∀ l ∈ los,l.holds (tsz P) w' I) ∧ (lr.blocks ++ los.flatMap LV.blocks).Nodup ∧ (∀ b ∈ lr.blocks ++ los.flatMap LV.blocks,b ∈ las.flatMap LV.blocks ∨ w0.heap.size ≤ b) ∧
      Kp (las.flatMap LV.blocks) w0 w'

theorem stRet_sound {P:Program} {I:Nat → Nat → Prop} {w0 w:World} {las:List LV} {st:St} {a:Act} {L:Loc} (h:Sim (tsz P) I (las.flatMap LV.blocks) ⟨fun i j => (entryL las (.arg i j)).map LT.val,[]⟩ w0 st a w L [])
    (hh:∀ la ∈ las,la.holds (tsz P) w0 I) {fn:Func} {res:PV} {outs:List PV} (hr:stRet P fn (las.map LV.erase) st = some (res,outs)):bodyPost P fn (CallPost P I w0 las res outs) .ret a w:=by
  unfold stRet at hr
  split at hr
  · simp at hr
  · rename_i ss hss
    split at hr
    · rename_i hc
      split at hr
      · rename_i ps ks st1 hta
        split at hr
        · rename_i outs' hout
          simp only [Option.some.injEq,Prod.mk.injEq] at hr
          obtain ⟨rfl,rfl⟩:=hr
          obtain ⟨vs,hrun,hvs⟩:=results_sound h hss
          obtain ⟨g1,g2⟩:=flat_comps hvs hc
          obtain ⟨L',ts,f1,f2,f3,f4⟩:=takeAll_sound _ h g1 g2 (Stays.refl _ _) hta
          rw [List.nil_append] at f1
          obtain ⟨r1,r2,r3,r4⟩:=regroup_sound hvs hc f2 f1.hholds
          have hI:∀ k b,I k b → w.heap[b]? = w0.heap[b]?:=fun k b hb => h.keeps.block b (h.imm k b hb).1 (h.imm k b hb).2
          obtain ⟨o1,o2,o3,o4,o5⟩:=outLVs_sound f1 (las:=las) (i:=0) (fun t hs ht => LT.holds_frame (fun _ _ hb => hb) hI t ht (fun b hb => by rw [notSl_blocks (by simp [hs])] at hb; simp at hb))
            (fun k x ps hx => (Im.all (fun _ _ hb => hb) hI).2.1 _ _ _ _ hx) hh (fun k la hk j t ht => by simp [entryL,hk,ht]) hout
          refine ⟨h.nodef,_,hrun,retLV (regroupL ss ts),outLVs L' 0 las,?_,?_,o1,o2,retLV_holds _ r4,o3,?_,?_,h.keeps⟩
          · rw [retLV_val,r1]
            rcases vs with _ | ⟨v,_ | ⟨u,vs⟩⟩ <;> rfl
          · rw [retLV_erase,r2,f3]
          · rw [retLV_blocks,r3]
            refine List.nodup_append.2 ⟨f1.hnodup,o4,fun x hx y hy hxy => ?_⟩
            subst hxy
            obtain ⟨k,j,t,_,ht,hbt⟩:=o5 x hy
            exact f1.hapart _ _ ht x hbt hx
          · rw [retLV_blocks,r3]
            intro b hb
            rcases List.mem_append.1 hb with hb | hb
            · exact f1.hown b hb
            · obtain ⟨k,j,t,_,ht,hbt⟩:=o5 b hb
              exact f1.own _ _ ht b hbt
        · simp at hr
      · simp at hr
    · simp at hr
end Go.V
