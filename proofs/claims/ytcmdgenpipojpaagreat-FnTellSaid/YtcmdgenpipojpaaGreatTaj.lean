/- What functions of the seat's program do, each proved of its code, under the bounds that its theorem names. -/
import Derived.Test.YtcmdgenpipojpaaGreatTai
import Derived.Deep.AppendSrc
import Derived.Laws.Externs
import Derived.Laws.IdiomCopy
import Derived.Lib.AppendZeros
import Derived.Lib.AppendZerosOnto
import Derived.Lib.JoinLaws
import Derived.Lib.Overlaps
import Derived.Lib.SliceRun
import Derived.Lib.Walk
import Derived.Shelf.Spec.SlicesInsert
import Derived.Shelf.Spec.SlicesInsertGrow
import Derived.WalkKit
set_option linter.all false
namespace Go.V
open Go.Proofs
set_option maxHeartbeats 1000000
set_option maxRecDepth 10000
set_option linter.unusedSimpArgs false
set_option linter.unusedVariables false
theorem ok_IndexFunc_Update (k q g:Nat) (caps:List (List PT)) (p:GUpdate → Bool) (xs:List GUpdate) (ha:xs.length ≤ 140737488351232)
    (hg:∀ x ∈ xs,CallOK Tryz.prog g (.agg (GUpdate.ci k x) :: caps.map (PV.ip q)) (.c (pb (p x))) (.agg (GUpdate.ci k x) :: caps.map (PV.ip q))) :
    CallOK Tryz.prog 86 [.c (rd k xs.length (xs.flatMap (GUpdate.ci k))),.c (.fn q g caps)] (.c (pi (idxOf p xs))) [.c (rd k xs.length (xs.flatMap (GUpdate.ci k))),.c (.fn q g caps)]:=by
  refine okS (fn:=Tryz.f86) [] h0 Tryz.func86 (by kernel_rfl) rfl Tryz.ntmps86 Tryz.results86 (by simp) ?_
  simp
  refine loopS [0,1,7,8] [] (fun n st => ∃ (i:Nat),i + n = xs.length ∧ (∀ (j:Nat) (hj:j < i) (hj':j < xs.length),p xs[j] = false) ∧ st = ⟨slOf 19 [(0,.t (rd k xs.length (xs.flatMap (GUpdate.ci k)))),(1,.t (.fn q g caps)),(7,.t (pi xs.length)),(8,.t (pi i))],ofL []⟩) xs.length ?_ ?_
  · rintro Inv hI
    simp
    subst hI
    exact ⟨0,by omega,by intro j hj; omega,rfl⟩
  · rintro Inv hI n st ⟨i,hi,hall,rfl⟩
    refine ewr_sound (M:=[]) h0 ?_
    simp
    refine brn_app (fun h => ?_) (fun h => ?_)
    · simp at h
      have hd:=fm_drop (GUpdate.ci k) 8 (fun _ => rfl) xs i h
      have hlen:=fm_len (GUpdate.ci k) 8 (fun _ => rfl) xs
      have hlt:i * 8 < xs.length * 8:=by omega
      simp [h,hd,hlen,hlt]
      refine Inv_intro (hg _ (List.getElem_mem h)) ?_
      simp
      refine brn_app (fun h2 => ?_) (fun h2 => ?_)
      · simp
        exact (idxOf_hit p xs i h h2 fun j hj => hall j hj (by omega)).symm
      · simp
        subst hI
        refine Less_mk (n - 1) (by omega) ⟨i + 1,by omega,?_,by rw [wrNext i (by omega)]⟩
        intro j hj hj'
        by_cases hji:j = i
        · subst hji; exact h2
        · exact hall j (by omega) hj'
    · simp at h
      simp
      exact (idxOf_no p xs fun j hj => hall j (by omega) hj).symm
theorem ok_ContainsFunc_Update (k q g:Nat) (caps:List (List PT)) (p:GUpdate → Bool) (xs:List GUpdate) (ha:xs.length ≤ 140737488351232)
    (hg:∀ x ∈ xs,CallOK Tryz.prog g (.agg (GUpdate.ci k x) :: caps.map (PV.ip q)) (.c (pb (p x))) (.agg (GUpdate.ci k x) :: caps.map (PV.ip q))) :
    CallOK Tryz.prog 44 [.c (rd k xs.length (xs.flatMap (GUpdate.ci k))),.c (.fn q g caps)] (.c (pb (xs.any p))) [.c (rd k xs.length (xs.flatMap (GUpdate.ci k))),.c (.fn q g caps)]:=by
  refine okS (fn:=Tryz.f44) [] h0 Tryz.func44 (by kernel_rfl) rfl Tryz.ntmps44 Tryz.results44 (by simp) ?_
  simp
  refine Inv_intro (ok_IndexFunc_Update k q g caps p xs ha hg) ?_
  simp [idxOf_any]
theorem step_app_run {P:Program} {ops:Array Oper} {o:Oper} {a:Act} {w:World} {K:Act → World → Prop} {Q:Exit → Act → World → Prop} {E:Prop}
    (hg:o.guard = none) (d x:Operand) (dT sT:TypeId) (hop:o.op = Op.call { callee:=Callee.builtin Builtin.append,args:=#[d,x],argTypes:=#[dT,sT] })
    (v u:Value) (hd:a.eval d = v) (hx:a.eval x = u) {v':Value} {w':World} (hr:(Builtin.append_ #[dT,sT] o.type #[v,u]).run P w = .ok v' w') (hK:K (a.put o.dst v') w') :
    if Region.wanted o (yielded ops a.tmps) = true then Oper.wp P o a w K Q else E:=by
  have hw:Region.wanted o (yielded ops a.tmps) = true:=by simp [Region.wanted,hg]
  rw [if_pos hw]
  unfold Oper.wp
  simp [execOp,hop,resolve,invoke,builtin,hd,hx,hr,Result.andThen]
  exact hK
theorem wp_clear_run {P:Program} (w:World) {o:Oper} {a:Act} {K:Act → World → Prop} {Q:Exit → Act → World → Prop} (s:Operand) (t:TypeId)
    (ho:o.op = .call { callee:=.builtin .clear,args:=#[s],argTypes:=#[t] }) (v:Value) (hd:a.eval s = v) {v':Value} {w':World}
    (hr:(Builtin.clear_ #[t] o.type #[v]).run P w = .ok v' w') (h:K (a.put o.dst v') w'):o.wp P a w K Q:=by
  unfold Oper.wp execOp
  simp only [ho,resolve,invoke,builtin,Sem.run_bind,Sem.run_pure,Result.andThen_ok,List.map_toArray,List.map_cons,List.map_nil,hd,hr]
  exact h
theorem wpList_clear_run {P:Program} (w:World) {ops:Array Oper} {rest:List Oper} {o:Oper} {a:Act} {Q:Exit → Act → World → Prop} (hgd:o.guard = none) (s:Operand) (t:TypeId)
    (ho:o.op = .call { callee:=.builtin .clear,args:=#[s],argTypes:=#[t] }) (v:Value) (hd:a.eval s = v) {v':Value} {w':World}
    (hr:(Builtin.clear_ #[t] o.type #[v]).run P w = .ok v' w') (h:wpList P ops Q rest (a.put o.dst v') w'):wpList P ops Q (o :: rest) a w :=
  wpList_plain hgd fun _ hK => wp_clear_run w s t ho v hd hr (hK _ _ h)
theorem run_clear_n {P:Program} (w:World) (t ty e:TypeId) (b o k cap:Nat) (inf:TypeInfo) (z:Value) (hu:P.underlying t = some (.slice e)) (hi:P.info? e = some inf) (hz:inf.zero = some z)
    (hc:∀ j,j < (k + 1) * z.cells.size → (w.cell? ⟨b,o + j,none⟩).isSome = true) (hf:∀ j,j < (k + 1) * z.cells.size → w.frozen? ⟨b,o + j,none⟩ = false) (h1:∀ v ∈ z.cells.toList,v.oneCell' = true) :
    (Builtin.clear_ #[t] ty #[.slice (some ⟨b,o,none⟩) (k + 1) cap]).run P w = .ok (.tuple #[]) (w.setCells b o ((List.replicate (k + 1) z.cells.toList).flatten)):=by
  have hl:((List.replicate (k + 1) z.cells.toList).flatten).length = (k + 1) * z.cells.size:=by simp
  have hst:=run_storeCells_cells (P:=P) b o ((List.replicate (k + 1) z.cells.toList).flatten) 0 w (by rw [hl]; simpa using hc) (by rw [hl]; simpa using hf) (by
    intro v hv
    obtain ⟨l,hl,hvl⟩:=List.mem_flatten.1 hv
    rw [(List.mem_replicate.1 hl).2] at hvl
    exact h1 v hvl)
  have hzt:=zeroCells_toList z.cells (k + 1)
  simp [-Value.cells,Builtin.clear_,run_underlying hu,zeroValue,typeInfo,hi,hz,Result.andThen,hzt]
  rw [hst]
  rfl
theorem del_walk (b n c i j q:Nat) (A:Addr) (w w1 w2:World) (x2:Value) (hij:i < j) (hj:j ≤ n) (hnc:n ≤ c) (hq:q < n)
    (hA:(if c = j then some (⟨b,0,none⟩:Addr) else some ⟨b,j * 8,none⟩) = some A)
    (hr:∀ ty,(Builtin.append_ #[23,23] ty #[.slice (some ⟨b,0,none⟩) i c,.slice (some A) (n - j) (c - j)]).run Tryz.prog w.drew = .ok (.slice (some ⟨b,0,none⟩) q c) w1)
    (hc:∀ ty,(Builtin.clear_ #[23] ty #[.slice (some ⟨b,q * 8,none⟩) (n - q) (c - q)]).run Tryz.prog w1 = .ok x2 w2) :
    Calls Tryz.prog 47 #[.slice (some ⟨b,0,none⟩) n c,.int .i64 i,.int .i64 j] w fun e w' => e = .returned (.slice (some ⟨b,0,none⟩) q c) ∧ w' = w2:=by
  have mixed:Tryz.prog.follows .mixedOrders = true:=by kernel_rfl
  have tS:Tryz.prog.underlying 23 = some (.slice 56):=by kernel_rfl
  have uS:=run_underlying tS
  have zE:∀ w,(Go.sizeOf 56).run Tryz.prog w = .ok 8 w:=fun w => by kernel_rfl
  have zS:∀ w,(Go.sizeOf 23).run Tryz.prog w = .ok 1 w:=fun w => by kernel_rfl
  have aS:∀ w,(isAgg 23).run Tryz.prog w = .ok false w:=fun w => by kernel_rfl
  have t3:Tryz.prog.underlying 3 = some (.int .i64):=by kernel_rfl
  have u3:=run_underlying t3
  have a3:∀ w,(isAgg 3).run Tryz.prog w = .ok false w:=fun w => by kernel_rfl
  have z3:∀ w,(Go.sizeOf 3).run Tryz.prog w = .ok 1 w:=fun w => by kernel_rfl
  have hne:¬ ((i:Int) = (j:Int)):=by omega
  have hic:i ≤ c:=by omega
  have hjc:j ≤ c:=by omega
  have hij':i ≤ j:=by omega
  have hqn:q ≤ n:=by omega
  have hqc:q ≤ c:=by omega
  have hcq:¬ (c = q):=by omega
  go_enter Tryz.func47,Tryz.ntmps47
  go_wp2_with fail
  go_region_law_o (refine step_app_run rfl _ _ 23 23 rfl (.slice (some ⟨b,0,none⟩) i c) (.slice (some A) (n - j) (c - j)) (by simp [Act.eval,Act.put]) (by simp [Act.eval,Act.put]) (hr _) ?_)
  go_wp2_with (at_builtin; refine wpList_clear_run _ rfl _ 23 rfl _ rfl (hc _) ?_)
  go_ret
  exact ⟨rfl,rfl⟩
theorem del_world (b n c i j:Nat) (w:World) (arr:Array Value) (cv:List Value) (hba:w.heap[b]? = some (.cells arr 56 (0,0)))
    (hcl:cv.length = n * 8) (hca:c * 8 ≤ arr.size) (hnc:n ≤ c) (hij:i < j) (hj:j ≤ n)
    (hcv:∀ (t:Nat) u,cv[t]? = some u → arr[t]? = some u) (h1c:∀ v ∈ cv,v.oneCell' = true) :
    ∃ (arr':Array Value) (w':World),Calls Tryz.prog 47 #[.slice (some ⟨b,0,none⟩) n c,.int .i64 i,.int .i64 j] w (fun e w'' => e = .returned (.slice (some ⟨b,0,none⟩) (i + (n - j)) c) ∧ w'' = w') ∧
      w'.heap[b]? = some (.cells arr' 56 (0,0)) ∧ c * 8 ≤ arr'.size ∧ (∀ (t:Nat) u,(cv.take (i * 8) ++ cv.drop (j * 8))[t]? = some u → arr'[t]? = some u) ∧ Kp [b] w w':=by
  have tS:Tryz.prog.underlying 23 = some (.slice 56):=by kernel_rfl
  obtain ⟨inf,hinf⟩:=tsz_info (P:=Tryz.prog) (t:=56) (by simp)
  have hsz:inf.size = 8:=by
    have h1:tsz Tryz.prog 56 = inf.size:=by simp only [tsz,hinf]
    have h2:tsz Tryz.prog 56 = 8:=by kernel_rfl
    omega
  have hzz:tzero Tryz.prog 56 = inf.zero:=by simp only [tzero,hinf]
  obtain ⟨z,hz⟩:∃ z,inf.zero = some z:=by
    have h2:(tzero Tryz.prog 56).isSome = true:=by kernel_rfl
    rw [hzz] at h2
    exact Option.isSome_iff_exists.1 h2
  have hzs:z.cells.size = 8:=by
    have h2:(tzero Tryz.prog 56).map (fun z => z.cells.size) = some 8:=by kernel_rfl
    rw [hzz,hz] at h2
    simpa using h2
  have hz1:∀ v ∈ z.cells.toList,v.oneCell' = true:=by
    have h2:(tzero Tryz.prog 56).map (fun z => z.cells.toList.all Value.oneCell') = some true:=by kernel_rfl
    rw [hzz,hz] at h2
    have h3:z.cells.toList.all Value.oneCell' = true:=by simpa using h2
    exact List.all_eq_true.1 h3
  have hcellb:∀ (k:Nat) u,cv[k]? = some u → w.cell? ⟨b,k,none⟩ = some u:=fun k u h => by rw [cell_at hba]; exact hcv k u h
  obtain ⟨news,hnews⟩:∃ news,news = cv.drop (j * 8):=⟨_,rfl⟩
  have hnl:news.length = (n - j) * 8:=by rw [hnews,List.length_drop,hcl]; omega
  have hnat:∀ (t:Nat) u,news[t]? = some u → cv[j * 8 + t]? = some u:=fun t u h => by rw [hnews] at h; rwa [List.getElem?_drop] at h
  obtain ⟨A,hA,hsrc⟩:∃ A:Addr,(if c = j then some (⟨b,0,none⟩:Addr) else some ⟨b,j * 8,none⟩) = some A ∧ ∀ (t:Nat) u,news[t]? = some u → w.drew.cell? (A.add t) = some u:=by
    by_cases h:c = j
    · refine ⟨⟨b,0,none⟩,by simp [h],fun t u hu => ?_⟩
      have:=(List.getElem?_eq_some_iff.1 hu).1
      omega
    · refine ⟨⟨b,j * 8,none⟩,by simp [h],fun t u hu => ?_⟩
      rw [Addr.add_lit]
      exact hcellb _ u (hnat t u hu)
  have hr:∀ ty,(Builtin.append_ #[23,23] ty #[.slice (some ⟨b,0,none⟩) i c,.slice (some A) (n - j) (c - j)]).run Tryz.prog w.drew = .ok (.slice (some ⟨b,0,none⟩) (i + (n - j)) c) (w.drew.setCells b (i * 8) news):=fun ty => by
    have h:=run_append_room_cells (P:=Tryz.prog) w.drew 23 ty 56 inf tS hinf b 0 i c A (n - j) (c - j) news (by rw [hsz,hnl]) hsrc (by intro u hu; rw [hnews] at hu; exact h1c u (List.mem_of_mem_drop hu)) (by omega)
      (fun t ht => by
        show (w.cell? ⟨b,_,none⟩).isSome = true
        rw [cell_at hba,hsz,Array.getElem?_eq_getElem (by omega)]; rfl) (fun t ht => by
        show w.frozen? ⟨b,_,none⟩ = false
        simp [World.frozen?,hba])
    rw [hsz,Nat.zero_add] at h
    exact h
  obtain ⟨arr1,p1,p2,p3⟩:=setCells_heap news (i * 8) w.drew arr hba
  have hk1:=setCells_kp b news (i * 8) w.drew
  generalize w.drew.setCells b (i * 8) news = W1 at hr p1 hk1
  obtain ⟨k,hk⟩:∃ k,n - (i + (n - j)) = k + 1:=⟨n - (i + (n - j)) - 1,by omega⟩
  have hc:∀ ty,(Builtin.clear_ #[23] ty #[.slice (some ⟨b,(i + (n - j)) * 8,none⟩) (n - (i + (n - j))) (c - (i + (n - j)))]).run Tryz.prog W1 = .ok (.tuple #[]) (W1.setCells b ((i + (n - j)) * 8) ((List.replicate (k + 1) z.cells.toList).flatten)):=fun ty => by
    rw [hk]
    exact run_clear_n W1 23 ty 56 b ((i + (n - j)) * 8) k _ inf z tS hinf hz (fun t ht => by rw [cell_at p1,Array.getElem?_eq_getElem (by rw [hzs] at ht; omega)]; rfl) (fun t ht => by simp [World.frozen?,p1]) hz1
  obtain ⟨arr2,q1,q2,q3⟩:=setCells_heap ((List.replicate (k + 1) z.cells.toList).flatten) ((i + (n - j)) * 8) W1 arr1 p1
  have hk2:=setCells_kp b ((List.replicate (k + 1) z.cells.toList).flatten) ((i + (n - j)) * 8) W1
  refine ⟨arr2,_,del_walk b n c i j (i + (n - j)) A w W1 _ _ hij hj hnc (by omega) hA hr hc,q1,by omega,?_,((Kp.of_below (drew_below w) (Nat.le_succ _)).trans hk1 (by intro y hy; exact .inl hy)).trans hk2 (by intro y hy; exact .inl hy)⟩
  intro t u ht
  have htl:=(List.getElem?_eq_some_iff.1 ht).1
  rw [List.length_append,List.length_take,List.length_drop] at htl
  rw [q3,if_neg (by omega),p3]
  rw [List.getElem?_append,List.length_take] at ht
  split at ht
  · rw [List.getElem?_take] at ht
    rw [if_neg (by omega)]
    split at ht
    · exact hcv t u ht
    · cases ht
  · rw [if_pos (by omega),hnews]
    have e:t - i * 8 = t - min (i * 8) cv.length:=by omega
    rw [e]
    exact ht
theorem ok_Delete_Route (n i j:Nat) (cs:List PT) (hcl:cs.length = n * 8) (hij:i < j) (hj:j ≤ n) :
    CallOK Tryz.prog 47 [.c (.sl 0 56 n cs),.c (pi i),.c (pi j)] (.c (.sl 0 56 (i + (n - j)) (cs.take (i * 8) ++ cs.drop (j * 8)))) [.c .hole,.c (pi i),.c (pi j)]:=by
  intro I w las he hh hnd hI
  obtain ⟨ts,rfl,hts⟩:=erase_cs las [.sl 0 56 n cs,pi i,pi j] he
  obtain ⟨t0,t1,t2,rfl⟩:∃ t0 t1 t2,ts = [t0,t1,t2]:=by
    have hl:ts.length = 3:=by simpa using congrArg List.length hts
    match ts,hl with
    | [a,b,c],_ => exact ⟨a,b,c,rfl⟩
  simp only [List.map_cons,List.map_nil,List.cons.injEq,and_true] at hts
  obtain ⟨e0,e1,e2⟩:=hts
  have hs2:tsz Tryz.prog 56 = 8:=by kernel_rfl
  have k0:t0.holds (tsz Tryz.prog) w I:=by simpa [LV.holds] using hh (.c t0) (by simp)
  have k1:t1.holds (tsz Tryz.prog) w I:=by simpa [LV.holds] using hh (.c t1) (by simp)
  have k2:t2.holds (tsz Tryz.prog) w I:=by simpa [LV.holds] using hh (.c t2) (by simp)
  have leafI:∀ (t:LT) (m:Nat),t.erase = pi m → t.holds (tsz Tryz.prog) w I → t.val = .int .i64 m ∧ t.blocks = []:=by
    intro t m e k
    cases t with
    | leaf v p =>
      simp only [LT.erase] at e
      subst e
      simp only [LT.holds,Im,pi] at k
      exact ⟨k.1,by simp [LT.blocks]⟩
    | own b cap e m cs => simp [LT.erase,pi] at e
  obtain ⟨hv1,hb1⟩:=leafI t1 i e1 k1
  obtain ⟨hv2,hb2⟩:=leafI t2 j e2 k2
  simp only [List.map_cons,List.map_nil] at hh hnd hI ⊢
  cases t0 with
  | leaf v p =>
    simp only [LT.erase] at e0
    subst e0
    simp only [LT.holds,Im] at k0
    have:=k0.1.1
    omega
  | own b cap e m ls =>
    simp only [LT.erase,PT.sl.injEq,true_and] at e0
    obtain ⟨rfl,rfl,rfl⟩:=e0
    have k0':=k0
    simp only [LT.holds] at k0'
    obtain ⟨⟨arr,q1,q2,q3⟩,q4,q5,q6,q7⟩:=k0'
    rw [hs2] at q2 q4 q6
    have hcv:∀ (j:Nat) u,(ls.map LT.val)[j]? = some u → arr[j]? = some u:=by
      intro j u hj
      rw [List.getElem?_map,Option.map_eq_some_iff] at hj
      obtain ⟨d,hd,rfl⟩:=hj
      exact q3 j d hd
    have hlas:([LV.c (.own b cap 56 m ls),.c t1,.c t2].flatMap LV.blocks) = b :: ls.flatMap LT.blocks:=by simp [LV.blocks,LT.blocks,hb1,hb2]
    obtain ⟨arr',w',hcall,p1,p2,p3,p4⟩:=del_world b m cap i j w arr (ls.map LT.val) q1 (by rw [List.length_map,q4]) q2 q5 hij hj hcv (by
      intro v hv
      obtain ⟨d,hd,rfl⟩:=List.mem_map.1 hv
      rw [one_oneCell]
      exact LT.holds_one (q7 d hd))
    have hargs:[LV.val (.c (.own b cap 56 m ls)),LV.val (.c t1),LV.val (.c t2)].toArray = #[.slice (some ⟨b,0,none⟩) m cap,.int .i64 i,.int .i64 j]:=by
      simp only [LV.val,LT.val] at hv1 hv2 ⊢
      rw [hv1,hv2]
    rw [hargs]
    refine (CallsF.of_calls Tryz.func47 (by kernel_rfl) rfl hcall).mono ?_
    rintro e w'' ⟨rfl,rfl⟩
    rw [hlas] at hnd hI ⊢
    have hnd1:=List.nodup_cons.1 hnd
    have hbI:∀ k x,I k x → w''.heap[x]? = w.heap[x]?:=fun k x hx => p4.block x (hI k x hx).1 (by
      rw [List.mem_singleton]
      rintro rfl
      exact (hI k x hx).2 (by simp))
    have hsub:(ls.take (i * 8) ++ ls.drop (j * 8)).Sublist ls:=by
      have h1:(ls.drop (j * 8)).Sublist (ls.drop (i * 8)):=by
        have e:j * 8 = i * 8 + (j * 8 - i * 8):=by omega
        rw [e,← List.drop_drop]
        exact List.drop_sublist _ _
      have h2:=List.Sublist.append_left h1 (ls.take (i * 8))
      rwa [List.take_append_drop] at h2
    have hbs:((ls.take (i * 8) ++ ls.drop (j * 8)).flatMap LT.blocks).Sublist (ls.flatMap LT.blocks):=flat_sub _ hsub
    have hhold:∀ c ∈ ls,c.holds (tsz Tryz.prog) w'' I:=fun c hc => LT.holds_frame (fun _ _ h => h) hbI c (q7 c hc) fun x hx => p4.block x (LT.blocks_lt c (q7 c hc) x hx) (by
      rw [List.mem_singleton]
      rintro rfl
      exact hnd1.1 (List.mem_flatMap.2 ⟨c,hc,hx⟩))
    refine ⟨.c (.own b cap 56 (i + (m - j)) (ls.take (i * 8) ++ ls.drop (j * 8))),[.c (.leaf (.slice (some ⟨b,0,none⟩) m cap) .hole),.c t1,.c t2],by simp [LV.val,LT.val],by simp [LV.erase,LT.erase],by simp [LV.erase,LT.erase,e1,e2],?_,?_,?_,?_,?_,?_⟩
    · simp [LV.full,LV.trees,LT.val]
    · simp only [LV.holds,LT.holds]
      refine ⟨⟨arr',p1,by rw [hs2]; exact p2,fun t c hc => p3 t _ (by rw [← List.map_take,← List.map_drop,← List.map_append,List.getElem?_map,hc]; rfl)⟩,?_,by omega,⟨by rw [hs2]; omega,by omega⟩,fun c hc => hhold c (hsub.subset hc)⟩
      rw [List.length_append,List.length_take,List.length_drop,hs2,q4]
      omega
    · intro l hl
      simp only [List.mem_cons,List.not_mem_nil,or_false] at hl
      rcases hl with rfl | rfl | rfl
      · simp only [LV.holds,LT.holds,Im]; exact ⟨trivial,rfl⟩
      · simp only [LV.holds]; exact LT.holds_frame (fun _ _ h => h) hbI t1 k1 (by rw [hb1]; simp)
      · simp only [LV.holds]; exact LT.holds_frame (fun _ _ h => h) hbI t2 k2 (by rw [hb2]; simp)
    · simp only [LV.blocks,LT.blocks,List.flatMap_cons,List.flatMap_nil,List.append_nil,hb1,hb2,List.nil_append]
      exact List.nodup_cons.2 ⟨fun hx => hnd1.1 (hbs.subset hx),hnd1.2.sublist hbs⟩
    · intro x hx
      simp only [LV.blocks,LT.blocks,List.flatMap_cons,List.flatMap_nil,List.append_nil,hb1,hb2,List.nil_append,List.mem_cons] at hx
      rcases hx with rfl | hx
      · exact .inl (by simp)
      · exact .inl (List.mem_cons_of_mem _ (hbs.subset hx))
    · exact (Kp.refl _ w).trans p4 (by
        intro x hx
        rw [List.mem_singleton] at hx
        subst hx
        exact .inl (by simp))
theorem alloc_kp (bs:List Nat) (w:World) (blk:Obj):Kp bs w (w.alloc blk):=⟨rfl,rfl,rfl,by show w.heap.size ≤ (w.heap.push blk).size; rw [Array.size_push]; omega,fun k hk _ => by
  show (w.heap.push blk)[k]? = w.heap[k]?
  rw [Array.getElem?_push]
  rw [if_neg (by omega)],Nat.le_refl _⟩
theorem alloc_at (w:World) (blk:Obj):(w.alloc blk).heap[w.heap.size]? = some blk:=by
  show (w.heap.push blk)[w.heap.size]? = some blk
  simp
/-- The cells of a row behind an insertion. -/
def insV (S i:Nat) (cv vv:List Value):List Value:=cv.take (i * S) ++ vv ++ cv.drop (i * S)
theorem insV_at (S i:Nat) (cv vv:List Value) (hv:vv.length = S) (hi:i * S ≤ cv.length) (j:Nat):(insV S i cv vv)[j]? = if j < i * S then cv[j]? else if j < i * S + S then vv[j - i * S]? else cv[j - S]?:=by
  have hl:(cv.take (i * S)).length = i * S:=by rw [List.length_take]; omega
  unfold insV
  rw [List.append_assoc,List.getElem?_append,hl]
  split
  · rename_i h
    rw [List.getElem?_take,if_pos h]
  · rename_i h
    rw [List.getElem?_append,hv]
    split
    · rw [if_pos (by omega)]
    · rw [if_neg (by omega),List.getElem?_drop]
      congr 1
      omega
theorem getv {l:List Value} {j:Nat} {u:Value} (h:l[j]? = some u):j < l.length:=(List.getElem?_eq_some_iff.1 h).1
/-- A road of slices.Insert: at the end. -/
theorem ins_endRoute (base:Option Addr) (vb n c vc:Nat) (w w1:World) (r:Value) (hn:n ≤ c)
    (hr:∀ ty,(Builtin.append_ #[23,23] ty #[.slice base n c,.slice (some ⟨vb,0,none⟩) 1 vc]).run Tryz.prog w = .ok r w1) :
    Calls Tryz.prog 48 #[.slice base n c,.int .i64 n,.slice (some ⟨vb,0,none⟩) 1 vc] w fun e w' => e = .returned r ∧ w' = w1:=by
  have mixed:Tryz.prog.follows .mixedOrders = true:=by kernel_rfl
  have tS:Tryz.prog.underlying 23 = some (.slice 56):=by kernel_rfl
  have uS:=run_underlying tS
  have zE:∀ w,(Go.sizeOf 56).run Tryz.prog w = .ok 8 w:=fun w => by kernel_rfl
  have zS:∀ w,(Go.sizeOf 23).run Tryz.prog w = .ok 1 w:=fun w => by kernel_rfl
  have aS:∀ w,(isAgg 23).run Tryz.prog w = .ok false w:=fun w => by kernel_rfl
  have t3:Tryz.prog.underlying 3 = some (.int .i64):=by kernel_rfl
  have u3:=run_underlying t3
  have a3:∀ w,(isAgg 3).run Tryz.prog w = .ok false w:=fun w => by kernel_rfl
  have z3:∀ w,(Go.sizeOf 3).run Tryz.prog w = .ok 1 w:=fun w => by kernel_rfl
  go_enter Tryz.func48,Tryz.ntmps48
  go_wp2_with (at_builtin; refine Lib.wpList_append_run _ rfl _ _ _ _ rfl _ _ rfl rfl _ _ (hr _) ?_)
  all_goals (go_ret; exact ⟨rfl,rfl⟩)
theorem run_copy_n {P:Program} (w:World) (dT sT ty elem:TypeId) (b o dLen dCap:Nat) (a:Addr) (sLen sCap sz:Nat) (cs:List Value)
    (hu:P.underlying dT = some (.slice elem)) (hs:(P.info? elem).map (·.size) = some sz) (hn:cs.length = Nat.min sLen dLen * sz)
    (hsrc:∀ j v,cs[j]? = some v → w.cell? (a.add j) = some v) (hc:∀ j,j < cs.length → (w.cell? ⟨b,o + j,none⟩).isSome = true) (hf:∀ j,j < cs.length → w.frozen? ⟨b,o + j,none⟩ = false) (h1:∀ v ∈ cs,v.oneCell' = true) :
    (Builtin.copy_ #[dT,sT] ty #[.slice (some ⟨b,o,none⟩) dLen dCap,.slice (some a) sLen sCap]).run P w = .ok (goInt (Nat.min sLen dLen)) (w.setCells b o cs):=by
  have hl:=run_loadCells_list (P:=P) w a cs hsrc
  have hst:=run_storeCells_cells (P:=P) b o cs 0 w (by simpa using hc) (by simpa using hf) h1
  cases hq:P.info? elem with
  | none => simp [hq] at hs
  | some i =>
    have hi:i.size = sz:=by simpa [hq] using hs
    simp [Builtin.copy_,run_underlying hu,Builtin.lenOf,Builtin.firstCells,sizeOf,typeInfo,hq,hi,← hn,hl,hst]
/-- A road of slices.Insert: ahead of the end, with room. -/
theorem ins_shiftRoute (b vb n c i vc:Nat) (w w1 w2:World) (x1 x2:Value) (hi:i < n) (hn63:n < 9223372036854775807) (hroom:n + 1 ≤ c)
    (hov:∀ lb cb,(callFunc 87 #[.slice (some ⟨vb,0,none⟩) 1 vc,.slice (some ⟨b,(i + 1) * 8,none⟩) lb cb]).run Tryz.prog w = .ok (.value (.bool false)) w)
    (hc1:∀ ty dc sc,(Builtin.copy_ #[23,23] ty #[.slice (some ⟨b,(i + 1) * 8,none⟩) (n - i) dc,.slice (some ⟨b,i * 8,none⟩) (n + 1 - i) sc]).run Tryz.prog w.drew = .ok x1 w1)
    (hc2:∀ ty dc,(Builtin.copy_ #[23,23] ty #[.slice (some ⟨b,i * 8,none⟩) (n + 1 - i) dc,.slice (some ⟨vb,0,none⟩) 1 vc]).run Tryz.prog w1 = .ok x2 w2) :
    Calls Tryz.prog 48 #[.slice (some ⟨b,0,none⟩) n c,.int .i64 i,.slice (some ⟨vb,0,none⟩) 1 vc] w fun e w' => e = .returned (.slice (some ⟨b,0,none⟩) (n + 1) c) ∧ w' = w2:=by
  have mixed:Tryz.prog.follows .mixedOrders = true:=by kernel_rfl
  have tS:Tryz.prog.underlying 23 = some (.slice 56):=by kernel_rfl
  have uS:=run_underlying tS
  have zE:∀ w,(Go.sizeOf 56).run Tryz.prog w = .ok 8 w:=fun w => by kernel_rfl
  have zS:∀ w,(Go.sizeOf 23).run Tryz.prog w = .ok 1 w:=fun w => by kernel_rfl
  have aS:∀ w,(isAgg 23).run Tryz.prog w = .ok false w:=fun w => by kernel_rfl
  have t3:Tryz.prog.underlying 3 = some (.int .i64):=by kernel_rfl
  have u3:=run_underlying t3
  have a3:∀ w,(isAgg 3).run Tryz.prog w = .ok false w:=fun w => by kernel_rfl
  have z3:∀ w,(Go.sizeOf 3).run Tryz.prog w = .ok 1 w:=fun w => by kernel_rfl
  have hz2:¬ ((i:Int) = (n:Int)):=by omega
  have hw1:IntKind.i64.wrap ((i:Int) + 1) = (i:Int) + 1:=by rw [IntKind.wrap_i64]; omega
  have hb1:(0:Int) ≤ (i:Int) + 1:=by omega
  have hin:i ≤ n:=by omega
  have htn:((i:Int) + 1).toNat = i + 1:=by omega
  have hb2:¬ (c = i + 1):=by omega
  have hb3:(i:Int) ≤ (n:Int) + 1:=by omega
  have hb4:¬ (c = i):=by omega
  go_enter Tryz.func48,Tryz.ntmps48
  go_wp2_with (simp only [hov])
  go_region_law_o (refine step_copy_runI rfl _ _ 23 23 rfl _ _ (by simp [Act.eval,Act.put]) (by simp [Act.eval,Act.put]) (hc1 _ _ _) ?_)
  go_wp2_with (at_builtin; refine wpList_copy_runI _ rfl _ _ 23 23 rfl _ _ rfl rfl (hc2 _ _) ?_)
  go_ret
  exact ⟨rfl,rfl⟩
/-- A road of slices.Insert: ahead of the end, no room. -/
theorem ins_growRoute (b vb n c i vc N G:Nat) (w w1 w2 w3:World) (x1 x2:Value) (hi:i < n) (hn63:n < 9223372036854775807) (hnc:n ≤ c) (hroom:c < n + 1) (hG:n + 1 ≤ G)
    (hr:∀ ty,(Builtin.append_ #[23,3] ty #[.slice (some ⟨b,0,none⟩) i c,.int .i64 ((n:Int) + 1 - (i:Int))]).run Tryz.prog w = .ok (.slice (some ⟨N,0,none⟩) (n + 1) G) w1)
    (hc1:∀ ty dc,(Builtin.copy_ #[23,23] ty #[.slice (some ⟨N,i * 8,none⟩) (n + 1 - i) dc,.slice (some ⟨vb,0,none⟩) 1 vc]).run Tryz.prog w1 = .ok x1 w2)
    (hc2:∀ ty dc sc,(Builtin.copy_ #[23,23] ty #[.slice (some ⟨N,(i + 1) * 8,none⟩) (n - i) dc,.slice (some ⟨b,i * 8,none⟩) (n - i) sc]).run Tryz.prog w2.drew = .ok x2 w3) :
    Calls Tryz.prog 48 #[.slice (some ⟨b,0,none⟩) n c,.int .i64 i,.slice (some ⟨vb,0,none⟩) 1 vc] w fun e w' => e = .returned (.slice (some ⟨N,0,none⟩) (n + 1) G) ∧ w' = w3:=by
  have mixed:Tryz.prog.follows .mixedOrders = true:=by kernel_rfl
  have tS:Tryz.prog.underlying 23 = some (.slice 56):=by kernel_rfl
  have uS:=run_underlying tS
  have zE:∀ w,(Go.sizeOf 56).run Tryz.prog w = .ok 8 w:=fun w => by kernel_rfl
  have zS:∀ w,(Go.sizeOf 23).run Tryz.prog w = .ok 1 w:=fun w => by kernel_rfl
  have aS:∀ w,(isAgg 23).run Tryz.prog w = .ok false w:=fun w => by kernel_rfl
  have t3:Tryz.prog.underlying 3 = some (.int .i64):=by kernel_rfl
  have u3:=run_underlying t3
  have a3:∀ w,(isAgg 3).run Tryz.prog w = .ok false w:=fun w => by kernel_rfl
  have z3:∀ w,(Go.sizeOf 3).run Tryz.prog w = .ok 1 w:=fun w => by kernel_rfl
  have hz2:¬ ((i:Int) = (n:Int)):=by omega
  have hz3:(c:Int) < (n:Int) + 1:=by omega
  have hw0:IntKind.i64.wrap ((n:Int) + 1) = (n:Int) + 1:=by rw [IntKind.wrap_i64]; omega
  have hw1:IntKind.i64.wrap ((i:Int) + 1) = (i:Int) + 1:=by rw [IntKind.wrap_i64]; omega
  have hw2:IntKind.i64.wrap ((n:Int) + 1 - (i:Int)) = (n:Int) + 1 - (i:Int):=by rw [IntKind.wrap_i64]; omega
  have hb1:(0:Int) ≤ (i:Int) + 1:=by omega
  have hin:i ≤ n:=by omega
  have htn:((i:Int) + 1).toNat = i + 1:=by omega
  have hGi:¬ (G = i):=by omega
  have hGim:¬ (G = i + 1):=by omega
  have hci:¬ (c = i):=by omega
  have hb3:(i:Int) ≤ (n:Int):=by omega
  go_enter Tryz.func48,Tryz.ntmps48
  go_wp2_with (first
    | (at_builtin; refine Lib.wpList_append_run _ rfl _ _ _ _ rfl _ _ rfl rfl _ _ (hr _) ?_)
    | (at_builtin; refine wpList_copy_runI _ rfl _ _ 23 23 rfl _ _ rfl rfl (hc1 _ _) ?_))
  go_region_law_o (refine step_copy_runI rfl _ _ 23 23 rfl _ _ (by simp [Act.eval,Act.put]) (by simp [Act.eval,Act.put]) (hc2 _ _ _) ?_)
  go_wp2
  go_ret
  exact ⟨rfl,rfl⟩
theorem ins_worldRoute (b vb n c i vc:Nat) (w:World) (arr va:Array Value) (cv vv:List Value) (hba:w.heap[b]? = some (.cells arr 56 (0,0))) (hvb:w.heap[vb]? = some (.cells va 56 (0,0))) (hne:vb ≠ b)
    (hcl:cv.length = n * 8) (hvl:vv.length = 8) (hca:c * 8 ≤ arr.size) (hva:8 ≤ va.size) (hnc:n ≤ c) (hi:i ≤ n)
    (hcv:∀ (j:Nat) u,cv[j]? = some u → arr[j]? = some u) (hvv:∀ (j:Nat) u,vv[j]? = some u → va[j]? = some u) (h1c:∀ v ∈ cv,v.oneCell' = true) (h1v:∀ v ∈ vv,v.oneCell' = true)
    (hbig:(n + 1) * 96 ≤ 140737488355328) :
    ∃ (b' c':Nat) (arr':Array Value) (w':World),Calls Tryz.prog 48 #[.slice (some ⟨b,0,none⟩) n c,.int .i64 i,.slice (some ⟨vb,0,none⟩) 1 vc] w (fun e w'' => e = .returned (.slice (some ⟨b',0,none⟩) (n + 1) c') ∧ w'' = w') ∧
      w'.heap[b']? = some (.cells arr' 56 (0,0)) ∧ c' * 8 ≤ arr'.size ∧ n + 1 ≤ c' ∧ (∀ (j:Nat) u,(insV 8 i cv vv)[j]? = some u → arr'[j]? = some u) ∧ (b' = b ∨ w.heap.size ≤ b') ∧ Kp [b] w w':=by
  have tS:Tryz.prog.underlying 23 = some (.slice 56):=by kernel_rfl
  have t3:Tryz.prog.underlying 3 = some (.int .i64):=by kernel_rfl
  have zE:∀ w,(Go.sizeOf 56).run Tryz.prog w = .ok 8 w:=fun w => by kernel_rfl
  obtain ⟨inf,hinf⟩:=tsz_info (P:=Tryz.prog) (t:=56) (by simp)
  have hsz:inf.size = 8:=by
    have h1:tsz Tryz.prog 56 = inf.size:=by simp only [tsz,hinf]
    have h2:tsz Tryz.prog 56 = 8:=by kernel_rfl
    omega
  have hby:inf.bytes = 96:=by
    have h1:tby Tryz.prog 56 = inf.bytes:=by simp only [tby,hinf]
    have h2:tby Tryz.prog 56 = 96:=by kernel_rfl
    omega
  have hszs:(Tryz.prog.info? 56).map (·.size) = some 8:=by rw [hinf,Option.map_some,hsz]
  obtain ⟨z,hz⟩:∃ z,inf.zero = some z:=by
    have h2:(tzero Tryz.prog 56).isSome = true:=by kernel_rfl
    have h1:tzero Tryz.prog 56 = inf.zero:=by simp only [tzero,hinf]
    rw [h1] at h2
    exact Option.isSome_iff_exists.1 h2
  have hzs:z.cells.size = 8:=by
    have h2:(tzero Tryz.prog 56).map (fun z => z.cells.size) = some 8:=by kernel_rfl
    have h1:tzero Tryz.prog 56 = inf.zero:=by simp only [tzero,hinf]
    rw [h1,hz] at h2
    simpa using h2
  have hcellb:∀ (k:Nat) u,cv[k]? = some u → w.cell? ⟨b,k,none⟩ = some u:=fun k u h => by rw [cell_at hba]; exact hcv k u h
  have hcellv:∀ (k:Nat) u,vv[k]? = some u → w.cell? ⟨vb,k,none⟩ = some u:=fun k u h => by rw [cell_at hvb]; exact hvv k u h
  have hvlt:vb < w.heap.size:=(Array.getElem?_eq_some_iff.1 hvb).1
  have hblt:b < w.heap.size:=(Array.getElem?_eq_some_iff.1 hba).1
  by_cases hin:i = n
  · subst hin
    have hins:insV 8 i cv vv = cv ++ vv:=by
      unfold insV
      rw [List.take_of_length_le (by omega),List.drop_of_length_le (by omega),List.append_nil]
    rw [hins]
    by_cases hroom:i + 1 ≤ c
    · have hr:∀ ty,(Builtin.append_ #[23,23] ty #[.slice (some ⟨b,0,none⟩) i c,.slice (some ⟨vb,0,none⟩) 1 vc]).run Tryz.prog w = .ok (.slice (some ⟨b,0,none⟩) (i + 1) c) (w.setCells b (i * 8) vv):=fun ty => by
        have h:=run_append_room_cells (P:=Tryz.prog) w 23 ty 56 inf tS hinf b 0 i c ⟨vb,0,none⟩ 1 vc vv (by rw [hsz,hvl]) (fun j u hj => by rw [Addr.add_lit,Nat.zero_add]; exact hcellv j u hj) h1v hroom
          (fun j hj => by rw [cell_at hba,hsz,Array.getElem?_eq_getElem (by omega)]; rfl) (fun j hj => by simp [World.frozen?,hba])
        rw [hsz,Nat.zero_add] at h
        exact h
      obtain ⟨arr',r1,r2,r3⟩:=setCells_heap vv (i * 8) w arr hba
      refine ⟨b,c,arr',_,ins_endRoute (some ⟨b,0,none⟩) vb i c vc w _ _ hnc hr,r1,by omega,hroom,?_,.inl rfl,setCells_kp b vv _ w⟩
      intro j u hj
      rw [r3]
      rw [List.getElem?_append] at hj
      split at hj
      · rw [if_neg (by omega)]
        exact hcv j u hj
      · have:=getv hj
        rw [if_pos (by omega),← hcl]
        exact hj
    · have hr:∀ ty,(Builtin.append_ #[23,23] ty #[.slice (some ⟨b,0,none⟩) i c,.slice (some ⟨vb,0,none⟩) 1 vc]).run Tryz.prog w = .ok (.slice (some ⟨w.heap.size,0,none⟩) (i + 1) (grownCap w (i + 1) c 56)) (w.drew.alloc (.cells (cv.toArray ++ vv.toArray ++ Builtin.zeroCells z.cells (grownCap w (i + 1) c 56 - (i + 1))) 56)):=fun ty =>
        run_append_grow (P:=Tryz.prog) w 23 ty 56 inf z tS hinf hz ⟨b,0,none⟩ i c cv (by rw [hsz,hcl]) (fun j u hj => by rw [Addr.add_lit,Nat.zero_add]; exact hcellb j u hj) ⟨vb,0,none⟩ 1 vc vv (by rw [hsz,hvl]) (fun j u hj => by rw [Addr.add_lit,Nat.zero_add]; exact hcellv j u hj) (by omega) (by omega) (growslice_fits (by omega) (by rw [hby]; exact hbig))
      have hge:=grownCap_ge w (i + 1) c 56
      refine ⟨w.heap.size,_,_,_,ins_endRoute (some ⟨b,0,none⟩) vb i c vc w _ _ hnc hr,alloc_at w.drew _,?_,hge,?_,.inr (Nat.le_refl _),(Kp.of_below (drew_below w) (Nat.le_succ _)).trans (alloc_kp [] w.drew _) (by simp)⟩
      · simp only [Array.size_append,List.size_toArray,size_zeroCells,hzs,hcl,hvl]
        omega
      · intro j u hj
        have hjl:=getv hj
        rw [List.length_append] at hjl
        rw [Array.getElem?_append_left (by simpa using hjl)]
        simpa using hj
  · have hin':i < n:=by omega
    have hdl:(cv.drop (i * 8)).length = (n - i) * 8:=by rw [List.length_drop,hcl]; omega
    have hdat:∀ (j:Nat) u,(cv.drop (i * 8))[j]? = some u → cv[i * 8 + j]? = some u:=fun j u h => by rwa [List.getElem?_drop] at h
    by_cases hroom:n + 1 ≤ c
    · obtain ⟨arr1,p1,p2,p3⟩:=setCells_heap (cv.drop (i * 8)) ((i + 1) * 8) w.drew arr hba
      have hk1:=setCells_kp b (cv.drop (i * 8)) ((i + 1) * 8) w.drew
      have hc1:∀ ty dc sc,(Builtin.copy_ #[23,23] ty #[.slice (some ⟨b,(i + 1) * 8,none⟩) (n - i) dc,.slice (some ⟨b,i * 8,none⟩) (n + 1 - i) sc]).run Tryz.prog w.drew = .ok (goInt (Nat.min (n + 1 - i) (n - i))) (w.drew.setCells b ((i + 1) * 8) (cv.drop (i * 8))):=fun ty dc sc =>
        run_copy_n w.drew _ _ ty 56 b ((i + 1) * 8) (n - i) dc ⟨b,i * 8,none⟩ (n + 1 - i) sc 8 (cv.drop (i * 8)) tS hszs (by rw [hdl,show Nat.min (n + 1 - i) (n - i) = n - i from Nat.min_eq_right (by omega)])
          (fun j v hj => by rw [Addr.add_lit]; exact hcellb _ v (hdat j v hj))
          (fun j hj => by
            show (w.cell? ⟨b,_,none⟩).isSome = true
            rw [cell_at hba,Array.getElem?_eq_getElem (by omega)]; rfl)
          (fun j hj => by
            show w.frozen? ⟨b,_,none⟩ = false
            simp [World.frozen?,hba]) (fun v hv => h1c v (List.mem_of_mem_drop hv))
      generalize w.drew.setCells b ((i + 1) * 8) (cv.drop (i * 8)) = W1 at p1 hk1 hc1
      obtain ⟨arr2,q1,q2,q3⟩:=setCells_heap vv (i * 8) W1 arr1 p1
      have hk2:=setCells_kp b vv (i * 8) W1
      have hvW:W1.heap[vb]? = some (.cells va 56 (0,0)):=(hk1.block vb hvlt (by simpa using hne)).trans hvb
      have hc2:∀ ty dc,(Builtin.copy_ #[23,23] ty #[.slice (some ⟨b,i * 8,none⟩) (n + 1 - i) dc,.slice (some ⟨vb,0,none⟩) 1 vc]).run Tryz.prog W1 = .ok (goInt (Nat.min 1 (n + 1 - i))) (W1.setCells b (i * 8) vv):=fun ty dc =>
        run_copy_n W1 _ _ ty 56 b (i * 8) (n + 1 - i) dc ⟨vb,0,none⟩ 1 vc 8 vv tS hszs (by rw [hvl,show Nat.min 1 (n + 1 - i) = 1 from Nat.min_eq_left (by omega)])
          (fun j v hj => by rw [Addr.add_lit,Nat.zero_add,cell_at hvW]; exact hvv j v hj)
          (fun j hj => by rw [cell_at p1,Array.getElem?_eq_getElem (by omega)]; rfl)
          (fun j hj => by simp [World.frozen?,p1]) h1v
      have hov:∀ lb cb,(callFunc 87 #[.slice (some ⟨vb,0,none⟩) 1 vc,.slice (some ⟨b,(i + 1) * 8,none⟩) lb cb]).run Tryz.prog w = .ok (.value (.bool false)) w:=fun lb cb => by
        rw [run_callFunc_extern (f:=87) Tryz.func87 (by kernel_rfl) (by kernel_rfl) (by kernel_rfl) (e:=Extern.SlicesOverlaps.overlaps #[23,23] #[4]) (by kernel_rfl),
          Lib.run_overlaps_apart w 23 4 56 tS 8 zE ⟨vb,0,none⟩ ⟨b,(i + 1) * 8,none⟩ 1 vc lb cb hne 56 56 va.size arr.size (by simp [World.shape?,hvb]) (by simp [World.shape?,hba]) (by omega) (by simp [World.frozen?,hvb]) (by simp [World.frozen?,hvb])]
        rfl
      refine ⟨b,c,arr2,_,ins_shiftRoute b vb n c i vc w W1 _ _ _ hin' (by omega) hroom hov hc1 hc2,q1,by omega,hroom,?_,.inl rfl,((Kp.of_below (drew_below w) (Nat.le_succ _)).trans hk1 (by intro y hy; exact .inl hy)).trans hk2 (by intro y hy; exact .inl hy)⟩
      intro j u hj
      rw [insV_at _ _ _ _ hvl (by omega)] at hj
      rw [q3]
      split at hj
      · have:=getv hj
        rw [if_neg (by omega),p3,if_neg (by omega)]
        exact hcv j u hj
      · split at hj
        · rw [if_pos (by omega)]
          exact hj
        · have:=getv hj
          rw [if_neg (by omega),p3,if_pos (by omega),List.getElem?_drop]
          have e:i * 8 + (j - (i + 1) * 8) = j - 8:=by omega
          rw [e]
          exact hj
    · have hold:(Builtin.firstCells inf.size i (.slice (some ⟨b,0,none⟩) i c)).run Tryz.prog w.drew = .ok (cv.take (i * 8)).toArray w.drew :=
        run_firstCells_some w.drew inf.size i ⟨b,0,none⟩ i c (cv.take (i * 8)) (by rw [List.length_take,hsz]; omega) (fun j v hj => by
          rw [Addr.add_lit,Nat.zero_add]
          rw [List.getElem?_take] at hj
          split at hj
          · exact hcellb j v hj
          · cases hj)
      obtain ⟨G,hG⟩:∃ G,G = grownCap w (n + 1) c 56:=⟨_,rfl⟩
      have hge:=grownCap_ge w (n + 1) c 56
      rw [← hG] at hge
      obtain ⟨ROW,hROW⟩:∃ ROW:Array Value,ROW = (cv.take (i * 8)).toArray ++ Builtin.zeroCells z.cells (n + 1 - i) ++ Builtin.zeroCells z.cells (G - (n + 1)):=⟨_,rfl⟩
      have hRs:ROW.size = G * 8:=by
        rw [hROW]
        simp only [Array.size_append,List.size_toArray,size_zeroCells,hzs,List.length_take,hcl]
        omega
      have hRa:∀ (j:Nat),j < i * 8 → ROW[j]? = cv[j]?:=by
        intro j hj
        have h1:j < (cv.take (i * 8)).toArray.size:=by simp only [List.size_toArray,List.length_take]; omega
        rw [hROW,Array.append_assoc,Array.getElem?_append_left h1]
        simp only [List.getElem?_toArray,List.getElem?_take,if_pos hj]
      have hr:∀ ty,(Builtin.append_ #[23,3] ty #[.slice (some ⟨b,0,none⟩) i c,.int .i64 ((n:Int) + 1 - (i:Int))]).run Tryz.prog w = .ok (.slice (some ⟨w.heap.size,0,none⟩) (n + 1) G) (w.drew.alloc (.cells ROW 56)):=fun ty => by
        have hik:i + (n + 1 - i) = n + 1:=by omega
        have hkk:(n:Int) + 1 - (i:Int) = ((n + 1 - i:Nat):Int):=by omega
        have h:=Lib.run_append_grow_zeros w 23 3 ty 56 inf z .i64 .i64 tS t3 hinf hz (some ⟨b,0,none⟩) i c (cv.take (i * 8)) hold (n + 1 - i) (by omega) (by omega) (by omega) (by omega) (by rw [hby]; omega) (by rw [hby,hik]; exact growslice_fits (by omega) hbig)
        rw [hik,← hG,← hROW] at h
        rw [hkk]
        exact h
      obtain ⟨N,hN⟩:∃ N,N = w.heap.size:=⟨_,rfl⟩
      have hN0:(w.drew.alloc (.cells ROW 56)).heap[N]? = some (.cells ROW 56 (0,0)):=by rw [hN]; exact alloc_at w.drew _
      have hk0:Kp [] w (w.drew.alloc (.cells ROW 56)):=(Kp.of_below (drew_below w) (Nat.le_succ _)).trans (alloc_kp [] w.drew _) (by simp)
      rw [← hN] at hr
      generalize w.drew.alloc (.cells ROW 56) = W0 at hr hN0 hk0
      obtain ⟨arr1,p1,p2,p3⟩:=setCells_heap vv (i * 8) W0 ROW hN0
      have hk1:=setCells_kp N vv (i * 8) W0
      have hv0:W0.heap[vb]? = some (.cells va 56 (0,0)):=(hk0.block vb hvlt (by simp)).trans hvb
      have hb0:W0.heap[b]? = some (.cells arr 56 (0,0)):=(hk0.block b hblt (by simp)).trans hba
      have hc1:∀ ty dc,(Builtin.copy_ #[23,23] ty #[.slice (some ⟨N,i * 8,none⟩) (n + 1 - i) dc,.slice (some ⟨vb,0,none⟩) 1 vc]).run Tryz.prog W0 = .ok (goInt (Nat.min 1 (n + 1 - i))) (W0.setCells N (i * 8) vv):=fun ty dc =>
        run_copy_n W0 _ _ ty 56 N (i * 8) (n + 1 - i) dc ⟨vb,0,none⟩ 1 vc 8 vv tS hszs (by rw [hvl,show Nat.min 1 (n + 1 - i) = 1 from Nat.min_eq_left (by omega)])
          (fun j v hj => by rw [Addr.add_lit,Nat.zero_add,cell_at hv0]; exact hvv j v hj)
          (fun j hj => by rw [cell_at hN0,Array.getElem?_eq_getElem (by omega)]; rfl)
          (fun j hj => by simp [World.frozen?,hN0]) h1v
      have hb1:(W0.setCells N (i * 8) vv).heap[b]? = some (.cells arr 56 (0,0)):=by
        rw [hk1.block b (Nat.lt_of_lt_of_le hblt hk0.size) (by simp; omega)]
        exact hb0
      generalize W0.setCells N (i * 8) vv = W1 at p1 hk1 hc1 hb1
      have p1d:W1.drew.heap[N]? = some (.cells arr1 56 (0,0)):=p1
      obtain ⟨arr2,q1,q2,q3⟩:=setCells_heap (cv.drop (i * 8)) ((i + 1) * 8) W1.drew arr1 p1d
      have hk2:=setCells_kp N (cv.drop (i * 8)) ((i + 1) * 8) W1.drew
      have hc2:∀ ty dc sc,(Builtin.copy_ #[23,23] ty #[.slice (some ⟨N,(i + 1) * 8,none⟩) (n - i) dc,.slice (some ⟨b,i * 8,none⟩) (n - i) sc]).run Tryz.prog W1.drew = .ok (goInt (Nat.min (n - i) (n - i))) (W1.drew.setCells N ((i + 1) * 8) (cv.drop (i * 8))):=fun ty dc sc =>
        run_copy_n W1.drew _ _ ty 56 N ((i + 1) * 8) (n - i) dc ⟨b,i * 8,none⟩ (n - i) sc 8 (cv.drop (i * 8)) tS hszs (by rw [hdl,show Nat.min (n - i) (n - i) = n - i from Nat.min_self _])
          (fun j v hj => by
            rw [Addr.add_lit]
            show W1.cell? ⟨b,_,none⟩ = some v
            rw [cell_at hb1]
            exact hcv _ v (hdat j v hj))
          (fun j hj => by
            show (W1.cell? ⟨N,_,none⟩).isSome = true
            rw [cell_at p1,Array.getElem?_eq_getElem (by omega)]; rfl)
          (fun j hj => by
            show W1.frozen? ⟨N,_,none⟩ = false
            simp [World.frozen?,p1]) (fun v hv => h1c v (List.mem_of_mem_drop hv))
      refine ⟨N,G,arr2,_,ins_growRoute b vb n c i vc N G w W0 W1 _ _ _ hin' (by omega) hnc (by omega) hge hr hc1 hc2,q1,by omega,hge,?_,.inr (by omega),?_⟩
      · intro j u hj
        rw [insV_at _ _ _ _ hvl (by omega)] at hj
        rw [q3]
        split at hj
        · have:=getv hj
          rw [if_neg (by omega),p3,if_neg (by omega),hRa j (by omega)]
          exact hj
        · split at hj
          · have:=getv hj
            rw [if_neg (by omega),p3,if_pos (by omega)]
            exact hj
          · have:=getv hj
            rw [if_pos (by omega),List.getElem?_drop]
            have e:i * 8 + (j - (i + 1) * 8) = j - 8:=by omega
            rw [e]
            exact hj
      · have hk1':Kp [] w W1:=hk0.trans hk1 (by simp; omega)
        have hk2':Kp [] w (W1.drew.setCells N ((i + 1) * 8) (cv.drop (i * 8))):=(hk1'.trans (Kp.of_below (bs:=[]) (drew_below W1) (Nat.le_succ _)) (by simp)).trans hk2 (by simp; omega)
        exact Kp.of_below hk2'.below hk2'.drawn
end Go.V
