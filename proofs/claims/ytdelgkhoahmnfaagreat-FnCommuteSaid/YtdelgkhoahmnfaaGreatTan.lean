/- What functions of the seat's program do, each proved of its code, under the bounds that its theorem names. -/
import Derived.Test.YtdelgkhoahmnfaaGreatTam
import Derived.Deep.AppendSrc
import Derived.Lib.AppendZeros
import Derived.Shelf.Spec.SlicesInsert
import Derived.WalkKit
set_option linter.all false
namespace Go.V
open Go.Proofs
set_option maxHeartbeats 1000000
set_option maxRecDepth 10000
set_option linter.unusedSimpArgs false
set_option linter.unusedVariables false
theorem del_walkOffer (b n c i j q:Nat) (A:Addr) (w w1 w2:World) (x2:Value) (hij:i < j) (hj:j ≤ n) (hnc:n ≤ c) (hq:q < n)
    (hA:(if c = j then some (⟨b,0,none⟩:Addr) else some ⟨b,j * 7,none⟩) = some A)
    (hr:∀ ty,(Builtin.append_ #[26,26] ty #[.slice (some ⟨b,0,none⟩) i c,.slice (some A) (n - j) (c - j)]).run Tryz.prog w.drew = .ok (.slice (some ⟨b,0,none⟩) q c) w1)
    (hc:∀ ty,(Builtin.clear_ #[26] ty #[.slice (some ⟨b,q * 7,none⟩) (n - q) (c - q)]).run Tryz.prog w1 = .ok x2 w2) :
    Calls Tryz.prog 126 #[.slice (some ⟨b,0,none⟩) n c,.int .i64 i,.int .i64 j] w fun e w' => e = .returned (.slice (some ⟨b,0,none⟩) q c) ∧ w' = w2:=by
  have mixed:Tryz.prog.follows .mixedOrders = true:=by kernel_rfl
  have tS:Tryz.prog.underlying 26 = some (.slice 81):=by kernel_rfl
  have uS:=run_underlying tS
  have zE:∀ w,(Go.sizeOf 81).run Tryz.prog w = .ok 7 w:=fun w => by kernel_rfl
  have zS:∀ w,(Go.sizeOf 26).run Tryz.prog w = .ok 1 w:=fun w => by kernel_rfl
  have aS:∀ w,(isAgg 26).run Tryz.prog w = .ok false w:=fun w => by kernel_rfl
  have t3:Tryz.prog.underlying 3 = some (.int .i64):=by kernel_rfl
  have u3:=run_underlying t3
  have a3:∀ w,(isAgg 3).run Tryz.prog w = .ok false w:=fun w => by kernel_rfl
  have z3:∀ w,(Go.sizeOf 3).run Tryz.prog w = .ok 1 w:=fun w => by kernel_rfl
  have hne:¬ ((i:Int) = (j:Int)):=by omega
  have hic:i ≤ c:=by omega
  have hjc:j ≤ c:=by omega
  have hij':i ≤ j:=by omega
  have hqn:q ≤ n:=by omega
  have hqc:q ≤ c:=by omega
  have hcq:¬ (c = q):=by omega
  go_enter Tryz.func126,Tryz.ntmps126
  go_wp2_with fail
  go_region_law_o (refine step_app_run rfl _ _ 26 26 rfl (.slice (some ⟨b,0,none⟩) i c) (.slice (some A) (n - j) (c - j)) (by simp [Act.eval,Act.put]) (by simp [Act.eval,Act.put]) (hr _) ?_)
  go_wp2_with (at_builtin; refine wpList_clear_run _ rfl _ 26 rfl _ rfl (hc _) ?_)
  go_ret
  exact ⟨rfl,rfl⟩
theorem del_worldOffer (b n c i j:Nat) (w:World) (arr:Array Value) (cv:List Value) (hba:w.heap[b]? = some (.cells arr 81 (0,0)))
    (hcl:cv.length = n * 7) (hca:c * 7 ≤ arr.size) (hnc:n ≤ c) (hij:i < j) (hj:j ≤ n)
    (hcv:∀ (t:Nat) u,cv[t]? = some u → arr[t]? = some u) (h1c:∀ v ∈ cv,v.oneCell' = true) :
    ∃ (arr':Array Value) (w':World),Calls Tryz.prog 126 #[.slice (some ⟨b,0,none⟩) n c,.int .i64 i,.int .i64 j] w (fun e w'' => e = .returned (.slice (some ⟨b,0,none⟩) (i + (n - j)) c) ∧ w'' = w') ∧
      w'.heap[b]? = some (.cells arr' 81 (0,0)) ∧ c * 7 ≤ arr'.size ∧ (∀ (t:Nat) u,(cv.take (i * 7) ++ cv.drop (j * 7))[t]? = some u → arr'[t]? = some u) ∧ Kp [b] w w':=by
  have tS:Tryz.prog.underlying 26 = some (.slice 81):=by kernel_rfl
  obtain ⟨inf,hinf⟩:=tsz_info (P:=Tryz.prog) (t:=81) (by simp)
  have hsz:inf.size = 7:=by
    have h1:tsz Tryz.prog 81 = inf.size:=by simp only [tsz,hinf]
    have h2:tsz Tryz.prog 81 = 7:=by kernel_rfl
    omega
  have hzz:tzero Tryz.prog 81 = inf.zero:=by simp only [tzero,hinf]
  obtain ⟨z,hz⟩:∃ z,inf.zero = some z:=by
    have h2:(tzero Tryz.prog 81).isSome = true:=by kernel_rfl
    rw [hzz] at h2
    exact Option.isSome_iff_exists.1 h2
  have hzs:z.cells.size = 7:=by
    have h2:(tzero Tryz.prog 81).map (fun z => z.cells.size) = some 7:=by kernel_rfl
    rw [hzz,hz] at h2
    simpa using h2
  have hz1:∀ v ∈ z.cells.toList,v.oneCell' = true:=by
    have h2:(tzero Tryz.prog 81).map (fun z => z.cells.toList.all Value.oneCell') = some true:=by kernel_rfl
    rw [hzz,hz] at h2
    have h3:z.cells.toList.all Value.oneCell' = true:=by simpa using h2
    exact List.all_eq_true.1 h3
  have hcellb:∀ (k:Nat) u,cv[k]? = some u → w.cell? ⟨b,k,none⟩ = some u:=fun k u h => by rw [cell_at hba]; exact hcv k u h
  obtain ⟨news,hnews⟩:∃ news,news = cv.drop (j * 7):=⟨_,rfl⟩
  have hnl:news.length = (n - j) * 7:=by rw [hnews,List.length_drop,hcl]; omega
  have hnat:∀ (t:Nat) u,news[t]? = some u → cv[j * 7 + t]? = some u:=fun t u h => by rw [hnews] at h; rwa [List.getElem?_drop] at h
  obtain ⟨A,hA,hsrc⟩:∃ A:Addr,(if c = j then some (⟨b,0,none⟩:Addr) else some ⟨b,j * 7,none⟩) = some A ∧ ∀ (t:Nat) u,news[t]? = some u → w.drew.cell? (A.add t) = some u:=by
    by_cases h:c = j
    · refine ⟨⟨b,0,none⟩,by simp [h],fun t u hu => ?_⟩
      have:=(List.getElem?_eq_some_iff.1 hu).1
      omega
    · refine ⟨⟨b,j * 7,none⟩,by simp [h],fun t u hu => ?_⟩
      rw [Addr.add_lit]
      exact hcellb _ u (hnat t u hu)
  have hr:∀ ty,(Builtin.append_ #[26,26] ty #[.slice (some ⟨b,0,none⟩) i c,.slice (some A) (n - j) (c - j)]).run Tryz.prog w.drew = .ok (.slice (some ⟨b,0,none⟩) (i + (n - j)) c) (w.drew.setCells b (i * 7) news):=fun ty => by
    have h:=run_append_room_cells (P:=Tryz.prog) w.drew 26 ty 81 inf tS hinf b 0 i c A (n - j) (c - j) news (by rw [hsz,hnl]) hsrc (by intro u hu; rw [hnews] at hu; exact h1c u (List.mem_of_mem_drop hu)) (by omega)
      (fun t ht => by
        show (w.cell? ⟨b,_,none⟩).isSome = true
        rw [cell_at hba,hsz,Array.getElem?_eq_getElem (by omega)]; rfl) (fun t ht => by
        show w.frozen? ⟨b,_,none⟩ = false
        simp [World.frozen?,hba])
    rw [hsz,Nat.zero_add] at h
    exact h
  obtain ⟨arr1,p1,p2,p3⟩:=setCells_heap news (i * 7) w.drew arr hba
  have hk1:=setCells_kp b news (i * 7) w.drew
  generalize w.drew.setCells b (i * 7) news = W1 at hr p1 hk1
  obtain ⟨k,hk⟩:∃ k,n - (i + (n - j)) = k + 1:=⟨n - (i + (n - j)) - 1,by omega⟩
  have hc:∀ ty,(Builtin.clear_ #[26] ty #[.slice (some ⟨b,(i + (n - j)) * 7,none⟩) (n - (i + (n - j))) (c - (i + (n - j)))]).run Tryz.prog W1 = .ok (.tuple #[]) (W1.setCells b ((i + (n - j)) * 7) ((List.replicate (k + 1) z.cells.toList).flatten)):=fun ty => by
    rw [hk]
    exact run_clear_n W1 26 ty 81 b ((i + (n - j)) * 7) k _ inf z tS hinf hz (fun t ht => by rw [cell_at p1,Array.getElem?_eq_getElem (by rw [hzs] at ht; omega)]; rfl) (fun t ht => by simp [World.frozen?,p1]) hz1
  obtain ⟨arr2,q1,q2,q3⟩:=setCells_heap ((List.replicate (k + 1) z.cells.toList).flatten) ((i + (n - j)) * 7) W1 arr1 p1
  have hk2:=setCells_kp b ((List.replicate (k + 1) z.cells.toList).flatten) ((i + (n - j)) * 7) W1
  refine ⟨arr2,_,del_walkOffer b n c i j (i + (n - j)) A w W1 _ _ hij hj hnc (by omega) hA hr hc,q1,by omega,?_,((Kp.of_below (drew_below w) (Nat.le_succ _)).trans hk1 (by intro y hy; exact .inl hy)).trans hk2 (by intro y hy; exact .inl hy)⟩
  intro t u ht
  have htl:=(List.getElem?_eq_some_iff.1 ht).1
  rw [List.length_append,List.length_take,List.length_drop] at htl
  rw [q3,if_neg (by omega),p3]
  rw [List.getElem?_append,List.length_take] at ht
  split at ht
  · rw [List.getElem?_take] at ht
    rw [if_neg (by omega)]
    split at ht
    · exact hcv t u ht
    · cases ht
  · rw [if_pos (by omega),hnews]
    have e:t - i * 7 = t - min (i * 7) cv.length:=by omega
    rw [e]
    exact ht
theorem ok_Delete_Offer (n i j:Nat) (cs:List PT) (hcl:cs.length = n * 7) (hij:i < j) (hj:j ≤ n) :
    CallOK Tryz.prog 126 [.c (.sl 0 81 n cs),.c (pi i),.c (pi j)] (.c (.sl 0 81 (i + (n - j)) (cs.take (i * 7) ++ cs.drop (j * 7)))) [.c .hole,.c (pi i),.c (pi j)]:=by
  intro I w las he hh hnd hI
  obtain ⟨ts,rfl,hts⟩:=erase_cs las [.sl 0 81 n cs,pi i,pi j] he
  obtain ⟨t0,t1,t2,rfl⟩:∃ t0 t1 t2,ts = [t0,t1,t2]:=by
    have hl:ts.length = 3:=by simpa using congrArg List.length hts
    match ts,hl with
    | [a,b,c],_ => exact ⟨a,b,c,rfl⟩
  simp only [List.map_cons,List.map_nil,List.cons.injEq,and_true] at hts
  obtain ⟨e0,e1,e2⟩:=hts
  have hs2:tsz Tryz.prog 81 = 7:=by kernel_rfl
  have k0:t0.holds (tsz Tryz.prog) w I:=by simpa [LV.holds] using hh (.c t0) (by simp)
  have k1:t1.holds (tsz Tryz.prog) w I:=by simpa [LV.holds] using hh (.c t1) (by simp)
  have k2:t2.holds (tsz Tryz.prog) w I:=by simpa [LV.holds] using hh (.c t2) (by simp)
  have leafI:∀ (t:LT) (m:Nat),t.erase = pi m → t.holds (tsz Tryz.prog) w I → t.val = .int .i64 m ∧ t.blocks = []:=by
    intro t m e k
    cases t with
    | leaf v p =>
      simp only [LT.erase] at e
      subst e
      simp only [LT.holds,Im,pi] at k
      exact ⟨k.1,by simp [LT.blocks]⟩
    | own b cap e m cs => simp [LT.erase,pi] at e
  obtain ⟨hv1,hb1⟩:=leafI t1 i e1 k1
  obtain ⟨hv2,hb2⟩:=leafI t2 j e2 k2
  simp only [List.map_cons,List.map_nil] at hh hnd hI ⊢
  cases t0 with
  | leaf v p =>
    simp only [LT.erase] at e0
    subst e0
    simp only [LT.holds,Im] at k0
    have:=k0.1.1
    omega
  | own b cap e m ls =>
    simp only [LT.erase,PT.sl.injEq,true_and] at e0
    obtain ⟨rfl,rfl,rfl⟩:=e0
    have k0':=k0
    simp only [LT.holds] at k0'
    obtain ⟨⟨arr,q1,q2,q3⟩,q4,q5,q6,q7⟩:=k0'
    rw [hs2] at q2 q4 q6
    have hcv:∀ (j:Nat) u,(ls.map LT.val)[j]? = some u → arr[j]? = some u:=by
      intro j u hj
      rw [List.getElem?_map,Option.map_eq_some_iff] at hj
      obtain ⟨d,hd,rfl⟩:=hj
      exact q3 j d hd
    have hlas:([LV.c (.own b cap 81 m ls),.c t1,.c t2].flatMap LV.blocks) = b :: ls.flatMap LT.blocks:=by simp [LV.blocks,LT.blocks,hb1,hb2]
    obtain ⟨arr',w',hcall,p1,p2,p3,p4⟩:=del_worldOffer b m cap i j w arr (ls.map LT.val) q1 (by rw [List.length_map,q4]) q2 q5 hij hj hcv (by
      intro v hv
      obtain ⟨d,hd,rfl⟩:=List.mem_map.1 hv
      rw [one_oneCell]
      exact LT.holds_one (q7 d hd))
    have hargs:[LV.val (.c (.own b cap 81 m ls)),LV.val (.c t1),LV.val (.c t2)].toArray = #[.slice (some ⟨b,0,none⟩) m cap,.int .i64 i,.int .i64 j]:=by
      simp only [LV.val,LT.val] at hv1 hv2 ⊢
      rw [hv1,hv2]
    rw [hargs]
    refine (CallsF.of_calls Tryz.func126 (by kernel_rfl) rfl hcall).mono ?_
    rintro e w'' ⟨rfl,rfl⟩
    rw [hlas] at hnd hI ⊢
    have hnd1:=List.nodup_cons.1 hnd
    have hbI:∀ k x,I k x → w''.heap[x]? = w.heap[x]?:=fun k x hx => p4.block x (hI k x hx).1 (by
      rw [List.mem_singleton]
      rintro rfl
      exact (hI k x hx).2 (by simp))
    have hsub:(ls.take (i * 7) ++ ls.drop (j * 7)).Sublist ls:=by
      have h1:(ls.drop (j * 7)).Sublist (ls.drop (i * 7)):=by
        have e:j * 7 = i * 7 + (j * 7 - i * 7):=by omega
        rw [e,← List.drop_drop]
        exact List.drop_sublist _ _
      have h2:=List.Sublist.append_left h1 (ls.take (i * 7))
      rwa [List.take_append_drop] at h2
    have hbs:((ls.take (i * 7) ++ ls.drop (j * 7)).flatMap LT.blocks).Sublist (ls.flatMap LT.blocks):=flat_sub _ hsub
    have hhold:∀ c ∈ ls,c.holds (tsz Tryz.prog) w'' I:=fun c hc => LT.holds_frame (fun _ _ h => h) hbI c (q7 c hc) fun x hx => p4.block x (LT.blocks_lt c (q7 c hc) x hx) (by
      rw [List.mem_singleton]
      rintro rfl
      exact hnd1.1 (List.mem_flatMap.2 ⟨c,hc,hx⟩))
    refine ⟨.c (.own b cap 81 (i + (m - j)) (ls.take (i * 7) ++ ls.drop (j * 7))),[.c (.leaf (.slice (some ⟨b,0,none⟩) m cap) .hole),.c t1,.c t2],by simp [LV.val,LT.val],by simp [LV.erase,LT.erase],by simp [LV.erase,LT.erase,e1,e2],?_,?_,?_,?_,?_,?_⟩
    · simp [LV.full,LV.trees,LT.val]
    · simp only [LV.holds,LT.holds]
      refine ⟨⟨arr',p1,by rw [hs2]; exact p2,fun t c hc => p3 t _ (by rw [← List.map_take,← List.map_drop,← List.map_append,List.getElem?_map,hc]; rfl)⟩,?_,by omega,⟨by rw [hs2]; omega,by omega⟩,fun c hc => hhold c (hsub.subset hc)⟩
      rw [List.length_append,List.length_take,List.length_drop,hs2,q4]
      omega
    · intro l hl
      simp only [List.mem_cons,List.not_mem_nil,or_false] at hl
      rcases hl with rfl | rfl | rfl
      · simp only [LV.holds,LT.holds,Im]; exact ⟨trivial,rfl⟩
      · simp only [LV.holds]; exact LT.holds_frame (fun _ _ h => h) hbI t1 k1 (by rw [hb1]; simp)
      · simp only [LV.holds]; exact LT.holds_frame (fun _ _ h => h) hbI t2 k2 (by rw [hb2]; simp)
    · simp only [LV.blocks,LT.blocks,List.flatMap_cons,List.flatMap_nil,List.append_nil,hb1,hb2,List.nil_append]
      exact List.nodup_cons.2 ⟨fun hx => hnd1.1 (hbs.subset hx),hnd1.2.sublist hbs⟩
    · intro x hx
      simp only [LV.blocks,LT.blocks,List.flatMap_cons,List.flatMap_nil,List.append_nil,hb1,hb2,List.nil_append,List.mem_cons] at hx
      rcases hx with rfl | hx
      · exact .inl (by simp)
      · exact .inl (List.mem_cons_of_mem _ (hbs.subset hx))
    · exact (Kp.refl _ w).trans p4 (by
        intro x hx
        rw [List.mem_singleton] at hx
        subst hx
        exact .inl (by simp))
theorem del_walkRow (b n c i j q:Nat) (A:Addr) (w w1 w2:World) (x2:Value) (hij:i < j) (hj:j ≤ n) (hnc:n ≤ c) (hq:q < n)
    (hA:(if c = j then some (⟨b,0,none⟩:Addr) else some ⟨b,j * 3,none⟩) = some A)
    (hr:∀ ty,(Builtin.append_ #[30,30] ty #[.slice (some ⟨b,0,none⟩) i c,.slice (some A) (n - j) (c - j)]).run Tryz.prog w.drew = .ok (.slice (some ⟨b,0,none⟩) q c) w1)
    (hc:∀ ty,(Builtin.clear_ #[30] ty #[.slice (some ⟨b,q * 3,none⟩) (n - q) (c - q)]).run Tryz.prog w1 = .ok x2 w2) :
    Calls Tryz.prog 127 #[.slice (some ⟨b,0,none⟩) n c,.int .i64 i,.int .i64 j] w fun e w' => e = .returned (.slice (some ⟨b,0,none⟩) q c) ∧ w' = w2:=by
  have mixed:Tryz.prog.follows .mixedOrders = true:=by kernel_rfl
  have tS:Tryz.prog.underlying 30 = some (.slice 79):=by kernel_rfl
  have uS:=run_underlying tS
  have zE:∀ w,(Go.sizeOf 79).run Tryz.prog w = .ok 3 w:=fun w => by kernel_rfl
  have zS:∀ w,(Go.sizeOf 30).run Tryz.prog w = .ok 1 w:=fun w => by kernel_rfl
  have aS:∀ w,(isAgg 30).run Tryz.prog w = .ok false w:=fun w => by kernel_rfl
  have t3:Tryz.prog.underlying 3 = some (.int .i64):=by kernel_rfl
  have u3:=run_underlying t3
  have a3:∀ w,(isAgg 3).run Tryz.prog w = .ok false w:=fun w => by kernel_rfl
  have z3:∀ w,(Go.sizeOf 3).run Tryz.prog w = .ok 1 w:=fun w => by kernel_rfl
  have hne:¬ ((i:Int) = (j:Int)):=by omega
  have hic:i ≤ c:=by omega
  have hjc:j ≤ c:=by omega
  have hij':i ≤ j:=by omega
  have hqn:q ≤ n:=by omega
  have hqc:q ≤ c:=by omega
  have hcq:¬ (c = q):=by omega
  go_enter Tryz.func127,Tryz.ntmps127
  go_wp2_with fail
  go_region_law_o (refine step_app_run rfl _ _ 30 30 rfl (.slice (some ⟨b,0,none⟩) i c) (.slice (some A) (n - j) (c - j)) (by simp [Act.eval,Act.put]) (by simp [Act.eval,Act.put]) (hr _) ?_)
  go_wp2_with (at_builtin; refine wpList_clear_run _ rfl _ 30 rfl _ rfl (hc _) ?_)
  go_ret
  exact ⟨rfl,rfl⟩
theorem del_worldRow (b n c i j:Nat) (w:World) (arr:Array Value) (cv:List Value) (hba:w.heap[b]? = some (.cells arr 79 (0,0)))
    (hcl:cv.length = n * 3) (hca:c * 3 ≤ arr.size) (hnc:n ≤ c) (hij:i < j) (hj:j ≤ n)
    (hcv:∀ (t:Nat) u,cv[t]? = some u → arr[t]? = some u) (h1c:∀ v ∈ cv,v.oneCell' = true) :
    ∃ (arr':Array Value) (w':World),Calls Tryz.prog 127 #[.slice (some ⟨b,0,none⟩) n c,.int .i64 i,.int .i64 j] w (fun e w'' => e = .returned (.slice (some ⟨b,0,none⟩) (i + (n - j)) c) ∧ w'' = w') ∧
      w'.heap[b]? = some (.cells arr' 79 (0,0)) ∧ c * 3 ≤ arr'.size ∧ (∀ (t:Nat) u,(cv.take (i * 3) ++ cv.drop (j * 3))[t]? = some u → arr'[t]? = some u) ∧ Kp [b] w w':=by
  have tS:Tryz.prog.underlying 30 = some (.slice 79):=by kernel_rfl
  obtain ⟨inf,hinf⟩:=tsz_info (P:=Tryz.prog) (t:=79) (by simp)
  have hsz:inf.size = 3:=by
    have h1:tsz Tryz.prog 79 = inf.size:=by simp only [tsz,hinf]
    have h2:tsz Tryz.prog 79 = 3:=by kernel_rfl
    omega
  have hzz:tzero Tryz.prog 79 = inf.zero:=by simp only [tzero,hinf]
  obtain ⟨z,hz⟩:∃ z,inf.zero = some z:=by
    have h2:(tzero Tryz.prog 79).isSome = true:=by kernel_rfl
    rw [hzz] at h2
    exact Option.isSome_iff_exists.1 h2
  have hzs:z.cells.size = 3:=by
    have h2:(tzero Tryz.prog 79).map (fun z => z.cells.size) = some 3:=by kernel_rfl
    rw [hzz,hz] at h2
    simpa using h2
  have hz1:∀ v ∈ z.cells.toList,v.oneCell' = true:=by
    have h2:(tzero Tryz.prog 79).map (fun z => z.cells.toList.all Value.oneCell') = some true:=by kernel_rfl
    rw [hzz,hz] at h2
    have h3:z.cells.toList.all Value.oneCell' = true:=by simpa using h2
    exact List.all_eq_true.1 h3
  have hcellb:∀ (k:Nat) u,cv[k]? = some u → w.cell? ⟨b,k,none⟩ = some u:=fun k u h => by rw [cell_at hba]; exact hcv k u h
  obtain ⟨news,hnews⟩:∃ news,news = cv.drop (j * 3):=⟨_,rfl⟩
  have hnl:news.length = (n - j) * 3:=by rw [hnews,List.length_drop,hcl]; omega
  have hnat:∀ (t:Nat) u,news[t]? = some u → cv[j * 3 + t]? = some u:=fun t u h => by rw [hnews] at h; rwa [List.getElem?_drop] at h
  obtain ⟨A,hA,hsrc⟩:∃ A:Addr,(if c = j then some (⟨b,0,none⟩:Addr) else some ⟨b,j * 3,none⟩) = some A ∧ ∀ (t:Nat) u,news[t]? = some u → w.drew.cell? (A.add t) = some u:=by
    by_cases h:c = j
    · refine ⟨⟨b,0,none⟩,by simp [h],fun t u hu => ?_⟩
      have:=(List.getElem?_eq_some_iff.1 hu).1
      omega
    · refine ⟨⟨b,j * 3,none⟩,by simp [h],fun t u hu => ?_⟩
      rw [Addr.add_lit]
      exact hcellb _ u (hnat t u hu)
  have hr:∀ ty,(Builtin.append_ #[30,30] ty #[.slice (some ⟨b,0,none⟩) i c,.slice (some A) (n - j) (c - j)]).run Tryz.prog w.drew = .ok (.slice (some ⟨b,0,none⟩) (i + (n - j)) c) (w.drew.setCells b (i * 3) news):=fun ty => by
    have h:=run_append_room_cells (P:=Tryz.prog) w.drew 30 ty 79 inf tS hinf b 0 i c A (n - j) (c - j) news (by rw [hsz,hnl]) hsrc (by intro u hu; rw [hnews] at hu; exact h1c u (List.mem_of_mem_drop hu)) (by omega)
      (fun t ht => by
        show (w.cell? ⟨b,_,none⟩).isSome = true
        rw [cell_at hba,hsz,Array.getElem?_eq_getElem (by omega)]; rfl) (fun t ht => by
        show w.frozen? ⟨b,_,none⟩ = false
        simp [World.frozen?,hba])
    rw [hsz,Nat.zero_add] at h
    exact h
  obtain ⟨arr1,p1,p2,p3⟩:=setCells_heap news (i * 3) w.drew arr hba
  have hk1:=setCells_kp b news (i * 3) w.drew
  generalize w.drew.setCells b (i * 3) news = W1 at hr p1 hk1
  obtain ⟨k,hk⟩:∃ k,n - (i + (n - j)) = k + 1:=⟨n - (i + (n - j)) - 1,by omega⟩
  have hc:∀ ty,(Builtin.clear_ #[30] ty #[.slice (some ⟨b,(i + (n - j)) * 3,none⟩) (n - (i + (n - j))) (c - (i + (n - j)))]).run Tryz.prog W1 = .ok (.tuple #[]) (W1.setCells b ((i + (n - j)) * 3) ((List.replicate (k + 1) z.cells.toList).flatten)):=fun ty => by
    rw [hk]
    exact run_clear_n W1 30 ty 79 b ((i + (n - j)) * 3) k _ inf z tS hinf hz (fun t ht => by rw [cell_at p1,Array.getElem?_eq_getElem (by rw [hzs] at ht; omega)]; rfl) (fun t ht => by simp [World.frozen?,p1]) hz1
  obtain ⟨arr2,q1,q2,q3⟩:=setCells_heap ((List.replicate (k + 1) z.cells.toList).flatten) ((i + (n - j)) * 3) W1 arr1 p1
  have hk2:=setCells_kp b ((List.replicate (k + 1) z.cells.toList).flatten) ((i + (n - j)) * 3) W1
  refine ⟨arr2,_,del_walkRow b n c i j (i + (n - j)) A w W1 _ _ hij hj hnc (by omega) hA hr hc,q1,by omega,?_,((Kp.of_below (drew_below w) (Nat.le_succ _)).trans hk1 (by intro y hy; exact .inl hy)).trans hk2 (by intro y hy; exact .inl hy)⟩
  intro t u ht
  have htl:=(List.getElem?_eq_some_iff.1 ht).1
  rw [List.length_append,List.length_take,List.length_drop] at htl
  rw [q3,if_neg (by omega),p3]
  rw [List.getElem?_append,List.length_take] at ht
  split at ht
  · rw [List.getElem?_take] at ht
    rw [if_neg (by omega)]
    split at ht
    · exact hcv t u ht
    · cases ht
  · rw [if_pos (by omega),hnews]
    have e:t - i * 3 = t - min (i * 3) cv.length:=by omega
    rw [e]
    exact ht
theorem ok_Delete_Row (n i j:Nat) (cs:List PT) (hcl:cs.length = n * 3) (hij:i < j) (hj:j ≤ n) :
    CallOK Tryz.prog 127 [.c (.sl 0 79 n cs),.c (pi i),.c (pi j)] (.c (.sl 0 79 (i + (n - j)) (cs.take (i * 3) ++ cs.drop (j * 3)))) [.c .hole,.c (pi i),.c (pi j)]:=by
  intro I w las he hh hnd hI
  obtain ⟨ts,rfl,hts⟩:=erase_cs las [.sl 0 79 n cs,pi i,pi j] he
  obtain ⟨t0,t1,t2,rfl⟩:∃ t0 t1 t2,ts = [t0,t1,t2]:=by
    have hl:ts.length = 3:=by simpa using congrArg List.length hts
    match ts,hl with
    | [a,b,c],_ => exact ⟨a,b,c,rfl⟩
  simp only [List.map_cons,List.map_nil,List.cons.injEq,and_true] at hts
  obtain ⟨e0,e1,e2⟩:=hts
  have hs2:tsz Tryz.prog 79 = 3:=by kernel_rfl
  have k0:t0.holds (tsz Tryz.prog) w I:=by simpa [LV.holds] using hh (.c t0) (by simp)
  have k1:t1.holds (tsz Tryz.prog) w I:=by simpa [LV.holds] using hh (.c t1) (by simp)
  have k2:t2.holds (tsz Tryz.prog) w I:=by simpa [LV.holds] using hh (.c t2) (by simp)
  have leafI:∀ (t:LT) (m:Nat),t.erase = pi m → t.holds (tsz Tryz.prog) w I → t.val = .int .i64 m ∧ t.blocks = []:=by
    intro t m e k
    cases t with
    | leaf v p =>
      simp only [LT.erase] at e
      subst e
      simp only [LT.holds,Im,pi] at k
      exact ⟨k.1,by simp [LT.blocks]⟩
    | own b cap e m cs => simp [LT.erase,pi] at e
  obtain ⟨hv1,hb1⟩:=leafI t1 i e1 k1
  obtain ⟨hv2,hb2⟩:=leafI t2 j e2 k2
  simp only [List.map_cons,List.map_nil] at hh hnd hI ⊢
  cases t0 with
  | leaf v p =>
    simp only [LT.erase] at e0
    subst e0
    simp only [LT.holds,Im] at k0
    have:=k0.1.1
    omega
  | own b cap e m ls =>
    simp only [LT.erase,PT.sl.injEq,true_and] at e0
    obtain ⟨rfl,rfl,rfl⟩:=e0
    have k0':=k0
    simp only [LT.holds] at k0'
    obtain ⟨⟨arr,q1,q2,q3⟩,q4,q5,q6,q7⟩:=k0'
    rw [hs2] at q2 q4 q6
    have hcv:∀ (j:Nat) u,(ls.map LT.val)[j]? = some u → arr[j]? = some u:=by
      intro j u hj
      rw [List.getElem?_map,Option.map_eq_some_iff] at hj
      obtain ⟨d,hd,rfl⟩:=hj
      exact q3 j d hd
    have hlas:([LV.c (.own b cap 79 m ls),.c t1,.c t2].flatMap LV.blocks) = b :: ls.flatMap LT.blocks:=by simp [LV.blocks,LT.blocks,hb1,hb2]
    obtain ⟨arr',w',hcall,p1,p2,p3,p4⟩:=del_worldRow b m cap i j w arr (ls.map LT.val) q1 (by rw [List.length_map,q4]) q2 q5 hij hj hcv (by
      intro v hv
      obtain ⟨d,hd,rfl⟩:=List.mem_map.1 hv
      rw [one_oneCell]
      exact LT.holds_one (q7 d hd))
    have hargs:[LV.val (.c (.own b cap 79 m ls)),LV.val (.c t1),LV.val (.c t2)].toArray = #[.slice (some ⟨b,0,none⟩) m cap,.int .i64 i,.int .i64 j]:=by
      simp only [LV.val,LT.val] at hv1 hv2 ⊢
      rw [hv1,hv2]
    rw [hargs]
    refine (CallsF.of_calls Tryz.func127 (by kernel_rfl) rfl hcall).mono ?_
    rintro e w'' ⟨rfl,rfl⟩
    rw [hlas] at hnd hI ⊢
    have hnd1:=List.nodup_cons.1 hnd
    have hbI:∀ k x,I k x → w''.heap[x]? = w.heap[x]?:=fun k x hx => p4.block x (hI k x hx).1 (by
      rw [List.mem_singleton]
      rintro rfl
      exact (hI k x hx).2 (by simp))
    have hsub:(ls.take (i * 3) ++ ls.drop (j * 3)).Sublist ls:=by
      have h1:(ls.drop (j * 3)).Sublist (ls.drop (i * 3)):=by
        have e:j * 3 = i * 3 + (j * 3 - i * 3):=by omega
        rw [e,← List.drop_drop]
        exact List.drop_sublist _ _
      have h2:=List.Sublist.append_left h1 (ls.take (i * 3))
      rwa [List.take_append_drop] at h2
    have hbs:((ls.take (i * 3) ++ ls.drop (j * 3)).flatMap LT.blocks).Sublist (ls.flatMap LT.blocks):=flat_sub _ hsub
    have hhold:∀ c ∈ ls,c.holds (tsz Tryz.prog) w'' I:=fun c hc => LT.holds_frame (fun _ _ h => h) hbI c (q7 c hc) fun x hx => p4.block x (LT.blocks_lt c (q7 c hc) x hx) (by
      rw [List.mem_singleton]
      rintro rfl
      exact hnd1.1 (List.mem_flatMap.2 ⟨c,hc,hx⟩))
    refine ⟨.c (.own b cap 79 (i + (m - j)) (ls.take (i * 3) ++ ls.drop (j * 3))),[.c (.leaf (.slice (some ⟨b,0,none⟩) m cap) .hole),.c t1,.c t2],by simp [LV.val,LT.val],by simp [LV.erase,LT.erase],by simp [LV.erase,LT.erase,e1,e2],?_,?_,?_,?_,?_,?_⟩
    · simp [LV.full,LV.trees,LT.val]
    · simp only [LV.holds,LT.holds]
      refine ⟨⟨arr',p1,by rw [hs2]; exact p2,fun t c hc => p3 t _ (by rw [← List.map_take,← List.map_drop,← List.map_append,List.getElem?_map,hc]; rfl)⟩,?_,by omega,⟨by rw [hs2]; omega,by omega⟩,fun c hc => hhold c (hsub.subset hc)⟩
      rw [List.length_append,List.length_take,List.length_drop,hs2,q4]
      omega
    · intro l hl
      simp only [List.mem_cons,List.not_mem_nil,or_false] at hl
      rcases hl with rfl | rfl | rfl
      · simp only [LV.holds,LT.holds,Im]; exact ⟨trivial,rfl⟩
      · simp only [LV.holds]; exact LT.holds_frame (fun _ _ h => h) hbI t1 k1 (by rw [hb1]; simp)
      · simp only [LV.holds]; exact LT.holds_frame (fun _ _ h => h) hbI t2 k2 (by rw [hb2]; simp)
    · simp only [LV.blocks,LT.blocks,List.flatMap_cons,List.flatMap_nil,List.append_nil,hb1,hb2,List.nil_append]
      exact List.nodup_cons.2 ⟨fun hx => hnd1.1 (hbs.subset hx),hnd1.2.sublist hbs⟩
    · intro x hx
      simp only [LV.blocks,LT.blocks,List.flatMap_cons,List.flatMap_nil,List.append_nil,hb1,hb2,List.nil_append,List.mem_cons] at hx
      rcases hx with rfl | hx
      · exact .inl (by simp)
      · exact .inl (List.mem_cons_of_mem _ (hbs.subset hx))
    · exact (Kp.refl _ w).trans p4 (by
        intro x hx
        rw [List.mem_singleton] at hx
        subst hx
        exact .inl (by simp))
theorem set_cells (l:List GRow) (k:Nat) (hk:k < l.length) (ys:List GOffer):(l.flatMap GRow.co).take (k * 3 + 2) ++ PT.sl 0 81 ys.length (ys.flatMap GOffer.co) :: (l.flatMap GRow.co).drop (k * 3 + 2 + 1) = (l.set k ⟨l[k].Prefix,ys⟩).flatMap GRow.co:=by
  have h1:=fm_take GRow.co 3 (fun _ => rfl) l k
  have h2:=fm_dropAll GRow.co 3 (fun _ => rfl) l (k + 1)
  have h3:=fm_drop GRow.co 3 (fun _ => rfl) l k hk
  have e1:(l.flatMap GRow.co).take (k * 3 + 2) = (l.flatMap GRow.co).take (k * 3) ++ ((l.flatMap GRow.co).drop (k * 3)).take 2:=by rw [← List.take_add]
  have e2:k * 3 + 2 + 1 = (k + 1) * 3:=by omega
  rw [e1,e2,h1,h2,h3,List.set_eq_take_append_cons_drop,if_pos hk,List.flatMap_append,List.flatMap_cons]
  simp
theorem ok_idrop (r:GRib) (p:GPrefix) (n:Int) (hg:gW r.Rows) (hl:r.Rows.length ≤ 1000):CallOK Tryz.prog 79 [.bp (.sl 0 32 1 (GRib.co r)),.agg p.c,.c (pi n)] (.tup []) [.bp (.sl 0 32 1 (GRib.co ⟨r.Own,dropW p n r.Rows⟩)),.agg p.c,.c (pi n)]:=by
  refine okS (fn:=Tryz.f79) [(126,[2]),(127,[2])] h0 Tryz.func79 (by kernel_rfl) rfl Tryz.ntmps79 Tryz.results79 (by simp) ?_
  simp
  obtain ⟨own,rows⟩:=r
  simp only at hg hl
  refine drawP (tabEnv [(126,[2]),(127,[2])] _) [⟨[.arg 0 0],allD 74,true⟩,⟨[.arg 0 0],allD 74,true⟩,⟨[.arg 0 0],allD 74,true⟩,⟨[.op 0 0 0],allD 74,true⟩,⟨[.arg 0 0],allD 74,true⟩,⟨[],allD 74,true⟩,⟨[],allD 74,true⟩,⟨[],allD 74,true⟩,⟨[],allD 74,true⟩,⟨[],allD 74,true⟩] h0 hm (tabEnv_ok (tab_cons (ok_findRow 0 ⟨own,rows⟩ p (Nat.le_trans hl (by decide)) hg.1) tab_nil)) (by kernel_rfl) (by kernel_rfl) ?_
  simp
  cases hi:rowIs p rows with
  | false =>
    have e:dropW p n rows = rows:=by unfold dropW; rw [hi]; rfl
    simp [e]
  | true =>
    obtain ⟨hk,hp⟩:=rowIs_lt hi
    have ek:rows[rowAt p rows]? = some rows[rowAt p rows]:=List.getElem?_eq_getElem hk
    have e:dropW p n rows = if (dropO n rows[rowAt p rows].Offers).length = 0 then rows.take (rowAt p rows) ++ rows.drop (rowAt p rows + 1) else rows.set (rowAt p rows) ⟨rows[rowAt p rows].Prefix,dropO n rows[rowAt p rows].Offers⟩:=by
      unfold dropW
      rw [hi,ek]
      rfl
    rw [e]
    generalize rowAt p rows = k at hk hp e ⊢
    have hd:=fm_drop GRow.co 3 (fun _ => rfl) rows k hk
    have hlen:=fm_len GRow.co 3 (fun _ => rfl) rows
    have hlt:k * 3 < rows.length * 3:=by omega
    have hlt2:k * 3 + 2 < rows.length * 3:=by omega
    have hx:=goodRow_spec.1 (hg.2 _ (List.getElem_mem hk))
    generalize hxe:rows[k] = x at hd hx hp e ⊢
    obtain ⟨hpw,hgo⟩:=goodOs_pw hx.2.2
    have h6:=goodOs_len hx.2.2
    have hget:∀ h,(rows.flatMap GRow.co)[k * 3 + 2]'h = .sl 0 81 x.Offers.length (x.Offers.flatMap GOffer.co):=by
      intro h
      have e1:(rows.flatMap GRow.co)[k * 3 + 2]? = ((rows.flatMap GRow.co).drop (k * 3))[2]?:=by rw [List.getElem?_drop]
      rw [hd,List.getElem?_eq_getElem h] at e1
      simpa using e1
    simp [hk,hd,hlen,hlt,hlt2,hget]
    refine Inv_intro (ok_findOfferB 0 x.Offers n (by omega) hpw) ?_
    simp
    obtain ⟨ds1,ds2⟩:=drop_split n x.Offers hpw
    simp only [offIs,offAt] at ds1 ds2
    have hlt3:k * 3 + 2 + 1 ≤ rows.length * 3:=by omega
    generalize hys:dropO n x.Offers = ys at *
    have hyl:=fm_len GOffer.co 7 (fun _ => rfl) ys
    have hset:List.take (k * 3 + 2) ((rows.flatMap GRow.co).set (k * 3 + 2) PT.hole) ++ PT.sl 0 81 ys.length (ys.flatMap GOffer.co) :: List.drop (k * 3 + 2 + 1) ((rows.flatMap GRow.co).set (k * 3 + 2) PT.hole) = (rows.set k ⟨x.Prefix,ys⟩).flatMap GRow.co:=by
      rw [List.take_set_of_le (Nat.le_refl _),List.drop_set_of_lt (by omega),← hxe]
      exact set_cells rows k hk ys
    have hSl:(rows.set k ⟨x.Prefix,ys⟩).length = rows.length:=List.length_set
    have hS1:(rows.set k ⟨x.Prefix,ys⟩).take k ++ (rows.set k ⟨x.Prefix,ys⟩).drop (k + 1) = rows.take k ++ rows.drop (k + 1):=by rw [List.take_set_of_le (Nat.le_refl _),List.drop_set_of_lt (by omega)]
    have hS2:(rows.set k ⟨x.Prefix,ys⟩)[k]'(by rw [hSl]; exact hk) = ⟨x.Prefix,ys⟩:=List.getElem_set_self _
    have hS3:ys = x.Offers → rows.set k ⟨x.Prefix,ys⟩ = rows:=by
      rintro rfl
      have:(⟨x.Prefix,x.Offers⟩:GRow) = rows[k]:=by rw [hxe]
      rw [this,List.set_getElem_self]
    generalize rows.set k ⟨x.Prefix,ys⟩ = S at *
    have hdS:=fm_drop GRow.co 3 (fun _ => rfl) S k (by omega)
    have hlenS:=fm_len GRow.co 3 (fun _ => rfl) S
    rw [hS2] at hdS
    have hgS:∀ h,(S.flatMap GRow.co)[k * 3 + 2]'h = .sl 0 81 ys.length (ys.flatMap GOffer.co):=by
      intro h
      have e1:(S.flatMap GRow.co)[k * 3 + 2]? = ((S.flatMap GRow.co).drop (k * 3))[2]?:=by rw [List.getElem?_drop]
      rw [hdS,List.getElem?_eq_getElem h] at e1
      simpa using e1
    have wk:IntKind.i64.wrap ((k:Int) + 1) = (k:Int) + 1:=wrap64 (by omega) (by omega)
    have hDelR:=ok_Delete_Row S.length k (k + 1) (S.flatMap GRow.co) (fm_len GRow.co 3 (fun _ => rfl) _) (by omega) (by omega)
    have edR:k + (S.length - (k + 1)) = (S.take k ++ S.drop (k + 1)).length:=by
      rw [List.length_append,List.length_take,List.length_drop]
      omega
    have ecR:(S.flatMap GRow.co).take (k * 3) ++ (S.flatMap GRow.co).drop ((k + 1) * 3) = (S.take k ++ S.drop (k + 1)).flatMap GRow.co:=by
      rw [fm_take GRow.co 3 (fun _ => rfl),fm_dropAll GRow.co 3 (fun _ => rfl),List.flatMap_append]
    rw [Int.natCast_add,Int.natCast_one,edR,ecR,hS1,hSl] at hDelR
    rw [hSl] at hlenS
    have htS:List.take (rows.length * 3) (S.flatMap GRow.co) = S.flatMap GRow.co:=List.take_of_length_le (by omega)
    generalize hZe:rows.take k ++ rows.drop (k + 1) = Z at *
    have hZl:=fm_len GRow.co 3 (fun _ => rfl) Z
    have htZ:List.take (Z.length * 3) (Z.flatMap GRow.co) = Z.flatMap GRow.co:=List.take_of_length_le (by omega)
    cases hf:bsF (fun o:GOffer => cmpI o.Peer n) x.Offers with
    | true =>
      obtain ⟨hj,_⟩:=bsF_lt hf
      have hy1:=ds1 hf
      clear ds1 ds2
      generalize bsI (fun o:GOffer => cmpI o.Peer n) x.Offers = j at hj hy1 ⊢
      have w1:IntKind.i64.wrap ((j:Int) + 1) = (j:Int) + 1:=wrap64 (by omega) (by omega)
      have hDel:=ok_Delete_Offer x.Offers.length j (j + 1) (x.Offers.flatMap GOffer.co) (fm_len GOffer.co 7 (fun _ => rfl) _) (by omega) (by omega)
      have ed:j + (x.Offers.length - (j + 1)) = ys.length:=by
        rw [hy1,List.length_append,List.length_take,List.length_drop]
        omega
      have ec:(x.Offers.flatMap GOffer.co).take (j * 7) ++ (x.Offers.flatMap GOffer.co).drop ((j + 1) * 7) = ys.flatMap GOffer.co:=by
        rw [fm_take GOffer.co 7 (fun _ => rfl),fm_dropAll GOffer.co 7 (fun _ => rfl),hy1,List.flatMap_append]
      rw [Int.natCast_add,Int.natCast_one,ed,ec] at hDel
      have ht:List.take (ys.length * 7) (ys.flatMap GOffer.co) = ys.flatMap GOffer.co:=List.take_of_length_le (by omega)
      simp
      refine drawE [0,1,2,4,5,6,7,9,13,14] 3 16 (tabEnv [(126,[2]),(127,[2])] _) [⟨[],allD 74,true⟩,⟨[],allD 74,true⟩,⟨[],allD 74,true⟩,⟨[.arg 0 0],allD 74,true⟩,⟨[],allD 74,true⟩,⟨[],allD 74,true⟩,⟨[],allD 74,true⟩,⟨[],allD 74,true⟩,⟨[.arg 0 0],allD 74,true⟩,⟨[],allD 74,true⟩,⟨[.arg 0 0],allD 74,true⟩,⟨[.arg 0 0],allD 74,true⟩,⟨[.arg 0 0],allD 74,true⟩,⟨[],allD 74,true⟩,⟨[],allD 74,true⟩,⟨[],allD 74,true⟩,⟨[.arg 0 0],[42,44,45,46,49,50,51,52],false⟩,⟨[.arg 0 0],allD 74,true⟩,⟨[.arg 0 0],allD 74,true⟩,⟨[.arg 0 0,.op 5 16 0],[42,44,45,46,49,50,51,52],false⟩] h0 hm (tabEnv_ok (tab_cons hDel tab_nil)) (by kernel_rfl) (by kernel_rfl) ?_
      simp [hk,hd,hlen,hlt,hlt2,hget,w1,hyl,ht,hlt3,hset,hgS,hdS,hlenS,hSl]
      refine ⟨?_,by kernel_rfl⟩
      by_cases b:ys = []
      · rw [decide_eq_true b,if_pos b]
        simp [hlenS,htS,wk,hSl]
        refine Inv_intro hDelR ?_
        simp [hZl,htZ]
      · rw [decide_eq_false b,if_neg b]
        simp [hSl]
    | false =>
      have hy1:=ds2 hf
      have hS4:=hS3 hy1
      subst hS4
      have b:¬ ys = []:=fun b => absurd (hy1.symm.trans b) hx.2.1
      simp [hk,hdS,hlenS,hlt,hlt2,hgS]
      rw [decide_eq_false b,if_neg b]
      simp
end Go.V
