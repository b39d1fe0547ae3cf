/- What functions of the seat's program do, each proved of its code, under the bounds that its theorem names. -/
import Derived.Test.YtcmdgenpipojpaaGreatTaj
set_option linter.all false
namespace Go.V
open Go.Proofs
set_option maxHeartbeats 1000000
set_option maxRecDepth 10000
set_option linter.unusedSimpArgs false
set_option linter.unusedVariables false
/-- What an insertion gives, in trees. -/
theorem ins_fin {P:Program} {I:Nat → Nat → Prop} {w w':World} {las:List LV} {ls lv:List LT} {b b' c' S e n i:Nat} {arr':Array Value} {v0 v1 v2:Value}
    (hS:0 < S) (hsz:tsz P e = S) (hll:ls.length = n * S) (hvl:lv.length = S) (hi:i ≤ n)
    (hh:∀ c ∈ ls ++ lv,c.holds (tsz P) w I) (hnd:(b :: (ls ++ lv).flatMap LT.blocks).Nodup) (hin:∀ x ∈ (ls ++ lv).flatMap LT.blocks,x ∈ las.flatMap LV.blocks) (hb:b ∈ las.flatMap LV.blocks ∨ w.heap.size ≤ b)
    (hI:∀ k x,I k x → x < w.heap.size ∧ x ∉ las.flatMap LV.blocks)
    (hfull:las.map LV.full = [[v0],[v1],[v2]]) (h1:one v0 = true ∧ v1 = .int .i64 i ∧ one v2 = true)
    (ha:w'.heap[b']? = some (.cells arr' e (0,0))) (hca:c' * S ≤ arr'.size) (hnc:n + 1 ≤ c') (har:∀ (j:Nat) u,(insV S i (ls.map LT.val) (lv.map LT.val))[j]? = some u → arr'[j]? = some u) (hb':b' = b ∨ w.heap.size ≤ b') (hk:Kp [b] w w') :
    ∃ (lr:LV) (los:List LV),Ending.returned (.slice (some ⟨b',0,none⟩) (n + 1) c') = .returned lr.val ∧ lr.erase = .c (.sl 0 e (n + 1) ((ls.map LT.erase).take (i * S) ++ lv.map LT.erase ++ (ls.map LT.erase).drop (i * S))) ∧ los.map LV.erase = [.c .hole,.c (pi i),.c .hole] ∧ los.map LV.full = las.map LV.full ∧
      lr.holds (tsz P) w' I ∧ (∀ l ∈ los,l.holds (tsz P) w' I) ∧ (lr.blocks ++ los.flatMap LV.blocks).Nodup ∧ (∀ x ∈ lr.blocks ++ los.flatMap LV.blocks,x ∈ las.flatMap LV.blocks ∨ w.heap.size ≤ x) ∧ Kp (las.flatMap LV.blocks) w w':=by
  obtain ⟨h10,rfl,h12⟩:=h1
  have hnd1:=List.nodup_cons.1 hnd
  have hperm:((ls.take (i * S) ++ lv ++ ls.drop (i * S)).flatMap LT.blocks).Perm ((ls ++ lv).flatMap LT.blocks):=by
    rw [List.flatMap_append,List.flatMap_append,List.flatMap_append,List.append_assoc]
    have e:ls.flatMap LT.blocks = (ls.take (i * S)).flatMap LT.blocks ++ (ls.drop (i * S)).flatMap LT.blocks:=by rw [← List.flatMap_append,List.take_append_drop]
    rw [e,List.append_assoc]
    exact List.Perm.append_left _ List.perm_append_comm
  have hmem:∀ c ∈ ls.take (i * S) ++ lv ++ ls.drop (i * S),c ∈ ls ++ lv:=by
    intro c hc
    rcases List.mem_append.1 hc with hc | hc
    · rcases List.mem_append.1 hc with hc | hc
      · exact List.mem_append_left _ (List.mem_of_mem_take hc)
      · exact List.mem_append_right _ hc
    · exact List.mem_append_left _ (List.mem_of_mem_drop hc)
  have hbk:∀ c ∈ ls ++ lv,∀ x ∈ c.blocks,x ∈ (ls ++ lv).flatMap LT.blocks:=fun c hc x hx => List.mem_flatMap.2 ⟨c,hc,hx⟩
  have hlt:∀ x ∈ (ls ++ lv).flatMap LT.blocks,x < w.heap.size:=by
    intro x hx
    obtain ⟨c,hc,hx⟩:=List.mem_flatMap.1 hx
    exact LT.blocks_lt c (hh c hc) x hx
  have hIw:∀ k x,I k x → w'.heap[x]? = w.heap[x]?:=fun k x hx => hk.block x (hI k x hx).1 (by
    rw [List.mem_singleton]
    rintro rfl
    rcases hb with h | h
    · exact (hI k x hx).2 h
    · have:=(hI k x hx).1
      omega)
  have hhold:∀ c ∈ ls ++ lv,c.holds (tsz P) w' I:=fun c hc => LT.holds_frame (fun _ _ h => h) hIw c (hh c hc) fun x hx => hk.block x (hlt x (hbk c hc x hx)) (by
    rw [List.mem_singleton]
    rintro rfl
    exact hnd1.1 (hbk c hc x hx))
  have hval:(ls.take (i * S) ++ lv ++ ls.drop (i * S)).map LT.val = insV S i (ls.map LT.val) (lv.map LT.val):=by
    simp only [insV,List.map_append,List.map_take,List.map_drop]
  refine ⟨.c (.own b' c' e (n + 1) (ls.take (i * S) ++ lv ++ ls.drop (i * S))),[.c (.leaf v0 .hole),.c (.leaf (.int .i64 i) (pi i)),.c (.leaf v2 .hole)],by simp [LV.val,LT.val],by simp [LV.erase,LT.erase],by simp [LV.erase,LT.erase],?_,?_,?_,?_,?_,?_⟩
  · rw [hfull]
    rfl
  · simp only [LV.holds,LT.holds]
    refine ⟨⟨arr',ha,by rw [hsz]; exact hca,fun j c hj => har j _ (by rw [← hval,List.getElem?_map,hj]; rfl)⟩,?_,hnc,⟨by rw [hsz]; exact hS,by omega⟩,fun c hc => hhold c (hmem c hc)⟩
    have h1:i * S ≤ n * S:=Nat.mul_le_mul_right S hi
    have h2:(n + 1) * S = n * S + S:=by rw [Nat.add_mul,Nat.one_mul]
    rw [List.length_append,List.length_append,List.length_take,List.length_drop,hsz,hll,hvl,h2]
    omega
  · intro l hl
    simp only [List.mem_cons,List.not_mem_nil,or_false] at hl
    rcases hl with rfl | rfl | rfl
    · simp only [LV.holds,LT.holds,Im]; exact ⟨trivial,h10⟩
    · simp only [LV.holds,LT.holds,Im,pi]; exact ⟨trivial,rfl⟩
    · simp only [LV.holds,LT.holds,Im]; exact ⟨trivial,h12⟩
  · simp only [LV.blocks,LT.blocks,List.flatMap_cons,List.flatMap_nil,List.append_nil]
    refine List.nodup_cons.2 ⟨?_,hperm.nodup_iff.2 hnd1.2⟩
    intro hx
    have hx:=hperm.mem_iff.1 hx
    rcases hb' with rfl | h
    · exact hnd1.1 hx
    · have:=hlt _ hx
      omega
  · intro x hx
    simp only [LV.blocks,LT.blocks,List.flatMap_cons,List.flatMap_nil,List.append_nil,List.mem_cons] at hx
    rcases hx with rfl | hx
    · rcases hb' with rfl | h
      · exact hb
      · exact .inr h
    · exact .inl (hin x (hperm.mem_iff.1 hx))
  · exact (Kp.refl _ w).trans hk (by
      intro x hx
      rw [List.mem_singleton] at hx
      subst hx
      exact hb)
theorem ins_nilRoute (ad:Option Addr) (vb vc:Nat) (w:World) (va:Array Value) (vv:List Value) (hvb:w.heap[vb]? = some (.cells va 56 (0,0))) (hvl:vv.length = 8) (hvv:∀ (j:Nat) u,vv[j]? = some u → va[j]? = some u) :
    ∃ (c':Nat) (arr':Array Value) (w':World),Calls Tryz.prog 48 #[.slice ad 0 0,.int .i64 (0:Nat),.slice (some ⟨vb,0,none⟩) 1 vc] w (fun e w'' => e = .returned (.slice (some ⟨w.heap.size,0,none⟩) (0 + 1) c') ∧ w'' = w') ∧
      w'.heap[w.heap.size]? = some (.cells arr' 56 (0,0)) ∧ c' * 8 ≤ arr'.size ∧ 0 + 1 ≤ c' ∧ (∀ (j:Nat) u,(insV 8 0 [] vv)[j]? = some u → arr'[j]? = some u) ∧ Kp [] w w':=by
  have tS:Tryz.prog.underlying 23 = some (.slice 56):=by kernel_rfl
  obtain ⟨inf,hinf⟩:=tsz_info (P:=Tryz.prog) (t:=56) (by simp)
  have hsz:inf.size = 8:=by
    have h1:tsz Tryz.prog 56 = inf.size:=by simp only [tsz,hinf]
    have h2:tsz Tryz.prog 56 = 8:=by kernel_rfl
    omega
  have hby:inf.bytes = 96:=by
    have h1:tby Tryz.prog 56 = inf.bytes:=by simp only [tby,hinf]
    have h2:tby Tryz.prog 56 = 96:=by kernel_rfl
    omega
  obtain ⟨z,hz⟩:∃ z,inf.zero = some z:=by
    have h2:(tzero Tryz.prog 56).isSome = true:=by kernel_rfl
    have h1:tzero Tryz.prog 56 = inf.zero:=by simp only [tzero,hinf]
    rw [h1] at h2
    exact Option.isSome_iff_exists.1 h2
  have hzs:z.cells.size = 8:=by
    have h2:(tzero Tryz.prog 56).map (fun z => z.cells.size) = some 8:=by kernel_rfl
    have h1:tzero Tryz.prog 56 = inf.zero:=by simp only [tzero,hinf]
    rw [h1,hz] at h2
    simpa using h2
  have hcellv:∀ (k:Nat) u,vv[k]? = some u → w.cell? ⟨vb,k,none⟩ = some u:=fun k u h => by rw [cell_at hvb]; exact hvv k u h
  have hge:=grownCap_ge w 1 0 56
  have hins:insV 8 0 [] vv = vv:=by simp [insV]
  rw [hins]
  have hr:∀ ty,(Builtin.append_ #[23,23] ty #[.slice ad 0 0,.slice (some ⟨vb,0,none⟩) 1 vc]).run Tryz.prog w = .ok (.slice (some ⟨w.heap.size,0,none⟩) (0 + 1) (grownCap w 1 0 56)) (w.drew.alloc (.cells (vv.toArray ++ Builtin.zeroCells z.cells (grownCap w 1 0 56 - 1)) 56)):=fun ty => by
    cases ad with
    | none => exact run_append_nil (P:=Tryz.prog) w 23 ty 56 inf z tS hinf hz ⟨vb,0,none⟩ 1 vc vv (by rw [hsz,hvl]) (fun j u hj => by rw [Addr.add_lit,Nat.zero_add]; exact hcellv j u hj) (by omega) (by omega) (by rw [hby]; omega)
    | some x =>
      have h:=run_append_grow (P:=Tryz.prog) w 23 ty 56 inf z tS hinf hz x 0 0 [] (by simp) (by simp) ⟨vb,0,none⟩ 1 vc vv (by rw [hsz,hvl]) (fun j u hj => by rw [Addr.add_lit,Nat.zero_add]; exact hcellv j u hj) (by omega) (by omega) (growslice_fits (by omega) (by rw [hby]; omega))
      simpa using h
  refine ⟨_,_,_,ins_endRoute ad vb 0 0 vc w _ _ (Nat.le_refl _) hr,alloc_at w.drew _,?_,hge,?_,(Kp.of_below (drew_below w) (Nat.le_succ _)).trans (alloc_kp [] w.drew _) (by simp)⟩
  · simp only [Array.size_append,List.size_toArray,size_zeroCells,hzs,hvl]
    omega
  · intro j u hj
    have hjl:=getv hj
    rw [Array.getElem?_append_left (by simpa using hjl)]
    simpa using hj
theorem ok_Insert_Route (n i:Nat) (cs vs:List PT) (hcl:cs.length = n * 8) (hvl:vs.length = 8) (hi:i ≤ n) (hbig:(n + 1) * 96 ≤ 140737488355328) :
    CallOK Tryz.prog 48 [.c (.sl 0 56 n cs),.c (pi i),.c (.sl 0 56 1 vs)] (.c (.sl 0 56 (n + 1) (cs.take (i * 8) ++ vs ++ cs.drop (i * 8)))) [.c .hole,.c (pi i),.c .hole]:=by
  intro I w las he hh hnd hI
  obtain ⟨ts,rfl,hts⟩:=erase_cs las [.sl 0 56 n cs,pi i,.sl 0 56 1 vs] he
  obtain ⟨t0,t1,t2,rfl⟩:∃ t0 t1 t2,ts = [t0,t1,t2]:=by
    have hl:ts.length = 3:=by simpa using congrArg List.length hts
    match ts,hl with
    | [a,b,c],_ => exact ⟨a,b,c,rfl⟩
  simp only [List.map_cons,List.map_nil,List.cons.injEq,and_true] at hts
  obtain ⟨e0,e1,e2⟩:=hts
  have hs2:tsz Tryz.prog 56 = 8:=by kernel_rfl
  have k0:t0.holds (tsz Tryz.prog) w I:=by simpa [LV.holds] using hh (.c t0) (by simp)
  have k1:t1.holds (tsz Tryz.prog) w I:=by simpa [LV.holds] using hh (.c t1) (by simp)
  have k2:t2.holds (tsz Tryz.prog) w I:=by simpa [LV.holds] using hh (.c t2) (by simp)
  have hv1:t1.val = .int .i64 i:=by
    cases t1 with
    | leaf v p =>
      simp only [LT.erase] at e1
      subst e1
      simp only [LT.holds,Im,pi] at k1
      exact k1.1
    | own b cap e m cs => simp [LT.erase,pi] at e1
  have hb1:t1.blocks = []:=by
    cases t1 with
    | leaf v p => simp [LT.blocks]
    | own b cap e m cs => simp [LT.erase,pi] at e1
  simp only [List.map_cons,List.map_nil] at hh hnd hI ⊢
  cases t2 with
  | leaf v p =>
    simp only [LT.erase] at e2
    subst e2
    simp only [LT.holds,Im] at k2
    have:=k2.1.1
    omega
  | own vb vcap ve vn lv =>
    simp only [LT.erase,PT.sl.injEq,true_and] at e2
    obtain ⟨rfl,rfl,rfl⟩:=e2
    have k2':=k2
    simp only [LT.holds] at k2'
    obtain ⟨⟨va,g1,g2,g3⟩,g4,g5,g6,g7⟩:=k2'
    rw [hs2] at g2 g4 g6
    have hlvl:lv.length = 8:=by omega
    have hvv:∀ (j:Nat) u,(lv.map LT.val)[j]? = some u → va[j]? = some u:=by
      intro j u hj
      rw [List.getElem?_map,Option.map_eq_some_iff] at hj
      obtain ⟨d,hd,rfl⟩:=hj
      exact g3 j d hd
    have hone:∀ {l:List LT},(∀ c ∈ l,c.holds (tsz Tryz.prog) w I) → ∀ v ∈ l.map LT.val,v.oneCell' = true:=by
      intro l hl v hv
      obtain ⟨d,hd,rfl⟩:=List.mem_map.1 hv
      rw [one_oneCell]
      exact LT.holds_one (hl d hd)
    cases t0 with
    | leaf v p =>
      simp only [LT.erase] at e0
      subst e0
      simp only [LT.holds,Im] at k0
      obtain ⟨⟨rfl,rfl,ad,rfl⟩,_⟩:=k0
      have hi0:i = 0:=by omega
      subst hi0
      obtain ⟨c',arr',w',hc,p1,p2,p3,p4,p5⟩:=ins_nilRoute ad vb vcap w va (lv.map LT.val) g1 (by rw [List.length_map,hlvl]) hvv
      have hlas:([LV.c (.leaf (.slice ad 0 0) (.sl 0 56 0 [])),.c t1,.c (.own vb vcap 56 1 lv)].flatMap LV.blocks) = vb :: lv.flatMap LT.blocks:=by simp [LV.blocks,LT.blocks,hb1]
      have hargs:[LV.val (.c (.leaf (.slice ad 0 0) (.sl 0 56 0 []))),LV.val (.c t1),LV.val (.c (.own vb vcap 56 1 lv))].toArray = #[.slice ad 0 0,.int .i64 (0:Nat),.slice (some ⟨vb,0,none⟩) 1 vcap]:=by
        simp only [LV.val,LT.val] at hv1 ⊢
        rw [hv1]
      rw [hargs]
      refine (CallsF.of_calls Tryz.func48 (by kernel_rfl) rfl hc).mono ?_
      rintro e w'' ⟨rfl,rfl⟩
      have hnd2:(vb :: lv.flatMap LT.blocks).Nodup:=by rw [← hlas]; exact hnd
      exact ins_fin (P:=Tryz.prog) (I:=I) (w:=w) (w':=w'') (ls:=[]) (lv:=lv) (b:=w.heap.size) (b':=w.heap.size) (c':=c') (S:=8) (e:=56) (n:=0) (i:=0) (arr':=arr') (v0:=.slice ad 0 0) (v1:=t1.val) (v2:=(LT.own vb vcap 56 1 lv).val)
        (by omega) hs2 (by simp) hlvl (Nat.le_refl _) (by simpa using g7) (by
          rw [List.nil_append]
          refine List.nodup_cons.2 ⟨fun hx => ?_,(List.nodup_cons.1 hnd2).2⟩
          obtain ⟨c,hc,hx⟩:=List.mem_flatMap.1 hx
          have:=LT.blocks_lt c (g7 c hc) _ hx
          omega) (by rw [hlas]; intro x hx; exact List.mem_cons_of_mem _ (by simpa using hx)) (.inr (Nat.le_refl _)) hI (by simp [LV.full,LV.trees,LT.val]) ⟨rfl,hv1,rfl⟩ p1 p2 p3 p4 (.inl rfl) (Kp.of_below p5.below p5.drawn)
    | own b cap e m ls =>
      simp only [LT.erase,PT.sl.injEq,true_and] at e0
      obtain ⟨rfl,rfl,rfl⟩:=e0
      have k0':=k0
      simp only [LT.holds] at k0'
      obtain ⟨⟨arr,q1,q2,q3⟩,q4,q5,q6,q7⟩:=k0'
      rw [hs2] at q2 q4 q6
      have hcv:∀ (j:Nat) u,(ls.map LT.val)[j]? = some u → arr[j]? = some u:=by
        intro j u hj
        rw [List.getElem?_map,Option.map_eq_some_iff] at hj
        obtain ⟨d,hd,rfl⟩:=hj
        exact q3 j d hd
      have hlas:([LV.c (.own b cap 56 m ls),.c t1,.c (.own vb vcap 56 1 lv)].flatMap LV.blocks) = (b :: ls.flatMap LT.blocks) ++ (vb :: lv.flatMap LT.blocks):=by simp [LV.blocks,LT.blocks,hb1]
      have hnd2:((b :: ls.flatMap LT.blocks) ++ (vb :: lv.flatMap LT.blocks)).Nodup:=by rw [← hlas]; exact hnd
      have hnd3:=List.nodup_append.1 hnd2
      have hne:vb ≠ b:=fun e => hnd3.2.2 b (by simp) vb (by simp) e.symm
      obtain ⟨b',c',arr',w',hc,p1,p2,p3,p4,p5,p6⟩:=ins_worldRoute b vb m cap i vcap w arr va (ls.map LT.val) (lv.map LT.val) q1 g1 hne (by rw [List.length_map,q4]) (by rw [List.length_map,hlvl]) q2 (by omega) q5 hi hcv hvv (hone q7) (hone g7) hbig
      have hargs:[LV.val (.c (.own b cap 56 m ls)),LV.val (.c t1),LV.val (.c (.own vb vcap 56 1 lv))].toArray = #[.slice (some ⟨b,0,none⟩) m cap,.int .i64 i,.slice (some ⟨vb,0,none⟩) 1 vcap]:=by
        simp only [LV.val,LT.val] at hv1 ⊢
        rw [hv1]
      rw [hargs]
      refine (CallsF.of_calls Tryz.func48 (by kernel_rfl) rfl hc).mono ?_
      rintro e w'' ⟨rfl,rfl⟩
      have hmm:(ls ++ lv).flatMap LT.blocks = ls.flatMap LT.blocks ++ lv.flatMap LT.blocks:=List.flatMap_append
      exact ins_fin (P:=Tryz.prog) (I:=I) (w:=w) (w':=w'') (ls:=ls) (lv:=lv) (b:=b) (b':=b') (c':=c') (S:=8) (e:=56) (n:=m) (i:=i) (arr':=arr') (v0:=(LT.own b cap 56 m ls).val) (v1:=t1.val) (v2:=(LT.own vb vcap 56 1 lv).val)
        (by omega) hs2 q4 hlvl hi (fun c hc => (List.mem_append.1 hc).elim (q7 c) (g7 c)) (by
          rw [hmm]
          rw [List.cons_append] at hnd2
          have h1:=List.nodup_cons.1 hnd2
          refine List.nodup_cons.2 ⟨fun hx => h1.1 ?_,?_⟩
          · rcases List.mem_append.1 hx with hx | hx
            · exact List.mem_append_left _ hx
            · exact List.mem_append_right _ (List.mem_cons_of_mem _ hx)
          · exact h1.2.sublist (List.Sublist.append_left (List.sublist_cons_self ..) _)) (by
          rw [hlas,hmm]
          intro x hx
          rcases List.mem_append.1 hx with hx | hx
          · exact List.mem_append_left _ (List.mem_cons_of_mem _ hx)
          · exact List.mem_append_right _ (List.mem_cons_of_mem _ hx)) (.inl (by rw [hlas]; simp)) hI (by simp [LV.full,LV.trees,LT.val]) ⟨rfl,hv1,rfl⟩ p1 p2 p3 p4 p5 p6
theorem ok_findRoute1 (k:Nat) (o:GRoute) (n:GPrefix):CallOK Tryz.prog 61 [.agg (GRoute.ci k o),.agg n.c] (.c (pi (cmpPx o.Prefix n))) [.agg (GRoute.ci k o),.agg n.c]:=by
  refine okS (fn:=Tryz.f61) [] h0 Tryz.func61 (by kernel_rfl) rfl Tryz.ntmps61 Tryz.results61 (by simp) ?_
  simp
  refine Inv_intro (ok_compare o.Prefix n) ?_
  simp
theorem ok_BS_Route (k:Nat) (xs:List GRoute) (n:GPrefix) (hl:xs.length ≤ 140737488351232) (hmono:∀ (i j:Nat) (hij:i < j) (hj:j < xs.length),cmpPx xs[j].Prefix n < 0 → cmpPx xs[i].Prefix n < 0) :
    CallOK Tryz.prog 60 [.c (rd k xs.length (xs.flatMap (GRoute.ci k))),.agg n.c,.c (.fn 0 61 [])] (.tup [.c (pi (bsI (fun o:GRoute => cmpPx o.Prefix n) xs)),.c (pb (bsF (fun o:GRoute => cmpPx o.Prefix n) xs))]) [.c (rd k xs.length (xs.flatMap (GRoute.ci k))),.agg n.c,.c (.fn 0 61 [])]:=by
  refine okS (fn:=Tryz.f60) [] h0 Tryz.func60 (by kernel_rfl) rfl Tryz.ntmps60 Tryz.results60 (by simp) ?_
  simp
  refine loopS [0,2,4,8,9,10] [.op 0 0 0] (fun m st => ∃ (i j:Nat),i + m = j ∧ j ≤ xs.length ∧ (∀ (q:Nat) (hq:q < i) (hl:q < xs.length),cmpPx xs[q].Prefix n < 0) ∧ (∀ (q:Nat) (hq:j ≤ q) (hl:q < xs.length),0 ≤ cmpPx xs[q].Prefix n) ∧ st = ⟨slOf 49 [(0,.t (rd k xs.length (xs.flatMap (GRoute.ci k)))),(2,.t (.fn 0 61 [])),(4,.ptr ⟨.op 0 0 0,[]⟩ 0),(8,.t (pi xs.length)),(9,.t (pi i)),(10,.t (pi j))],ofL [(.op 0 0 0,.sl 0 54 1 n.c)]⟩) xs.length ?_ ?_
  · rintro Inv hI
    simp
    subst hI
    exact ⟨0,xs.length,by omega,by omega,by intro q hq; omega,by intro q hq h; omega,rfl⟩
  · rintro Inv hI m st ⟨i,j,hm',hj,hlo,hhi,rfl⟩
    refine ewr_sound (M:=[]) h0 ?_
    simp
    refine brn_app (fun a => ?_) (fun a => ?_)
    · simp at a
      have hw0:IntKind.wrap .i64 ((i:Int) + j) = (i:Int) + j:=wrap64 (by omega) (by omega)
      have hw:=half_u64 i j (by omega)
      obtain ⟨h,hh⟩:∃ h,h = (i + j) / 2:=⟨_,rfl⟩
      rw [← hh] at hw
      have hb:h < xs.length:=by omega
      have hd:=fm_drop (GRoute.ci k) 8 (fun _ => rfl) xs h hb
      have hlen:=fm_len (GRoute.ci k) 8 (fun _ => rfl) xs
      have hlt:h * 8 < xs.length * 8:=by omega
      simp [hw0,hw]
      refine drawP (tabEnv [] _) [⟨[],allD 49,true⟩,⟨[],allD 49,true⟩,⟨[],allD 49,true⟩,⟨[],allD 49,true⟩,⟨[],allD 49,true⟩,⟨[.op 0 0 0],allD 49,true⟩,⟨[],allD 49,false⟩,⟨[],allD 49,true⟩] h0 hm (tabEnv_ok (tab_cons (ok_findRoute1 k xs[h] n) tab_nil)) (by kernel_rfl) (by kernel_rfl) ?_
      simp [hb,hd,hlen,hlt]
      refine brn_app (fun b => ?_) (fun b => ?_)
      · simp at b
        have hn1:IntKind.wrap .i64 ((h:Int) + 1) = ((h + 1:Nat):Int):=wrNext h (by omega)
        simp
        subst hI
        refine Less_mk (j - (h + 1)) (by omega) ⟨h + 1,j,by omega,hj,?_,hhi,by rw [hn1]; rfl⟩
        intro q hq hql
        rcases Nat.lt_or_ge q h with h' | h'
        · exact hmono q h h' hb b
        · have:q = h:=by omega
          subst this
          exact b
      · simp at b
        simp
        subst hI
        refine Less_mk (h - i) (by omega) ⟨i,h,by omega,by omega,hlo,?_,rfl⟩
        intro q hq hql
        rcases Nat.eq_or_lt_of_le hq with h' | h'
        · subst h'
          exact b
        · exact Int.not_lt.1 fun hc => by have:=hmono h q h' hql hc; omega
    · simp at a
      have hij:i = j:=by omega
      subst hij
      have e1:bsI (fun o:GRoute => cmpPx o.Prefix n) xs = i:=bsI_eq _ xs i hj hlo fun h => hhi i (Nat.le_refl _) h
      simp
      by_cases hb:i < xs.length
      · have hd:=fm_drop (GRoute.ci k) 8 (fun _ => rfl) xs i hb
        have hlen:=fm_len (GRoute.ci k) 8 (fun _ => rfl) xs
        have hlt:i * 8 < xs.length * 8:=by omega
        have e2:bsF (fun o:GRoute => cmpPx o.Prefix n) xs = decide (cmpPx xs[i].Prefix n = 0):=by simp only [bsF,e1,List.getElem?_eq_getElem hb]
        refine drawP (tabEnv [] _) [⟨[],allD 49,true⟩,⟨[],allD 49,true⟩,⟨[],allD 49,true⟩,⟨[],allD 49,true⟩,⟨[],allD 49,true⟩,⟨[],allD 49,true⟩,⟨[],allD 49,true⟩,⟨[],allD 49,true⟩,⟨[],allD 49,true⟩,⟨[],allD 49,true⟩,⟨[.op 0 0 0],allD 49,true⟩,⟨[],allD 49,false⟩,⟨[],allD 49,true⟩,⟨[],allD 49,true⟩,⟨[],allD 49,true⟩,⟨[],allD 49,true⟩] h0 hm (tabEnv_ok (tab_cons (ok_findRoute1 k xs[i] n) tab_nil)) (by kernel_rfl) (by kernel_rfl) ?_
        simp [hb,hd,hlen,hlt,e1,e2]
      · have e2:bsF (fun o:GRoute => cmpPx o.Prefix n) xs = false:=by simp only [bsF,e1,List.getElem?_eq_none (Nat.le_of_not_lt hb)]
        refine drawP E0 [⟨[],allD 49,true⟩,⟨[],allD 49,true⟩,⟨[],allD 49,true⟩,⟨[],allD 49,true⟩,⟨[],allD 49,true⟩,⟨[],allD 49,true⟩,⟨[],allD 49,true⟩,⟨[],allD 49,true⟩,⟨[],allD 49,true⟩,⟨[],allD 49,true⟩,⟨[.op 0 0 0],allD 49,true⟩,⟨[],allD 49,false⟩,⟨[],allD 49,true⟩,⟨[],allD 49,true⟩,⟨[],allD 49,true⟩,⟨[],allD 49,true⟩] h0 hm (E0_ok _) (by kernel_rfl) (by kernel_rfl) ?_
        simp [hb,e1,e2]
theorem ok_findRoute (k:Nat) (l:List GRoute) (p:GPrefix) (hl:l.length ≤ 140737488351232) (hs:srt l):CallOK Tryz.prog 20 [.c (rd k l.length (l.flatMap (GRoute.ci k))),.agg p.c] (.tup [.c (pi (kAt p l)),.c (pb (fnd p l))]) [.c (rd k l.length (l.flatMap (GRoute.ci k))),.agg p.c]:=by
  refine okS (fn:=Tryz.f20) [] h0 Tryz.func20 (by kernel_rfl) rfl Tryz.ntmps20 Tryz.results20 (by simp) ?_
  simp
  refine Inv_intro (ok_BS_Route k l p hl (srt_mono hs)) ?_
  simp [kAt,fnd]
theorem del_co {p:GPrefix} {l:List GRoute} (h:srt l) (hf:fnd p l = true):kAt p l < l.length ∧ (l.flatMap GRoute.co).take (kAt p l * 8) ++ (l.flatMap GRoute.co).drop ((kAt p l + 1) * 8) = (delR p l).flatMap GRoute.co ∧ kAt p l + (l.length - (kAt p l + 1)) = (delR p l).length:=by
  obtain ⟨h1,h2,h3,h4,h5,h6⟩:=srt_split p l h
  rw [if_pos hf] at h2
  have h7:=h5 hf
  rw [fm_take GRoute.co 8 (fun _ => rfl),fm_dropAll GRoute.co 8 (fun _ => rfl),h3,← h1,← h2]
  refine ⟨h7,by rw [List.flatMap_append],?_⟩
  rw [List.length_append,List.length_take,List.length_drop]
  omega
theorem ins_co (r:GRoute) {l:List GRoute} (h:srt l) (hf:fnd r.Prefix l = false):kAt r.Prefix l ≤ l.length ∧ (l.flatMap GRoute.co).take (kAt r.Prefix l * 8) ++ GRoute.co r ++ (l.flatMap GRoute.co).drop (kAt r.Prefix l * 8) = (putR r l).flatMap GRoute.co ∧ l.length + 1 = (putR r l).length:=by
  obtain ⟨h1,h2,h3,h4,h5,h6⟩:=srt_split r.Prefix l h
  obtain ⟨g1,g2⟩:=putR_co r h
  have ht:tl r l = kAt r.Prefix l:=by unfold tl; rw [hf]; rfl
  rw [ht] at g1 g2
  refine ⟨h4,by rw [g1,List.append_assoc],by rw [g2]; omega⟩
theorem set_co (r:GRoute) {l:List GRoute} (h:srt l) (hf:fnd r.Prefix l = true):kAt r.Prefix l < l.length ∧ (l.flatMap GRoute.co).take (kAt r.Prefix l * 8) ++ (GRoute.co r ++ (l.flatMap GRoute.co).drop ((kAt r.Prefix l + 1) * 8)) = (putR r l).flatMap GRoute.co ∧ l.length = (putR r l).length:=by
  obtain ⟨h1,h2,h3,h4,h5,h6⟩:=srt_split r.Prefix l h
  obtain ⟨g1,g2⟩:=putR_co r h
  have ht:tl r l = kAt r.Prefix l + 1:=by unfold tl; rw [hf]; rfl
  rw [ht] at g1 g2
  have h7:=h5 hf
  exact ⟨h7,g1.symm,by rw [g2]; omega⟩
theorem law_iHearAll (v0:List GRoute) (v1:List GUpdate) (hw0:wt_RouteS v0 ≤ 1048576) (hw1:wt_UpdateS v1 ≤ 1048576):CallOK Tryz.prog 13 [.c (rd 0 v0.length (v0.flatMap (GRoute.ci 0))),.c (rd 0 v1.length (v1.flatMap (GUpdate.ci 0)))] (.tup [.c (.sl 0 56 (rHearAll v0 v1).1.length ((rHearAll v0 v1).1.flatMap GRoute.co)),.c (pb (rHearAll v0 v1).2)]) [.c (rd 0 v0.length (v0.flatMap (GRoute.ci 0))),.c (rd 0 v1.length (v1.flatMap (GUpdate.ci 0)))]:=by
  have hl1:=len_wt_UpdateS v1
  have hus:=wt_upds hw1
  refine okS (fn:=Tryz.f13) [(47,[2]),(48,[2,0,2])] h0 Tryz.func13 (by kernel_rfl) rfl Tryz.ntmps13 Tryz.results13 (by simp) ?_
  simp
  refine Inv_intro (ok_iGoodRoutes 0 v0 (routes_ok hw0)) ?_
  simp
  cases c1:goodRs v0 with
  | false => simp [rHearAll,c1]
  | true =>
    by_cases h60:v1.length ≤ 60
    · have d60:¬ (60:Int) < (v1.length:Int):=by omega
      simp [d60]
      refine Inv_intro (ok_ContainsFunc_Update 0 0 45 [] (fun u => !goodU u) v1 (by omega) fun u hu => ok_HearAll1 0 u (updB_ok (hus u hu))) ?_
      rw [any_not]
      cases c2:v1.all goodU with
      | false => simp [rHearAll,c2]
      | true =>
        have hgu:∀ u ∈ v1,goodU u = true:=List.all_eq_true.1 c2
        obtain ⟨hg,h20⟩:=goodRs_L c1
        have hb0:hrB v0:=⟨hg.1,h20,wt_rB hw0⟩
        have er:rHearAll v0 v1 = match hrI v0 v1 v1.length with
            | some o => (o,true)
            | none => ([],false):=by
          unfold rHearAll
          rw [if_pos ⟨c1,h60,c2⟩]
          all_goals (cases hrI v0 v1 v1.length <;> rfl)
        simp
        refine ewp_sw (.op 3 0 0) (.op 7 4 0) rfl rfl ?_
        simp
        refine loopS [1,6,33,34,35] [.op 7 4 0] (fun n st => ∃ (i:Nat),i + n = v0.length ∧ st = ⟨slOf 105 [(1,.t (rd 0 v1.length (v1.flatMap (GUpdate.ci 0)))),(6,.ref ⟨.op 7 4 0,[]⟩ 0 i),(33,.t (rd 0 v0.length (v0.flatMap (GRoute.ci 0)))),(34,.t (pi v0.length)),(35,.t (pi i))],ofL [(.op 7 4 0,.sl 0 56 i ((v0.take i).flatMap GRoute.co))]⟩) v0.length ?_ ?_
        · rintro Inv hI
          simp
          subst hI
          exact ⟨0,by omega,by simp⟩
        · rintro Inv hI n st ⟨i,hi,rfl⟩
          have hA:=fm_take_len GRoute.co 8 (fun _ => rfl) v0 i (by omega)
          refine ewr_sound (M:=[(47,[2]),(48,[2,0,2])]) h0 ?_
          by_cases a:i < v0.length
          · generalize hAe:((v0.take i).flatMap GRoute.co) = A at hA ⊢
            have hd:=fm_drop (GRoute.ci 0) 8 (fun _ => rfl) v0 i a
            have hlen:=fm_len (GRoute.ci 0) 8 (fun _ => rfl) v0
            have hlt:i * 8 < v0.length * 8:=by omega
            have hx:=hb0.2.2 _ (List.getElem_mem a)
            have hb1:(i + 1) * 96 ≤ 140737488355328:=by omega
            have hb2:i ≤ 9223372036854775806:=by omega
            have ht:A.take (i * 8) = A:=List.take_of_length_le (by omega)
            have e3:((v0.take (i + 1)).flatMap GRoute.co) = A ++ GRoute.co v0[i]:=by rw [take_step v0 i a,List.flatMap_append,hAe,List.flatMap_cons,List.flatMap_nil,List.append_nil]
            simp [a,hd,hlen,hlt]
            refine Inv_intro (ok_ownRoute 0 v0[i] hx.1 hx.2) ?_
            simp [hA,hb1,hb2,ht]
            subst hI
            refine Less_mk (n - 1) (by omega) ⟨i + 1,by omega,?_⟩
            rw [wrNext i (by omega),e3]
            all_goals simp
          · have hil:i = v0.length:=by omega
            subst hil
            rw [List.take_length]
            simp
            refine loopS [6,45,46,47] [.op 7 4 0] (fun n st => ∃ (i:Nat) (o:List GRoute),i + n = v1.length ∧ hrI v0 v1 i = some o ∧ st = ⟨slOf 105 [(6,.ref ⟨.op 7 4 0,[]⟩ 0 o.length),(45,.t (rd 0 v1.length (v1.flatMap (GUpdate.ci 0)))),(46,.t (pi v1.length)),(47,.t (pi i))],ofL [(.op 7 4 0,.sl 0 56 o.length (o.flatMap GRoute.co))]⟩) v1.length ?_ ?_
            · rintro Inv1 hI1
              simp
              subst hI1
              exact ⟨0,v0,by omega,rfl,rfl⟩
            · rintro Inv1 hI1 m st ⟨i,o,hi,ho,rfl⟩
              obtain ⟨b1,b2,b3⟩:=hrI_B hb0 hus i o ho
              obtain ⟨⟨g1,g2⟩,_⟩:=hrI_good ⟨hg,h20⟩ hgu i o ho
              refine ewr_sound (M:=[(47,[2]),(48,[2,0,2])]) h0 ?_
              by_cases a:i < v1.length
              · have hd:=fm_drop (GUpdate.ci 0) 8 (fun _ => rfl) v1 i a
                have hlen:=fm_len (GUpdate.ci 0) 8 (fun _ => rfl) v1
                have hlt:i * 8 < v1.length * 8:=by omega
                have hub:=hus _ (List.getElem_mem a)
                have hgi:=hgu _ (List.getElem_mem a)
                have hnext:=hrI_next a ho
                generalize hu:v1[i]'a = u at hd hub hgi hnext
                have hu10:=goodU_spec hgi
                simp [a,hd,hlen,hlt]
                refine loopW [6,10,45,46,47,52,53,54] [.op 17 4 0,.op 7 4 0,.op 11 2 0] [.op 7 4 0,.op 11 2 0] (fun n st => ∃ (j:Nat),j + n = u.Gone.length ∧ st = ⟨slOf 105 [(6,.ref ⟨.op 7 4 0,[]⟩ 0 (goneL o u j).length),(10,.ptr ⟨.op 11 2 0,[]⟩ 0),(45,.t (rd 0 v1.length (v1.flatMap (GUpdate.ci 0)))),(46,.t (pi v1.length)),(47,.t (pi i)),(52,.t (rd 0 u.Gone.length (u.Gone.flatMap GPrefix.c))),(53,.t (pi u.Gone.length)),(54,.t (pi j))],ofL [(.op 7 4 0,.sl 0 56 (goneL o u j).length ((goneL o u j).flatMap GRoute.co)),(.op 11 2 0,.sl 0 38 1 (GUpdate.ci 0 u))]⟩) u.Gone.length ?_ ?_
                · rintro Inv2 hI2
                  simp
                  subst hI2
                  exact ⟨0,by omega,by rw [goneL_zero]; rfl⟩
                · rintro Inv2 hI2 m2 st ⟨j,hj,rfl⟩
                  have hsj:=srt_gone b1 u j
                  have hlj:=len_gone o u j
                  have hgs:=goneL_succ o u j
                  have hgl:j = u.Gone.length → goneL o u j = comeL o u 0:=by rintro rfl; rw [comeL_zero]
                  generalize goneL o u j = B at hsj hlj hgs hgl ⊢
                  refine ewr_sound (M:=[(47,[2]),(48,[2,0,2])]) h0 ?_
                  by_cases a2:j < u.Gone.length
                  · have hd2:=fm_drop GPrefix.c 2 (fun _ => rfl) u.Gone j a2
                    have hlen2:=fm_len GPrefix.c 2 (fun _ => rfl) u.Gone
                    have hlt2:j * 2 < u.Gone.length * 2:=by omega
                    have hgs':=hgs a2
                    generalize hp:u.Gone[j]'a2 = p at hd2 hgs'
                    have hB:=fm_len GRoute.co 8 (fun _ => rfl) B
                    have ht:(B.flatMap GRoute.co).take (B.length * 8) = B.flatMap GRoute.co:=List.take_of_length_le (by omega)
                    have hfind:=ok_findRoute 0 B p (by omega) hsj
                    have hdel:=del_co (p:=p) hsj
                    have hno:=(srt_split p B hsj).2.2.2.2.2
                    simp [a2,hd2,hlen2,hlt2,ht]
                    refine Inv_intro hfind ?_
                    cases c3:fnd p B with
                    | true =>
                      obtain ⟨d1,d2,d3⟩:=hdel c3
                      generalize hk:kAt p B = k at *
                      have w1:IntKind.i64.wrap ((k:Int) + 1) = (k:Int) + 1:=wrap64 (by omega) (by omega)
                      have hDel:=ok_Delete_Route B.length k (k + 1) (B.flatMap GRoute.co) hB (by omega) (by omega)
                      rw [d2,d3,Int.natCast_add,Int.natCast_one] at hDel
                      simp [ht,w1]
                      refine Inv_intro hDel ?_
                      simp
                      refine LessW_mk (m2 - 1) (.op 17 4 0) (.op 7 4 0) (by omega) rfl rfl ?_
                      simp
                      subst hI2
                      refine ⟨j + 1,by omega,?_⟩
                      rw [wrNext j (by omega),hgs',ofL_two (a:=.op 11 2 0) (b:=.op 7 4 0) (by decide)]
                      rfl
                    | false =>
                      have hBn:=hno c3
                      simp
                      refine LessW_mk (m2 - 1) (.op 7 4 0) (.op 7 4 0) (by omega) rfl rfl ?_
                      simp
                      subst hI2
                      refine ⟨j + 1,by omega,?_⟩
                      rw [wrNext j (by omega),hgs',hBn]
                      rfl
                  · have hjl:j = u.Gone.length:=by omega
                    have hB0:=hgl hjl
                    subst hjl
                    subst hB0
                    simp
                    refine loopW [6,10,45,46,47,72,73,74] [.op 26 4 0,.op 7 4 0,.op 11 2 0] [.op 7 4 0,.op 11 2 0] (fun n st => ∃ (j:Nat),j + n = u.Come.length ∧ st = ⟨slOf 105 [(6,.ref ⟨.op 7 4 0,[]⟩ 0 (comeL o u j).length),(10,.ptr ⟨.op 11 2 0,[]⟩ 0),(45,.t (rd 0 v1.length (v1.flatMap (GUpdate.ci 0)))),(46,.t (pi v1.length)),(47,.t (pi i)),(72,.t (rd 0 u.Come.length (u.Come.flatMap GPrefix.c))),(73,.t (pi u.Come.length)),(74,.t (pi j))],ofL [(.op 7 4 0,.sl 0 56 (comeL o u j).length ((comeL o u j).flatMap GRoute.co)),(.op 11 2 0,.sl 0 38 1 (GUpdate.ci 0 u))]⟩) u.Come.length ?_ ?_
                    · rintro Inv3 hI3
                      simp
                      subst hI3
                      exact ⟨0,by omega,rfl⟩
                    · rintro Inv3 hI3 m3 st ⟨j,hj,rfl⟩
                      have hsj:=srt_come b1 u j (by omega)
                      have hlj:=len_come b1 u j (by omega)
                      have hgs:=comeL_succ o u j
                      have hgl:j = u.Come.length → comeL o u j = hearL o u:=by rintro rfl; exact comeL_all o u
                      generalize comeL o u j = B at hsj hlj hgs hgl ⊢
                      refine ewr_sound (M:=[(47,[2]),(48,[2,0,2])]) h0 ?_
                      by_cases a2:j < u.Come.length
                      · have hd2:=fm_drop GPrefix.c 2 (fun _ => rfl) u.Come j a2
                        have hlen2:=fm_len GPrefix.c 2 (fun _ => rfl) u.Come
                        have hlt2:j * 2 < u.Come.length * 2:=by omega
                        have hgs':=hgs a2
                        generalize hp:u.Come[j]'a2 = p at hd2 hgs'
                        have hB:=fm_len GRoute.co 8 (fun _ => rfl) B
                        have ht:(B.flatMap GRoute.co).take (B.length * 8) = B.flatMap GRoute.co:=List.take_of_length_le (by omega)
                        have hfind:=ok_findRoute 0 B p (by omega) hsj
                        have hset:=set_co ⟨p,u.Attrs⟩ hsj
                        have hins:=ins_co ⟨p,u.Attrs⟩ hsj
                        simp [a2,hd2,hlen2,hlt2]
                        refine drawP (tabEnv [] _) [⟨[.op 21 2 0],allD 105,true⟩,⟨[.op 11 2 0],allD 105,true⟩,⟨[.op 11 2 0],allD 105,true⟩,⟨[],allD 105,false⟩,⟨[.op 22 3 1,.op 22 3 5],allD 105,true⟩,⟨[],allD 105,false⟩,⟨[.op 22 5 0,.op 22 3 1,.op 22 3 5],[78,79,80,81,82,17],false⟩] h0 hm (tabEnv_ok (tab_cons (ok_ownAttrs 0 u.Attrs hub.2.2.1 hub.2.2.2) tab_nil)) (by kernel_rfl) (by kernel_rfl) ?_
                        simp [ht]
                        refine Inv_intro hfind ?_
                        cases c3:fnd p B with
                        | true =>
                          obtain ⟨d1,d2,d3⟩:=hset c3
                          simp only at d1 d2 d3
                          generalize hk:kAt p B = k at *
                          have hk8:k * 8 + 8 ≤ B.length * 8:=by omega
                          simp [ht,d1,hk8]
                          refine LessW_mk (m3 - 1) (.op 7 4 0) (.op 7 4 0) (by omega) rfl rfl ?_
                          simp
                          subst hI3
                          refine ⟨j + 1,by omega,?_⟩
                          rw [wrNext j (by omega),hgs',← d2,← d3,Nat.succ_mul k 8]
                          rfl
                        | false =>
                          obtain ⟨d1,d2,d3⟩:=hins c3
                          simp only at d1 d2 d3
                          generalize hk:kAt p B = k at *
                          have hIns:=ok_Insert_Route B.length k (B.flatMap GRoute.co) (GRoute.co ⟨p,u.Attrs⟩) hB rfl d1 (by omega)
                          rw [d2,d3] at hIns
                          simp [ht]
                          refine Inv_intro hIns ?_
                          simp
                          refine LessW_mk (m3 - 1) (.op 26 4 0) (.op 7 4 0) (by omega) rfl rfl ?_
                          simp
                          subst hI3
                          refine ⟨j + 1,by omega,?_⟩
                          rw [wrNext j (by omega),hgs',ofL_two (a:=.op 11 2 0) (b:=.op 7 4 0) (by decide)]
                          rfl
                      · have hjl:j = u.Come.length:=by omega
                        have hB0:=hgl hjl
                        subst hjl
                        subst hB0
                        have hgh:=good_hear ⟨g1,g2⟩ hgi
                        have hbh:=hear_b b3 hub
                        have hgr:=goodL_Rs hgh
                        have hig:=ok_iGoodRoutes 0 (hearL o u) ⟨by omega,fun r hr => by have:=hbh r hr; unfold rB at this; exact ⟨by omega,by omega⟩⟩
                        rw [hgr] at hig
                        have hB:=fm_len GRoute.co 8 (fun _ => rfl) (hearL o u)
                        generalize hearL o u = O at *
                        have ht:(O.flatMap GRoute.co).take (O.length * 8) = O.flatMap GRoute.co:=List.take_of_length_le (by omega)
                        simp [ht]
                        refine Inv_intro hig ?_
                        by_cases c3:O.length ≤ 20
                        · rw [if_pos c3] at hnext
                          simp [c3]
                          subst hI1
                          refine Less_mk (m - 1) (by omega) ⟨i + 1,O,by omega,hnext,?_⟩
                          rw [wrNext i (by omega)]
                        · rw [if_neg c3] at hnext
                          have:=rHear_none (i:=i + 1) (by omega) hnext
                          rw [this]
                          simp [c3]
              · have hin:i = v1.length:=by omega
                subst hin
                have er2:rHearAll v0 v1 = (o,true):=by rw [er,ho]
                have ht:(o.flatMap GRoute.co).take (o.length * 8) = o.flatMap GRoute.co:=List.take_of_length_le (by rw [fm_len GRoute.co 8 (fun _ => rfl)]; exact Nat.le_refl _)
                rw [er2]
                simp [ht]
    · have d60:(60:Int) < (v1.length:Int):=by omega
      simp [rHearAll,h60,d60]
end Go.V
