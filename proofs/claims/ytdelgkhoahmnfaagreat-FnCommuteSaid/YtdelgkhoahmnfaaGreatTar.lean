/- What functions of the seat's program do, each proved of its code, under the bounds that its theorem names. -/
import Derived.Test.YtdelgkhoahmnfaaGreatTaq
import Derived.Deep.AppendSrc
import Derived.Laws.Externs
import Derived.Laws.IdiomCopy
import Derived.Lib.AppendZeros
import Derived.Lib.AppendZerosOnto
import Derived.Lib.JoinLaws
import Derived.Lib.Overlaps
import Derived.Lib.SliceRun
import Derived.Lib.Walk
import Derived.Shelf.Spec.SlicesInsert
import Derived.Shelf.Spec.SlicesInsertGrow
import Derived.WalkKit
set_option linter.all false
namespace Go.V
open Go.Proofs
set_option maxHeartbeats 1000000
set_option maxRecDepth 10000
set_option linter.unusedSimpArgs false
set_option linter.unusedVariables false
/-- What an insertion gives, in trees. -/
theorem ins_fin {P:Program} {I:Nat → Nat → Prop} {w w':World} {las:List LV} {ls lv:List LT} {b b' c' S e n i:Nat} {arr':Array Value} {v0 v1 v2:Value}
    (hS:0 < S) (hsz:tsz P e = S) (hll:ls.length = n * S) (hvl:lv.length = S) (hi:i ≤ n)
    (hh:∀ c ∈ ls ++ lv,c.holds (tsz P) w I) (hnd:(b :: (ls ++ lv).flatMap LT.blocks).Nodup) (hin:∀ x ∈ (ls ++ lv).flatMap LT.blocks,x ∈ las.flatMap LV.blocks) (hb:b ∈ las.flatMap LV.blocks ∨ w.heap.size ≤ b)
    (hI:∀ k x,I k x → x < w.heap.size ∧ x ∉ las.flatMap LV.blocks)
    (hfull:las.map LV.full = [[v0],[v1],[v2]]) (h1:one v0 = true ∧ v1 = .int .i64 i ∧ one v2 = true)
    (ha:w'.heap[b']? = some (.cells arr' e (0,0))) (hca:c' * S ≤ arr'.size) (hnc:n + 1 ≤ c') (har:∀ (j:Nat) u,(insV S i (ls.map LT.val) (lv.map LT.val))[j]? = some u → arr'[j]? = some u) (hb':b' = b ∨ w.heap.size ≤ b') (hk:Kp [b] w w') :
    ∃ (lr:LV) (los:List LV),Ending.returned (.slice (some ⟨b',0,none⟩) (n + 1) c') = .returned lr.val ∧ lr.erase = .c (.sl 0 e (n + 1) ((ls.map LT.erase).take (i * S) ++ lv.map LT.erase ++ (ls.map LT.erase).drop (i * S))) ∧ los.map LV.erase = [.c .hole,.c (pi i),.c .hole] ∧ los.map LV.full = las.map LV.full ∧
      lr.holds (tsz P) w' I ∧ (∀ l ∈ los,l.holds (tsz P) w' I) ∧ (lr.blocks ++ los.flatMap LV.blocks).Nodup ∧ (∀ x ∈ lr.blocks ++ los.flatMap LV.blocks,x ∈ las.flatMap LV.blocks ∨ w.heap.size ≤ x) ∧ Kp (las.flatMap LV.blocks) w w':=by
  obtain ⟨h10,rfl,h12⟩:=h1
  have hnd1:=List.nodup_cons.1 hnd
  have hperm:((ls.take (i * S) ++ lv ++ ls.drop (i * S)).flatMap LT.blocks).Perm ((ls ++ lv).flatMap LT.blocks):=by
    rw [List.flatMap_append,List.flatMap_append,List.flatMap_append,List.append_assoc]
    have e:ls.flatMap LT.blocks = (ls.take (i * S)).flatMap LT.blocks ++ (ls.drop (i * S)).flatMap LT.blocks:=by rw [← List.flatMap_append,List.take_append_drop]
    rw [e,List.append_assoc]
    exact List.Perm.append_left _ List.perm_append_comm
  have hmem:∀ c ∈ ls.take (i * S) ++ lv ++ ls.drop (i * S),c ∈ ls ++ lv:=by
    intro c hc
    rcases List.mem_append.1 hc with hc | hc
    · rcases List.mem_append.1 hc with hc | hc
      · exact List.mem_append_left _ (List.mem_of_mem_take hc)
      · exact List.mem_append_right _ hc
    · exact List.mem_append_left _ (List.mem_of_mem_drop hc)
  have hbk:∀ c ∈ ls ++ lv,∀ x ∈ c.blocks,x ∈ (ls ++ lv).flatMap LT.blocks:=fun c hc x hx => List.mem_flatMap.2 ⟨c,hc,hx⟩
  have hlt:∀ x ∈ (ls ++ lv).flatMap LT.blocks,x < w.heap.size:=by
    intro x hx
    obtain ⟨c,hc,hx⟩:=List.mem_flatMap.1 hx
    exact LT.blocks_lt c (hh c hc) x hx
  have hIw:∀ k x,I k x → w'.heap[x]? = w.heap[x]?:=fun k x hx => hk.block x (hI k x hx).1 (by
    rw [List.mem_singleton]
    rintro rfl
    rcases hb with h | h
    · exact (hI k x hx).2 h
    · have:=(hI k x hx).1
      omega)
  have hhold:∀ c ∈ ls ++ lv,c.holds (tsz P) w' I:=fun c hc => LT.holds_frame (fun _ _ h => h) hIw c (hh c hc) fun x hx => hk.block x (hlt x (hbk c hc x hx)) (by
    rw [List.mem_singleton]
    rintro rfl
    exact hnd1.1 (hbk c hc x hx))
  have hval:(ls.take (i * S) ++ lv ++ ls.drop (i * S)).map LT.val = insV S i (ls.map LT.val) (lv.map LT.val):=by
    simp only [insV,List.map_append,List.map_take,List.map_drop]
  refine ⟨.c (.own b' c' e (n + 1) (ls.take (i * S) ++ lv ++ ls.drop (i * S))),[.c (.leaf v0 .hole),.c (.leaf (.int .i64 i) (pi i)),.c (.leaf v2 .hole)],by simp [LV.val,LT.val],by simp [LV.erase,LT.erase],by simp [LV.erase,LT.erase],?_,?_,?_,?_,?_,?_⟩
  · rw [hfull]
    rfl
  · simp only [LV.holds,LT.holds]
    refine ⟨⟨arr',ha,by rw [hsz]; exact hca,fun j c hj => har j _ (by rw [← hval,List.getElem?_map,hj]; rfl)⟩,?_,hnc,⟨by rw [hsz]; exact hS,by omega⟩,fun c hc => hhold c (hmem c hc)⟩
    have h1:i * S ≤ n * S:=Nat.mul_le_mul_right S hi
    have h2:(n + 1) * S = n * S + S:=by rw [Nat.add_mul,Nat.one_mul]
    rw [List.length_append,List.length_append,List.length_take,List.length_drop,hsz,hll,hvl,h2]
    omega
  · intro l hl
    simp only [List.mem_cons,List.not_mem_nil,or_false] at hl
    rcases hl with rfl | rfl | rfl
    · simp only [LV.holds,LT.holds,Im]; exact ⟨trivial,h10⟩
    · simp only [LV.holds,LT.holds,Im,pi]; exact ⟨trivial,rfl⟩
    · simp only [LV.holds,LT.holds,Im]; exact ⟨trivial,h12⟩
  · simp only [LV.blocks,LT.blocks,List.flatMap_cons,List.flatMap_nil,List.append_nil]
    refine List.nodup_cons.2 ⟨?_,hperm.nodup_iff.2 hnd1.2⟩
    intro hx
    have hx:=hperm.mem_iff.1 hx
    rcases hb' with rfl | h
    · exact hnd1.1 hx
    · have:=hlt _ hx
      omega
  · intro x hx
    simp only [LV.blocks,LT.blocks,List.flatMap_cons,List.flatMap_nil,List.append_nil,List.mem_cons] at hx
    rcases hx with rfl | hx
    · rcases hb' with rfl | h
      · exact hb
      · exact .inr h
    · exact .inl (hin x (hperm.mem_iff.1 hx))
  · exact (Kp.refl _ w).trans hk (by
      intro x hx
      rw [List.mem_singleton] at hx
      subst hx
      exact hb)
theorem ins_nilRow (ad:Option Addr) (vb vc:Nat) (w:World) (va:Array Value) (vv:List Value) (hvb:w.heap[vb]? = some (.cells va 79 (0,0))) (hvl:vv.length = 3) (hvv:∀ (j:Nat) u,vv[j]? = some u → va[j]? = some u) :
    ∃ (c':Nat) (arr':Array Value) (w':World),Calls Tryz.prog 145 #[.slice ad 0 0,.int .i64 (0:Nat),.slice (some ⟨vb,0,none⟩) 1 vc] w (fun e w'' => e = .returned (.slice (some ⟨w.heap.size,0,none⟩) (0 + 1) c') ∧ w'' = w') ∧
      w'.heap[w.heap.size]? = some (.cells arr' 79 (0,0)) ∧ c' * 3 ≤ arr'.size ∧ 0 + 1 ≤ c' ∧ (∀ (j:Nat) u,(insV 3 0 [] vv)[j]? = some u → arr'[j]? = some u) ∧ Kp [] w w':=by
  have tS:Tryz.prog.underlying 30 = some (.slice 79):=by kernel_rfl
  obtain ⟨inf,hinf⟩:=tsz_info (P:=Tryz.prog) (t:=79) (by simp)
  have hsz:inf.size = 3:=by
    have h1:tsz Tryz.prog 79 = inf.size:=by simp only [tsz,hinf]
    have h2:tsz Tryz.prog 79 = 3:=by kernel_rfl
    omega
  have hby:inf.bytes = 40:=by
    have h1:tby Tryz.prog 79 = inf.bytes:=by simp only [tby,hinf]
    have h2:tby Tryz.prog 79 = 40:=by kernel_rfl
    omega
  obtain ⟨z,hz⟩:∃ z,inf.zero = some z:=by
    have h2:(tzero Tryz.prog 79).isSome = true:=by kernel_rfl
    have h1:tzero Tryz.prog 79 = inf.zero:=by simp only [tzero,hinf]
    rw [h1] at h2
    exact Option.isSome_iff_exists.1 h2
  have hzs:z.cells.size = 3:=by
    have h2:(tzero Tryz.prog 79).map (fun z => z.cells.size) = some 3:=by kernel_rfl
    have h1:tzero Tryz.prog 79 = inf.zero:=by simp only [tzero,hinf]
    rw [h1,hz] at h2
    simpa using h2
  have hcellv:∀ (k:Nat) u,vv[k]? = some u → w.cell? ⟨vb,k,none⟩ = some u:=fun k u h => by rw [cell_at hvb]; exact hvv k u h
  have hge:=grownCap_ge w 1 0 79
  have hins:insV 3 0 [] vv = vv:=by simp [insV]
  rw [hins]
  have hr:∀ ty,(Builtin.append_ #[30,30] ty #[.slice ad 0 0,.slice (some ⟨vb,0,none⟩) 1 vc]).run Tryz.prog w = .ok (.slice (some ⟨w.heap.size,0,none⟩) (0 + 1) (grownCap w 1 0 79)) (w.drew.alloc (.cells (vv.toArray ++ Builtin.zeroCells z.cells (grownCap w 1 0 79 - 1)) 79)):=fun ty => by
    cases ad with
    | none => exact run_append_nil (P:=Tryz.prog) w 30 ty 79 inf z tS hinf hz ⟨vb,0,none⟩ 1 vc vv (by rw [hsz,hvl]) (fun j u hj => by rw [Addr.add_lit,Nat.zero_add]; exact hcellv j u hj) (by omega) (by omega) (by rw [hby]; omega)
    | some x =>
      have h:=run_append_grow (P:=Tryz.prog) w 30 ty 79 inf z tS hinf hz x 0 0 [] (by simp) (by simp) ⟨vb,0,none⟩ 1 vc vv (by rw [hsz,hvl]) (fun j u hj => by rw [Addr.add_lit,Nat.zero_add]; exact hcellv j u hj) (by omega) (by omega) (growslice_fits (by omega) (by rw [hby]; omega))
      simpa using h
  refine ⟨_,_,_,ins_endRow ad vb 0 0 vc w _ _ (Nat.le_refl _) hr,alloc_at w.drew _,?_,hge,?_,(Kp.of_below (drew_below w) (Nat.le_succ _)).trans (alloc_kp [] w.drew _) (by simp)⟩
  · simp only [Array.size_append,List.size_toArray,size_zeroCells,hzs,hvl]
    omega
  · intro j u hj
    have hjl:=getv hj
    rw [Array.getElem?_append_left (by simpa using hjl)]
    simpa using hj
theorem ok_Insert_Row (n i:Nat) (cs vs:List PT) (hcl:cs.length = n * 3) (hvl:vs.length = 3) (hi:i ≤ n) (hbig:(n + 1) * 40 ≤ 140737488355328) :
    CallOK Tryz.prog 145 [.c (.sl 0 79 n cs),.c (pi i),.c (.sl 0 79 1 vs)] (.c (.sl 0 79 (n + 1) (cs.take (i * 3) ++ vs ++ cs.drop (i * 3)))) [.c .hole,.c (pi i),.c .hole]:=by
  intro I w las he hh hnd hI
  obtain ⟨ts,rfl,hts⟩:=erase_cs las [.sl 0 79 n cs,pi i,.sl 0 79 1 vs] he
  obtain ⟨t0,t1,t2,rfl⟩:∃ t0 t1 t2,ts = [t0,t1,t2]:=by
    have hl:ts.length = 3:=by simpa using congrArg List.length hts
    match ts,hl with
    | [a,b,c],_ => exact ⟨a,b,c,rfl⟩
  simp only [List.map_cons,List.map_nil,List.cons.injEq,and_true] at hts
  obtain ⟨e0,e1,e2⟩:=hts
  have hs2:tsz Tryz.prog 79 = 3:=by kernel_rfl
  have k0:t0.holds (tsz Tryz.prog) w I:=by simpa [LV.holds] using hh (.c t0) (by simp)
  have k1:t1.holds (tsz Tryz.prog) w I:=by simpa [LV.holds] using hh (.c t1) (by simp)
  have k2:t2.holds (tsz Tryz.prog) w I:=by simpa [LV.holds] using hh (.c t2) (by simp)
  have hv1:t1.val = .int .i64 i:=by
    cases t1 with
    | leaf v p =>
      simp only [LT.erase] at e1
      subst e1
      simp only [LT.holds,Im,pi] at k1
      exact k1.1
    | own b cap e m cs => simp [LT.erase,pi] at e1
  have hb1:t1.blocks = []:=by
    cases t1 with
    | leaf v p => simp [LT.blocks]
    | own b cap e m cs => simp [LT.erase,pi] at e1
  simp only [List.map_cons,List.map_nil] at hh hnd hI ⊢
  cases t2 with
  | leaf v p =>
    simp only [LT.erase] at e2
    subst e2
    simp only [LT.holds,Im] at k2
    have:=k2.1.1
    omega
  | own vb vcap ve vn lv =>
    simp only [LT.erase,PT.sl.injEq,true_and] at e2
    obtain ⟨rfl,rfl,rfl⟩:=e2
    have k2':=k2
    simp only [LT.holds] at k2'
    obtain ⟨⟨va,g1,g2,g3⟩,g4,g5,g6,g7⟩:=k2'
    rw [hs2] at g2 g4 g6
    have hlvl:lv.length = 3:=by omega
    have hvv:∀ (j:Nat) u,(lv.map LT.val)[j]? = some u → va[j]? = some u:=by
      intro j u hj
      rw [List.getElem?_map,Option.map_eq_some_iff] at hj
      obtain ⟨d,hd,rfl⟩:=hj
      exact g3 j d hd
    have hone:∀ {l:List LT},(∀ c ∈ l,c.holds (tsz Tryz.prog) w I) → ∀ v ∈ l.map LT.val,v.oneCell' = true:=by
      intro l hl v hv
      obtain ⟨d,hd,rfl⟩:=List.mem_map.1 hv
      rw [one_oneCell]
      exact LT.holds_one (hl d hd)
    cases t0 with
    | leaf v p =>
      simp only [LT.erase] at e0
      subst e0
      simp only [LT.holds,Im] at k0
      obtain ⟨⟨rfl,rfl,ad,rfl⟩,_⟩:=k0
      have hi0:i = 0:=by omega
      subst hi0
      obtain ⟨c',arr',w',hc,p1,p2,p3,p4,p5⟩:=ins_nilRow ad vb vcap w va (lv.map LT.val) g1 (by rw [List.length_map,hlvl]) hvv
      have hlas:([LV.c (.leaf (.slice ad 0 0) (.sl 0 79 0 [])),.c t1,.c (.own vb vcap 79 1 lv)].flatMap LV.blocks) = vb :: lv.flatMap LT.blocks:=by simp [LV.blocks,LT.blocks,hb1]
      have hargs:[LV.val (.c (.leaf (.slice ad 0 0) (.sl 0 79 0 []))),LV.val (.c t1),LV.val (.c (.own vb vcap 79 1 lv))].toArray = #[.slice ad 0 0,.int .i64 (0:Nat),.slice (some ⟨vb,0,none⟩) 1 vcap]:=by
        simp only [LV.val,LT.val] at hv1 ⊢
        rw [hv1]
      rw [hargs]
      refine (CallsF.of_calls Tryz.func145 (by kernel_rfl) rfl hc).mono ?_
      rintro e w'' ⟨rfl,rfl⟩
      have hnd2:(vb :: lv.flatMap LT.blocks).Nodup:=by rw [← hlas]; exact hnd
      exact ins_fin (P:=Tryz.prog) (I:=I) (w:=w) (w':=w'') (ls:=[]) (lv:=lv) (b:=w.heap.size) (b':=w.heap.size) (c':=c') (S:=3) (e:=79) (n:=0) (i:=0) (arr':=arr') (v0:=.slice ad 0 0) (v1:=t1.val) (v2:=(LT.own vb vcap 79 1 lv).val)
        (by omega) hs2 (by simp) hlvl (Nat.le_refl _) (by simpa using g7) (by
          rw [List.nil_append]
          refine List.nodup_cons.2 ⟨fun hx => ?_,(List.nodup_cons.1 hnd2).2⟩
          obtain ⟨c,hc,hx⟩:=List.mem_flatMap.1 hx
          have:=LT.blocks_lt c (g7 c hc) _ hx
          omega) (by rw [hlas]; intro x hx; exact List.mem_cons_of_mem _ (by simpa using hx)) (.inr (Nat.le_refl _)) hI (by simp [LV.full,LV.trees,LT.val]) ⟨rfl,hv1,rfl⟩ p1 p2 p3 p4 (.inl rfl) (Kp.of_below p5.below p5.drawn)
    | own b cap e m ls =>
      simp only [LT.erase,PT.sl.injEq,true_and] at e0
      obtain ⟨rfl,rfl,rfl⟩:=e0
      have k0':=k0
      simp only [LT.holds] at k0'
      obtain ⟨⟨arr,q1,q2,q3⟩,q4,q5,q6,q7⟩:=k0'
      rw [hs2] at q2 q4 q6
      have hcv:∀ (j:Nat) u,(ls.map LT.val)[j]? = some u → arr[j]? = some u:=by
        intro j u hj
        rw [List.getElem?_map,Option.map_eq_some_iff] at hj
        obtain ⟨d,hd,rfl⟩:=hj
        exact q3 j d hd
      have hlas:([LV.c (.own b cap 79 m ls),.c t1,.c (.own vb vcap 79 1 lv)].flatMap LV.blocks) = (b :: ls.flatMap LT.blocks) ++ (vb :: lv.flatMap LT.blocks):=by simp [LV.blocks,LT.blocks,hb1]
      have hnd2:((b :: ls.flatMap LT.blocks) ++ (vb :: lv.flatMap LT.blocks)).Nodup:=by rw [← hlas]; exact hnd
      have hnd3:=List.nodup_append.1 hnd2
      have hne:vb ≠ b:=fun e => hnd3.2.2 b (by simp) vb (by simp) e.symm
      obtain ⟨b',c',arr',w',hc,p1,p2,p3,p4,p5,p6⟩:=ins_worldRow b vb m cap i vcap w arr va (ls.map LT.val) (lv.map LT.val) q1 g1 hne (by rw [List.length_map,q4]) (by rw [List.length_map,hlvl]) q2 (by omega) q5 hi hcv hvv (hone q7) (hone g7) hbig
      have hargs:[LV.val (.c (.own b cap 79 m ls)),LV.val (.c t1),LV.val (.c (.own vb vcap 79 1 lv))].toArray = #[.slice (some ⟨b,0,none⟩) m cap,.int .i64 i,.slice (some ⟨vb,0,none⟩) 1 vcap]:=by
        simp only [LV.val,LT.val] at hv1 ⊢
        rw [hv1]
      rw [hargs]
      refine (CallsF.of_calls Tryz.func145 (by kernel_rfl) rfl hc).mono ?_
      rintro e w'' ⟨rfl,rfl⟩
      have hmm:(ls ++ lv).flatMap LT.blocks = ls.flatMap LT.blocks ++ lv.flatMap LT.blocks:=List.flatMap_append
      exact ins_fin (P:=Tryz.prog) (I:=I) (w:=w) (w':=w'') (ls:=ls) (lv:=lv) (b:=b) (b':=b') (c':=c') (S:=3) (e:=79) (n:=m) (i:=i) (arr':=arr') (v0:=(LT.own b cap 79 m ls).val) (v1:=t1.val) (v2:=(LT.own vb vcap 79 1 lv).val)
        (by omega) hs2 q4 hlvl hi (fun c hc => (List.mem_append.1 hc).elim (q7 c) (g7 c)) (by
          rw [hmm]
          rw [List.cons_append] at hnd2
          have h1:=List.nodup_cons.1 hnd2
          refine List.nodup_cons.2 ⟨fun hx => h1.1 ?_,?_⟩
          · rcases List.mem_append.1 hx with hx | hx
            · exact List.mem_append_left _ hx
            · exact List.mem_append_right _ (List.mem_cons_of_mem _ hx)
          · exact h1.2.sublist (List.Sublist.append_left (List.sublist_cons_self ..) _)) (by
          rw [hlas,hmm]
          intro x hx
          rcases List.mem_append.1 hx with hx | hx
          · exact List.mem_append_left _ (List.mem_cons_of_mem _ hx)
          · exact List.mem_append_right _ (List.mem_cons_of_mem _ hx)) (.inl (by rw [hlas]; simp)) hI (by simp [LV.full,LV.trees,LT.val]) ⟨rfl,hv1,rfl⟩ p1 p2 p3 p4 p5 p6
/-- A road of slices.Insert: at the end. -/
theorem ins_endOffer (base:Option Addr) (vb n c vc:Nat) (w w1:World) (r:Value) (hn:n ≤ c)
    (hr:∀ ty,(Builtin.append_ #[26,26] ty #[.slice base n c,.slice (some ⟨vb,0,none⟩) 1 vc]).run Tryz.prog w = .ok r w1) :
    Calls Tryz.prog 183 #[.slice base n c,.int .i64 n,.slice (some ⟨vb,0,none⟩) 1 vc] w fun e w' => e = .returned r ∧ w' = w1:=by
  have mixed:Tryz.prog.follows .mixedOrders = true:=by kernel_rfl
  have tS:Tryz.prog.underlying 26 = some (.slice 81):=by kernel_rfl
  have uS:=run_underlying tS
  have zE:∀ w,(Go.sizeOf 81).run Tryz.prog w = .ok 7 w:=fun w => by kernel_rfl
  have zS:∀ w,(Go.sizeOf 26).run Tryz.prog w = .ok 1 w:=fun w => by kernel_rfl
  have aS:∀ w,(isAgg 26).run Tryz.prog w = .ok false w:=fun w => by kernel_rfl
  have t3:Tryz.prog.underlying 3 = some (.int .i64):=by kernel_rfl
  have u3:=run_underlying t3
  have a3:∀ w,(isAgg 3).run Tryz.prog w = .ok false w:=fun w => by kernel_rfl
  have z3:∀ w,(Go.sizeOf 3).run Tryz.prog w = .ok 1 w:=fun w => by kernel_rfl
  go_enter Tryz.func183,Tryz.ntmps183
  go_wp2_with (at_builtin; refine Lib.wpList_append_run _ rfl _ _ _ _ rfl _ _ rfl rfl _ _ (hr _) ?_)
  all_goals (go_ret; exact ⟨rfl,rfl⟩)
/-- A road of slices.Insert: ahead of the end, with room. -/
theorem ins_shiftOffer (b vb n c i vc:Nat) (w w1 w2:World) (x1 x2:Value) (hi:i < n) (hn63:n < 9223372036854775807) (hroom:n + 1 ≤ c)
    (hov:∀ lb cb,(callFunc 204 #[.slice (some ⟨vb,0,none⟩) 1 vc,.slice (some ⟨b,(i + 1) * 7,none⟩) lb cb]).run Tryz.prog w = .ok (.value (.bool false)) w)
    (hc1:∀ ty dc sc,(Builtin.copy_ #[26,26] ty #[.slice (some ⟨b,(i + 1) * 7,none⟩) (n - i) dc,.slice (some ⟨b,i * 7,none⟩) (n + 1 - i) sc]).run Tryz.prog w.drew = .ok x1 w1)
    (hc2:∀ ty dc,(Builtin.copy_ #[26,26] ty #[.slice (some ⟨b,i * 7,none⟩) (n + 1 - i) dc,.slice (some ⟨vb,0,none⟩) 1 vc]).run Tryz.prog w1 = .ok x2 w2) :
    Calls Tryz.prog 183 #[.slice (some ⟨b,0,none⟩) n c,.int .i64 i,.slice (some ⟨vb,0,none⟩) 1 vc] w fun e w' => e = .returned (.slice (some ⟨b,0,none⟩) (n + 1) c) ∧ w' = w2:=by
  have mixed:Tryz.prog.follows .mixedOrders = true:=by kernel_rfl
  have tS:Tryz.prog.underlying 26 = some (.slice 81):=by kernel_rfl
  have uS:=run_underlying tS
  have zE:∀ w,(Go.sizeOf 81).run Tryz.prog w = .ok 7 w:=fun w => by kernel_rfl
  have zS:∀ w,(Go.sizeOf 26).run Tryz.prog w = .ok 1 w:=fun w => by kernel_rfl
  have aS:∀ w,(isAgg 26).run Tryz.prog w = .ok false w:=fun w => by kernel_rfl
  have t3:Tryz.prog.underlying 3 = some (.int .i64):=by kernel_rfl
  have u3:=run_underlying t3
  have a3:∀ w,(isAgg 3).run Tryz.prog w = .ok false w:=fun w => by kernel_rfl
  have z3:∀ w,(Go.sizeOf 3).run Tryz.prog w = .ok 1 w:=fun w => by kernel_rfl
  have hz2:¬ ((i:Int) = (n:Int)):=by omega
  have hw1:IntKind.i64.wrap ((i:Int) + 1) = (i:Int) + 1:=by rw [IntKind.wrap_i64]; omega
  have hb1:(0:Int) ≤ (i:Int) + 1:=by omega
  have hin:i ≤ n:=by omega
  have htn:((i:Int) + 1).toNat = i + 1:=by omega
  have hb2:¬ (c = i + 1):=by omega
  have hb3:(i:Int) ≤ (n:Int) + 1:=by omega
  have hb4:¬ (c = i):=by omega
  go_enter Tryz.func183,Tryz.ntmps183
  go_wp2_with (simp only [hov])
  go_region_law_o (refine step_copy_runI rfl _ _ 26 26 rfl _ _ (by simp [Act.eval,Act.put]) (by simp [Act.eval,Act.put]) (hc1 _ _ _) ?_)
  go_wp2_with (at_builtin; refine wpList_copy_runI _ rfl _ _ 26 26 rfl _ _ rfl rfl (hc2 _ _) ?_)
  go_ret
  exact ⟨rfl,rfl⟩
/-- A road of slices.Insert: ahead of the end, no room. -/
theorem ins_growOffer (b vb n c i vc N G:Nat) (w w1 w2 w3:World) (x1 x2:Value) (hi:i < n) (hn63:n < 9223372036854775807) (hnc:n ≤ c) (hroom:c < n + 1) (hG:n + 1 ≤ G)
    (hr:∀ ty,(Builtin.append_ #[26,3] ty #[.slice (some ⟨b,0,none⟩) i c,.int .i64 ((n:Int) + 1 - (i:Int))]).run Tryz.prog w = .ok (.slice (some ⟨N,0,none⟩) (n + 1) G) w1)
    (hc1:∀ ty dc,(Builtin.copy_ #[26,26] ty #[.slice (some ⟨N,i * 7,none⟩) (n + 1 - i) dc,.slice (some ⟨vb,0,none⟩) 1 vc]).run Tryz.prog w1 = .ok x1 w2)
    (hc2:∀ ty dc sc,(Builtin.copy_ #[26,26] ty #[.slice (some ⟨N,(i + 1) * 7,none⟩) (n - i) dc,.slice (some ⟨b,i * 7,none⟩) (n - i) sc]).run Tryz.prog w2.drew = .ok x2 w3) :
    Calls Tryz.prog 183 #[.slice (some ⟨b,0,none⟩) n c,.int .i64 i,.slice (some ⟨vb,0,none⟩) 1 vc] w fun e w' => e = .returned (.slice (some ⟨N,0,none⟩) (n + 1) G) ∧ w' = w3:=by
  have mixed:Tryz.prog.follows .mixedOrders = true:=by kernel_rfl
  have tS:Tryz.prog.underlying 26 = some (.slice 81):=by kernel_rfl
  have uS:=run_underlying tS
  have zE:∀ w,(Go.sizeOf 81).run Tryz.prog w = .ok 7 w:=fun w => by kernel_rfl
  have zS:∀ w,(Go.sizeOf 26).run Tryz.prog w = .ok 1 w:=fun w => by kernel_rfl
  have aS:∀ w,(isAgg 26).run Tryz.prog w = .ok false w:=fun w => by kernel_rfl
  have t3:Tryz.prog.underlying 3 = some (.int .i64):=by kernel_rfl
  have u3:=run_underlying t3
  have a3:∀ w,(isAgg 3).run Tryz.prog w = .ok false w:=fun w => by kernel_rfl
  have z3:∀ w,(Go.sizeOf 3).run Tryz.prog w = .ok 1 w:=fun w => by kernel_rfl
  have hz2:¬ ((i:Int) = (n:Int)):=by omega
  have hz3:(c:Int) < (n:Int) + 1:=by omega
  have hw0:IntKind.i64.wrap ((n:Int) + 1) = (n:Int) + 1:=by rw [IntKind.wrap_i64]; omega
  have hw1:IntKind.i64.wrap ((i:Int) + 1) = (i:Int) + 1:=by rw [IntKind.wrap_i64]; omega
  have hw2:IntKind.i64.wrap ((n:Int) + 1 - (i:Int)) = (n:Int) + 1 - (i:Int):=by rw [IntKind.wrap_i64]; omega
  have hb1:(0:Int) ≤ (i:Int) + 1:=by omega
  have hin:i ≤ n:=by omega
  have htn:((i:Int) + 1).toNat = i + 1:=by omega
  have hGi:¬ (G = i):=by omega
  have hGim:¬ (G = i + 1):=by omega
  have hci:¬ (c = i):=by omega
  have hb3:(i:Int) ≤ (n:Int):=by omega
  go_enter Tryz.func183,Tryz.ntmps183
  go_wp2_with (first
    | (at_builtin; refine Lib.wpList_append_run _ rfl _ _ _ _ rfl _ _ rfl rfl _ _ (hr _) ?_)
    | (at_builtin; refine wpList_copy_runI _ rfl _ _ 26 26 rfl _ _ rfl rfl (hc1 _ _) ?_))
  go_region_law_o (refine step_copy_runI rfl _ _ 26 26 rfl _ _ (by simp [Act.eval,Act.put]) (by simp [Act.eval,Act.put]) (hc2 _ _ _) ?_)
  go_wp2
  go_ret
  exact ⟨rfl,rfl⟩
theorem ins_worldOffer (b vb n c i vc:Nat) (w:World) (arr va:Array Value) (cv vv:List Value) (hba:w.heap[b]? = some (.cells arr 81 (0,0))) (hvb:w.heap[vb]? = some (.cells va 81 (0,0))) (hne:vb ≠ b)
    (hcl:cv.length = n * 7) (hvl:vv.length = 7) (hca:c * 7 ≤ arr.size) (hva:7 ≤ va.size) (hnc:n ≤ c) (hi:i ≤ n)
    (hcv:∀ (j:Nat) u,cv[j]? = some u → arr[j]? = some u) (hvv:∀ (j:Nat) u,vv[j]? = some u → va[j]? = some u) (h1c:∀ v ∈ cv,v.oneCell' = true) (h1v:∀ v ∈ vv,v.oneCell' = true)
    (hbig:(n + 1) * 88 ≤ 140737488355328) :
    ∃ (b' c':Nat) (arr':Array Value) (w':World),Calls Tryz.prog 183 #[.slice (some ⟨b,0,none⟩) n c,.int .i64 i,.slice (some ⟨vb,0,none⟩) 1 vc] w (fun e w'' => e = .returned (.slice (some ⟨b',0,none⟩) (n + 1) c') ∧ w'' = w') ∧
      w'.heap[b']? = some (.cells arr' 81 (0,0)) ∧ c' * 7 ≤ arr'.size ∧ n + 1 ≤ c' ∧ (∀ (j:Nat) u,(insV 7 i cv vv)[j]? = some u → arr'[j]? = some u) ∧ (b' = b ∨ w.heap.size ≤ b') ∧ Kp [b] w w':=by
  have tS:Tryz.prog.underlying 26 = some (.slice 81):=by kernel_rfl
  have t3:Tryz.prog.underlying 3 = some (.int .i64):=by kernel_rfl
  have zE:∀ w,(Go.sizeOf 81).run Tryz.prog w = .ok 7 w:=fun w => by kernel_rfl
  obtain ⟨inf,hinf⟩:=tsz_info (P:=Tryz.prog) (t:=81) (by simp)
  have hsz:inf.size = 7:=by
    have h1:tsz Tryz.prog 81 = inf.size:=by simp only [tsz,hinf]
    have h2:tsz Tryz.prog 81 = 7:=by kernel_rfl
    omega
  have hby:inf.bytes = 88:=by
    have h1:tby Tryz.prog 81 = inf.bytes:=by simp only [tby,hinf]
    have h2:tby Tryz.prog 81 = 88:=by kernel_rfl
    omega
  have hszs:(Tryz.prog.info? 81).map (·.size) = some 7:=by rw [hinf,Option.map_some,hsz]
  obtain ⟨z,hz⟩:∃ z,inf.zero = some z:=by
    have h2:(tzero Tryz.prog 81).isSome = true:=by kernel_rfl
    have h1:tzero Tryz.prog 81 = inf.zero:=by simp only [tzero,hinf]
    rw [h1] at h2
    exact Option.isSome_iff_exists.1 h2
  have hzs:z.cells.size = 7:=by
    have h2:(tzero Tryz.prog 81).map (fun z => z.cells.size) = some 7:=by kernel_rfl
    have h1:tzero Tryz.prog 81 = inf.zero:=by simp only [tzero,hinf]
    rw [h1,hz] at h2
    simpa using h2
  have hcellb:∀ (k:Nat) u,cv[k]? = some u → w.cell? ⟨b,k,none⟩ = some u:=fun k u h => by rw [cell_at hba]; exact hcv k u h
  have hcellv:∀ (k:Nat) u,vv[k]? = some u → w.cell? ⟨vb,k,none⟩ = some u:=fun k u h => by rw [cell_at hvb]; exact hvv k u h
  have hvlt:vb < w.heap.size:=(Array.getElem?_eq_some_iff.1 hvb).1
  have hblt:b < w.heap.size:=(Array.getElem?_eq_some_iff.1 hba).1
  by_cases hin:i = n
  · subst hin
    have hins:insV 7 i cv vv = cv ++ vv:=by
      unfold insV
      rw [List.take_of_length_le (by omega),List.drop_of_length_le (by omega),List.append_nil]
    rw [hins]
    by_cases hroom:i + 1 ≤ c
    · have hr:∀ ty,(Builtin.append_ #[26,26] ty #[.slice (some ⟨b,0,none⟩) i c,.slice (some ⟨vb,0,none⟩) 1 vc]).run Tryz.prog w = .ok (.slice (some ⟨b,0,none⟩) (i + 1) c) (w.setCells b (i * 7) vv):=fun ty => by
        have h:=run_append_room_cells (P:=Tryz.prog) w 26 ty 81 inf tS hinf b 0 i c ⟨vb,0,none⟩ 1 vc vv (by rw [hsz,hvl]) (fun j u hj => by rw [Addr.add_lit,Nat.zero_add]; exact hcellv j u hj) h1v hroom
          (fun j hj => by rw [cell_at hba,hsz,Array.getElem?_eq_getElem (by omega)]; rfl) (fun j hj => by simp [World.frozen?,hba])
        rw [hsz,Nat.zero_add] at h
        exact h
      obtain ⟨arr',r1,r2,r3⟩:=setCells_heap vv (i * 7) w arr hba
      refine ⟨b,c,arr',_,ins_endOffer (some ⟨b,0,none⟩) vb i c vc w _ _ hnc hr,r1,by omega,hroom,?_,.inl rfl,setCells_kp b vv _ w⟩
      intro j u hj
      rw [r3]
      rw [List.getElem?_append] at hj
      split at hj
      · rw [if_neg (by omega)]
        exact hcv j u hj
      · have:=getv hj
        rw [if_pos (by omega),← hcl]
        exact hj
    · have hr:∀ ty,(Builtin.append_ #[26,26] ty #[.slice (some ⟨b,0,none⟩) i c,.slice (some ⟨vb,0,none⟩) 1 vc]).run Tryz.prog w = .ok (.slice (some ⟨w.heap.size,0,none⟩) (i + 1) (grownCap w (i + 1) c 81)) (w.drew.alloc (.cells (cv.toArray ++ vv.toArray ++ Builtin.zeroCells z.cells (grownCap w (i + 1) c 81 - (i + 1))) 81)):=fun ty =>
        run_append_grow (P:=Tryz.prog) w 26 ty 81 inf z tS hinf hz ⟨b,0,none⟩ i c cv (by rw [hsz,hcl]) (fun j u hj => by rw [Addr.add_lit,Nat.zero_add]; exact hcellb j u hj) ⟨vb,0,none⟩ 1 vc vv (by rw [hsz,hvl]) (fun j u hj => by rw [Addr.add_lit,Nat.zero_add]; exact hcellv j u hj) (by omega) (by omega) (growslice_fits (by omega) (by rw [hby]; exact hbig))
      have hge:=grownCap_ge w (i + 1) c 81
      refine ⟨w.heap.size,_,_,_,ins_endOffer (some ⟨b,0,none⟩) vb i c vc w _ _ hnc hr,alloc_at w.drew _,?_,hge,?_,.inr (Nat.le_refl _),(Kp.of_below (drew_below w) (Nat.le_succ _)).trans (alloc_kp [] w.drew _) (by simp)⟩
      · simp only [Array.size_append,List.size_toArray,size_zeroCells,hzs,hcl,hvl]
        omega
      · intro j u hj
        have hjl:=getv hj
        rw [List.length_append] at hjl
        rw [Array.getElem?_append_left (by simpa using hjl)]
        simpa using hj
  · have hin':i < n:=by omega
    have hdl:(cv.drop (i * 7)).length = (n - i) * 7:=by rw [List.length_drop,hcl]; omega
    have hdat:∀ (j:Nat) u,(cv.drop (i * 7))[j]? = some u → cv[i * 7 + j]? = some u:=fun j u h => by rwa [List.getElem?_drop] at h
    by_cases hroom:n + 1 ≤ c
    · obtain ⟨arr1,p1,p2,p3⟩:=setCells_heap (cv.drop (i * 7)) ((i + 1) * 7) w.drew arr hba
      have hk1:=setCells_kp b (cv.drop (i * 7)) ((i + 1) * 7) w.drew
      have hc1:∀ ty dc sc,(Builtin.copy_ #[26,26] ty #[.slice (some ⟨b,(i + 1) * 7,none⟩) (n - i) dc,.slice (some ⟨b,i * 7,none⟩) (n + 1 - i) sc]).run Tryz.prog w.drew = .ok (goInt (Nat.min (n + 1 - i) (n - i))) (w.drew.setCells b ((i + 1) * 7) (cv.drop (i * 7))):=fun ty dc sc =>
        run_copy_n w.drew _ _ ty 81 b ((i + 1) * 7) (n - i) dc ⟨b,i * 7,none⟩ (n + 1 - i) sc 7 (cv.drop (i * 7)) tS hszs (by rw [hdl,show Nat.min (n + 1 - i) (n - i) = n - i from Nat.min_eq_right (by omega)])
          (fun j v hj => by rw [Addr.add_lit]; exact hcellb _ v (hdat j v hj))
          (fun j hj => by
            show (w.cell? ⟨b,_,none⟩).isSome = true
            rw [cell_at hba,Array.getElem?_eq_getElem (by omega)]; rfl)
          (fun j hj => by
            show w.frozen? ⟨b,_,none⟩ = false
            simp [World.frozen?,hba]) (fun v hv => h1c v (List.mem_of_mem_drop hv))
      generalize w.drew.setCells b ((i + 1) * 7) (cv.drop (i * 7)) = W1 at p1 hk1 hc1
      obtain ⟨arr2,q1,q2,q3⟩:=setCells_heap vv (i * 7) W1 arr1 p1
      have hk2:=setCells_kp b vv (i * 7) W1
      have hvW:W1.heap[vb]? = some (.cells va 81 (0,0)):=(hk1.block vb hvlt (by simpa using hne)).trans hvb
      have hc2:∀ ty dc,(Builtin.copy_ #[26,26] ty #[.slice (some ⟨b,i * 7,none⟩) (n + 1 - i) dc,.slice (some ⟨vb,0,none⟩) 1 vc]).run Tryz.prog W1 = .ok (goInt (Nat.min 1 (n + 1 - i))) (W1.setCells b (i * 7) vv):=fun ty dc =>
        run_copy_n W1 _ _ ty 81 b (i * 7) (n + 1 - i) dc ⟨vb,0,none⟩ 1 vc 7 vv tS hszs (by rw [hvl,show Nat.min 1 (n + 1 - i) = 1 from Nat.min_eq_left (by omega)])
          (fun j v hj => by rw [Addr.add_lit,Nat.zero_add,cell_at hvW]; exact hvv j v hj)
          (fun j hj => by rw [cell_at p1,Array.getElem?_eq_getElem (by omega)]; rfl)
          (fun j hj => by simp [World.frozen?,p1]) h1v
      have hov:∀ lb cb,(callFunc 204 #[.slice (some ⟨vb,0,none⟩) 1 vc,.slice (some ⟨b,(i + 1) * 7,none⟩) lb cb]).run Tryz.prog w = .ok (.value (.bool false)) w:=fun lb cb => by
        rw [run_callFunc_extern (f:=204) Tryz.func204 (by kernel_rfl) (by kernel_rfl) (by kernel_rfl) (e:=Extern.SlicesOverlaps.overlaps #[26,26] #[4]) (by kernel_rfl),
          Lib.run_overlaps_apart w 26 4 81 tS 7 zE ⟨vb,0,none⟩ ⟨b,(i + 1) * 7,none⟩ 1 vc lb cb hne 81 81 va.size arr.size (by simp [World.shape?,hvb]) (by simp [World.shape?,hba]) (by omega) (by simp [World.frozen?,hvb]) (by simp [World.frozen?,hvb])]
        rfl
      refine ⟨b,c,arr2,_,ins_shiftOffer b vb n c i vc w W1 _ _ _ hin' (by omega) hroom hov hc1 hc2,q1,by omega,hroom,?_,.inl rfl,((Kp.of_below (drew_below w) (Nat.le_succ _)).trans hk1 (by intro y hy; exact .inl hy)).trans hk2 (by intro y hy; exact .inl hy)⟩
      intro j u hj
      rw [insV_at _ _ _ _ hvl (by omega)] at hj
      rw [q3]
      split at hj
      · have:=getv hj
        rw [if_neg (by omega),p3,if_neg (by omega)]
        exact hcv j u hj
      · split at hj
        · rw [if_pos (by omega)]
          exact hj
        · have:=getv hj
          rw [if_neg (by omega),p3,if_pos (by omega),List.getElem?_drop]
          have e:i * 7 + (j - (i + 1) * 7) = j - 7:=by omega
          rw [e]
          exact hj
    · have hold:(Builtin.firstCells inf.size i (.slice (some ⟨b,0,none⟩) i c)).run Tryz.prog w.drew = .ok (cv.take (i * 7)).toArray w.drew :=
        run_firstCells_some w.drew inf.size i ⟨b,0,none⟩ i c (cv.take (i * 7)) (by rw [List.length_take,hsz]; omega) (fun j v hj => by
          rw [Addr.add_lit,Nat.zero_add]
          rw [List.getElem?_take] at hj
          split at hj
          · exact hcellb j v hj
          · cases hj)
      obtain ⟨G,hG⟩:∃ G,G = grownCap w (n + 1) c 81:=⟨_,rfl⟩
      have hge:=grownCap_ge w (n + 1) c 81
      rw [← hG] at hge
      obtain ⟨ROW,hROW⟩:∃ ROW:Array Value,ROW = (cv.take (i * 7)).toArray ++ Builtin.zeroCells z.cells (n + 1 - i) ++ Builtin.zeroCells z.cells (G - (n + 1)):=⟨_,rfl⟩
      have hRs:ROW.size = G * 7:=by
        rw [hROW]
        simp only [Array.size_append,List.size_toArray,size_zeroCells,hzs,List.length_take,hcl]
        omega
      have hRa:∀ (j:Nat),j < i * 7 → ROW[j]? = cv[j]?:=by
        intro j hj
        have h1:j < (cv.take (i * 7)).toArray.size:=by simp only [List.size_toArray,List.length_take]; omega
        rw [hROW,Array.append_assoc,Array.getElem?_append_left h1]
        simp only [List.getElem?_toArray,List.getElem?_take,if_pos hj]
      have hr:∀ ty,(Builtin.append_ #[26,3] ty #[.slice (some ⟨b,0,none⟩) i c,.int .i64 ((n:Int) + 1 - (i:Int))]).run Tryz.prog w = .ok (.slice (some ⟨w.heap.size,0,none⟩) (n + 1) G) (w.drew.alloc (.cells ROW 81)):=fun ty => by
        have hik:i + (n + 1 - i) = n + 1:=by omega
        have hkk:(n:Int) + 1 - (i:Int) = ((n + 1 - i:Nat):Int):=by omega
        have h:=Lib.run_append_grow_zeros w 26 3 ty 81 inf z .i64 .i64 tS t3 hinf hz (some ⟨b,0,none⟩) i c (cv.take (i * 7)) hold (n + 1 - i) (by omega) (by omega) (by omega) (by omega) (by rw [hby]; omega) (by rw [hby,hik]; exact growslice_fits (by omega) hbig)
        rw [hik,← hG,← hROW] at h
        rw [hkk]
        exact h
      obtain ⟨N,hN⟩:∃ N,N = w.heap.size:=⟨_,rfl⟩
      have hN0:(w.drew.alloc (.cells ROW 81)).heap[N]? = some (.cells ROW 81 (0,0)):=by rw [hN]; exact alloc_at w.drew _
      have hk0:Kp [] w (w.drew.alloc (.cells ROW 81)):=(Kp.of_below (drew_below w) (Nat.le_succ _)).trans (alloc_kp [] w.drew _) (by simp)
      rw [← hN] at hr
      generalize w.drew.alloc (.cells ROW 81) = W0 at hr hN0 hk0
      obtain ⟨arr1,p1,p2,p3⟩:=setCells_heap vv (i * 7) W0 ROW hN0
      have hk1:=setCells_kp N vv (i * 7) W0
      have hv0:W0.heap[vb]? = some (.cells va 81 (0,0)):=(hk0.block vb hvlt (by simp)).trans hvb
      have hb0:W0.heap[b]? = some (.cells arr 81 (0,0)):=(hk0.block b hblt (by simp)).trans hba
      have hc1:∀ ty dc,(Builtin.copy_ #[26,26] ty #[.slice (some ⟨N,i * 7,none⟩) (n + 1 - i) dc,.slice (some ⟨vb,0,none⟩) 1 vc]).run Tryz.prog W0 = .ok (goInt (Nat.min 1 (n + 1 - i))) (W0.setCells N (i * 7) vv):=fun ty dc =>
        run_copy_n W0 _ _ ty 81 N (i * 7) (n + 1 - i) dc ⟨vb,0,none⟩ 1 vc 7 vv tS hszs (by rw [hvl,show Nat.min 1 (n + 1 - i) = 1 from Nat.min_eq_left (by omega)])
          (fun j v hj => by rw [Addr.add_lit,Nat.zero_add,cell_at hv0]; exact hvv j v hj)
          (fun j hj => by rw [cell_at hN0,Array.getElem?_eq_getElem (by omega)]; rfl)
          (fun j hj => by simp [World.frozen?,hN0]) h1v
      have hb1:(W0.setCells N (i * 7) vv).heap[b]? = some (.cells arr 81 (0,0)):=by
        rw [hk1.block b (Nat.lt_of_lt_of_le hblt hk0.size) (by simp; omega)]
        exact hb0
      generalize W0.setCells N (i * 7) vv = W1 at p1 hk1 hc1 hb1
      have p1d:W1.drew.heap[N]? = some (.cells arr1 81 (0,0)):=p1
      obtain ⟨arr2,q1,q2,q3⟩:=setCells_heap (cv.drop (i * 7)) ((i + 1) * 7) W1.drew arr1 p1d
      have hk2:=setCells_kp N (cv.drop (i * 7)) ((i + 1) * 7) W1.drew
      have hc2:∀ ty dc sc,(Builtin.copy_ #[26,26] ty #[.slice (some ⟨N,(i + 1) * 7,none⟩) (n - i) dc,.slice (some ⟨b,i * 7,none⟩) (n - i) sc]).run Tryz.prog W1.drew = .ok (goInt (Nat.min (n - i) (n - i))) (W1.drew.setCells N ((i + 1) * 7) (cv.drop (i * 7))):=fun ty dc sc =>
        run_copy_n W1.drew _ _ ty 81 N ((i + 1) * 7) (n - i) dc ⟨b,i * 7,none⟩ (n - i) sc 7 (cv.drop (i * 7)) tS hszs (by rw [hdl,show Nat.min (n - i) (n - i) = n - i from Nat.min_self _])
          (fun j v hj => by
            rw [Addr.add_lit]
            show W1.cell? ⟨b,_,none⟩ = some v
            rw [cell_at hb1]
            exact hcv _ v (hdat j v hj))
          (fun j hj => by
            show (W1.cell? ⟨N,_,none⟩).isSome = true
            rw [cell_at p1,Array.getElem?_eq_getElem (by omega)]; rfl)
          (fun j hj => by
            show W1.frozen? ⟨N,_,none⟩ = false
            simp [World.frozen?,p1]) (fun v hv => h1c v (List.mem_of_mem_drop hv))
      refine ⟨N,G,arr2,_,ins_growOffer b vb n c i vc N G w W0 W1 _ _ _ hin' (by omega) hnc (by omega) hge hr hc1 hc2,q1,by omega,hge,?_,.inr (by omega),?_⟩
      · intro j u hj
        rw [insV_at _ _ _ _ hvl (by omega)] at hj
        rw [q3]
        split at hj
        · have:=getv hj
          rw [if_neg (by omega),p3,if_neg (by omega),hRa j (by omega)]
          exact hj
        · split at hj
          · have:=getv hj
            rw [if_neg (by omega),p3,if_pos (by omega)]
            exact hj
          · have:=getv hj
            rw [if_pos (by omega),List.getElem?_drop]
            have e:i * 7 + (j - (i + 1) * 7) = j - 7:=by omega
            rw [e]
            exact hj
      · have hk1':Kp [] w W1:=hk0.trans hk1 (by simp; omega)
        have hk2':Kp [] w (W1.drew.setCells N ((i + 1) * 7) (cv.drop (i * 7))):=(hk1'.trans (Kp.of_below (bs:=[]) (drew_below W1) (Nat.le_succ _)) (by simp)).trans hk2 (by simp; omega)
        exact Kp.of_below hk2'.below hk2'.drawn
end Go.V
