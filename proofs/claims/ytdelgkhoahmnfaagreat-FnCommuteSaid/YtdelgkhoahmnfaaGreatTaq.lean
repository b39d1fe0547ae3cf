/- What functions of the seat's program do, each proved of its code, under the bounds that its theorem names. -/
import Derived.Test.YtdelgkhoahmnfaaGreatTap
import Derived.Deep.AppendSrc
import Derived.Laws.Externs
import Derived.Laws.IdiomCopy
import Derived.Lib.AppendZeros
import Derived.Lib.AppendZerosOnto
import Derived.Lib.JoinLaws
import Derived.Lib.Overlaps
import Derived.Lib.SliceRun
import Derived.Lib.Walk
import Derived.Shelf.Spec.SlicesInsert
import Derived.Shelf.Spec.SlicesInsertGrow
import Derived.WalkKit
set_option linter.all false
namespace Go.V
open Go.Proofs
set_option maxHeartbeats 1000000
set_option maxRecDepth 10000
set_option linter.unusedSimpArgs false
set_option linter.unusedVariables false
theorem goodRib_wt {r:GRib} (h:goodRib r = true):GRib.wt r ≤ 2100:=by
  obtain ⟨⟨_,h2⟩,h3,_⟩:=goodRib_gW h
  have key:∀ x ∈ r.Rows,GRow.wt x ≤ 102:=fun x hx => by
    have hg:=(goodRow_spec.1 (h2 x hx)).2.2
    have h6:=goodOs_len hg
    have:=sum_le GOffer.wt 16 x.Offers fun o ho => by
      have:=goodO_small ((goodOs_pw hg).2 o ho)
      unfold GOffer.wt GAttrs.wt wt_IntS
      omega
    unfold GRow.wt wt_OfferS wtR
    omega
  have:=sum_le GRow.wt 102 r.Rows key
  unfold GRib.wt wt_RowS wtR
  omega
theorem wt_zeroRib:GRib.wt ⟨0,[]⟩ ≤ 2100:=by simp [GRib.wt,wt_RowS,wtR]
def updB (u:GUpdate):Prop:=u.Gone.length ≤ 1048576 ∧ u.Come.length ≤ 1048576 ∧ u.Attrs.Path.length ≤ 1048576 ∧ u.Attrs.Comms.length ≤ 1048576
def mk_UpdateS (xs:List GUpdate) (k:Int):List GUpdate × Int:=mkR GUpdate.mark xs k
theorem mk_UpdateS_len (xs:List GUpdate) (k:Int):(mk_UpdateS xs k).1.length = xs.length:=mkR_len _ xs k
attribute [simp] mk_UpdateS_len
theorem updB_ok {u:GUpdate} (h:updB u):updOK u:=by
  obtain ⟨h1,h2,h3,h4⟩:=h
  exact ⟨by omega,by omega,by omega,by omega⟩
theorem alloc_kp (bs:List Nat) (w:World) (blk:Obj):Kp bs w (w.alloc blk):=⟨rfl,rfl,rfl,by show w.heap.size ≤ (w.heap.push blk).size; rw [Array.size_push]; omega,fun k hk _ => by
  show (w.heap.push blk)[k]? = w.heap[k]?
  rw [Array.getElem?_push]
  rw [if_neg (by omega)],Nat.le_refl _⟩
theorem alloc_at (w:World) (blk:Obj):(w.alloc blk).heap[w.heap.size]? = some blk:=by
  show (w.heap.push blk)[w.heap.size]? = some blk
  simp
/-- The cells of a row behind an insertion. -/
def insV (S i:Nat) (cv vv:List Value):List Value:=cv.take (i * S) ++ vv ++ cv.drop (i * S)
theorem insV_at (S i:Nat) (cv vv:List Value) (hv:vv.length = S) (hi:i * S ≤ cv.length) (j:Nat):(insV S i cv vv)[j]? = if j < i * S then cv[j]? else if j < i * S + S then vv[j - i * S]? else cv[j - S]?:=by
  have hl:(cv.take (i * S)).length = i * S:=by rw [List.length_take]; omega
  unfold insV
  rw [List.append_assoc,List.getElem?_append,hl]
  split
  · rename_i h
    rw [List.getElem?_take,if_pos h]
  · rename_i h
    rw [List.getElem?_append,hv]
    split
    · rw [if_pos (by omega)]
    · rw [if_neg (by omega),List.getElem?_drop]
      congr 1
      omega
theorem getv {l:List Value} {j:Nat} {u:Value} (h:l[j]? = some u):j < l.length:=(List.getElem?_eq_some_iff.1 h).1
/-- A road of slices.Insert: at the end. -/
theorem ins_endRow (base:Option Addr) (vb n c vc:Nat) (w w1:World) (r:Value) (hn:n ≤ c)
    (hr:∀ ty,(Builtin.append_ #[30,30] ty #[.slice base n c,.slice (some ⟨vb,0,none⟩) 1 vc]).run Tryz.prog w = .ok r w1) :
    Calls Tryz.prog 145 #[.slice base n c,.int .i64 n,.slice (some ⟨vb,0,none⟩) 1 vc] w fun e w' => e = .returned r ∧ w' = w1:=by
  have mixed:Tryz.prog.follows .mixedOrders = true:=by kernel_rfl
  have tS:Tryz.prog.underlying 30 = some (.slice 79):=by kernel_rfl
  have uS:=run_underlying tS
  have zE:∀ w,(Go.sizeOf 79).run Tryz.prog w = .ok 3 w:=fun w => by kernel_rfl
  have zS:∀ w,(Go.sizeOf 30).run Tryz.prog w = .ok 1 w:=fun w => by kernel_rfl
  have aS:∀ w,(isAgg 30).run Tryz.prog w = .ok false w:=fun w => by kernel_rfl
  have t3:Tryz.prog.underlying 3 = some (.int .i64):=by kernel_rfl
  have u3:=run_underlying t3
  have a3:∀ w,(isAgg 3).run Tryz.prog w = .ok false w:=fun w => by kernel_rfl
  have z3:∀ w,(Go.sizeOf 3).run Tryz.prog w = .ok 1 w:=fun w => by kernel_rfl
  go_enter Tryz.func145,Tryz.ntmps145
  go_wp2_with (at_builtin; refine Lib.wpList_append_run _ rfl _ _ _ _ rfl _ _ rfl rfl _ _ (hr _) ?_)
  all_goals (go_ret; exact ⟨rfl,rfl⟩)
theorem run_copy_n {P:Program} (w:World) (dT sT ty elem:TypeId) (b o dLen dCap:Nat) (a:Addr) (sLen sCap sz:Nat) (cs:List Value)
    (hu:P.underlying dT = some (.slice elem)) (hs:(P.info? elem).map (·.size) = some sz) (hn:cs.length = Nat.min sLen dLen * sz)
    (hsrc:∀ j v,cs[j]? = some v → w.cell? (a.add j) = some v) (hc:∀ j,j < cs.length → (w.cell? ⟨b,o + j,none⟩).isSome = true) (hf:∀ j,j < cs.length → w.frozen? ⟨b,o + j,none⟩ = false) (h1:∀ v ∈ cs,v.oneCell' = true) :
    (Builtin.copy_ #[dT,sT] ty #[.slice (some ⟨b,o,none⟩) dLen dCap,.slice (some a) sLen sCap]).run P w = .ok (goInt (Nat.min sLen dLen)) (w.setCells b o cs):=by
  have hl:=run_loadCells_list (P:=P) w a cs hsrc
  have hst:=run_storeCells_cells (P:=P) b o cs 0 w (by simpa using hc) (by simpa using hf) h1
  cases hq:P.info? elem with
  | none => simp [hq] at hs
  | some i =>
    have hi:i.size = sz:=by simpa [hq] using hs
    simp [Builtin.copy_,run_underlying hu,Builtin.lenOf,Builtin.firstCells,sizeOf,typeInfo,hq,hi,← hn,hl,hst]
/-- A road of slices.Insert: ahead of the end, with room. -/
theorem ins_shiftRow (b vb n c i vc:Nat) (w w1 w2:World) (x1 x2:Value) (hi:i < n) (hn63:n < 9223372036854775807) (hroom:n + 1 ≤ c)
    (hov:∀ lb cb,(callFunc 181 #[.slice (some ⟨vb,0,none⟩) 1 vc,.slice (some ⟨b,(i + 1) * 3,none⟩) lb cb]).run Tryz.prog w = .ok (.value (.bool false)) w)
    (hc1:∀ ty dc sc,(Builtin.copy_ #[30,30] ty #[.slice (some ⟨b,(i + 1) * 3,none⟩) (n - i) dc,.slice (some ⟨b,i * 3,none⟩) (n + 1 - i) sc]).run Tryz.prog w.drew = .ok x1 w1)
    (hc2:∀ ty dc,(Builtin.copy_ #[30,30] ty #[.slice (some ⟨b,i * 3,none⟩) (n + 1 - i) dc,.slice (some ⟨vb,0,none⟩) 1 vc]).run Tryz.prog w1 = .ok x2 w2) :
    Calls Tryz.prog 145 #[.slice (some ⟨b,0,none⟩) n c,.int .i64 i,.slice (some ⟨vb,0,none⟩) 1 vc] w fun e w' => e = .returned (.slice (some ⟨b,0,none⟩) (n + 1) c) ∧ w' = w2:=by
  have mixed:Tryz.prog.follows .mixedOrders = true:=by kernel_rfl
  have tS:Tryz.prog.underlying 30 = some (.slice 79):=by kernel_rfl
  have uS:=run_underlying tS
  have zE:∀ w,(Go.sizeOf 79).run Tryz.prog w = .ok 3 w:=fun w => by kernel_rfl
  have zS:∀ w,(Go.sizeOf 30).run Tryz.prog w = .ok 1 w:=fun w => by kernel_rfl
  have aS:∀ w,(isAgg 30).run Tryz.prog w = .ok false w:=fun w => by kernel_rfl
  have t3:Tryz.prog.underlying 3 = some (.int .i64):=by kernel_rfl
  have u3:=run_underlying t3
  have a3:∀ w,(isAgg 3).run Tryz.prog w = .ok false w:=fun w => by kernel_rfl
  have z3:∀ w,(Go.sizeOf 3).run Tryz.prog w = .ok 1 w:=fun w => by kernel_rfl
  have hz2:¬ ((i:Int) = (n:Int)):=by omega
  have hw1:IntKind.i64.wrap ((i:Int) + 1) = (i:Int) + 1:=by rw [IntKind.wrap_i64]; omega
  have hb1:(0:Int) ≤ (i:Int) + 1:=by omega
  have hin:i ≤ n:=by omega
  have htn:((i:Int) + 1).toNat = i + 1:=by omega
  have hb2:¬ (c = i + 1):=by omega
  have hb3:(i:Int) ≤ (n:Int) + 1:=by omega
  have hb4:¬ (c = i):=by omega
  go_enter Tryz.func145,Tryz.ntmps145
  go_wp2_with (simp only [hov])
  go_region_law_o (refine step_copy_runI rfl _ _ 30 30 rfl _ _ (by simp [Act.eval,Act.put]) (by simp [Act.eval,Act.put]) (hc1 _ _ _) ?_)
  go_wp2_with (at_builtin; refine wpList_copy_runI _ rfl _ _ 30 30 rfl _ _ rfl rfl (hc2 _ _) ?_)
  go_ret
  exact ⟨rfl,rfl⟩
/-- A road of slices.Insert: ahead of the end, no room. -/
theorem ins_growRow (b vb n c i vc N G:Nat) (w w1 w2 w3:World) (x1 x2:Value) (hi:i < n) (hn63:n < 9223372036854775807) (hnc:n ≤ c) (hroom:c < n + 1) (hG:n + 1 ≤ G)
    (hr:∀ ty,(Builtin.append_ #[30,3] ty #[.slice (some ⟨b,0,none⟩) i c,.int .i64 ((n:Int) + 1 - (i:Int))]).run Tryz.prog w = .ok (.slice (some ⟨N,0,none⟩) (n + 1) G) w1)
    (hc1:∀ ty dc,(Builtin.copy_ #[30,30] ty #[.slice (some ⟨N,i * 3,none⟩) (n + 1 - i) dc,.slice (some ⟨vb,0,none⟩) 1 vc]).run Tryz.prog w1 = .ok x1 w2)
    (hc2:∀ ty dc sc,(Builtin.copy_ #[30,30] ty #[.slice (some ⟨N,(i + 1) * 3,none⟩) (n - i) dc,.slice (some ⟨b,i * 3,none⟩) (n - i) sc]).run Tryz.prog w2.drew = .ok x2 w3) :
    Calls Tryz.prog 145 #[.slice (some ⟨b,0,none⟩) n c,.int .i64 i,.slice (some ⟨vb,0,none⟩) 1 vc] w fun e w' => e = .returned (.slice (some ⟨N,0,none⟩) (n + 1) G) ∧ w' = w3:=by
  have mixed:Tryz.prog.follows .mixedOrders = true:=by kernel_rfl
  have tS:Tryz.prog.underlying 30 = some (.slice 79):=by kernel_rfl
  have uS:=run_underlying tS
  have zE:∀ w,(Go.sizeOf 79).run Tryz.prog w = .ok 3 w:=fun w => by kernel_rfl
  have zS:∀ w,(Go.sizeOf 30).run Tryz.prog w = .ok 1 w:=fun w => by kernel_rfl
  have aS:∀ w,(isAgg 30).run Tryz.prog w = .ok false w:=fun w => by kernel_rfl
  have t3:Tryz.prog.underlying 3 = some (.int .i64):=by kernel_rfl
  have u3:=run_underlying t3
  have a3:∀ w,(isAgg 3).run Tryz.prog w = .ok false w:=fun w => by kernel_rfl
  have z3:∀ w,(Go.sizeOf 3).run Tryz.prog w = .ok 1 w:=fun w => by kernel_rfl
  have hz2:¬ ((i:Int) = (n:Int)):=by omega
  have hz3:(c:Int) < (n:Int) + 1:=by omega
  have hw0:IntKind.i64.wrap ((n:Int) + 1) = (n:Int) + 1:=by rw [IntKind.wrap_i64]; omega
  have hw1:IntKind.i64.wrap ((i:Int) + 1) = (i:Int) + 1:=by rw [IntKind.wrap_i64]; omega
  have hw2:IntKind.i64.wrap ((n:Int) + 1 - (i:Int)) = (n:Int) + 1 - (i:Int):=by rw [IntKind.wrap_i64]; omega
  have hb1:(0:Int) ≤ (i:Int) + 1:=by omega
  have hin:i ≤ n:=by omega
  have htn:((i:Int) + 1).toNat = i + 1:=by omega
  have hGi:¬ (G = i):=by omega
  have hGim:¬ (G = i + 1):=by omega
  have hci:¬ (c = i):=by omega
  have hb3:(i:Int) ≤ (n:Int):=by omega
  go_enter Tryz.func145,Tryz.ntmps145
  go_wp2_with (first
    | (at_builtin; refine Lib.wpList_append_run _ rfl _ _ _ _ rfl _ _ rfl rfl _ _ (hr _) ?_)
    | (at_builtin; refine wpList_copy_runI _ rfl _ _ 30 30 rfl _ _ rfl rfl (hc1 _ _) ?_))
  go_region_law_o (refine step_copy_runI rfl _ _ 30 30 rfl _ _ (by simp [Act.eval,Act.put]) (by simp [Act.eval,Act.put]) (hc2 _ _ _) ?_)
  go_wp2
  go_ret
  exact ⟨rfl,rfl⟩
theorem ins_worldRow (b vb n c i vc:Nat) (w:World) (arr va:Array Value) (cv vv:List Value) (hba:w.heap[b]? = some (.cells arr 79 (0,0))) (hvb:w.heap[vb]? = some (.cells va 79 (0,0))) (hne:vb ≠ b)
    (hcl:cv.length = n * 3) (hvl:vv.length = 3) (hca:c * 3 ≤ arr.size) (hva:3 ≤ va.size) (hnc:n ≤ c) (hi:i ≤ n)
    (hcv:∀ (j:Nat) u,cv[j]? = some u → arr[j]? = some u) (hvv:∀ (j:Nat) u,vv[j]? = some u → va[j]? = some u) (h1c:∀ v ∈ cv,v.oneCell' = true) (h1v:∀ v ∈ vv,v.oneCell' = true)
    (hbig:(n + 1) * 40 ≤ 140737488355328) :
    ∃ (b' c':Nat) (arr':Array Value) (w':World),Calls Tryz.prog 145 #[.slice (some ⟨b,0,none⟩) n c,.int .i64 i,.slice (some ⟨vb,0,none⟩) 1 vc] w (fun e w'' => e = .returned (.slice (some ⟨b',0,none⟩) (n + 1) c') ∧ w'' = w') ∧
      w'.heap[b']? = some (.cells arr' 79 (0,0)) ∧ c' * 3 ≤ arr'.size ∧ n + 1 ≤ c' ∧ (∀ (j:Nat) u,(insV 3 i cv vv)[j]? = some u → arr'[j]? = some u) ∧ (b' = b ∨ w.heap.size ≤ b') ∧ Kp [b] w w':=by
  have tS:Tryz.prog.underlying 30 = some (.slice 79):=by kernel_rfl
  have t3:Tryz.prog.underlying 3 = some (.int .i64):=by kernel_rfl
  have zE:∀ w,(Go.sizeOf 79).run Tryz.prog w = .ok 3 w:=fun w => by kernel_rfl
  obtain ⟨inf,hinf⟩:=tsz_info (P:=Tryz.prog) (t:=79) (by simp)
  have hsz:inf.size = 3:=by
    have h1:tsz Tryz.prog 79 = inf.size:=by simp only [tsz,hinf]
    have h2:tsz Tryz.prog 79 = 3:=by kernel_rfl
    omega
  have hby:inf.bytes = 40:=by
    have h1:tby Tryz.prog 79 = inf.bytes:=by simp only [tby,hinf]
    have h2:tby Tryz.prog 79 = 40:=by kernel_rfl
    omega
  have hszs:(Tryz.prog.info? 79).map (·.size) = some 3:=by rw [hinf,Option.map_some,hsz]
  obtain ⟨z,hz⟩:∃ z,inf.zero = some z:=by
    have h2:(tzero Tryz.prog 79).isSome = true:=by kernel_rfl
    have h1:tzero Tryz.prog 79 = inf.zero:=by simp only [tzero,hinf]
    rw [h1] at h2
    exact Option.isSome_iff_exists.1 h2
  have hzs:z.cells.size = 3:=by
    have h2:(tzero Tryz.prog 79).map (fun z => z.cells.size) = some 3:=by kernel_rfl
    have h1:tzero Tryz.prog 79 = inf.zero:=by simp only [tzero,hinf]
    rw [h1,hz] at h2
    simpa using h2
  have hcellb:∀ (k:Nat) u,cv[k]? = some u → w.cell? ⟨b,k,none⟩ = some u:=fun k u h => by rw [cell_at hba]; exact hcv k u h
  have hcellv:∀ (k:Nat) u,vv[k]? = some u → w.cell? ⟨vb,k,none⟩ = some u:=fun k u h => by rw [cell_at hvb]; exact hvv k u h
  have hvlt:vb < w.heap.size:=(Array.getElem?_eq_some_iff.1 hvb).1
  have hblt:b < w.heap.size:=(Array.getElem?_eq_some_iff.1 hba).1
  by_cases hin:i = n
  · subst hin
    have hins:insV 3 i cv vv = cv ++ vv:=by
      unfold insV
      rw [List.take_of_length_le (by omega),List.drop_of_length_le (by omega),List.append_nil]
    rw [hins]
    by_cases hroom:i + 1 ≤ c
    · have hr:∀ ty,(Builtin.append_ #[30,30] ty #[.slice (some ⟨b,0,none⟩) i c,.slice (some ⟨vb,0,none⟩) 1 vc]).run Tryz.prog w = .ok (.slice (some ⟨b,0,none⟩) (i + 1) c) (w.setCells b (i * 3) vv):=fun ty => by
        have h:=run_append_room_cells (P:=Tryz.prog) w 30 ty 79 inf tS hinf b 0 i c ⟨vb,0,none⟩ 1 vc vv (by rw [hsz,hvl]) (fun j u hj => by rw [Addr.add_lit,Nat.zero_add]; exact hcellv j u hj) h1v hroom
          (fun j hj => by rw [cell_at hba,hsz,Array.getElem?_eq_getElem (by omega)]; rfl) (fun j hj => by simp [World.frozen?,hba])
        rw [hsz,Nat.zero_add] at h
        exact h
      obtain ⟨arr',r1,r2,r3⟩:=setCells_heap vv (i * 3) w arr hba
      refine ⟨b,c,arr',_,ins_endRow (some ⟨b,0,none⟩) vb i c vc w _ _ hnc hr,r1,by omega,hroom,?_,.inl rfl,setCells_kp b vv _ w⟩
      intro j u hj
      rw [r3]
      rw [List.getElem?_append] at hj
      split at hj
      · rw [if_neg (by omega)]
        exact hcv j u hj
      · have:=getv hj
        rw [if_pos (by omega),← hcl]
        exact hj
    · have hr:∀ ty,(Builtin.append_ #[30,30] ty #[.slice (some ⟨b,0,none⟩) i c,.slice (some ⟨vb,0,none⟩) 1 vc]).run Tryz.prog w = .ok (.slice (some ⟨w.heap.size,0,none⟩) (i + 1) (grownCap w (i + 1) c 79)) (w.drew.alloc (.cells (cv.toArray ++ vv.toArray ++ Builtin.zeroCells z.cells (grownCap w (i + 1) c 79 - (i + 1))) 79)):=fun ty =>
        run_append_grow (P:=Tryz.prog) w 30 ty 79 inf z tS hinf hz ⟨b,0,none⟩ i c cv (by rw [hsz,hcl]) (fun j u hj => by rw [Addr.add_lit,Nat.zero_add]; exact hcellb j u hj) ⟨vb,0,none⟩ 1 vc vv (by rw [hsz,hvl]) (fun j u hj => by rw [Addr.add_lit,Nat.zero_add]; exact hcellv j u hj) (by omega) (by omega) (growslice_fits (by omega) (by rw [hby]; exact hbig))
      have hge:=grownCap_ge w (i + 1) c 79
      refine ⟨w.heap.size,_,_,_,ins_endRow (some ⟨b,0,none⟩) vb i c vc w _ _ hnc hr,alloc_at w.drew _,?_,hge,?_,.inr (Nat.le_refl _),(Kp.of_below (drew_below w) (Nat.le_succ _)).trans (alloc_kp [] w.drew _) (by simp)⟩
      · simp only [Array.size_append,List.size_toArray,size_zeroCells,hzs,hcl,hvl]
        omega
      · intro j u hj
        have hjl:=getv hj
        rw [List.length_append] at hjl
        rw [Array.getElem?_append_left (by simpa using hjl)]
        simpa using hj
  · have hin':i < n:=by omega
    have hdl:(cv.drop (i * 3)).length = (n - i) * 3:=by rw [List.length_drop,hcl]; omega
    have hdat:∀ (j:Nat) u,(cv.drop (i * 3))[j]? = some u → cv[i * 3 + j]? = some u:=fun j u h => by rwa [List.getElem?_drop] at h
    by_cases hroom:n + 1 ≤ c
    · obtain ⟨arr1,p1,p2,p3⟩:=setCells_heap (cv.drop (i * 3)) ((i + 1) * 3) w.drew arr hba
      have hk1:=setCells_kp b (cv.drop (i * 3)) ((i + 1) * 3) w.drew
      have hc1:∀ ty dc sc,(Builtin.copy_ #[30,30] ty #[.slice (some ⟨b,(i + 1) * 3,none⟩) (n - i) dc,.slice (some ⟨b,i * 3,none⟩) (n + 1 - i) sc]).run Tryz.prog w.drew = .ok (goInt (Nat.min (n + 1 - i) (n - i))) (w.drew.setCells b ((i + 1) * 3) (cv.drop (i * 3))):=fun ty dc sc =>
        run_copy_n w.drew _ _ ty 79 b ((i + 1) * 3) (n - i) dc ⟨b,i * 3,none⟩ (n + 1 - i) sc 3 (cv.drop (i * 3)) tS hszs (by rw [hdl,show Nat.min (n + 1 - i) (n - i) = n - i from Nat.min_eq_right (by omega)])
          (fun j v hj => by rw [Addr.add_lit]; exact hcellb _ v (hdat j v hj))
          (fun j hj => by
            show (w.cell? ⟨b,_,none⟩).isSome = true
            rw [cell_at hba,Array.getElem?_eq_getElem (by omega)]; rfl)
          (fun j hj => by
            show w.frozen? ⟨b,_,none⟩ = false
            simp [World.frozen?,hba]) (fun v hv => h1c v (List.mem_of_mem_drop hv))
      generalize w.drew.setCells b ((i + 1) * 3) (cv.drop (i * 3)) = W1 at p1 hk1 hc1
      obtain ⟨arr2,q1,q2,q3⟩:=setCells_heap vv (i * 3) W1 arr1 p1
      have hk2:=setCells_kp b vv (i * 3) W1
      have hvW:W1.heap[vb]? = some (.cells va 79 (0,0)):=(hk1.block vb hvlt (by simpa using hne)).trans hvb
      have hc2:∀ ty dc,(Builtin.copy_ #[30,30] ty #[.slice (some ⟨b,i * 3,none⟩) (n + 1 - i) dc,.slice (some ⟨vb,0,none⟩) 1 vc]).run Tryz.prog W1 = .ok (goInt (Nat.min 1 (n + 1 - i))) (W1.setCells b (i * 3) vv):=fun ty dc =>
        run_copy_n W1 _ _ ty 79 b (i * 3) (n + 1 - i) dc ⟨vb,0,none⟩ 1 vc 3 vv tS hszs (by rw [hvl,show Nat.min 1 (n + 1 - i) = 1 from Nat.min_eq_left (by omega)])
          (fun j v hj => by rw [Addr.add_lit,Nat.zero_add,cell_at hvW]; exact hvv j v hj)
          (fun j hj => by rw [cell_at p1,Array.getElem?_eq_getElem (by omega)]; rfl)
          (fun j hj => by simp [World.frozen?,p1]) h1v
      have hov:∀ lb cb,(callFunc 181 #[.slice (some ⟨vb,0,none⟩) 1 vc,.slice (some ⟨b,(i + 1) * 3,none⟩) lb cb]).run Tryz.prog w = .ok (.value (.bool false)) w:=fun lb cb => by
        rw [run_callFunc_extern (f:=181) Tryz.func181 (by kernel_rfl) (by kernel_rfl) (by kernel_rfl) (e:=Extern.SlicesOverlaps.overlaps #[30,30] #[4]) (by kernel_rfl),
          Lib.run_overlaps_apart w 30 4 79 tS 3 zE ⟨vb,0,none⟩ ⟨b,(i + 1) * 3,none⟩ 1 vc lb cb hne 79 79 va.size arr.size (by simp [World.shape?,hvb]) (by simp [World.shape?,hba]) (by omega) (by simp [World.frozen?,hvb]) (by simp [World.frozen?,hvb])]
        rfl
      refine ⟨b,c,arr2,_,ins_shiftRow b vb n c i vc w W1 _ _ _ hin' (by omega) hroom hov hc1 hc2,q1,by omega,hroom,?_,.inl rfl,((Kp.of_below (drew_below w) (Nat.le_succ _)).trans hk1 (by intro y hy; exact .inl hy)).trans hk2 (by intro y hy; exact .inl hy)⟩
      intro j u hj
      rw [insV_at _ _ _ _ hvl (by omega)] at hj
      rw [q3]
      split at hj
      · have:=getv hj
        rw [if_neg (by omega),p3,if_neg (by omega)]
        exact hcv j u hj
      · split at hj
        · rw [if_pos (by omega)]
          exact hj
        · have:=getv hj
          rw [if_neg (by omega),p3,if_pos (by omega),List.getElem?_drop]
          have e:i * 3 + (j - (i + 1) * 3) = j - 3:=by omega
          rw [e]
          exact hj
    · have hold:(Builtin.firstCells inf.size i (.slice (some ⟨b,0,none⟩) i c)).run Tryz.prog w.drew = .ok (cv.take (i * 3)).toArray w.drew :=
        run_firstCells_some w.drew inf.size i ⟨b,0,none⟩ i c (cv.take (i * 3)) (by rw [List.length_take,hsz]; omega) (fun j v hj => by
          rw [Addr.add_lit,Nat.zero_add]
          rw [List.getElem?_take] at hj
          split at hj
          · exact hcellb j v hj
          · cases hj)
      obtain ⟨G,hG⟩:∃ G,G = grownCap w (n + 1) c 79:=⟨_,rfl⟩
      have hge:=grownCap_ge w (n + 1) c 79
      rw [← hG] at hge
      obtain ⟨ROW,hROW⟩:∃ ROW:Array Value,ROW = (cv.take (i * 3)).toArray ++ Builtin.zeroCells z.cells (n + 1 - i) ++ Builtin.zeroCells z.cells (G - (n + 1)):=⟨_,rfl⟩
      have hRs:ROW.size = G * 3:=by
        rw [hROW]
        simp only [Array.size_append,List.size_toArray,size_zeroCells,hzs,List.length_take,hcl]
        omega
      have hRa:∀ (j:Nat),j < i * 3 → ROW[j]? = cv[j]?:=by
        intro j hj
        have h1:j < (cv.take (i * 3)).toArray.size:=by simp only [List.size_toArray,List.length_take]; omega
        rw [hROW,Array.append_assoc,Array.getElem?_append_left h1]
        simp only [List.getElem?_toArray,List.getElem?_take,if_pos hj]
      have hr:∀ ty,(Builtin.append_ #[30,3] ty #[.slice (some ⟨b,0,none⟩) i c,.int .i64 ((n:Int) + 1 - (i:Int))]).run Tryz.prog w = .ok (.slice (some ⟨w.heap.size,0,none⟩) (n + 1) G) (w.drew.alloc (.cells ROW 79)):=fun ty => by
        have hik:i + (n + 1 - i) = n + 1:=by omega
        have hkk:(n:Int) + 1 - (i:Int) = ((n + 1 - i:Nat):Int):=by omega
        have h:=Lib.run_append_grow_zeros w 30 3 ty 79 inf z .i64 .i64 tS t3 hinf hz (some ⟨b,0,none⟩) i c (cv.take (i * 3)) hold (n + 1 - i) (by omega) (by omega) (by omega) (by omega) (by rw [hby]; omega) (by rw [hby,hik]; exact growslice_fits (by omega) hbig)
        rw [hik,← hG,← hROW] at h
        rw [hkk]
        exact h
      obtain ⟨N,hN⟩:∃ N,N = w.heap.size:=⟨_,rfl⟩
      have hN0:(w.drew.alloc (.cells ROW 79)).heap[N]? = some (.cells ROW 79 (0,0)):=by rw [hN]; exact alloc_at w.drew _
      have hk0:Kp [] w (w.drew.alloc (.cells ROW 79)):=(Kp.of_below (drew_below w) (Nat.le_succ _)).trans (alloc_kp [] w.drew _) (by simp)
      rw [← hN] at hr
      generalize w.drew.alloc (.cells ROW 79) = W0 at hr hN0 hk0
      obtain ⟨arr1,p1,p2,p3⟩:=setCells_heap vv (i * 3) W0 ROW hN0
      have hk1:=setCells_kp N vv (i * 3) W0
      have hv0:W0.heap[vb]? = some (.cells va 79 (0,0)):=(hk0.block vb hvlt (by simp)).trans hvb
      have hb0:W0.heap[b]? = some (.cells arr 79 (0,0)):=(hk0.block b hblt (by simp)).trans hba
      have hc1:∀ ty dc,(Builtin.copy_ #[30,30] ty #[.slice (some ⟨N,i * 3,none⟩) (n + 1 - i) dc,.slice (some ⟨vb,0,none⟩) 1 vc]).run Tryz.prog W0 = .ok (goInt (Nat.min 1 (n + 1 - i))) (W0.setCells N (i * 3) vv):=fun ty dc =>
        run_copy_n W0 _ _ ty 79 N (i * 3) (n + 1 - i) dc ⟨vb,0,none⟩ 1 vc 3 vv tS hszs (by rw [hvl,show Nat.min 1 (n + 1 - i) = 1 from Nat.min_eq_left (by omega)])
          (fun j v hj => by rw [Addr.add_lit,Nat.zero_add,cell_at hv0]; exact hvv j v hj)
          (fun j hj => by rw [cell_at hN0,Array.getElem?_eq_getElem (by omega)]; rfl)
          (fun j hj => by simp [World.frozen?,hN0]) h1v
      have hb1:(W0.setCells N (i * 3) vv).heap[b]? = some (.cells arr 79 (0,0)):=by
        rw [hk1.block b (Nat.lt_of_lt_of_le hblt hk0.size) (by simp; omega)]
        exact hb0
      generalize W0.setCells N (i * 3) vv = W1 at p1 hk1 hc1 hb1
      have p1d:W1.drew.heap[N]? = some (.cells arr1 79 (0,0)):=p1
      obtain ⟨arr2,q1,q2,q3⟩:=setCells_heap (cv.drop (i * 3)) ((i + 1) * 3) W1.drew arr1 p1d
      have hk2:=setCells_kp N (cv.drop (i * 3)) ((i + 1) * 3) W1.drew
      have hc2:∀ ty dc sc,(Builtin.copy_ #[30,30] ty #[.slice (some ⟨N,(i + 1) * 3,none⟩) (n - i) dc,.slice (some ⟨b,i * 3,none⟩) (n - i) sc]).run Tryz.prog W1.drew = .ok (goInt (Nat.min (n - i) (n - i))) (W1.drew.setCells N ((i + 1) * 3) (cv.drop (i * 3))):=fun ty dc sc =>
        run_copy_n W1.drew _ _ ty 79 N ((i + 1) * 3) (n - i) dc ⟨b,i * 3,none⟩ (n - i) sc 3 (cv.drop (i * 3)) tS hszs (by rw [hdl,show Nat.min (n - i) (n - i) = n - i from Nat.min_self _])
          (fun j v hj => by
            rw [Addr.add_lit]
            show W1.cell? ⟨b,_,none⟩ = some v
            rw [cell_at hb1]
            exact hcv _ v (hdat j v hj))
          (fun j hj => by
            show (W1.cell? ⟨N,_,none⟩).isSome = true
            rw [cell_at p1,Array.getElem?_eq_getElem (by omega)]; rfl)
          (fun j hj => by
            show W1.frozen? ⟨N,_,none⟩ = false
            simp [World.frozen?,p1]) (fun v hv => h1c v (List.mem_of_mem_drop hv))
      refine ⟨N,G,arr2,_,ins_growRow b vb n c i vc N G w W0 W1 _ _ _ hin' (by omega) hnc (by omega) hge hr hc1 hc2,q1,by omega,hge,?_,.inr (by omega),?_⟩
      · intro j u hj
        rw [insV_at _ _ _ _ hvl (by omega)] at hj
        rw [q3]
        split at hj
        · have:=getv hj
          rw [if_neg (by omega),p3,if_neg (by omega),hRa j (by omega)]
          exact hj
        · split at hj
          · have:=getv hj
            rw [if_neg (by omega),p3,if_pos (by omega)]
            exact hj
          · have:=getv hj
            rw [if_pos (by omega),List.getElem?_drop]
            have e:i * 3 + (j - (i + 1) * 3) = j - 3:=by omega
            rw [e]
            exact hj
      · have hk1':Kp [] w W1:=hk0.trans hk1 (by simp; omega)
        have hk2':Kp [] w (W1.drew.setCells N ((i + 1) * 3) (cv.drop (i * 3))):=(hk1'.trans (Kp.of_below (bs:=[]) (drew_below W1) (Nat.le_succ _)) (by simp)).trans hk2 (by simp; omega)
        exact Kp.of_below hk2'.below hk2'.drawn
end Go.V
