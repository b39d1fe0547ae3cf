/- What functions of the seat's program do, each proved of its code, under the bounds that its theorem names. -/
import Derived.Test.YtdelgkhoahmnfaaGreatTar
set_option linter.all false
namespace Go.V
open Go.Proofs
set_option maxHeartbeats 1000000
set_option maxRecDepth 10000
set_option linter.unusedSimpArgs false
set_option linter.unusedVariables false
theorem ins_nilOffer (ad:Option Addr) (vb vc:Nat) (w:World) (va:Array Value) (vv:List Value) (hvb:w.heap[vb]? = some (.cells va 81 (0,0))) (hvl:vv.length = 7) (hvv:∀ (j:Nat) u,vv[j]? = some u → va[j]? = some u) :
    ∃ (c':Nat) (arr':Array Value) (w':World),Calls Tryz.prog 183 #[.slice ad 0 0,.int .i64 (0:Nat),.slice (some ⟨vb,0,none⟩) 1 vc] w (fun e w'' => e = .returned (.slice (some ⟨w.heap.size,0,none⟩) (0 + 1) c') ∧ w'' = w') ∧
      w'.heap[w.heap.size]? = some (.cells arr' 81 (0,0)) ∧ c' * 7 ≤ arr'.size ∧ 0 + 1 ≤ c' ∧ (∀ (j:Nat) u,(insV 7 0 [] vv)[j]? = some u → arr'[j]? = some u) ∧ Kp [] w w':=by
  have tS:Tryz.prog.underlying 26 = some (.slice 81):=by kernel_rfl
  obtain ⟨inf,hinf⟩:=tsz_info (P:=Tryz.prog) (t:=81) (by simp)
  have hsz:inf.size = 7:=by
    have h1:tsz Tryz.prog 81 = inf.size:=by simp only [tsz,hinf]
    have h2:tsz Tryz.prog 81 = 7:=by kernel_rfl
    omega
  have hby:inf.bytes = 88:=by
    have h1:tby Tryz.prog 81 = inf.bytes:=by simp only [tby,hinf]
    have h2:tby Tryz.prog 81 = 88:=by kernel_rfl
    omega
  obtain ⟨z,hz⟩:∃ z,inf.zero = some z:=by
    have h2:(tzero Tryz.prog 81).isSome = true:=by kernel_rfl
    have h1:tzero Tryz.prog 81 = inf.zero:=by simp only [tzero,hinf]
    rw [h1] at h2
    exact Option.isSome_iff_exists.1 h2
  have hzs:z.cells.size = 7:=by
    have h2:(tzero Tryz.prog 81).map (fun z => z.cells.size) = some 7:=by kernel_rfl
    have h1:tzero Tryz.prog 81 = inf.zero:=by simp only [tzero,hinf]
    rw [h1,hz] at h2
    simpa using h2
  have hcellv:∀ (k:Nat) u,vv[k]? = some u → w.cell? ⟨vb,k,none⟩ = some u:=fun k u h => by rw [cell_at hvb]; exact hvv k u h
  have hge:=grownCap_ge w 1 0 81
  have hins:insV 7 0 [] vv = vv:=by simp [insV]
  rw [hins]
  have hr:∀ ty,(Builtin.append_ #[26,26] ty #[.slice ad 0 0,.slice (some ⟨vb,0,none⟩) 1 vc]).run Tryz.prog w = .ok (.slice (some ⟨w.heap.size,0,none⟩) (0 + 1) (grownCap w 1 0 81)) (w.drew.alloc (.cells (vv.toArray ++ Builtin.zeroCells z.cells (grownCap w 1 0 81 - 1)) 81)):=fun ty => by
    cases ad with
    | none => exact run_append_nil (P:=Tryz.prog) w 26 ty 81 inf z tS hinf hz ⟨vb,0,none⟩ 1 vc vv (by rw [hsz,hvl]) (fun j u hj => by rw [Addr.add_lit,Nat.zero_add]; exact hcellv j u hj) (by omega) (by omega) (by rw [hby]; omega)
    | some x =>
      have h:=run_append_grow (P:=Tryz.prog) w 26 ty 81 inf z tS hinf hz x 0 0 [] (by simp) (by simp) ⟨vb,0,none⟩ 1 vc vv (by rw [hsz,hvl]) (fun j u hj => by rw [Addr.add_lit,Nat.zero_add]; exact hcellv j u hj) (by omega) (by omega) (growslice_fits (by omega) (by rw [hby]; omega))
      simpa using h
  refine ⟨_,_,_,ins_endOffer ad vb 0 0 vc w _ _ (Nat.le_refl _) hr,alloc_at w.drew _,?_,hge,?_,(Kp.of_below (drew_below w) (Nat.le_succ _)).trans (alloc_kp [] w.drew _) (by simp)⟩
  · simp only [Array.size_append,List.size_toArray,size_zeroCells,hzs,hvl]
    omega
  · intro j u hj
    have hjl:=getv hj
    rw [Array.getElem?_append_left (by simpa using hjl)]
    simpa using hj
theorem ok_Insert_Offer (n i:Nat) (cs vs:List PT) (hcl:cs.length = n * 7) (hvl:vs.length = 7) (hi:i ≤ n) (hbig:(n + 1) * 88 ≤ 140737488355328) :
    CallOK Tryz.prog 183 [.c (.sl 0 81 n cs),.c (pi i),.c (.sl 0 81 1 vs)] (.c (.sl 0 81 (n + 1) (cs.take (i * 7) ++ vs ++ cs.drop (i * 7)))) [.c .hole,.c (pi i),.c .hole]:=by
  intro I w las he hh hnd hI
  obtain ⟨ts,rfl,hts⟩:=erase_cs las [.sl 0 81 n cs,pi i,.sl 0 81 1 vs] he
  obtain ⟨t0,t1,t2,rfl⟩:∃ t0 t1 t2,ts = [t0,t1,t2]:=by
    have hl:ts.length = 3:=by simpa using congrArg List.length hts
    match ts,hl with
    | [a,b,c],_ => exact ⟨a,b,c,rfl⟩
  simp only [List.map_cons,List.map_nil,List.cons.injEq,and_true] at hts
  obtain ⟨e0,e1,e2⟩:=hts
  have hs2:tsz Tryz.prog 81 = 7:=by kernel_rfl
  have k0:t0.holds (tsz Tryz.prog) w I:=by simpa [LV.holds] using hh (.c t0) (by simp)
  have k1:t1.holds (tsz Tryz.prog) w I:=by simpa [LV.holds] using hh (.c t1) (by simp)
  have k2:t2.holds (tsz Tryz.prog) w I:=by simpa [LV.holds] using hh (.c t2) (by simp)
  have hv1:t1.val = .int .i64 i:=by
    cases t1 with
    | leaf v p =>
      simp only [LT.erase] at e1
      subst e1
      simp only [LT.holds,Im,pi] at k1
      exact k1.1
    | own b cap e m cs => simp [LT.erase,pi] at e1
  have hb1:t1.blocks = []:=by
    cases t1 with
    | leaf v p => simp [LT.blocks]
    | own b cap e m cs => simp [LT.erase,pi] at e1
  simp only [List.map_cons,List.map_nil] at hh hnd hI ⊢
  cases t2 with
  | leaf v p =>
    simp only [LT.erase] at e2
    subst e2
    simp only [LT.holds,Im] at k2
    have:=k2.1.1
    omega
  | own vb vcap ve vn lv =>
    simp only [LT.erase,PT.sl.injEq,true_and] at e2
    obtain ⟨rfl,rfl,rfl⟩:=e2
    have k2':=k2
    simp only [LT.holds] at k2'
    obtain ⟨⟨va,g1,g2,g3⟩,g4,g5,g6,g7⟩:=k2'
    rw [hs2] at g2 g4 g6
    have hlvl:lv.length = 7:=by omega
    have hvv:∀ (j:Nat) u,(lv.map LT.val)[j]? = some u → va[j]? = some u:=by
      intro j u hj
      rw [List.getElem?_map,Option.map_eq_some_iff] at hj
      obtain ⟨d,hd,rfl⟩:=hj
      exact g3 j d hd
    have hone:∀ {l:List LT},(∀ c ∈ l,c.holds (tsz Tryz.prog) w I) → ∀ v ∈ l.map LT.val,v.oneCell' = true:=by
      intro l hl v hv
      obtain ⟨d,hd,rfl⟩:=List.mem_map.1 hv
      rw [one_oneCell]
      exact LT.holds_one (hl d hd)
    cases t0 with
    | leaf v p =>
      simp only [LT.erase] at e0
      subst e0
      simp only [LT.holds,Im] at k0
      obtain ⟨⟨rfl,rfl,ad,rfl⟩,_⟩:=k0
      have hi0:i = 0:=by omega
      subst hi0
      obtain ⟨c',arr',w',hc,p1,p2,p3,p4,p5⟩:=ins_nilOffer ad vb vcap w va (lv.map LT.val) g1 (by rw [List.length_map,hlvl]) hvv
      have hlas:([LV.c (.leaf (.slice ad 0 0) (.sl 0 81 0 [])),.c t1,.c (.own vb vcap 81 1 lv)].flatMap LV.blocks) = vb :: lv.flatMap LT.blocks:=by simp [LV.blocks,LT.blocks,hb1]
      have hargs:[LV.val (.c (.leaf (.slice ad 0 0) (.sl 0 81 0 []))),LV.val (.c t1),LV.val (.c (.own vb vcap 81 1 lv))].toArray = #[.slice ad 0 0,.int .i64 (0:Nat),.slice (some ⟨vb,0,none⟩) 1 vcap]:=by
        simp only [LV.val,LT.val] at hv1 ⊢
        rw [hv1]
      rw [hargs]
      refine (CallsF.of_calls Tryz.func183 (by kernel_rfl) rfl hc).mono ?_
      rintro e w'' ⟨rfl,rfl⟩
      have hnd2:(vb :: lv.flatMap LT.blocks).Nodup:=by rw [← hlas]; exact hnd
      exact ins_fin (P:=Tryz.prog) (I:=I) (w:=w) (w':=w'') (ls:=[]) (lv:=lv) (b:=w.heap.size) (b':=w.heap.size) (c':=c') (S:=7) (e:=81) (n:=0) (i:=0) (arr':=arr') (v0:=.slice ad 0 0) (v1:=t1.val) (v2:=(LT.own vb vcap 81 1 lv).val)
        (by omega) hs2 (by simp) hlvl (Nat.le_refl _) (by simpa using g7) (by
          rw [List.nil_append]
          refine List.nodup_cons.2 ⟨fun hx => ?_,(List.nodup_cons.1 hnd2).2⟩
          obtain ⟨c,hc,hx⟩:=List.mem_flatMap.1 hx
          have:=LT.blocks_lt c (g7 c hc) _ hx
          omega) (by rw [hlas]; intro x hx; exact List.mem_cons_of_mem _ (by simpa using hx)) (.inr (Nat.le_refl _)) hI (by simp [LV.full,LV.trees,LT.val]) ⟨rfl,hv1,rfl⟩ p1 p2 p3 p4 (.inl rfl) (Kp.of_below p5.below p5.drawn)
    | own b cap e m ls =>
      simp only [LT.erase,PT.sl.injEq,true_and] at e0
      obtain ⟨rfl,rfl,rfl⟩:=e0
      have k0':=k0
      simp only [LT.holds] at k0'
      obtain ⟨⟨arr,q1,q2,q3⟩,q4,q5,q6,q7⟩:=k0'
      rw [hs2] at q2 q4 q6
      have hcv:∀ (j:Nat) u,(ls.map LT.val)[j]? = some u → arr[j]? = some u:=by
        intro j u hj
        rw [List.getElem?_map,Option.map_eq_some_iff] at hj
        obtain ⟨d,hd,rfl⟩:=hj
        exact q3 j d hd
      have hlas:([LV.c (.own b cap 81 m ls),.c t1,.c (.own vb vcap 81 1 lv)].flatMap LV.blocks) = (b :: ls.flatMap LT.blocks) ++ (vb :: lv.flatMap LT.blocks):=by simp [LV.blocks,LT.blocks,hb1]
      have hnd2:((b :: ls.flatMap LT.blocks) ++ (vb :: lv.flatMap LT.blocks)).Nodup:=by rw [← hlas]; exact hnd
      have hnd3:=List.nodup_append.1 hnd2
      have hne:vb ≠ b:=fun e => hnd3.2.2 b (by simp) vb (by simp) e.symm
      obtain ⟨b',c',arr',w',hc,p1,p2,p3,p4,p5,p6⟩:=ins_worldOffer b vb m cap i vcap w arr va (ls.map LT.val) (lv.map LT.val) q1 g1 hne (by rw [List.length_map,q4]) (by rw [List.length_map,hlvl]) q2 (by omega) q5 hi hcv hvv (hone q7) (hone g7) hbig
      have hargs:[LV.val (.c (.own b cap 81 m ls)),LV.val (.c t1),LV.val (.c (.own vb vcap 81 1 lv))].toArray = #[.slice (some ⟨b,0,none⟩) m cap,.int .i64 i,.slice (some ⟨vb,0,none⟩) 1 vcap]:=by
        simp only [LV.val,LT.val] at hv1 ⊢
        rw [hv1]
      rw [hargs]
      refine (CallsF.of_calls Tryz.func183 (by kernel_rfl) rfl hc).mono ?_
      rintro e w'' ⟨rfl,rfl⟩
      have hmm:(ls ++ lv).flatMap LT.blocks = ls.flatMap LT.blocks ++ lv.flatMap LT.blocks:=List.flatMap_append
      exact ins_fin (P:=Tryz.prog) (I:=I) (w:=w) (w':=w'') (ls:=ls) (lv:=lv) (b:=b) (b':=b') (c':=c') (S:=7) (e:=81) (n:=m) (i:=i) (arr':=arr') (v0:=(LT.own b cap 81 m ls).val) (v1:=t1.val) (v2:=(LT.own vb vcap 81 1 lv).val)
        (by omega) hs2 q4 hlvl hi (fun c hc => (List.mem_append.1 hc).elim (q7 c) (g7 c)) (by
          rw [hmm]
          rw [List.cons_append] at hnd2
          have h1:=List.nodup_cons.1 hnd2
          refine List.nodup_cons.2 ⟨fun hx => h1.1 ?_,?_⟩
          · rcases List.mem_append.1 hx with hx | hx
            · exact List.mem_append_left _ hx
            · exact List.mem_append_right _ (List.mem_cons_of_mem _ hx)
          · exact h1.2.sublist (List.Sublist.append_left (List.sublist_cons_self ..) _)) (by
          rw [hlas,hmm]
          intro x hx
          rcases List.mem_append.1 hx with hx | hx
          · exact List.mem_append_left _ (List.mem_cons_of_mem _ hx)
          · exact List.mem_append_right _ (List.mem_cons_of_mem _ hx)) (.inl (by rw [hlas]; simp)) hI (by simp [LV.full,LV.trees,LT.val]) ⟨rfl,hv1,rfl⟩ p1 p2 p3 p4 p5 p6
theorem putO_cells (o:GOffer) (l:List GOffer):(putO o l).flatMap GOffer.co = (l.flatMap GOffer.co).take (offAt o.Peer l * 7) ++ (GOffer.co o ++ (l.flatMap GOffer.co).drop ((if offIs o.Peer l = true then offAt o.Peer l + 1 else offAt o.Peer l) * 7)):=by
  unfold putO
  rw [List.flatMap_append,List.flatMap_cons,fm_take GOffer.co 7 (fun _ => rfl),fm_dropAll GOffer.co 7 (fun _ => rfl)]
theorem putO_len (o:GOffer) (l:List GOffer) (hf:offIs o.Peer l = true):(putO o l).length = l.length:=by
  obtain ⟨h,_⟩:=bsF_lt hf
  unfold putO
  rw [if_pos hf,List.length_append,List.length_cons,List.length_take,List.length_drop]
  unfold offAt at *
  omega
theorem putO_len2 (o:GOffer) (l:List GOffer) (hf:offIs o.Peer l = false):(putO o l).length = l.length + 1:=by
  have h:=bs_le (fun x:GOffer => cmpI x.Peer o.Peer) l
  unfold putO
  rw [hf,if_neg (by simp),List.length_append,List.length_cons,List.length_take,List.length_drop]
  unfold offAt at *
  omega
theorem ok_withOffer (k k':Nat) (l:List GOffer) (o:GOffer) (hl:l.length ≤ 1000) (hpw:l.Pairwise (fun a b => a.Peer < b.Peer)) (hx:∀ x ∈ l,x.Attrs.Path.length ≤ 1048576 ∧ x.Attrs.Comms.length ≤ 1048576) (ho:o.Attrs.Path.length ≤ 1048576 ∧ o.Attrs.Comms.length ≤ 1048576):CallOK Tryz.prog 146 [.c (rd k l.length (l.flatMap (GOffer.ci k))),.agg (GOffer.ci k' o)] (.c (.sl 0 81 (putO o l).length ((putO o l).flatMap GOffer.co))) [.c (rd k l.length (l.flatMap (GOffer.ci k))),.agg (GOffer.ci k' o)]:=by
  refine okS (fn:=Tryz.f146) [(183,[2,0,2])] h0 Tryz.func146 (by kernel_rfl) rfl Tryz.ntmps146 Tryz.results146 (by simp) ?_
  simp
  refine Inv_intro (ok_ownOffers k l (by omega) hx) ?_
  simp
  refine drawP (tabEnv [(183,[2,0,2])] _) [⟨[.op 0 0 0],allD 35,true⟩,⟨[.op 0 0 0],allD 35,true⟩,⟨[.op 0 0 0],allD 35,true⟩,⟨[.op 0 0 0],allD 35,true⟩,⟨[],allD 35,false⟩,⟨[.op 2 4 1,.op 2 4 5],allD 35,true⟩,⟨[],allD 35,false⟩,⟨[.op 2 6 0,.op 2 4 1,.op 2 4 5],[11,12,13,14,15,16,6],false⟩] h0 hm (tabEnv_ok (tab_cons (ok_ownAttrs k' o.Attrs ho.1 ho.2) tab_nil)) (by kernel_rfl) (by kernel_rfl) ?_
  simp
  refine Inv_intro (ok_findOfferB 0 l o.Peer (by omega) hpw) ?_
  have hpc:=putO_cells o l
  have hle:=bs_le (fun x:GOffer => cmpI x.Peer o.Peer) l
  have hLl:=fm_len GOffer.co 7 (fun _ => rfl) l
  cases hf:bsF (fun x:GOffer => cmpI x.Peer o.Peer) l with
  | true =>
    have hp1:=putO_len o l hf
    obtain ⟨hj,_⟩:=bsF_lt hf
    have hPl:=fm_len GOffer.co 7 (fun _ => rfl) (putO o l)
    rw [if_pos (show offIs o.Peer l = true from hf)] at hpc
    rw [hp1] at hPl ⊢
    have htP:List.take (l.length * 7) ((putO o l).flatMap GOffer.co) = (putO o l).flatMap GOffer.co:=List.take_of_length_le (by omega)
    simp only [offAt] at hpc
    generalize bsI (fun x:GOffer => cmpI x.Peer o.Peer) l = j at *
    generalize (putO o l).flatMap GOffer.co = Z at *
    have e7:(j + 1) * 7 = j * 7 + 7:=by omega
    rw [e7] at hpc
    have hlt:j * 7 < l.length * 7:=by omega
    have hle7:j * 7 + 7 ≤ l.length * 7:=by omega
    subst hpc
    have hw7:l.length * 7 ≤ min j l.length * 7 + (l.length * 7 - (j * 7 + 7) + 1 + 1 + 1 + 1 + 1 + 1 + 1):=by omega
    simp only [GOffer.co,GAttrs.co,List.cons_append,List.nil_append] at htP
    simp [hLl,hj,hlt,hle7,hw7,htP]
  | false =>
    have hp1:=putO_len2 o l hf
    have hPl:=fm_len GOffer.co 7 (fun _ => rfl) (putO o l)
    rw [if_neg (by unfold offIs; rw [hf]; simp)] at hpc
    rw [hp1] at hPl ⊢
    have htP:List.take ((l.length + 1) * 7) ((putO o l).flatMap GOffer.co) = (putO o l).flatMap GOffer.co:=List.take_of_length_le (by omega)
    simp only [offAt] at hpc
    have hIns:=ok_Insert_Offer l.length (bsI (fun x:GOffer => cmpI x.Peer o.Peer) l) (l.flatMap GOffer.co) (GOffer.co o) hLl rfl hle (by omega)
    rw [List.append_assoc,← hpc] at hIns
    generalize (putO o l).flatMap GOffer.co = Z at *
    have htL:List.take (l.length * 7) (l.flatMap GOffer.co) = l.flatMap GOffer.co:=List.take_of_length_le (by omega)
    simp [hLl,htL]
    refine Inv_intro hIns ?_
    simp [hPl,htP]
theorem ins_cells (l:List GRow) (k:Nat) (x:GRow):(l.take k ++ x :: l.drop k).flatMap GRow.co = (l.flatMap GRow.co).take (k * 3) ++ (GRow.co x ++ (l.flatMap GRow.co).drop (k * 3)):=by
  rw [List.flatMap_append,List.flatMap_cons,fm_take GRow.co 3 (fun _ => rfl),fm_dropAll GRow.co 3 (fun _ => rfl)]
theorem ok_iput (k':Nat) (r:GRib) (p:GPrefix) (o:GOffer) (hg:gW r.Rows) (hl:r.Rows.length ≤ 1000) (ho:o.Attrs.Path.length ≤ 1048576 ∧ o.Attrs.Comms.length ≤ 1048576):CallOK Tryz.prog 89 [.bp (.sl 0 32 1 (GRib.co r)),.agg p.c,.agg (GOffer.ci k' o)] (.tup []) [.bp (.sl 0 32 1 (GRib.co ⟨r.Own,putW p o r.Rows⟩)),.agg p.c,.agg (GOffer.ci k' o)]:=by
  refine okS (fn:=Tryz.f89) [(145,[2,0,2])] h0 Tryz.func89 (by kernel_rfl) rfl Tryz.ntmps89 Tryz.results89 (by simp) ?_
  simp
  obtain ⟨own,rows⟩:=r
  simp only at hg hl
  refine drawP (tabEnv [(145,[2,0,2])] _) [⟨[.arg 0 0],allD 47,true⟩,⟨[.arg 0 0],allD 47,true⟩,⟨[.arg 0 0],allD 47,true⟩,⟨[.op 0 0 0],allD 47,true⟩,⟨[.arg 0 0],allD 47,true⟩,⟨[],allD 47,true⟩,⟨[],allD 47,true⟩,⟨[],allD 47,true⟩,⟨[],allD 47,true⟩,⟨[],allD 47,true⟩] h0 hm (tabEnv_ok (tab_cons (ok_findRow 0 ⟨own,rows⟩ p (Nat.le_trans hl (by decide)) hg.1) tab_nil)) (by kernel_rfl) (by kernel_rfl) ?_
  simp
  have hlen:=fm_len GRow.co 3 (fun _ => rfl) rows
  cases hi:rowIs p rows with
  | false =>
    have e:putW p o rows = rows.take (rowAt p rows) ++ ⟨p,[o]⟩ :: rows.drop (rowAt p rows):=by
      unfold putW
      rw [hi]
      rfl
    have hk:rowAt p rows ≤ rows.length:=bs_le _ rows
    rw [e]
    generalize rowAt p rows = k at hk e ⊢
    have hIns:=ok_Insert_Row rows.length k (rows.flatMap GRow.co) [pi p.Addr,pi p.Len,.sl 0 nilE 0 []] hlen rfl hk (by omega)
    have hW:=ok_withOffer 0 k' [] o (by simp) List.Pairwise.nil (by simp) ho
    rw [putO_nil] at hW
    have ht:List.take (rows.length * 3) (rows.flatMap GRow.co) = rows.flatMap GRow.co:=List.take_of_length_le (by omega)
    have hZc:=ins_cells rows k ⟨p,[o]⟩
    have hZl:(rows.take k ++ ⟨p,[o]⟩ :: rows.drop k).length = rows.length + 1:=by
      rw [List.length_append,List.length_cons,List.length_take,List.length_drop]
      omega
    rw [hZc,hZl]
    clear e hZc hZl
    rw [List.append_assoc] at hIns
    generalize rows.flatMap GRow.co = C at *
    have hAl:(List.take (k * 3) C).length = k * 3:=by rw [List.length_take]; omega
    obtain ⟨M,hM⟩:∃ M,M = List.take (k * 3) C ++ ([pi p.Addr,pi p.Len,.sl 0 nilE 0 []] ++ List.drop (k * 3) C):=⟨_,rfl⟩
    rw [← hM] at hIns
    have hMl:M.length = (rows.length + 1) * 3:=by
      rw [hM,List.length_append,List.length_append,hAl,List.length_drop]
      simp only [List.length_cons,List.length_nil]
      omega
    have hMd:List.drop (k * 3) M = pi p.Addr :: pi p.Len :: .sl 0 nilE 0 [] :: List.drop (k * 3) C:=by
      rw [hM]
      exact List.drop_left' hAl
    have hget:∀ h,M[k * 3 + 2]'h = .sl 0 nilE 0 []:=by
      intro h
      have e1:M[k * 3 + 2]? = (List.drop (k * 3) M)[2]?:=by rw [List.getElem?_drop]
      rw [hMd,List.getElem?_eq_getElem h] at e1
      simpa using e1
    have hMt:List.take (k * 3 + 2) M = List.take (k * 3) C ++ [pi p.Addr,pi p.Len]:=by
      have e1:k * 3 + 2 = (List.take (k * 3) C).length + 2:=by omega
      rw [hM,e1,List.take_length_add_append]
      rfl
    have hMr:List.drop (k * 3 + 2 + 1) M = List.drop (k * 3) C:=by
      rw [show k * 3 + 2 + 1 = k * 3 + 3 by omega,← List.drop_drop,hMd]
      rfl
    have hMT:List.take ((rows.length + 1) * 3) M = M:=List.take_of_length_le (by omega)
    have hk1:k < rows.length + 1:=by omega
    have hlt:k * 3 < (rows.length + 1) * 3:=by omega
    have hlt2:k * 3 + 2 < (rows.length + 1) * 3:=by omega
    have hlt3:k * 3 + 2 + 1 ≤ (rows.length + 1) * 3:=by omega
    clear hM
    simp
    refine drawK [0,1,5] (tabEnv [(145,[2,0,2])] _) [⟨[],allD 47,true⟩,⟨[],allD 47,true⟩,⟨[.arg 0 0],allD 47,true⟩,⟨[.arg 0 0],allD 47,true⟩,⟨[.arg 0 0],allD 47,true⟩,⟨[],allD 47,true⟩,⟨[.op 0 0 0],allD 47,true⟩,⟨[],allD 47,true⟩,⟨[],allD 47,false⟩,⟨[.arg 0 0,.op 3 8 0],[20,21,22,24,25,26,27,28,29],false⟩,⟨[.arg 0 0],allD 47,true⟩,⟨[.arg 0 0],allD 47,true⟩,⟨[.arg 0 0,.op 3 8 0,.op 3 9 0],[20,21,22,24,25,26,27,28,29],false⟩] h0 hm (tabEnv_ok (tab_cons hIns tab_nil)) (by kernel_rfl) (by kernel_rfl) ?_
    simp [hlen,ht,hMl,hMT]
    refine drawP (tabEnv [(145,[2,0,2])] _) [⟨[.arg 0 0],allD 47,true⟩,⟨[.arg 0 0],allD 47,true⟩,⟨[.arg 0 0],allD 47,true⟩,⟨[.arg 0 0],allD 47,true⟩,⟨[],allD 47,true⟩,⟨[.arg 0 0],allD 47,true⟩,⟨[.arg 0 0],allD 47,true⟩,⟨[.arg 0 0],allD 47,true⟩,⟨[.arg 0 0],allD 47,true⟩,⟨[],allD 47,true⟩,⟨[.arg 0 0],allD 47,true⟩,⟨[.arg 0 0],allD 47,true⟩,⟨[.arg 0 0],allD 47,true⟩,⟨[.op 0 1 0],allD 47,true⟩,⟨[.arg 0 0],allD 47,true⟩,⟨[.arg 0 0],allD 47,true⟩,⟨[.arg 0 0],allD 47,true⟩,⟨[.arg 0 0,.op 4 14 0],[30,31,32,33,34,35,36,37,38,39,40,41,42,43,44,45,46],false⟩] h0 hm (tabEnv_ok (tab_cons hW tab_nil)) (by kernel_rfl) (by kernel_rfl) ?_
    have hki:(k:Int) < (rows.length:Int) + 1:=by omega
    simp [hk1,hki,hMl,hlt,hlt2,hlt3,hget,hMd,hMt,hMr]
  | true =>
    obtain ⟨hk,hp⟩:=rowIs_lt hi
    have ek:rows[rowAt p rows]? = some rows[rowAt p rows]:=List.getElem?_eq_getElem hk
    have e:putW p o rows = rows.set (rowAt p rows) ⟨rows[rowAt p rows].Prefix,putO o rows[rowAt p rows].Offers⟩:=by
      unfold putW
      rw [hi,ek]
      rfl
    rw [e]
    generalize rowAt p rows = k at hk hp e ⊢
    have hd:=fm_drop GRow.co 3 (fun _ => rfl) rows k hk
    have hlt:k * 3 < rows.length * 3:=by omega
    have hlt2:k * 3 + 2 < rows.length * 3:=by omega
    have hlt3:k * 3 + 2 + 1 ≤ rows.length * 3:=by omega
    have hx:=goodRow_spec.1 (hg.2 _ (List.getElem_mem hk))
    have hset:=fun ys => set_cells rows k hk ys
    have hSl:∀ y,(rows.set k y).length = rows.length:=fun y => List.length_set
    generalize hxe:rows[k] = x at hd hx hp e hset ⊢
    obtain ⟨hpw,hgo⟩:=goodOs_pw hx.2.2
    have h6:=goodOs_len hx.2.2
    have hsm:∀ o ∈ x.Offers,o.Attrs.Path.length ≤ 1048576 ∧ o.Attrs.Comms.length ≤ 1048576:=fun o ho => by
      have:=goodO_small (hgo o ho)
      omega
    have hget:∀ h,(rows.flatMap GRow.co)[k * 3 + 2]'h = .sl 0 81 x.Offers.length (x.Offers.flatMap GOffer.co):=by
      intro h
      have e1:(rows.flatMap GRow.co)[k * 3 + 2]? = ((rows.flatMap GRow.co).drop (k * 3))[2]?:=by rw [List.getElem?_drop]
      rw [hd,List.getElem?_eq_getElem h] at e1
      simpa using e1
    have hyl:=fm_len GOffer.co 7 (fun _ => rfl) (putO o x.Offers)
    have hW:=ok_withOffer 0 k' x.Offers o (by omega) hpw hsm ho
    have hset':=hset (putO o x.Offers)
    generalize putO o x.Offers = ys at *
    have hty:List.take (ys.length * 7) (ys.flatMap GOffer.co) = ys.flatMap GOffer.co:=List.take_of_length_le (by omega)
    simp
    refine drawP (tabEnv [(145,[2,0,2])] _) [⟨[.arg 0 0],allD 47,true⟩,⟨[.arg 0 0],allD 47,true⟩,⟨[.arg 0 0],allD 47,true⟩,⟨[.arg 0 0],allD 47,true⟩,⟨[],allD 47,true⟩,⟨[.arg 0 0],allD 47,true⟩,⟨[.arg 0 0],allD 47,true⟩,⟨[.arg 0 0],allD 47,true⟩,⟨[.arg 0 0],allD 47,true⟩,⟨[],allD 47,true⟩,⟨[.arg 0 0],allD 47,true⟩,⟨[.arg 0 0],allD 47,true⟩,⟨[.arg 0 0],allD 47,true⟩,⟨[.op 0 1 0],allD 47,true⟩,⟨[.arg 0 0],allD 47,true⟩,⟨[.arg 0 0],allD 47,true⟩,⟨[.arg 0 0],allD 47,true⟩,⟨[.arg 0 0,.op 4 14 0],[30,31,32,33,34,35,36,37,38,39,40,41,42,43,44,45,46],false⟩] h0 hm (tabEnv_ok (tab_cons hW tab_nil)) (by kernel_rfl) (by kernel_rfl) ?_
    simp [hk,hd,hlen,hlt,hlt2,hlt3,hget,hyl,hty,hset',hSl]
theorem gW_small {o:Int} {l:List GRow} (h:gW l) (hl:l.length ≤ 1000):ribOK ⟨o,l⟩:=by
  refine ⟨by simp only; omega,fun x hx => ?_⟩
  have hg:=(goodRow_spec.1 (h.2 x hx)).2.2
  refine ⟨by have:=goodOs_len hg; omega,fun o ho => ?_⟩
  have:=goodO_small ((goodOs_pw hg).2 o ho)
  exact ⟨by omega,by omega⟩
theorem goodU_all {u:GUpdate} (h:goodU u = true) (n:Int) (hn:isPeerB n = true):goodO ⟨n,u.Attrs⟩ = true ∧ u.Attrs.Path.length ≤ 10 ∧ u.Attrs.Comms.length ≤ 6:=by
  have ha:=(goodU_spec h).2.2.1
  have hgo:goodO ⟨n,u.Attrs⟩ = true:=by simp [goodO,hn,ha]
  exact ⟨hgo,goodO_small hgo⟩
theorem dropsW_take (n:Int) (ps:List GPrefix) (l:List GRow) (i:Nat) (h:i < ps.length):dropsW n (ps.take (i + 1)) l = dropW ps[i] n (dropsW n (ps.take i) l):=by
  rw [take_step ps i h]
  exact dropsW_snoc n _ _ _
theorem putsW_take (o:GOffer) (ps:List GPrefix) (l:List GRow) (i:Nat) (h:i < ps.length):putsW o (ps.take (i + 1)) l = putW ps[i] o (putsW o (ps.take i) l):=by
  rw [take_step ps i h]
  exact putsW_snoc o _ _ _
theorem gW_take {r:GRib} {u:GUpdate} {n:Int} (hg:goodRib r = true) (hu:goodU u = true) (hn:isPeerB n = true) (i j:Nat):gW (dropsW n (u.Gone.take i) r.Rows) ∧ (dropsW n (u.Gone.take i) r.Rows).length ≤ 20 ∧ gW (putsW ⟨n,u.Attrs⟩ (u.Come.take j) (dropsW n u.Gone r.Rows)) ∧ (putsW ⟨n,u.Attrs⟩ (u.Come.take j) (dropsW n u.Gone r.Rows)).length ≤ 30:=by
  obtain ⟨g1,g2,g3⟩:=goodRib_gW hg
  obtain ⟨h1,h2⟩:=gW_drops n (u.Gone.take i) r.Rows g1
  obtain ⟨h3,h4⟩:=gW_drops n u.Gone r.Rows g1
  obtain ⟨k1,k2,k3,k4⟩:=goodU_spec hu
  obtain ⟨h5,h6⟩:=gW_puts (goodU_all hu n hn).1 (u.Come.take j) (dropsW n u.Gone r.Rows) (fun p hp => k4 p (List.mem_of_mem_take hp)) h3
  rw [List.length_take] at h6
  exact ⟨h1,by omega,h5,by omega⟩
theorem ok_iTakeUpdate (k k':Nat) (r:GRib) (n:Int) (u:GUpdate) (hr:ribOK r) (hu:updOK u):CallOK Tryz.prog 27 [.agg (GRib.ci k r),.c (pi n),.agg (GUpdate.ci k' u)] (.tup [.agg (GRib.co (rTakeUpdate r n u).1),.c (.sl 0 77 (rTakeUpdate r n u).2.1.length ((rTakeUpdate r n u).2.1.flatMap GPrefix.c)),.c (pb (rTakeUpdate r n u).2.2)]) [.agg (GRib.ci k r),.c (pi n),.agg (GUpdate.ci k' u)]:=by
  refine okS (fn:=Tryz.f27) [(79,[1,0,0]),(89,[1,0,0])] h0 Tryz.func27 (by kernel_rfl) rfl Tryz.ntmps27 Tryz.results27 (by simp) ?_
  simp
  refine Inv_intro (ok_iGoodRib k r hr) ?_
  cases hg:goodRib r with
  | false => simp [rTakeUpdate,hg]
  | true =>
    simp
    refine Inv_intro (ok_isPeer n) ?_
    cases hp:isPeerB n with
    | false => simp [rTakeUpdate,hp]
    | true =>
      simp
      refine Inv_intro (ok_iGoodUpdate k' u hu) ?_
      cases hgu:goodU u with
      | false => simp [rTakeUpdate,hgu]
      | true =>
        obtain ⟨hok,hsm⟩:=good_small hg
        obtain ⟨hgW,h20,hasn⟩:=goodRib_gW hg
        obtain ⟨hgo,hap,hac⟩:=goodU_all hgu n hp
        obtain ⟨u1,u2,u3,u4⟩:=goodU_spec hgu
        simp
        refine Inv_intro (ok_ownRib k r (by omega) hsm) ?_
        simp
        refine loopS [1,3,5,6,9,31,32,33] [.op 0 0 0,.op 0 1 0,.op 0 2 0,.op 3 2 0] (fun m st => ∃ (i:Nat),i + m = u.Gone.length ∧ st = ⟨slOf 63 [(1,.t (pi n)),(3,.ptr ⟨.op 0 0 0,[]⟩ 0),(5,.ptr ⟨.op 0 1 0,[]⟩ 0),(6,.ptr ⟨.op 0 2 0,[]⟩ 0),(9,.ptr ⟨.op 3 2 0,[]⟩ 0),(31,.t (rd k' u.Gone.length (u.Gone.flatMap GPrefix.c))),(32,.t (pi u.Gone.length)),(33,.t (pi i))],ofL [(.op 0 0 0,.sl 0 32 1 (GRib.ci k r)),(.op 0 1 0,.sl 0 54 1 (GUpdate.ci k' u)),(.op 0 2 0,.sl 0 32 1 [pi 0,.sl 0 nilE 0 []]),(.op 3 2 0,.sl 0 32 1 (GRib.co ⟨r.Own,dropsW n (u.Gone.take i) r.Rows⟩))]⟩) u.Gone.length ?_ ?_
        · rintro Inv hI
          simp
          subst hI
          exact ⟨0,by omega,rfl⟩
        · rintro Inv hI m st ⟨i,hi,rfl⟩
          obtain ⟨g1,g2,_,_⟩:=gW_take hg hgu hp i 0
          have hsn:=dropsW_take n u.Gone r.Rows i
          have hfin:i = u.Gone.length → dropsW n (u.Gone.take i) r.Rows = putsW ⟨n,u.Attrs⟩ (u.Come.take 0) (dropsW n u.Gone r.Rows):=by
            rintro rfl
            rw [List.take_length]
            rfl
          generalize dropsW n (u.Gone.take i) r.Rows = O at g1 g2 hsn hfin ⊢
          refine ewr_sound (M:=[(79,[1,0,0]),(89,[1,0,0])]) h0 ?_
          simp
          refine brn_app (fun a => ?_) (fun a => ?_)
          · simp at a
            have hsn':=hsn a
            have hd:=fm_drop GPrefix.c 2 (fun _ => rfl) u.Gone i a
            have hlen:=fm_len GPrefix.c 2 (fun _ => rfl) u.Gone
            have hlt:i * 2 < u.Gone.length * 2:=by omega
            simp [a,hd,hlen,hlt]
            refine Inv_intro (ok_idrop ⟨r.Own,O⟩ u.Gone[i] n g1 (by simp only; omega)) ?_
            simp
            subst hI
            refine Less_mk (m - 1) (by omega) ⟨i + 1,by omega,?_⟩
            rw [wrNext i (by omega),hsn']
            all_goals simp
          · simp at a
            have hil:i = u.Gone.length:=by omega
            have hfin':=hfin hil
            subst hfin'
            simp
            refine loopS [1,3,5,6,9,42,43,44] [.op 0 0 0,.op 0 1 0,.op 0 2 0,.op 3 2 0] (fun m st => ∃ (i:Nat),i + m = u.Come.length ∧ st = ⟨slOf 63 [(1,.t (pi n)),(3,.ptr ⟨.op 0 0 0,[]⟩ 0),(5,.ptr ⟨.op 0 1 0,[]⟩ 0),(6,.ptr ⟨.op 0 2 0,[]⟩ 0),(9,.ptr ⟨.op 3 2 0,[]⟩ 0),(42,.t (rd k' u.Come.length (u.Come.flatMap GPrefix.c))),(43,.t (pi u.Come.length)),(44,.t (pi i))],ofL [(.op 0 0 0,.sl 0 32 1 (GRib.ci k r)),(.op 0 1 0,.sl 0 54 1 (GUpdate.ci k' u)),(.op 0 2 0,.sl 0 32 1 [pi 0,.sl 0 nilE 0 []]),(.op 3 2 0,.sl 0 32 1 (GRib.co ⟨r.Own,putsW ⟨n,u.Attrs⟩ (u.Come.take i) (dropsW n u.Gone r.Rows)⟩))]⟩) u.Come.length ?_ ?_
            · rintro Inv2 hI2
              simp
              subst hI2
              exact ⟨0,by omega,rfl⟩
            · rintro Inv2 hI2 m2 st ⟨j,hj,rfl⟩
              obtain ⟨_,_,g3,g4⟩:=gW_take hg hgu hp 0 j
              have hsn2:=putsW_take ⟨n,u.Attrs⟩ u.Come (dropsW n u.Gone r.Rows) j
              have hfin2:j = u.Come.length → putsW ⟨n,u.Attrs⟩ (u.Come.take j) (dropsW n u.Gone r.Rows) = (takeW r n u).Rows:=by
                rintro rfl
                rw [List.take_length]
                rfl
              generalize putsW ⟨n,u.Attrs⟩ (u.Come.take j) (dropsW n u.Gone r.Rows) = O at g3 g4 hsn2 hfin2 ⊢
              refine ewr_sound (M:=[(79,[1,0,0]),(89,[1,0,0])]) h0 ?_
              simp
              refine brn_app (fun c => ?_) (fun c => ?_)
              · simp at c
                have hsn':=hsn2 c
                have hd:=fm_drop GPrefix.c 2 (fun _ => rfl) u.Come j c
                have hlen:=fm_len GPrefix.c 2 (fun _ => rfl) u.Come
                have hlt:j * 2 < u.Come.length * 2:=by omega
                simp [c,hd,hlen,hlt]
                refine Inv_intro (ok_iput k' ⟨r.Own,O⟩ u.Come[j] ⟨n,u.Attrs⟩ g3 (by simp only; omega) ⟨by simp only; omega,by simp only; omega⟩) ?_
                simp
                subst hI2
                refine Less_mk (m2 - 1) (by omega) ⟨j + 1,by omega,?_⟩
                rw [wrNext j (by omega),hsn']
                all_goals simp
              · simp at c
                have hjl:j = u.Come.length:=by omega
                have hfin':=hfin2 hjl
                have hTk:takeW r n u = ⟨r.Own,O⟩:=by rw [hfin']; rfl
                have er:rTakeUpdate r n u = if goodRib ⟨r.Own,O⟩ = true then (⟨r.Own,O⟩,changedG r ⟨r.Own,O⟩,true) else (⟨0,[]⟩,[],false):=by
                  unfold rTakeUpdate
                  rw [hTk]
                  simp [hg,hp,hgu]
                rw [er]
                clear hfin' hfin2 hsn2 er hTk
                have hOl:=fm_len GRow.co 3 (fun _ => rfl) O
                have htO:List.take (O.length * 3) (O.flatMap GRow.co) = O.flatMap GRow.co:=List.take_of_length_le (by omega)
                simp
                refine Inv_intro (ok_iGoodRib 0 ⟨r.Own,O⟩ (gW_small g3 (by omega))) ?_
                cases hgt:goodRib ⟨r.Own,O⟩ with
                | false => simp
                | true =>
                  have hC:=ok_changed k 0 r ⟨r.Own,O⟩ hok hg (good_small hgt).1 hgt
                  generalize changedG r ⟨r.Own,O⟩ = W at hC ⊢
                  have hWl:=fm_len GPrefix.c 2 (fun _ => rfl) W
                  have htW:List.take (W.length * 2) (W.flatMap GPrefix.c) = W.flatMap GPrefix.c:=List.take_of_length_le (by omega)
                  simp
                  refine drawP (tabEnv [(79,[1,0,0]),(89,[1,0,0])] _) [⟨[.op 3 2 0],allD 63,true⟩,⟨[.op 0 0 0],allD 63,true⟩,⟨[.op 3 2 0],allD 63,true⟩,⟨[.op 0 0 0,.op 3 2 0],allD 63,true⟩,⟨[.op 0 2 0,.op 3 2 0],[59,60,61,62,7,8],false⟩,⟨[.op 16 3 0],allD 63,true⟩,⟨[],allD 63,true⟩] h0 hm (tabEnv_ok (tab_cons hC tab_nil)) (by kernel_rfl) (by kernel_rfl) ?_
                  simp [hOl,htO,hWl,htW]
end Go.V
