/- What functions of the seat's program do, each proved of its code, under the bounds that its theorem names. -/
import Derived.Test.YtdelgkhoahmnfaaGreatTak
set_option linter.all false
namespace Go.V
open Go.Proofs
set_option maxHeartbeats 1000000
set_option maxRecDepth 10000
set_option linter.unusedSimpArgs false
set_option linter.unusedVariables false
theorem rows_len {v0:GRib} (h:GRib.wt v0 ≤ 1048576):∀ x ∈ v0.Rows,x.Offers.length ≤ 1048576:=by
  intro x hx
  unfold GRib.wt at h
  have h1:=mem_wt_RowS hx
  unfold GRow.wt at h1
  have:=len_wt_OfferS x.Offers
  omega
def rNewRib (n:Int):GRib × Bool:=if isAsnB n = true then (⟨n,[]⟩,true) else (⟨0,[]⟩,false)
theorem law_iNewRib (v0:Int):CallOK Tryz.prog 59 [.c (pi v0)] (.tup [.agg (GRib.co (rNewRib v0).1),.c (pb (rNewRib v0).2)]) [.c (pi v0)]:=by
  refine okS (fn:=Tryz.f59) [] h0 Tryz.func59 (by kernel_rfl) rfl Tryz.ntmps59 Tryz.results59 (by simp) ?_
  simp
  refine Inv_intro (ok_isAsn v0) ?_
  simp
  cases c1:isAsnB v0 with
  | false => simp [rNewRib,c1]
  | true => simp [rNewRib,c1]
theorem law_sNewRib (v0:Int):CallOK Tryz.prog 60 [.c (pi v0)] (.tup [.agg (GRib.co (rNewRib v0).1),.c (pb (rNewRib v0).2)]) [.c (pi v0)]:=by
  refine okS (fn:=Tryz.f60) [] h0 Tryz.func60 (by kernel_rfl) rfl Tryz.ntmps60 Tryz.results60 (by simp) ?_
  simp
  refine Inv_intro (ok_l1In v0 1 65535) ?_
  by_cases c1:1 ≤ v0 ∧ v0 ≤ 65535
  · simp [c1,rNewRib,isAsnB,inR_t c1]
  · have c1':inR v0 1 65535 = false:=by simp only [inR,decide_eq_false_iff_not]; exact c1
    simp [c1,rNewRib,isAsnB,c1']
def stepT (r:GRib) (n:Int) (u:GUpdate):Option GRib:=if (rTakeUpdate r n u).2.2 = true then some (rTakeUpdate r n u).1 else none
def tkI (own:Int) (peers:List Int) (l:List GUpdate):Nat → Option GRib
  | 0 => some ⟨own,[]⟩
  | i + 1 => match tkI own peers l i with
    | some r => (match l[i]?,peers[i]? with
      | some u,some n => stepT r n u
      | _,_ => none)
    | none => none
theorem tkI_succ {own:Int} {peers:List Int} {l:List GUpdate} {i:Nat} {r:GRib} (h:tkI own peers l i = some r) (h1:i < l.length) (h2:i < peers.length):tkI own peers l (i + 1) = stepT r peers[i] l[i]:=by
  simp only [tkI,h,List.getElem?_eq_getElem h1,List.getElem?_eq_getElem h2]
theorem tkI_none {own:Int} {peers:List Int} {l:List GUpdate} {i:Nat} (h:tkI own peers l i = none):∀ j,i ≤ j → tkI own peers l j = none:=by
  intro j hj
  induction j with
  | zero =>
    have:i = 0:=by omega
    subst this
    exact h
  | succ j ih =>
    rcases Nat.lt_or_ge i (j + 1) with h1 | h1
    · simp only [tkI,ih (by omega)]
    · have:i = j + 1:=by omega
      subst this
      exact h
theorem stepT_good {r a:GRib} {n:Int} {u:GUpdate} (h:stepT r n u = some a):goodRib a = true:=by
  unfold stepT at h
  split at h
  · rename_i h2
    cases h
    unfold rTakeUpdate at h2 ⊢
    split at h2
    · rename_i h3
      rw [if_pos h3]
      exact h3.2.2.2
    · simp at h2
  · cases h
theorem tkI_good {own:Int} {peers:List Int} {l:List GUpdate} (ho:isAsnB own = true):∀ (i:Nat) (r:GRib),tkI own peers l i = some r → goodRib r = true
  | 0,r,h => by
    simp only [tkI,Option.some.injEq] at h
    subst h
    simp [goodRib,ho,rowsG]
  | i + 1,r,h => by
    simp only [tkI] at h
    split at h
    · split at h
      · exact stepT_good h
      · cases h
    · cases h
/-- What TakeAll answers. -/
def rTakeAll (own:Int) (peers:List Int) (l:List GUpdate):GRib × Bool:=if isAsnB own = true ∧ l.length ≤ 40 ∧ peers.length = l.length then (match tkI own peers l l.length with
  | some r => (r,true)
  | none => (⟨0,[]⟩,false)) else (⟨0,[]⟩,false)
theorem ok_ownOffers (k:Nat) (l:List GOffer) (hl:l.length ≤ 1048576) (hx:∀ x ∈ l,x.Attrs.Path.length ≤ 1048576 ∧ x.Attrs.Comms.length ≤ 1048576):CallOK Tryz.prog 67 [.c (rd k l.length (l.flatMap (GOffer.ci k)))] (.c (.sl 0 81 l.length (l.flatMap GOffer.co))) [.c (rd k l.length (l.flatMap (GOffer.ci k)))]:=by
  refine okS (fn:=Tryz.f67) [] h0 Tryz.func67 (by kernel_rfl) rfl Tryz.ntmps67 Tryz.results67 (by simp) ?_
  simp
  refine ewp_sw (.op 1 0 0) (.op 5 8 0) rfl rfl ?_
  simp
  refine loopS [3,7,8,9] [.op 5 8 0] (fun n st => ∃ (i:Nat),i + n = l.length ∧ st = ⟨slOf 24 [(3,.ref ⟨.op 5 8 0,[]⟩ 0 i),(7,.t (rd k l.length (l.flatMap (GOffer.ci k)))),(8,.t (pi l.length)),(9,.t (pi i))],ofL [(.op 5 8 0,.sl 0 81 i ((l.take i).flatMap GOffer.co))]⟩) l.length ?_ ?_
  · rintro Inv hI
    simp
    subst hI
    exact ⟨0,by omega,by simp⟩
  · rintro Inv hI n st ⟨i,hi,rfl⟩
    have hA:=fm_take_len GOffer.co 7 (fun _ => rfl) l i (by omega)
    generalize hAe:((l.take i).flatMap GOffer.co) = A at hA ⊢
    refine ewr_sound (M:=[]) h0 ?_
    simp
    refine brn_app (fun a => ?_) (fun a => ?_)
    · simp at a
      have hd:=fm_drop (GOffer.ci k) 7 (fun _ => rfl) l i a
      have hlen:=fm_len (GOffer.ci k) 7 (fun _ => rfl) l
      have hlt:i * 7 < l.length * 7:=by omega
      have hb1:(i + 1) * 88 ≤ 140737488355328:=by omega
      have hb2:i ≤ 9223372036854775806:=by omega
      have hp:=hx _ (List.getElem_mem a)
      have ht:A.take (i * 7) = A:=List.take_of_length_le (by omega)
      have e3:((l.take (i + 1)).flatMap GOffer.co) = A ++ GOffer.co l[i]:=by rw [take_step l i a,List.flatMap_append,hAe,List.flatMap_cons,List.flatMap_nil,List.append_nil]
      simp [a,hd,hlen,hlt]
      refine drawP (tabEnv [] _) [⟨[.op 5 8 0],allD 24,true⟩,⟨[.op 4 2 0],allD 24,true⟩,⟨[.op 4 2 0],allD 24,true⟩,⟨[.op 4 2 0],allD 24,true⟩,⟨[.op 4 2 0],allD 24,true⟩,⟨[],allD 24,false⟩,⟨[.op 5 5 1,.op 5 5 5],allD 24,true⟩,⟨[.op 5 5 1,.op 5 5 5],[13,14,15,16,17,18,19,20,21,3],false⟩,⟨[.op 5 8 0,.op 5 7 0],[13,14,15,16,17,18,19,20,21,3],false⟩,⟨[.op 5 8 0],allD 24,true⟩] h0 hm (tabEnv_ok (tab_cons (ok_ownAttrs k l[i].Attrs hp.1 hp.2) tab_nil)) (by kernel_rfl) (by kernel_rfl) ?_
      simp [hA,hb1,hb2,ht]
      subst hI
      refine Less_mk (n - 1) (by omega) ⟨i + 1,by omega,?_⟩
      rw [wrNext i (by omega),e3]
      all_goals simp
    · simp at a
      have hn:n = 0:=by omega
      subst hn
      have ht:List.take i l = l:=List.take_of_length_le (by omega)
      have hil:i = l.length:=by omega
      rw [← hAe,ht,hil]
      simp
def browO (own:Int) (x:GRow):Option GOffer:=bestO (restO own x.Offers)
def browsO (own:Int) (l:List GRow):List GOffer:=l.flatMap fun x => (browO own x).toList
def browsP (own:Int) (l:List GRow):List GPrefix:=l.flatMap fun x => if (browO own x).isSome = true then [x.Prefix] else []
theorem browsO_snoc (own:Int) (l:List GRow) (i:Nat) (h:i < l.length):browsO own (l.take (i + 1)) = browsO own (l.take i) ++ (browO own l[i]).toList:=by
  unfold browsO
  rw [take_step l i h,List.flatMap_append]
  simp
theorem browsP_snoc (own:Int) (l:List GRow) (i:Nat) (h:i < l.length):browsP own (l.take (i + 1)) = browsP own (l.take i) ++ (if (browO own l[i]).isSome = true then [l[i].Prefix] else []):=by
  unfold browsP
  rw [take_step l i h,List.flatMap_append]
  simp
theorem browsO_len (own:Int):∀ l:List GRow,(browsO own l).length ≤ l.length
  | [] => by simp [browsO]
  | x :: l => by
    have ih:=browsO_len own l
    unfold browsO at ih ⊢
    rw [List.flatMap_cons,List.length_append,List.length_cons]
    have:(browO own x).toList.length ≤ 1:=by cases browO own x <;> simp
    omega
theorem browsP_len (own:Int):∀ l:List GRow,(browsP own l).length ≤ l.length
  | [] => by simp [browsP]
  | x :: l => by
    have ih:=browsP_len own l
    unfold browsP at ih ⊢
    rw [List.flatMap_cons,List.length_append,List.length_cons]
    have:(if (browO own x).isSome = true then [x.Prefix] else []).length ≤ 1:=by split <;> simp
    omega
theorem row_self {l:List GRow} (h:srtW l) (i:Nat) (hi:i < l.length):rowAt l[i].Prefix l = i ∧ rowIs l[i].Prefix l = true:=by
  have e:bsI (fun x:GRow => cmpPx x.Prefix l[i].Prefix) l = i:=by
    refine bsI_eq _ l i (by omega) ?_ ?_
    · intro m hm hl
      exact List.pairwise_iff_getElem.1 h m i hl hi hm
    · intro _
      have:=ltP_irr l[i].Prefix
      omega
  refine ⟨e,?_⟩
  unfold rowIs bsF
  rw [e,List.getElem?_eq_getElem hi]
  simp only [decide_eq_true_eq]
  exact (cmpPx_eq _ _).2 rfl
theorem bestR_row {r:GRib} (hg:goodRib r = true) (i:Nat) (hi:i < r.Rows.length):bestR r r.Rows[i].Prefix = browO r.Own r.Rows[i]:=by
  obtain ⟨_,_,hs,_⟩:=goodRib_all hg
  obtain ⟨e1,e2⟩:=row_self hs i hi
  obtain ⟨hl,hb⟩:=bestR_good hg e2
  rw [hb]
  unfold browO
  congr 3
  have:∀ (j:Nat) (hj:j < r.Rows.length),j = i → r.Rows[j] = r.Rows[i]:=by
    rintro j hj rfl
    rfl
  exact this _ hl e1
theorem browsO_small {r:GRib} (hg:goodRib r = true):∀ o ∈ browsO r.Own r.Rows,o.Attrs.Path.length ≤ 10 ∧ o.Attrs.Comms.length ≤ 6:=by
  intro o ho
  obtain ⟨x,hx,hox⟩:=List.mem_flatMap.1 ho
  obtain ⟨i,hi,rfl⟩:=List.mem_iff_getElem.1 hx
  have e:=bestR_row hg i hi
  have:bestR r r.Rows[i].Prefix = some o:=by rw [e]; simpa using hox
  exact bestR_small this
theorem ok_iBestRows1 (k:Nat) (r:GRib) (hr:ribOK r) (hg:goodRib r = true):CallOK Tryz.prog 12 [.agg (GRib.ci (k + 1) r)] (.tup [.c (.sl 0 81 (browsO r.Own r.Rows).length ((browsO r.Own r.Rows).flatMap GOffer.co)),.c (.sl 0 77 (browsP r.Own r.Rows).length ((browsP r.Own r.Rows).flatMap GPrefix.c)),.c (pb true)]) [.agg (GRib.ci (k + 1) r)]:=by
  obtain ⟨_,h20,_,_⟩:=goodRib_all hg
  refine okS (fn:=Tryz.f12) [] h0 Tryz.func12 (by kernel_rfl) rfl Tryz.ntmps12 Tryz.results12 (by simp) ?_
  simp
  refine Inv_intro (ok_iGoodRib (k + 1) r hr) ?_
  simp [hg]
  refine ewp_sw (.op 3 0 0) (.op 9 3 0) rfl rfl ?_
  refine ewp_sw (.op 3 1 0) (.op 10 4 0) rfl rfl ?_
  simp
  refine loopS [1,5,6,17,18,19] [.op 0 0 0,.op 9 3 0,.op 10 4 0] (fun m st => ∃ (i:Nat),i + m = r.Rows.length ∧ st = ⟨slOf 44 [(1,.ptr ⟨.op 0 0 0,[]⟩ 0),(5,.ref ⟨.op 9 3 0,[]⟩ 0 (browsO r.Own (r.Rows.take i)).length),(6,.ref ⟨.op 10 4 0,[]⟩ 0 (browsP r.Own (r.Rows.take i)).length),(17,.t (rd (k + 1) r.Rows.length (r.Rows.flatMap (GRow.ci (k + 1))))),(18,.t (pi r.Rows.length)),(19,.t (pi i))],ofL [(.op 0 0 0,.sl 0 32 1 (GRib.ci (k + 1) r)),(.op 9 3 0,.sl 0 81 (browsO r.Own (r.Rows.take i)).length ((browsO r.Own (r.Rows.take i)).flatMap (GOffer.ci (k + 1)))),(.op 10 4 0,.sl 0 77 (browsP r.Own (r.Rows.take i)).length ((browsP r.Own (r.Rows.take i)).flatMap GPrefix.c))]⟩) r.Rows.length ?_ ?_
  · rintro Inv hI
    simp
    subst hI
    refine ⟨0,by omega,?_⟩
    simp [browsO,browsP]
  · rintro Inv hI m st ⟨i,hi,rfl⟩
    have hO:(browsO r.Own (r.Rows.take i)).length ≤ i:=Nat.le_trans (browsO_len _ _) (by rw [List.length_take]; omega)
    have hP:(browsP r.Own (r.Rows.take i)).length ≤ i:=Nat.le_trans (browsP_len _ _) (by rw [List.length_take]; omega)
    have hSO:=browsO_snoc r.Own r.Rows i
    have hSP:=browsP_snoc r.Own r.Rows i
    have hend:i = r.Rows.length → browsO r.Own (r.Rows.take i) = browsO r.Own r.Rows ∧ browsP r.Own (r.Rows.take i) = browsP r.Own r.Rows:=fun h => by rw [List.take_of_length_le (by omega)]; exact ⟨rfl,rfl⟩
    generalize browsO r.Own (r.Rows.take i) = O at hO hSO hend ⊢
    generalize browsP r.Own (r.Rows.take i) = P at hP hSP hend ⊢
    refine ewr_sound (M:=[]) h0 ?_
    simp
    refine brn_app (fun a => ?_) (fun a => ?_)
    · simp at a
      have hSO':=hSO a
      have hSP':=hSP a
      have hd:=fm_drop (GRow.ci (k + 1)) 3 (fun _ => rfl) r.Rows i a
      have hlen:=fm_len (GRow.ci (k + 1)) 3 (fun _ => rfl) r.Rows
      have hlt:i * 3 < r.Rows.length * 3:=by omega
      simp [a,hd,hlen,hlt]
      have hB:=ok_bestAt k r r.Rows[i].Prefix hr hg
      rw [bestR_row hg i a] at hB
      refine Inv_intro hB ?_
      cases hb:browO r.Own r.Rows[i] with
      | none =>
        rw [hb] at hSO' hSP'
        simp at hSO' hSP'
        simp [outO]
        subst hI
        refine Less_mk (m - 1) (by omega) ⟨i + 1,by omega,?_⟩
        rw [wrNext i (by omega),hSO',hSP']
        all_goals simp
      | some o =>
        rw [hb] at hSO' hSP'
        simp at hSO' hSP'
        have hA:=fm_len (GOffer.ci (k + 1)) 7 (fun _ => rfl) O
        have ht:List.take (O.length * 7) (O.flatMap (GOffer.ci (k + 1))) = O.flatMap (GOffer.ci (k + 1)):=List.take_of_length_le (by omega)
        have hb1:(O.length + 1) * 88 ≤ 140737488355328:=by omega
        have hb2:O.length ≤ 9223372036854775806:=by omega
        have hA':=fm_len GPrefix.c 2 (fun _ => rfl) P
        have ht':List.take (P.length * 2) (P.flatMap GPrefix.c) = P.flatMap GPrefix.c:=List.take_of_length_le (by omega)
        have hb1':(P.length + 1) * 16 ≤ 140737488355328:=by omega
        have hb2':P.length ≤ 9223372036854775806:=by omega
        simp [outO,hA,ht,hb1,hb2,hA',ht',hb1',hb2']
        subst hI
        refine Less_mk (m - 1) (by omega) ⟨i + 1,by omega,?_⟩
        rw [wrNext i (by omega),hSO',hSP']
        all_goals simp
    · simp at a
      have hil:i = r.Rows.length:=by omega
      obtain ⟨e1,e2⟩:=hend hil
      subst e1
      subst e2
      have hsm:=browsO_small hg
      have hOO:=ok_ownOffers 0 (browsO r.Own r.Rows) (by omega) (fun x hx => by have:=hsm x hx; omega)
      generalize browsO r.Own r.Rows = O at hO hOO ⊢
      generalize browsP r.Own r.Rows = P at hP ⊢
      simp
      refine Inv_intro hOO ?_
      have hA':=fm_len GPrefix.c 2 (fun _ => rfl) P
      have ht':List.take (P.length * 2) (P.flatMap GPrefix.c) = P.flatMap GPrefix.c:=List.take_of_length_le (by omega)
      simp [hA',ht']
def bestRowsG (r:GRib):List GOffer × List GPrefix × Bool:=if goodRib r = true then (browsO r.Own r.Rows,browsP r.Own r.Rows,true) else ([],[],false)
theorem ok_iBestRows2 (k:Nat) (r:GRib) (hr:ribOK r):CallOK Tryz.prog 12 [.agg (GRib.ci (k + 1) r)] (.tup [.c (.sl 0 81 (bestRowsG r).1.length ((bestRowsG r).1.flatMap GOffer.co)),.c (.sl 0 77 (bestRowsG r).2.1.length ((bestRowsG r).2.1.flatMap GPrefix.c)),.c (pb (bestRowsG r).2.2)]) [.agg (GRib.ci (k + 1) r)]:=by
  by_cases hg:goodRib r = true
  · have:=ok_iBestRows1 k r hr hg
    unfold bestRowsG
    rw [if_pos hg]
    exact this
  · unfold bestRowsG
    rw [if_neg hg]
    have hg':goodRib r = false:=by simpa using hg
    refine okS (fn:=Tryz.f12) [] h0 Tryz.func12 (by kernel_rfl) rfl Tryz.ntmps12 Tryz.results12 (by simp) ?_
    simp
    refine Inv_intro (ok_iGoodRib (k + 1) r hr) ?_
    simp [hg']
theorem free_off (l:List GOffer):PT.freeL (l.flatMap GOffer.co) = true:=freeL_fm _ _ fun o => by simp [PT.freeL,PT.free,freeL_pi]
theorem free_px (l:List GPrefix):PT.freeL (l.flatMap GPrefix.c) = true:=freeL_fm _ _ fun o => by simp [PT.freeL,PT.free]
theorem ok_iBestRows (k:Nat) (r:GRib) (hr:ribOK r):CallOK Tryz.prog 12 [.agg (GRib.ci k r)] (.tup [.c (.sl 0 81 (bestRowsG r).1.length ((bestRowsG r).1.flatMap GOffer.co)),.c (.sl 0 77 (bestRowsG r).2.1.length ((bestRowsG r).2.1.flatMap GPrefix.c)),.c (pb (bestRowsG r).2.2)]) [.agg (GRib.ci k r)]:=by
  have h:=ok_iBestRows2 0 r hr
  refine CallOK.relabel ?_ rfl ?_
  · simpa only [List.map_cons,List.map_nil,rib_up] using h
  · intro w I I' lr he hh
    refine free_ccc ?_ ?_ rfl he hh
    · simp only [PT.free]; exact free_off _
    · simp only [PT.free]; exact free_px _
theorem ok_sBestRows1 (k:Nat) (r:GRib) (hr:ribOK r) (hx:∀ x ∈ r.Rows,x.Offers.length ≤ 1048576) (hg:goodRib r = true):CallOK Tryz.prog 10 [.agg (GRib.ci (k + 1) r)] (.tup [.c (.sl 0 81 (browsO r.Own r.Rows).length ((browsO r.Own r.Rows).flatMap GOffer.co)),.c (.sl 0 77 (browsP r.Own r.Rows).length ((browsP r.Own r.Rows).flatMap GPrefix.c)),.c (pb true)]) [.agg (GRib.ci (k + 1) r)]:=by
  obtain ⟨_,h20,_,_⟩:=goodRib_all hg
  have hsm:=browsO_small hg
  refine okS (fn:=Tryz.f10) [] h0 Tryz.func10 (by kernel_rfl) rfl Tryz.ntmps10 Tryz.results10 (by simp) ?_
  simp
  refine Inv_intro (ok_sGoodRib (k + 1) r hr) ?_
  simp [hg]
  refine ewp_nil 6 (.op 11 4 0) 77 (by decide) rfl rfl rfl ?_
  refine ewp_nil 5 (.op 10 8 0) 81 (by decide) rfl rfl rfl ?_
  refine loopS [1,5,6,15,16,17] [.op 10 8 0,.op 11 4 0,.op 0 0 0] (fun m st => ∃ (i:Nat),i + m = r.Rows.length ∧ st = ⟨slOf 47 [(1,.ptr ⟨.op 0 0 0,[]⟩ 0),(5,.ref ⟨.op 10 8 0,[]⟩ 0 (browsO r.Own (r.Rows.take i)).length),(6,.ref ⟨.op 11 4 0,[]⟩ 0 (browsP r.Own (r.Rows.take i)).length),(15,.t (rd (k + 1) r.Rows.length (r.Rows.flatMap (GRow.ci (k + 1))))),(16,.t (pi r.Rows.length)),(17,.t (pi i))],ofL [(.op 10 8 0,.sl 0 81 (browsO r.Own (r.Rows.take i)).length ((browsO r.Own (r.Rows.take i)).flatMap GOffer.co)),(.op 11 4 0,.sl 0 77 (browsP r.Own (r.Rows.take i)).length ((browsP r.Own (r.Rows.take i)).flatMap GPrefix.c)),(.op 0 0 0,.sl 0 32 1 (GRib.ci (k + 1) r))]⟩) r.Rows.length ?_ ?_
  · rintro Inv hI
    simp
    subst hI
    refine ⟨0,by omega,?_⟩
    simp [browsO,browsP]
  · rintro Inv hI m st ⟨i,hi,rfl⟩
    have hO:(browsO r.Own (r.Rows.take i)).length ≤ i:=Nat.le_trans (browsO_len _ _) (by rw [List.length_take]; omega)
    have hP:(browsP r.Own (r.Rows.take i)).length ≤ i:=Nat.le_trans (browsP_len _ _) (by rw [List.length_take]; omega)
    have hSO:=browsO_snoc r.Own r.Rows i
    have hSP:=browsP_snoc r.Own r.Rows i
    have hend:i = r.Rows.length → browsO r.Own (r.Rows.take i) = browsO r.Own r.Rows ∧ browsP r.Own (r.Rows.take i) = browsP r.Own r.Rows:=fun h => by rw [List.take_of_length_le (by omega)]; exact ⟨rfl,rfl⟩
    generalize browsO r.Own (r.Rows.take i) = O at hO hSO hend ⊢
    generalize browsP r.Own (r.Rows.take i) = P at hP hSP hend ⊢
    refine ewr_sound (M:=[]) h0 ?_
    simp
    refine brn_app (fun a => ?_) (fun a => ?_)
    · simp at a
      have hSO':=hSO a
      have hSP':=hSP a
      have hd:=fm_drop (GRow.ci (k + 1)) 3 (fun _ => rfl) r.Rows i a
      have hlen:=fm_len (GRow.ci (k + 1)) 3 (fun _ => rfl) r.Rows
      have hlt:i * 3 < r.Rows.length * 3:=by omega
      have hB:=ok_l13Best k r.Own r.Rows[i].Offers (hr.2 _ (List.getElem_mem a)) (hx _ (List.getElem_mem a))
      change CallOK _ _ _ (.tup [.agg (outO (k + 1) (browO r.Own r.Rows[i])),.c (pb (browO r.Own r.Rows[i]).isSome)]) _ at hB
      simp [a,hd,hlen,hlt]
      refine Inv_intro hB ?_
      cases hb:browO r.Own r.Rows[i] with
      | none =>
        rw [hb] at hSO' hSP'
        simp at hSO' hSP'
        simp [outO]
        subst hI
        refine Less_mk (m - 1) (by omega) ⟨i + 1,by omega,?_⟩
        rw [wrNext i (by omega),hSO',hSP']
        all_goals simp
      | some o =>
        have hos:o.Attrs.Path.length ≤ 10 ∧ o.Attrs.Comms.length ≤ 6:=hsm o (List.mem_flatMap.2 ⟨r.Rows[i],List.getElem_mem a,by rw [hb]; simp⟩)
        rw [hb] at hSO' hSP'
        simp at hSO' hSP'
        have hA:=fm_len GOffer.co 7 (fun _ => rfl) O
        have ht:List.take (O.length * 7) (O.flatMap GOffer.co) = O.flatMap GOffer.co:=List.take_of_length_le (by omega)
        have hb1:(O.length + 1) * 88 ≤ 140737488355328:=by omega
        have hb2:O.length ≤ 9223372036854775806:=by omega
        have hA':=fm_len GPrefix.c 2 (fun _ => rfl) P
        have ht':List.take (P.length * 2) (P.flatMap GPrefix.c) = P.flatMap GPrefix.c:=List.take_of_length_le (by omega)
        have hb1':(P.length + 1) * 16 ≤ 140737488355328:=by omega
        have hb2':P.length ≤ 9223372036854775806:=by omega
        simp [outO]
        refine drawP (tabEnv [] _) [⟨[.op 10 8 0],allD 47,true⟩,⟨[.op 8 8 0],allD 47,true⟩,⟨[.op 8 8 0],allD 47,true⟩,⟨[.op 8 8 0],allD 47,true⟩,⟨[.op 8 8 0],allD 47,true⟩,⟨[],allD 47,false⟩,⟨[.op 10 5 1,.op 10 5 5],allD 47,true⟩,⟨[.op 10 5 1,.op 10 5 5],[30,31,32,33,34,35,36,37,38,5],false⟩,⟨[.op 10 8 0,.op 10 7 0],[30,31,32,33,34,35,36,37,38,5],false⟩,⟨[.op 10 8 0],allD 47,true⟩] h0 hm (tabEnv_ok (tab_cons (ok_l4Own (k + 1) o.Attrs (by omega) (by omega)) tab_nil)) (by kernel_rfl) (by kernel_rfl) ?_
        simp [hA,ht,hb1,hb2,hA',ht',hb1',hb2']
        subst hI
        refine Less_mk (m - 1) (by omega) ⟨i + 1,by omega,?_⟩
        rw [wrNext i (by omega),hSO',hSP']
        all_goals simp
    · simp at a
      have hil:i = r.Rows.length:=by omega
      obtain ⟨e1,e2⟩:=hend hil
      subst e1
      subst e2
      generalize browsO r.Own r.Rows = O at hO ⊢
      generalize browsP r.Own r.Rows = P at hP ⊢
      have hA:=fm_len GOffer.co 7 (fun _ => rfl) O
      have ht:List.take (O.length * 7) (O.flatMap GOffer.co) = O.flatMap GOffer.co:=List.take_of_length_le (by omega)
      have hA':=fm_len GPrefix.c 2 (fun _ => rfl) P
      have ht':List.take (P.length * 2) (P.flatMap GPrefix.c) = P.flatMap GPrefix.c:=List.take_of_length_le (by omega)
      simp [hA,ht,hA',ht']
theorem ok_sBestRows2 (k:Nat) (r:GRib) (hr:ribOK r) (hx:∀ x ∈ r.Rows,x.Offers.length ≤ 1048576):CallOK Tryz.prog 10 [.agg (GRib.ci (k + 1) r)] (.tup [.c (.sl 0 81 (bestRowsG r).1.length ((bestRowsG r).1.flatMap GOffer.co)),.c (.sl 0 77 (bestRowsG r).2.1.length ((bestRowsG r).2.1.flatMap GPrefix.c)),.c (pb (bestRowsG r).2.2)]) [.agg (GRib.ci (k + 1) r)]:=by
  by_cases hg:goodRib r = true
  · have:=ok_sBestRows1 k r hr hx hg
    unfold bestRowsG
    rw [if_pos hg]
    exact this
  · unfold bestRowsG
    rw [if_neg hg]
    have hg':goodRib r = false:=by simpa using hg
    refine okS (fn:=Tryz.f10) [] h0 Tryz.func10 (by kernel_rfl) rfl Tryz.ntmps10 Tryz.results10 (by simp) ?_
    simp
    refine Inv_intro (ok_sGoodRib (k + 1) r hr) ?_
    simp [hg']
theorem ok_sBestRows (k:Nat) (r:GRib) (hr:ribOK r) (hx:∀ x ∈ r.Rows,x.Offers.length ≤ 1048576):CallOK Tryz.prog 10 [.agg (GRib.ci k r)] (.tup [.c (.sl 0 81 (bestRowsG r).1.length ((bestRowsG r).1.flatMap GOffer.co)),.c (.sl 0 77 (bestRowsG r).2.1.length ((bestRowsG r).2.1.flatMap GPrefix.c)),.c (pb (bestRowsG r).2.2)]) [.agg (GRib.ci k r)]:=by
  have h:=ok_sBestRows2 0 r hr hx
  refine CallOK.relabel ?_ rfl ?_
  · simpa only [List.map_cons,List.map_nil,rib_up] using h
  · intro w I I' lr he hh
    refine free_ccc ?_ ?_ rfl he hh
    · simp only [PT.free]; exact free_off _
    · simp only [PT.free]; exact free_px _
theorem sum_le {α:Type} (f:α → Nat) (c:Nat):∀ xs:List α,(∀ x ∈ xs,f x ≤ c) → (xs.map f).sum ≤ xs.length * c
  | [],_ => by simp
  | x :: xs,h => by
    have ih:=sum_le f c xs fun y hy => h y (List.mem_cons_of_mem _ hy)
    have hx:=h x List.mem_cons_self
    simp only [List.map_cons,List.sum_cons,List.length_cons,Nat.add_mul]
    omega
theorem putq {α:Type} (C:List α) (a b:α) (i j:Nat) (h:i * 2 + 2 ≤ C.length) (hij:i ≤ j):(C.take (i * 2) ++ a :: b :: C.drop (i * 2 + 2)).length = C.length ∧ (C.take (i * 2) ++ a :: b :: C.drop (i * 2 + 2)).take ((i + 1) * 2) = C.take (i * 2) ++ [a,b] ∧ (C.take (i * 2) ++ a :: b :: C.drop (i * 2 + 2)).drop ((j + 1) * 2) = C.drop ((j + 1) * 2):=by
  have hl:(C.take (i * 2)).length = i * 2:=by rw [List.length_take]; omega
  have e1:(i + 1) * 2 = (C.take (i * 2)).length + 2:=by omega
  refine ⟨?_,?_,?_⟩
  · simp only [List.length_append,List.length_cons,List.length_drop,hl]
    omega
  · rw [e1,List.take_length_add_append]
    rfl
  · have e2:(j + 1) * 2 = (C.take (i * 2)).length + (2 + (j - i) * 2):=by omega
    rw [e2,List.drop_length_add_append,← List.drop_drop]
    show List.drop ((j - i) * 2) (C.drop (i * 2 + 2)) = _
    rw [List.drop_drop,hl]
    congr 1
    omega
def lastP:GPrefix → List GPrefix → GPrefix
  | q,[] => q
  | _,x :: l => lastP x l
theorem compF_snoc (y:GPrefix):∀ (q:GPrefix) (l:List GPrefix),compF q (l ++ [y]) = compF q l ++ (if y = lastP q l then [] else [y])
  | q,[] => by by_cases h:y = q <;> simp [compF,lastP,h]
  | q,x :: l => by
    simp only [List.cons_append,compF,lastP]
    by_cases h:x = q
    · rw [if_pos h,if_pos h]
      subst h
      exact compF_snoc y x l
    · rw [if_neg h,if_neg h,compF_snoc y x l]
      by_cases hy:y = lastP x l <;> simp [hy]
theorem lastP_at:∀ (q:GPrefix) (l:List GPrefix) (h:l.length < (q :: l).length),lastP q l = (q :: l)[l.length]
  | q,[],_ => rfl
  | q,x :: l,_ => by
    simp only [lastP]
    rw [lastP_at x l (by simp)]
    rfl
theorem comp_step (xs:List GPrefix) (i:Nat) (h1:1 ≤ i) (h:i < xs.length):compP (xs.take (i + 1)) = compP (xs.take i) ++ (if xs[i] = xs[i - 1] then [] else [xs[i]]):=by
  cases xs with
  | nil => simp at h
  | cons x l =>
    obtain ⟨j,rfl⟩:∃ j,i = j + 1:=⟨i - 1,by omega⟩
    have hj:j < l.length:=by simpa using h
    rw [List.take_succ_cons,List.take_succ_cons]
    simp only [compP,List.cons_append]
    rw [take_step l j hj,compF_snoc,List.getElem_cons_succ]
    have e:lastP x (l.take j) = (x :: l)[j + 1 - 1]'(by simp; omega):=by
      rw [lastP_at x (l.take j) (by simp)]
      have hl:(l.take j).length = j:=by rw [List.length_take]; omega
      simp only [hl,Nat.add_sub_cancel]
      have e2:x :: l.take j = (x :: l).take (j + 1):=by rw [List.take_succ_cons]
      simp only [e2,List.getElem_take]
    rw [e]
theorem comp_len:∀ (l:List GPrefix),(compP l).length ≤ l.length:=by
  have h:∀ (l:List GPrefix) (q:GPrefix),(compF q l).length ≤ l.length:=by
    intro l
    induction l with
    | nil => intro q; simp [compF]
    | cons x l ih =>
      intro q
      unfold compF
      split
      · have:=ih q; rw [List.length_cons]; omega
      · have:=ih x; rw [List.length_cons,List.length_cons]; omega
  intro l
  cases l with
  | nil => simp [compP]
  | cons x l =>
    have:=h l x
    simp only [compP,List.length_cons]
    omega
theorem ok_Compact_Prefix (xs:List GPrefix) (hl:xs.length ≤ 1000000):CallOK Tryz.prog 130 [.c (.sl 0 77 xs.length (xs.flatMap GPrefix.c))] (.c (.sl 0 77 (compP xs).length ((compP xs).flatMap GPrefix.c))) [.c .hole]:=by
  refine okS (fn:=Tryz.f130) [] h0 Tryz.func130 (by kernel_rfl) rfl Tryz.ntmps130 Tryz.results130 (by simp) ?_
  simp
  by_cases h2:xs.length < 2
  · have d2:(xs.length:Int) < 2:=by omega
    have e:compP xs = xs:=by
      match xs,h2 with
      | [],_ => rfl
      | [x],_ => rfl
    simp [d2,e]
  · have d2:¬ (xs.length:Int) < 2:=by omega
    simp [d2]
    refine loopS [0,3] [.arg 0 0] (fun m st => ∃ (i:Nat),i + m = xs.length ∧ 1 ≤ i ∧ compP (xs.take i) = xs.take i ∧ st = ⟨slOf 61 [(0,.ref ⟨.arg 0 0,[]⟩ 0 xs.length),(3,.t (pi i))],ofL [(.arg 0 0,.sl 0 77 xs.length (xs.flatMap GPrefix.c))]⟩) (xs.length - 1) ?_ ?_
    · rintro Inv hI
      simp
      subst hI
      refine ⟨1,by omega,by omega,?_,rfl⟩
      cases xs with
      | nil => rfl
      | cons x l => rfl
    · rintro Inv hI m st ⟨i,hi,h1,hc,rfl⟩
      refine ewr_sound (M:=[]) h0 ?_
      simp
      refine brn_app (fun a => ?_) (fun a => ?_)
      · simp at a
        have hst:=comp_step xs i h1 a
        have hd:=fm_drop GPrefix.c 2 (fun _ => rfl) xs i a
        have hd1:=fm_drop GPrefix.c 2 (fun _ => rfl) xs (i - 1) (by omega)
        have hlen:=fm_len GPrefix.c 2 (fun _ => rfl) xs
        have hlt:i * 2 < xs.length * 2:=by omega
        have hlt1:(i - 1) * 2 < xs.length * 2:=by omega
        have hle:i * 2 + 2 ≤ xs.length * 2:=by omega
        have hle1:(i - 1) * 2 + 2 ≤ xs.length * 2:=by omega
        have hi1:i - 1 < xs.length:=by omega
        have w1:IntKind.i64.wrap ((i:Int) - 1) = ((i - 1:Nat):Int):=by
          rw [wrap64 (by omega) (by omega)]
          omega
        simp
        refine drawP (tabEnv [] _) [⟨[.arg 0 0],allD 61,true⟩,⟨[],allD 61,true⟩,⟨[.arg 0 0],allD 61,true⟩,⟨[.arg 0 0],allD 61,true⟩,⟨[.arg 0 0],allD 61,true⟩,⟨[],allD 61,true⟩,⟨[],allD 61,true⟩,⟨[.arg 0 0],allD 61,true⟩,⟨[.arg 0 0],allD 61,true⟩,⟨[],allD 61,true⟩] h0 hm (tabEnv_ok tab_nil) (by kernel_rfl) (by kernel_rfl) ?_
        simp [a,hd,hd1,hlen,hlt,hlt1,w1,hi1,hle,hle1]
        have hx:(decide (xs[i].Addr = xs[i - 1].Addr) && decide (xs[i].Len = xs[i - 1].Len)) = decide (xs[i] = xs[i - 1]):=by
          rw [← Bool.decide_and]
          exact decide_eq_decide.2 (px_ext _ _).symm
        rw [hx]
        by_cases e:xs[i] = xs[i - 1]
        · rw [decide_eq_true e]
          have hile:i ≤ xs.length:=by omega
          simp [hile]
          refine loopS [0,3,4,5] [.arg 0 0] (fun m st => ∃ (j:Nat) (C:List PT),j + m = xs.length - i ∧ 1 ≤ j ∧ (compP (xs.take (i + j))).length + 1 ≤ i + j ∧ C.length = xs.length * 2 ∧ C.take ((compP (xs.take (i + j))).length * 2) = (compP (xs.take (i + j))).flatMap GPrefix.c ∧ C.drop ((i + j - 1) * 2) = (xs.drop (i + j - 1)).flatMap GPrefix.c ∧ st = ⟨slOf 61 [(0,.ref ⟨.arg 0 0,[]⟩ 0 xs.length),(3,.t (pi (compP (xs.take (i + j))).length)),(4,.ref ⟨.arg 0 0,[]⟩ (i * 2) (xs.length - i)),(5,.t (pi j))],ofL [(.arg 0 0,.sl 0 77 xs.length C)]⟩) (xs.length - i - 1) ?_ ?_
          · rintro Inv2 hI2
            simp
            subst hI2
            have hst':=hst
            rw [if_pos e,List.append_nil,hc] at hst'
            have hl1:(xs.take i).length = i:=by rw [List.length_take]; omega
            refine ⟨1,xs.flatMap GPrefix.c,by omega,by omega,by rw [hst',hl1]; exact Nat.le_refl _,hlen,?_,?_,?_⟩
            · rw [hst',hl1]; exact fm_take GPrefix.c 2 (fun _ => rfl) xs i
            · rw [Nat.add_sub_cancel]; exact fm_dropAll GPrefix.c 2 (fun _ => rfl) xs i
            · rw [hst',hl1]
              rfl
          · rintro Inv2 hI2 m2 st ⟨j,C,hj,h1j,hlc,hCl,hCt,hCd,rfl⟩
            have hcs:∀ (h:i + j < xs.length) (h':i + j - 1 < xs.length),compP (xs.take (i + (j + 1))) = compP (xs.take (i + j)) ++ (if xs[i + j] = xs[i + j - 1] then [] else [xs[i + j]]):=fun h _ => comp_step xs (i + j) (by omega) h
            have hfin:j = xs.length - i → compP (xs.take (i + j)) = compP xs:=fun e => by rw [List.take_of_length_le (by omega)]
            generalize compP (xs.take (i + j)) = O at hlc hCt hcs hfin ⊢
            refine ewr_sound (M:=[]) h0 ?_
            simp
            refine brn_app (fun c => ?_) (fun c => ?_)
            · simp at c
              have hij:i + j < xs.length:=by omega
              have e1:i + j - 1 < xs.length:=by omega
              have hcs':=hcs hij e1
              have hd0:C.drop ((i + j - 1) * 2) = GPrefix.c xs[i + j - 1] ++ (xs.drop (i + j)).flatMap GPrefix.c:=by
                rw [hCd,drop_step _ _ e1,List.flatMap_cons,show i + j - 1 + 1 = i + j by omega]
              have hdj:C.drop ((i + j) * 2) = GPrefix.c xs[i + j] ++ (xs.drop (i + j + 1)).flatMap GPrefix.c:=by
                have:(i + j) * 2 = (i + j - 1) * 2 + 2:=by omega
                rw [this,← List.drop_drop,hd0]
                show (xs.drop (i + j)).flatMap GPrefix.c = _
                rw [drop_step _ _ hij,List.flatMap_cons]
              have wj:IntKind.i64.wrap ((j:Int) - 1) = ((j - 1:Nat):Int):=by
                rw [wrap64 (by omega) (by omega)]
                omega
              have g1:j - 1 < xs.length - i:=by omega
              have g2:i * 2 + j * 2 = (i + j) * 2:=by omega
              have g3:i * 2 + (j - 1) * 2 = (i + j - 1) * 2:=by omega
              have g4:(i + j) * 2 + 2 ≤ xs.length * 2:=by omega
              have g5:(i + j - 1) * 2 + 2 ≤ xs.length * 2:=by omega
              refine drawP (tabEnv [] _) [⟨[.arg 0 0],allD 61,true⟩,⟨[],allD 61,true⟩,⟨[.arg 0 0],allD 61,true⟩,⟨[.arg 0 0],allD 61,true⟩,⟨[.arg 0 0],allD 61,true⟩,⟨[],allD 61,true⟩,⟨[],allD 61,true⟩,⟨[.arg 0 0],allD 61,true⟩,⟨[.arg 0 0],allD 61,true⟩,⟨[],allD 61,true⟩] h0 hm (tabEnv_ok tab_nil) (by kernel_rfl) (by kernel_rfl) ?_
              simp [c,hd0,hdj,hCl,wj,g1,g2,g3,g4,g5]
              have hx2:(!decide (xs[i + j].Addr = xs[i + j - 1].Addr) || !decide (xs[i + j].Len = xs[i + j - 1].Len)) = !decide (xs[i + j] = xs[i + j - 1]):=by
                rw [← Bool.not_and,← Bool.decide_and]
                congr 1
                exact decide_eq_decide.2 (px_ext _ _).symm
              rw [hx2]
              by_cases e2:xs[i + j] = xs[i + j - 1]
              · rw [decide_eq_true e2]
                rw [if_pos e2,List.append_nil] at hcs'
                simp
                subst hI2
                refine Less_mk (m2 - 1) (by omega) ⟨j + 1,C,by omega,by omega,by rw [hcs']; omega,hCl,by rw [hcs']; exact hCt,?_,?_⟩
                · rw [show i + (j + 1) - 1 = i + j by omega,hdj,drop_step _ _ hij,List.flatMap_cons]
                · rw [hcs',wrNext j (by omega)]
              · rw [decide_eq_false e2]
                rw [if_neg e2] at hcs'
                have hO1:O.length < xs.length:=by omega
                have hO2:O.length * 2 < xs.length * 2:=by omega
                have hO3:O.length * 2 + 2 ≤ xs.length * 2:=by omega
                simp [hCl,c,hdj,hO1,hO2,hO3,g2,g4]
                subst hI2
                obtain ⟨q1,q2,q3⟩:=putq C (pi xs[i + j].Addr) (pi xs[i + j].Len) O.length (i + j - 1) (by omega) (by omega)
                have hOl:(O ++ [xs[i + j]]).length = O.length + 1:=by simp
                refine Less_mk (m2 - 1) (by omega) ⟨j + 1,_,by omega,by omega,by rw [hcs',hOl]; omega,q1.trans hCl,?_,?_,?_⟩
                · rw [hcs',hOl,q2,hCt,List.flatMap_append]
                  rfl
                · rw [show i + (j + 1) - 1 = i + j - 1 + 1 by omega,q3,show i + j - 1 + 1 = i + j by omega,hdj,drop_step _ _ hij,List.flatMap_cons]
                · rw [hcs',hOl,wrNext O.length (by omega),wrNext j (by omega)]
            · simp at c
              have hjn:j = xs.length - i:=by omega
              have hf:=hfin hjn
              subst hf
              have hOl:(compP xs).length ≤ xs.length:=by omega
              have hz0:¬ xs.length - (compP xs).length = 0:=by omega
              have hz1:(compP xs).length * 2 + (xs.length - (compP xs).length) * 2 ≤ C.length:=by omega
              have hz2:(compP xs).length * 2 ≤ min ((compP xs).length * 2) C.length + ((xs.length - (compP xs).length) * 2 + (C.length - ((compP xs).length * 2 + (xs.length - (compP xs).length) * 2))):=by omega
              have hCtl:(C.take ((compP xs).length * 2)).length = (compP xs).length * 2:=by rw [List.length_take]; omega
              have hTT:∀ Y,List.take ((compP xs).length * 2) (C.take ((compP xs).length * 2) ++ Y) = C.take ((compP xs).length * 2):=fun Y => List.take_left' hCtl
              rw [← hCt]
              simp [hOl,hz0,hz1,hz2,hTT]
        · rw [decide_eq_false e]
          rw [if_neg e,hc] at hst
          simp
          subst hI
          refine Less_mk (m - 1) (by omega) ⟨i + 1,by omega,by omega,?_,by rw [wrNext i (by omega)]⟩
          rw [hst,take_step xs i a]
      · simp at a
        have hin:i = xs.length:=by omega
        rw [hin,List.take_length] at hc
        rw [hc]
        simp
end Go.V
