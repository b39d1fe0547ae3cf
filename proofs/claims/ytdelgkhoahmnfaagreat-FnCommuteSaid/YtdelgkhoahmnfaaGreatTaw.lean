/- What functions of the seat's program do, each proved of its code, under the bounds that its theorem names. -/
import Derived.Test.YtdelgkhoahmnfaaGreatTav
set_option linter.all false
namespace Go.V
open Go.Proofs
set_option maxHeartbeats 1000000
set_option maxRecDepth 10000
set_option linter.unusedSimpArgs false
set_option linter.unusedVariables false
theorem ofPeer_take (n:Int) (l:List GOffer) (j:Nat) (h:j < l.length):ofPeer n (l.take (j + 1)) = ofPeer n (l.take j) ++ (if l[j].Peer = n then [l[j]] else []):=by
  unfold ofPeer
  rw [take_step l j h,List.filter_append]
  congr 1
  by_cases hb:l[j].Peer = n <;> simp [hb]
theorem ok_sHeardFrom (k:Nat) (r:GRib) (n:Int) (hr:ribOK r):CallOK Tryz.prog 57 [.agg (GRib.ci k r),.c (pi n)] (.tup [.c (.sl 0 90 (rHeardFrom r n).1.length ((rHeardFrom r n).1.flatMap GRoute.co)),.c (pb (rHeardFrom r n).2)]) [.agg (GRib.ci k r),.c (pi n)]:=by
  refine okS (fn:=Tryz.f57) [] h0 Tryz.func57 (by kernel_rfl) rfl Tryz.ntmps57 Tryz.results57 (by simp) ?_
  simp
  refine Inv_intro (ok_sGoodRib k r hr) ?_
  simp
  cases c1:goodRib r with
  | false => simp [rHeardFrom,c1]
  | true =>
    simp
    refine Inv_intro (ok_l13Peer n) ?_
    simp
    cases c2:isPeerB n with
    | false => simp [rHeardFrom,c2]
    | true =>
      obtain ⟨hrl,hrx⟩:=goodRib_rows c1
      have er:rHeardFrom r n = (heardL n r.Rows,true):=by simp [rHeardFrom,c1,c2]
      rw [er]
      generalize hR:r.Rows = l at hrl hrx ⊢
      simp
      refine ewp_nil 6 (.op 11 8 0) 90 (by decide) rfl rfl rfl ?_
      refine loopS [1,6,20,21,22] [.op 11 8 0] (fun m st => ∃ (i:Nat),i + m = l.length ∧ st = ⟨slOf 49 [(1,.t (pi n)),(6,.ref ⟨.op 11 8 0,[]⟩ 0 (heardL n (l.take i)).length),(20,.t (rd k l.length (l.flatMap (GRow.ci k)))),(21,.t (pi l.length)),(22,.t (pi i))],ofL [(.op 11 8 0,.sl 0 90 (heardL n (l.take i)).length ((heardL n (l.take i)).flatMap GRoute.co))]⟩) l.length ?_ ?_
      · rintro Inv hI
        simp
        subst hI
        exact ⟨0,by omega,by simp [heardL]⟩
      · rintro Inv hI m st ⟨i,hi,rfl⟩
        have hO:(heardL n (l.take i)).length ≤ i:=by
          have:=heardL_len n (l.take i) fun x hx => (hrx x (List.mem_of_mem_take hx)).1
          rw [List.length_take] at this
          omega
        have hS:=heardL_snoc n l i
        generalize hOe:heardL n (l.take i) = O at hO hS ⊢
        have hA:=fm_len GRoute.co 8 (fun _ => rfl) O
        generalize hAe:O.flatMap GRoute.co = A at hA ⊢
        refine ewr_sound (M:=[]) h0 ?_
        simp
        refine brn_app (fun a => ?_) (fun a => ?_)
        · simp at a
          have hd:=fm_drop (GRow.ci k) 3 (fun _ => rfl) l i a
          have hlen:=fm_len (GRow.ci k) 3 (fun _ => rfl) l
          have hlt:i * 3 < l.length * 3:=by omega
          obtain ⟨hp,hg⟩:=hrx _ (List.getElem_mem a)
          have hxl:l[i].Offers.length ≤ 140737488351232:=(hr.2 l[i] (by rw [hR]; exact List.getElem_mem a)).1
          have hS':=hS a
          simp [a,hd,hlen,hlt]
          generalize hX:l[i] = x at hp hg hxl hS' ⊢
          refine loopS [1,6,8,20,21,22,27,28,29] [.op 11 8 0,.op 6 2 0] (fun m st => ∃ (j:Nat),j + m = x.Offers.length ∧ st = ⟨slOf 49 [(1,.t (pi n)),(6,.ref ⟨.op 11 8 0,[]⟩ 0 (O.length + (ofPeer n (x.Offers.take j)).length)),(8,.ptr ⟨.op 6 2 0,[]⟩ 0),(20,.t (rd k l.length (l.flatMap (GRow.ci k)))),(21,.t (pi l.length)),(22,.t (pi i)),(27,.t (rd k x.Offers.length (x.Offers.flatMap (GOffer.ci k)))),(28,.t (pi x.Offers.length)),(29,.t (pi j))],ofL [(.op 11 8 0,.sl 0 90 (O.length + (ofPeer n (x.Offers.take j)).length) (A ++ ((ofPeer n (x.Offers.take j)).map (routeOf x)).flatMap GRoute.co)),(.op 6 2 0,.sl 0 79 1 (GRow.ci k x))]⟩) x.Offers.length ?_ ?_
          · rintro Inv2 hI2
            simp
            subst hI2
            exact ⟨0,by omega,by simp [ofPeer]⟩
          · rintro Inv2 hI2 m2 st ⟨j,hj,rfl⟩
            have hQ:(ofPeer n (x.Offers.take j)).length ≤ 1:=ofPeer_len n _ (hp.sublist (List.take_sublist _ _))
            have hQS:=ofPeer_take n x.Offers j
            generalize hQe:ofPeer n (x.Offers.take j) = Q at hQ hQS ⊢
            have hB:=fm_len GRoute.co 8 (fun _ => rfl) (Q.map (routeOf x))
            rw [List.length_map] at hB
            have hBm:∀ y,((Q ++ [y]).map (routeOf x)).flatMap GRoute.co = (Q.map (routeOf x)).flatMap GRoute.co ++ GRoute.co (routeOf x y):=fun y => by simp
            generalize hBe:(Q.map (routeOf x)).flatMap GRoute.co = B at hB hBm ⊢
            have hAB:(A ++ B).length = (O.length + Q.length) * 8:=by rw [List.length_append,hA,hB]; omega
            generalize hX2:A ++ B = C at hAB ⊢
            refine ewr_sound (M:=[]) h0 ?_
            simp
            refine brn_app (fun b => ?_) (fun b => ?_)
            · simp at b
              have hgl:=goodO_len (hg _ (List.getElem_mem b))
              have hdq:=fm_drop (GOffer.ci k) 7 (fun _ => rfl) x.Offers j b
              have hlenq:=fm_len (GOffer.ci k) 7 (fun _ => rfl) x.Offers
              have hltq:j * 7 < x.Offers.length * 7:=by omega
              have hb1:(O.length + Q.length + 1) * 96 ≤ 140737488355328:=by omega
              have hb2:O.length + Q.length ≤ 9223372036854775806:=by omega
              have ht:C.take ((O.length + Q.length) * 8) = C:=List.take_of_length_le (by omega)
              have hQS':=hQS b
              simp [b,hdq,hlenq,hltq]
              refine brn_app (fun c => ?_) (fun c => ?_)
              · simp at c
                rw [if_pos c] at hQS'
                refine drawP (tabEnv [] _) [⟨[.op 11 8 0],allD 49,true⟩,⟨[.op 6 2 0],allD 49,true⟩,⟨[.op 6 2 0],allD 49,true⟩,⟨[.op 9 2 0],allD 49,true⟩,⟨[.op 9 2 0],allD 49,true⟩,⟨[],allD 49,false⟩,⟨[.op 11 5 1,.op 11 5 5],allD 49,true⟩,⟨[.op 11 5 1,.op 11 5 5,.op 11 6 0],[37,38,39,40,41,42,43,44,45,6],false⟩,⟨[.op 11 8 0,.op 11 7 0],[37,38,39,40,41,42,43,44,45,6],false⟩,⟨[.op 11 8 0],allD 49,true⟩] h0 hm (tabEnv_ok (tab_cons (ok_l4Own k x.Offers[j].Attrs (by omega) (by omega)) tab_nil)) (by kernel_rfl) (by kernel_rfl) ?_
                simp [hAB,hb1,hb2,ht]
                subst hI2
                refine Less_mk (m2 - 1) (by omega) ⟨j + 1,by omega,?_⟩
                rw [wrNext j (by omega),hQS',hBm,← List.append_assoc,hX2,List.length_append]
                simp [routeOf,Nat.add_assoc]
              · simp at c
                rw [if_neg c,List.append_nil] at hQS'
                simp
                subst hI2
                refine Less_mk (m2 - 1) (by omega) ⟨j + 1,by omega,?_⟩
                rw [wrNext j (by omega),hQS',hBe,hX2]
                rfl
            · simp at b
              have ht:List.take j x.Offers = x.Offers:=List.take_of_length_le (by omega)
              rw [ht] at hQe
              have hh:heardR n x = Q.map (routeOf x):=by rw [heardR,hQe]
              rw [hh] at hS'
              simp
              subst hI
              refine Less_mk (m - 1) (by omega) ⟨i + 1,by omega,?_⟩
              rw [wrNext i (by omega),hS',List.flatMap_append,hAe,hBe,hX2,List.length_append,List.length_map]
        · simp at a
          have ht:List.take i l = l:=List.take_of_length_le (by omega)
          rw [ht] at hOe
          subst hOe
          have hA':A.take ((heardL n l).length * 8) = A:=List.take_of_length_le (by omega)
          simp [hA,hA',hAe]
theorem frz_upds (us:List GUpdate):(us.flatMap GUpdate.co).map frzDC = us.flatMap (GUpdate.ci 0):=by
  rw [List.map_flatMap]
  congr 1
  funext x
  simp [frzDC,rd]
theorem updsD_B {us:List GUpdate} (h:updsD us):∀ u ∈ us,updB u:=fun u hu => by
  obtain ⟨h1,h2,h3,h4⟩:=h.2 u hu
  exact ⟨by omega,by omega,by omega,by omega⟩
theorem swap_ints (ps:List Int) (k:Nat) (hp:k + 1 < ps.length):∃ P1:List PT,List.take k (ps.map pi) ++ pi ps[k + 1] :: List.drop (k + 1) (ps.map pi) = P1 ∧ P1.length = ps.length ∧ List.take (k + 1) P1 ++ pi ps[k] :: List.drop (k + 1 + 1) P1 = (swapL ps k hp).map pi:=by
  have hk:k < ps.length:=by omega
  have e1:(ps.set k ps[k + 1]).map pi = List.take k (ps.map pi) ++ pi ps[k + 1] :: List.drop (k + 1) (ps.map pi):=by
    rw [List.set_eq_take_append_cons_drop,if_pos hk]
    simp
  refine ⟨(ps.set k ps[k + 1]).map pi,e1.symm,by simp,?_⟩
  have hk2:k + 1 < (ps.set k ps[k + 1]).length:=by simpa using hp
  unfold swapL
  generalize ps.set k ps[k + 1] = X at hk2 ⊢
  rw [List.set_eq_take_append_cons_drop,if_pos hk2]
  simp
theorem fm_set8 (f:GUpdate → List PT) (hf:∀ x,(f x).length = 8) (l:List GUpdate) (i:Nat) (x:GUpdate) (h:i < l.length):List.take (i * 8) (l.flatMap f) ++ (f x ++ List.drop (i * 8 + 8) (l.flatMap f)) = (l.set i x).flatMap f:=by
  rw [List.set_eq_take_append_cons_drop,if_pos h,List.flatMap_append,List.flatMap_cons,fm_take f 8 hf,show i * 8 + 8 = (i + 1) * 8 by omega,fm_dropAll f 8 hf]
theorem swap_upds (us:List GUpdate) (k:Nat) (hk:k + 1 < us.length):List.take ((k + 1) * 8) (List.take (k * 8) (us.flatMap (GUpdate.ci 0)) ++ rd 0 us[k + 1].Gone.length (us[k + 1].Gone.flatMap GPrefix.c) :: pi us[k + 1].Attrs.Origin :: rd 0 us[k + 1].Attrs.Path.length (us[k + 1].Attrs.Path.map pi) :: pi us[k + 1].Attrs.Next :: pi us[k + 1].Attrs.Med :: pi us[k + 1].Attrs.Pref :: rd 0 us[k + 1].Attrs.Comms.length (us[k + 1].Attrs.Comms.map pi) :: rd 0 us[k + 1].Come.length (us[k + 1].Come.flatMap GPrefix.c) :: List.drop (k * 8 + 8) (us.flatMap (GUpdate.ci 0))) ++ rd 0 us[k].Gone.length (us[k].Gone.flatMap GPrefix.c) :: pi us[k].Attrs.Origin :: rd 0 us[k].Attrs.Path.length (us[k].Attrs.Path.map pi) :: pi us[k].Attrs.Next :: pi us[k].Attrs.Med :: pi us[k].Attrs.Pref :: rd 0 us[k].Attrs.Comms.length (us[k].Attrs.Comms.map pi) :: rd 0 us[k].Come.length (us[k].Come.flatMap GPrefix.c) :: List.drop ((k + 1) * 8 + 8) (List.take (k * 8) (us.flatMap (GUpdate.ci 0)) ++ rd 0 us[k + 1].Gone.length (us[k + 1].Gone.flatMap GPrefix.c) :: pi us[k + 1].Attrs.Origin :: rd 0 us[k + 1].Attrs.Path.length (us[k + 1].Attrs.Path.map pi) :: pi us[k + 1].Attrs.Next :: pi us[k + 1].Attrs.Med :: pi us[k + 1].Attrs.Pref :: rd 0 us[k + 1].Attrs.Comms.length (us[k + 1].Attrs.Comms.map pi) :: rd 0 us[k + 1].Come.length (us[k + 1].Come.flatMap GPrefix.c) :: List.drop (k * 8 + 8) (us.flatMap (GUpdate.ci 0))) = (swapL us k hk).flatMap (GUpdate.ci 0):=by
  have e1:=fm_set8 (GUpdate.ci 0) (fun _ => rfl) us k us[k + 1] (by omega)
  have e2:=fm_set8 (GUpdate.ci 0) (fun _ => rfl) (us.set k us[k + 1]) (k + 1) us[k] (by simpa using hk)
  rw [← e1] at e2
  exact e2
theorem mem_swapL {α:Type} (l:List α) (k:Nat) (hk:k + 1 < l.length) {x:α} (h:x ∈ swapL l k hk):x ∈ l:=by
  unfold swapL at h
  rcases List.mem_or_eq_of_mem_set h with h | rfl
  · rcases List.mem_or_eq_of_mem_set h with h | rfl
    · exact h
    · exact List.getElem_mem _
  · exact List.getElem_mem _
theorem heard_ok {r:GRib} (hr:ribOK r) (n:Int):(rHeardFrom r n).1.length ≤ 140737488351232 ∧ ∀ x ∈ (rHeardFrom r n).1,attrOK x.Attrs:=by
  unfold rHeardFrom
  split
  · rename_i hg
    rw [Bool.and_eq_true] at hg
    obtain ⟨hl,hr2⟩:=goodRib_rows hg.1
    refine ⟨?_,fun x hx => ?_⟩
    · have:=heardL_len n r.Rows fun x hx => (hr2 x hx).1
      simp only
      omega
    · obtain ⟨y,hy,hxy⟩:=List.mem_flatMap.1 hx
      obtain ⟨o,ho,rfl⟩:=List.mem_map.1 hxy
      have:=goodO_len ((hr2 y hy).2 o (List.mem_filter.1 ho).1)
      exact ⟨by simp only [routeOf]; omega,by simp only [routeOf]; omega⟩
  · exact ⟨by simp,by simp⟩
theorem cut2 {P:Program} {n:Nat} {keep:List Nat} {c:Code} {Q:Exit → St → Prop} {st:St} (st1:St) (hrest:ewp P (Code.rest n c) (ThawedX Q keep []) st1) (h:ewp P (Code.rest n c) (ThawedX Q keep []) st1 → ewp P c Q st):ewp P c Q st:=h hrest
set_option maxHeartbeats 4000000 in
theorem ok_FnCommute (code more:List Int) (hc:codeOK code) (hc2:codeOK more):CallOK Tryz.prog 8 [.c (rd 1 code.length (code.map pu)),.c (rd 1 more.length (more.map pu))] (.c (pb true)) [.c (rd 1 code.length (code.map pu)),.c (rd 1 more.length (more.map pu))]:=by
  obtain ⟨own,ps,us,⟨hpu,hud⟩,hd1⟩:=ok_DrawTakeAll code hc
  obtain ⟨kn,hkn,hnum⟩:=ok_numberOf 1 more hc2
  have hub:=updsD_B hud
  have hul:=hud.1
  have hi:=ok_iTakeAll 0 0 own ps us (by omega) (by omega) hub
  have hs:=ok_sTakeAll 0 0 own ps us (by omega) (by omega) hub
  have hX:=rib_ok (r:=(rTakeAll own ps us).1) (by have:=rTakeAll_good own ps us; omega)
  refine okE (fn:=Tryz.f8) h0 Tryz.func8 (by kernel_rfl) rfl Tryz.ntmps8 Tryz.results8 (by simp) ?_
  have hw:IntKind.i64.wrap ((code.length:Int) + more.length) = (code.length:Int) + more.length:=by
    have h1:=hc.1
    have h2:=hc2.1
    exact wrap64 (by omega) (by omega)
  by_cases hbig:code.length + more.length ≤ 1048576
  · have d1:¬ (1048576:Int) < (code.length:Int) + more.length:=by omega
    refine ewrN_cut (M:=[]) h0 6 [1,5,6,7,8,9] [.op 3 1 1,.op 3 1 2,.op 4 7 0] ⟨slOf 251 [(1,.t (rd 1 more.length (more.map pu))),(5,.t (pi own)),(6,.ref ⟨.op 3 1 1,[]⟩ 0 ps.length),(7,.ref ⟨.op 3 1 2,[]⟩ 0 us.length),(8,.ptr ⟨.op 4 7 0,[]⟩ 0),(9,.t (pb (rTakeAll own ps us).2))],ofL [(.op 3 1 1,.sl 0 3 ps.length (ps.map pi)),(.op 3 1 2,.sl 0 54 us.length (us.flatMap GUpdate.co)),(.op 4 7 0,.sl 0 32 1 (GRib.co (rTakeAll own ps us).1))]⟩ ?_ ?_
    · refine cut2 (n:=1) (keep:=[4]) ⟨slOf 251 [(1,.t (rd 1 more.length (more.map pu)))],ofL []⟩ ?_ ?_
      · clear hd1 hi hs hX hub hud hul hpu hbig d1 hw hnum hkn
        obtain ⟨b,⟨hbOK,hbL,hbN⟩,hd2⟩:=ok_DrawBestRows more hc2
        obtain ⟨h,n,⟨hhOK,hhL,hhN⟩,hd3⟩:=ok_DrawHeardFrom more hc2
        obtain ⟨nw,hd4⟩:=ok_DrawNewRib more hc2
        have i1:=ok_iBestRows 0 b hbOK
        have i2:=ok_sBestRows 0 b hbOK hbL
        refine ewrN_cut (M:=[]) h0 5 [1] [] ⟨slOf 251 [(1,.t (rd 1 more.length (more.map pu)))],ofL []⟩ ?_ ?_
        · have j1:=ok_iHeardFrom 0 h n hhOK
          have j2:=ok_sHeardFrom 0 h n hhOK
          have j3:=law_iNewRib nw
          have j4:=law_sNewRib nw
          refine ewr_sound (M:=[]) h0 ?_
          simp [Code.rest]
          refine Inv_intro hd3 ?_
          simp
          refine Inv_intro j1 ?_
          simp
          refine Inv_intro j2 ?_
          simp
          refine Inv_intro hd4 ?_
          simp
          refine Inv_intro j3 ?_
          simp
          refine Inv_intro j4 ?_
          simp
          have hRk:(rHeardFrom h n).1.length ≤ 140737488351232 ∧ ∀ r ∈ (rHeardFrom h n).1,attrOK r.Attrs:=heard_ok hhOK n
          refine Inv_intro (ok_sameRoutes 0 0 _ hRk.1 hRk.2) ?_
          simp
          refine Inv_intro (ok_sameRibs 0 0 (rNewRib nw).1 (by unfold rNewRib; split <;> exact ⟨by simp,by simp⟩)) ?_
          simp
          refine ThawedX_mk ?_
          simp
        · intro K hK
          simp [Code.rest]
          refine Inv_intro hd2 ?_
          simp
          refine Inv_intro i1 ?_
          simp
          refine Inv_intro i2 ?_
          by_cases hg:goodRib b = true
          · have hsm:=browsO_small hg
            have hOl:=browsO_len b.Own b.Rows
            have hPl:=browsP_len b.Own b.Rows
            have hOP:=(brows_at b.Own b.Rows).1
            have hOk:offersOK (browsO b.Own b.Rows):=⟨by omega,fun o ho => by have:=hsm o ho; exact ⟨by omega,by omega⟩⟩
            have hbest:=brows_best hg
            have e:bestRowsG b = (browsO b.Own b.Rows,browsP b.Own b.Rows,true):=by simp [bestRowsG,hg]
            rw [e]
            have hba:=fun p => ok_iBestAt 0 b p hbOK
            clear i1 i2 e hsm
            generalize browsO b.Own b.Rows = O at *
            generalize browsP b.Own b.Rows = Q at *
            simp
            refine Inv_intro (ok_sameOffers 0 0 O hOk) ?_
            simp
            refine Inv_intro (ok_samePrefixes 0 0 Q (by omega)) ?_
            simp
            refine loopS [1,17,18,19,178,179] [.op 20 2 0,.op 21 1 0,.op 21 1 1] (fun m st => ∃ (i:Nat),i + m = O.length ∧ st = ⟨slOf 251 [(1,.t (rd 1 more.length (more.map pu))),(17,.ptr ⟨.op 20 2 0,[]⟩ 0),(18,.ref ⟨.op 21 1 0,[]⟩ 0 O.length),(19,.ref ⟨.op 21 1 1,[]⟩ 0 Q.length),(178,.t (pi O.length)),(179,.t (pi i))],ofL [(.op 20 2 0,.sl 0 32 1 (GRib.co b)),(.op 21 1 0,.sl 0 81 O.length (O.flatMap GOffer.co)),(.op 21 1 1,.sl 0 77 Q.length (Q.flatMap GPrefix.c))]⟩) O.length ?_ ?_
            · rintro Inv hI
              simp
              subst hI
              exact ⟨0,by omega,rfl⟩
            · rintro Inv hI m st ⟨i,hi,rfl⟩
              refine ewr_sound (M:=[]) h0 ?_
              simp
              refine brn_app (fun a => ?_) (fun a => ?_)
              · simp at a
                have haQ:i < Q.length:=by omega
                have hdq:=fm_drop GPrefix.c 2 (fun _ => rfl) Q i haQ
                have hlq:=fm_len GPrefix.c 2 (fun _ => rfl) Q
                have hlt:i * 2 < Q.length * 2:=by omega
                have hlt2:i * 2 + 2 ≤ Q.length * 2:=by omega
                have hdo:=fm_drop GOffer.co 7 (fun _ => rfl) O i a
                have hlo:=fm_len GOffer.co 7 (fun _ => rfl) O
                have hlt3:i * 7 < O.length * 7:=by omega
                have hb:=hba Q[i]
                rw [hbest i a haQ] at hb
                simp only [Option.getD_some,Option.isSome_some] at hb
                have hRl:=fm_len GRow.co 3 (fun _ => rfl) b.Rows
                have hTR:=List.take_of_length_le (Nat.le_of_eq hRl)
                simp
                refine drawP (tabEnv [] _) [⟨[.op 20 2 0],allD 251,true⟩,⟨[.op 21 1 1],allD 251,true⟩,⟨[],allD 251,true⟩,⟨[.op 21 1 1],allD 251,true⟩,⟨[.op 21 1 1],allD 251,true⟩,⟨[.op 20 2 0],allD 251,true⟩,⟨[.op 29 5 2,.op 29 5 6],allD 251,true⟩,⟨[.op 29 5 2,.op 29 5 6],allD 251,true⟩,⟨[],allD 251,true⟩,⟨[],allD 251,false⟩,⟨[.op 29 5 2,.op 29 5 6,.op 29 9 0],[183,184,185,186,187,188,182,189,190,25,26],false⟩,⟨[],allD 251,true⟩] h0 hm (tabEnv_ok (tab_cons hb tab_nil)) (by kernel_rfl) (by kernel_rfl) ?_
                simp [a,haQ,hdq,hlq,hlt,hlt2,hRl,hTR]
                refine drawP (tabEnv [] []) [⟨[],allD 251,true⟩,⟨[],allD 251,true⟩,⟨[],allD 251,true⟩,⟨[.op 29 9 0],allD 251,true⟩,⟨[.op 29 9 0],allD 251,true⟩,⟨[.op 21 1 0],allD 251,true⟩,⟨[],allD 251,true⟩,⟨[.op 21 1 0],allD 251,true⟩,⟨[.op 21 1 0],allD 251,true⟩,⟨[.op 21 1 0],allD 251,true⟩,⟨[],allD 251,true⟩,⟨[],allD 251,true⟩] h0 hm (tabEnv_ok tab_nil) (by kernel_rfl) (by kernel_rfl) ?_
                have hge:∀ (h:i * 7 < (O.flatMap GOffer.co).length),(O.flatMap GOffer.co)[i * 7]'h = pi O[i].Peer:=fun h => by
                  have e0:((O.flatMap GOffer.co).drop (i * 7))[0]? = some (pi O[i].Peer):=by rw [hdo]; rfl
                  rw [List.getElem?_drop,Nat.add_zero,List.getElem?_eq_getElem h] at e0
                  exact Option.some.inj e0
                simp [a,hdo,hlo,hlt3,hge]
                subst hI
                exact Less_mk (m - 1) (by omega) ⟨i + 1,by omega,by rw [wrNext i (by omega)]; simp⟩
              · simp
                refine hK _ ?_
                simp
          · have e:bestRowsG b = ([],[],false):=by simp [bestRowsG,hg]
            rw [e]
            simp
            refine Inv_intro (ok_sameOffers 0 0 [] ⟨by simp,by simp⟩) ?_
            simp
            refine Inv_intro (ok_samePrefixes 0 0 [] (by simp)) ?_
            simp
            refine hK _ ?_
            simp
      · intro ht
        by_cases hB:(rTakeAll own ps us).2 = true ∧ 1 < us.length
        · refine ewp_freezeD (.op 3 1 2) [4] [] rfl (e:=54) (n:=us.length) (cs:=us.flatMap GUpdate.co) (by simp) (by omega) ?_
          refine ewrN_cut (M:=[]) h0 1 [1] [] _ ht ?_
          clear ht hi hs hd1
          intro K hK
          have hb3:(1:Int) < (us.length:Int):=by omega
          simp [Code.rest,frz_upds,hB.1,hB.2,hb3]
          refine Inv_intro hnum ?_
          obtain ⟨k,hk,hk1⟩:∃ k:Nat,kn.tmod ((us.length - 1:Nat):Int) = (k:Int) ∧ k + 1 < us.length:=by
            have h1:=hB.2
            refine ⟨(kn.tmod ((us.length - 1:Nat):Int)).toNat,?_,?_⟩
            · have:=Int.tmod_nonneg ((us.length - 1:Nat):Int) hkn.1
              omega
            · have h2:=Int.tmod_lt_of_pos kn (b:=((us.length - 1:Nat):Int)) (by omega)
              have:=Int.tmod_nonneg ((us.length - 1:Nat):Int) hkn.1
              omega
          have e1:IntKind.i64.wrap ((us.length:Int) - 1) = ((us.length - 1:Nat):Int):=by rw [wrap64 (by omega) (by omega)]; omega
          have e2:IntKind.i64.wrap (k:Int) = (k:Int):=wrap64 (by omega) (by omega)
          have e3:IntKind.i64.wrap ((k:Int) + 1) = ((k + 1:Nat):Int):=by rw [wrap64 (by omega) (by omega)]; omega
          have e4:¬ us.length - 1 = 0:=by omega
          have hp1:k + 1 < ps.length:=by omega
          have hp0:k < ps.length:=by omega
          have hk0:k < us.length:=by omega
          simp [e1,e2,e4,hk]
          refine drawP (tabEnv [] []) [⟨[.op 3 1 1],allD 251,true⟩,⟨[],allD 251,true⟩,⟨[.op 3 1 1],allD 251,true⟩,⟨[.op 3 1 1],allD 251,true⟩,⟨[.op 3 1 1],allD 251,true⟩,⟨[],allD 251,true⟩,⟨[],allD 251,true⟩,⟨[.op 3 1 1],allD 251,true⟩,⟨[.op 3 1 1],allD 251,true⟩,⟨[],allD 251,true⟩] h0 hm (tabEnv_ok tab_nil) (by kernel_rfl) (by kernel_rfl) ?_
          have hq0:(0:Int) ≤ (k:Int) + 1:=by omega
          have hq1:(k:Int) + 1 < (ps.length:Int):=by omega
          have hq2:(k:Int) + 1 < (us.length:Int):=by omega
          by_cases hne:ps[k] = ps[k + 1]
          · simp [e3,hp0,hp1,hq0,hq1,hne]
            refine hK _ ?_
            simp
          · have hTL:List.take ps.length (ps.map pi) = ps.map pi:=List.take_of_length_le (by rw [List.length_map]; exact Nat.le_refl _)
            have hUc:=fm_len (GUpdate.ci 0) 8 (fun _ => rfl) us
            have hTU:=List.take_of_length_le (Nat.le_of_eq hUc)
            have hb5:ps.length * 8 ≤ 140737488355328:=by omega
            have hb6:ps.length ≤ 9223372036854775807:=by omega
            have hb7:us.length * 128 ≤ 140737488355328:=by omega
            have hb8:us.length ≤ 9223372036854775807:=by omega
            have hps0:¬ ps = []:=by rintro rfl; simp at hp0
            have hus0:¬ us = []:=by rintro rfl; simp at hk0
            have hpk:k + 1 ≤ ps.length:=by omega
            have hpk2:k + 1 + 1 ≤ ps.length:=by omega
            obtain ⟨P1,hP1,hP1l,hP2⟩:=swap_ints ps k hp1
            have hH:List.map PT.hollow (us.flatMap (GUpdate.ci 0)) = us.flatMap (GUpdate.ci 0):=by
              rw [List.map_flatMap]
              congr 1
            have hDu:List.drop (us.length * 8) (us.flatMap (GUpdate.ci 0)) = []:=List.drop_of_length_le (by omega)
            have hd:=fm_drop (GUpdate.ci 0) 8 (fun _ => rfl) us (k + 1) hk1
            have hd0:=fm_drop (GUpdate.ci 0) 8 (fun _ => rfl) us k hk0
            have hq3:(k + 1) * 8 + 8 ≤ us.length * 8:=by omega
            have hq4:k * 8 + 8 ≤ us.length * 8:=by omega
            have hq5:(k + 1) * 8 + 8 ≤ min k us.length * 8 + (us.length * 8 - (k * 8 + 8) + 1 + 1 + 1 + 1 + 1 + 1 + 1 + 1):=by omega
            simp [hq5,e3,hp0,hp1,hq0,hq1,hq2,hk0,hk1,hne,hTL,hUc,hTU,hb5,hb6,hb7,hb8,hps0,hus0,hpk,hpk2,hP1,hP1l,hP2,hH,hDu,hd,hd0,hq3,hq4]
            have hUs:=swapL_len us k hk1
            have hPs:=swapL_len ps k hp1
            rw [swap_upds us k hk1]
            have hm:=rTakeAll_comm hk1 hp1 hne hB.1
            have hub':∀ u ∈ swapL us k hk1,updB u:=fun u hu => hub u (mem_swapL us k hk1 hu)
            have hi2:=ok_iTakeAll 0 0 own (swapL ps k hp1) (swapL us k hk1) (by omega) (by omega) hub'
            have hXs:=rib_ok (r:=(rTakeAll own (swapL ps k hp1) (swapL us k hk1)).1) (by have:=rTakeAll_good own (swapL ps k hp1) (swapL us k hk1); omega)
            have hUc2:=fm_len (GUpdate.ci 0) 8 (fun _ => rfl) (swapL us k hk1)
            rw [hUs] at hUc2
            have hT2:=List.take_of_length_le (Nat.le_of_eq hUc2)
            have hT3:List.take ps.length ((swapL ps k hp1).map pi) = (swapL ps k hp1).map pi:=List.take_of_length_le (by rw [List.length_map]; omega)
            rw [hPs,hUs] at hi2
            generalize swapL us k hk1 = us' at *
            generalize swapL ps k hp1 = ps' at *
            simp [hT2,hT3]
            refine Inv_intro hi2 ?_
            simp
            cases hb:(rTakeAll own ps' us').2 with
            | false =>
              simp
              refine hK _ ?_
              simp
            | true =>
              rw [hm hb]
              simp
              refine Inv_intro (ok_sameRibs 0 0 _ hX) ?_
              simp
              refine hK _ ?_
              simp
        · refine ewp_freezeD (.op 4 7 0) [4] [] rfl (e:=32) (n:=1) (cs:=GRib.co (rTakeAll own ps us).1) (by simp) (by omega) ?_
          refine ewrN_cut (M:=[]) h0 1 [1] [] _ ht ?_
          clear ht hi hs hd1
          intro K hK
          cases hb:(rTakeAll own ps us).2 with
          | false =>
            simp [Code.rest]
            refine hK _ ?_
            simp
          | true =>
            have hb2:¬ (1:Int) < (us.length:Int):=fun h => hB ⟨hb,by omega⟩
            simp [Code.rest,hb2]
            refine hK _ ?_
            simp
    · intro K hK
      simp [hw,d1]
      refine Inv_intro hd1 ?_
      simp
      refine Inv_intro hi ?_
      simp
      refine Inv_intro hs ?_
      simp
      refine Inv_intro (ok_sameRibs 0 0 _ hX) ?_
      simp
      refine hK _ ?_
      simp
  · have d1:(1048576:Int) < (code.length:Int) + more.length:=by omega
    refine ewr_sound (M:=[]) h0 ?_
    simp [hw,d1]
end Go.V
