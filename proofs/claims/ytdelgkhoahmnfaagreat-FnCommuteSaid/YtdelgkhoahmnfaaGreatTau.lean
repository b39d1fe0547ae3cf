/- What functions of the seat's program do, each proved of its code, under the bounds that its theorem names. -/
import Derived.Test.YtdelgkhoahmnfaaGreatTat
set_option linter.all false
namespace Go.V
open Go.Proofs
set_option maxHeartbeats 1000000
set_option maxRecDepth 10000
set_option linter.unusedSimpArgs false
set_option linter.unusedVariables false
theorem ok_sTakeAll (k k':Nat) (own:Int) (peers:List Int) (l:List GUpdate) (hpl:peers.length ≤ 140737488351232) (hl:l.length ≤ 140737488351232) (hus:∀ u ∈ l,updB u):CallOK Tryz.prog 31 [.c (pi own),.c (rd k peers.length (peers.map pi)),.c (rd k' l.length (l.flatMap (GUpdate.ci k')))] (.tup [.agg (GRib.co (rTakeAll own peers l).1),.c (pb (rTakeAll own peers l).2)]) [.c (pi own),.c (rd k peers.length (peers.map pi)),.c (rd k' l.length (l.flatMap (GUpdate.ci k')))]:=by
  refine okS (fn:=Tryz.f31) [] h0 Tryz.func31 (by kernel_rfl) rfl Tryz.ntmps31 Tryz.results31 (by simp) ?_
  simp
  refine Inv_intro (law_sNewRib own) ?_
  cases ho:isAsnB own with
  | false => simp [rTakeAll,rNewRib,ho]
  | true =>
    have hnr:rNewRib own = (⟨own,[]⟩,true):=by simp [rNewRib,ho]
    rw [hnr]
    by_cases h40:l.length ≤ 40
    · have d40:¬ (40:Int) < (l.length:Int):=by omega
      by_cases hpp:peers.length = l.length
      · have dpp:(peers.length:Int) = (l.length:Int):=by omega
        have er:rTakeAll own peers l = match tkI own peers l l.length with
            | some r => (r,true)
            | none => (⟨0,[]⟩,false):=by
          unfold rTakeAll
          rw [if_pos ⟨ho,h40,hpp⟩]
          all_goals (cases tkI own peers l l.length <;> rfl)
        simp [d40,dpp]
        refine loopS [1,6,8,35,36,37] [.op 0 0 0,.op 1 5 0] (fun m st => ∃ (i:Nat) (r:GRib),i + m = l.length ∧ tkI own peers l i = some r ∧ st = ⟨slOf 59 [(1,.t (rd k peers.length (peers.map pi))),(6,.ptr ⟨.op 0 0 0,[]⟩ 0),(8,.ptr ⟨.op 1 5 0,[]⟩ 0),(35,.t (rd k' l.length (l.flatMap (GUpdate.ci k')))),(36,.t (pi l.length)),(37,.t (pi i))],ofL [(.op 0 0 0,.sl 0 32 1 [pi 0,.sl 0 nilE 0 []]),(.op 1 5 0,.sl 0 32 1 (GRib.co r))]⟩) l.length ?_ ?_
        · rintro Inv hI
          simp
          subst hI
          exact ⟨0,⟨own,[]⟩,by omega,rfl,rfl⟩
        · rintro Inv hI m st ⟨i,r,hi,hr,rfl⟩
          have hg:=tkI_good ho i r hr
          refine ewr_sound (M:=[]) h0 ?_
          simp
          refine brn_app (fun a => ?_) (fun a => ?_)
          · simp at a
            have ap:i < peers.length:=by omega
            have hnx:=tkI_succ hr a ap
            have hd:=fm_drop (GUpdate.ci k') 8 (fun _ => rfl) l i a
            have hlen:=fm_len (GUpdate.ci k') 8 (fun _ => rfl) l
            have hlt:i * 8 < l.length * 8:=by omega
            have hpd:(peers.map pi).drop i = pi peers[i] :: (peers.map pi).drop (i + 1):=by
              rw [← List.map_drop,List.drop_eq_getElem_cons ap,List.map_cons,← List.map_drop]
            have hT:=ok_sTakeUpdate 0 k' r peers[i] l[i] (good_small hg).1 (updB_ok (hus _ (List.getElem_mem a)))
            unfold stepT at hnx
            simp [a,ap,hd,hlen,hlt]
            refine drawP (tabEnv [] _) [⟨[.op 1 5 0],allD 59,true⟩,⟨[],allD 59,true⟩,⟨[],allD 59,true⟩,⟨[],allD 59,true⟩,⟨[],allD 59,true⟩,⟨[.op 6 3 0],allD 59,true⟩,⟨[.op 1 5 0],allD 59,true⟩,⟨[.op 7 6 1,.op 7 6 2],allD 59,true⟩,⟨[.op 7 6 1],allD 59,true⟩,⟨[.op 7 6 2],allD 59,true⟩,⟨[],allD 59,true⟩,⟨[],allD 59,false⟩,⟨[.op 7 11 0,.op 7 6 1],[43,44,45,46,47,48,49,42,50,51,52,12,13,14],false⟩,⟨[.op 7 6 2],allD 59,true⟩,⟨[],allD 59,true⟩] h0 hm (tabEnv_ok (tab_cons hT tab_nil)) (by kernel_rfl) (by kernel_rfl) ?_
            simp [a,ap,hd,hlen,hlt,hpd,hpp]
            cases hb:(rTakeUpdate r peers[i] l[i]).2.2 with
            | false =>
              rw [hb,if_neg (by simp)] at hnx
              have hn:=tkI_none hnx l.length (by omega)
              rw [hn] at er
              simp only at er
              rw [er]
              simp
            | true =>
              rw [hb,if_pos rfl] at hnx
              have hOl:=fm_len GRow.co 3 (fun _ => rfl) (rTakeUpdate r peers[i] l[i]).1.Rows
              have htO:List.take ((rTakeUpdate r peers[i] l[i]).1.Rows.length * 3) ((rTakeUpdate r peers[i] l[i]).1.Rows.flatMap GRow.co) = (rTakeUpdate r peers[i] l[i]).1.Rows.flatMap GRow.co:=List.take_of_length_le (by omega)
              simp [hOl,htO]
              subst hI
              refine Less_mk (m - 1) (by omega) ⟨i + 1,_,by omega,hnx,?_⟩
              rw [wrNext i (by omega)]
              simp [hpp]
          · simp at a
            have hil:i = l.length:=by omega
            subst hil
            rw [hr] at er
            simp only at er
            have hOl:=fm_len GRow.co 3 (fun _ => rfl) r.Rows
            have htO:List.take (r.Rows.length * 3) (r.Rows.flatMap GRow.co) = r.Rows.flatMap GRow.co:=List.take_of_length_le (by omega)
            rw [er]
            simp [hOl,htO]
      · have dpp:¬ (peers.length:Int) = (l.length:Int):=by omega
        simp [d40,dpp,rTakeAll,hpp]
    · have d40:(40:Int) < (l.length:Int):=by omega
      simp [d40,rTakeAll,h40]
theorem rTakeAll_good (v0:Int) (v1:List Int) (v2:List GUpdate):GRib.wt (rTakeAll v0 v1 v2).1 ≤ 2100:=by
  unfold rTakeAll
  split
  · rename_i h
    cases ht:tkI v0 v1 v2 v2.length with
    | some r => exact goodRib_wt (tkI_good h.1 _ _ ht)
    | none => exact wt_zeroRib
  · exact wt_zeroRib
def ribD (r:GRib):Prop:=ribOK r ∧ (∀ x ∈ r.Rows,x.Offers.length ≤ 1048576) ∧ r.Rows.length ≤ 21
theorem rTakeAll_rows (v0:Int) (v1:List Int) (v2:List GUpdate):(rTakeAll v0 v1 v2).1.Rows.length ≤ 20:=by
  unfold rTakeAll
  split
  · rename_i h
    cases ht:tkI v0 v1 v2 v2.length with
    | some r => exact (goodRib_gW (tkI_good h.1 _ _ ht)).2.1
    | none => simp
  · simp
theorem nleL_app (l:List PT) {p q:List PT} (h:PT.nleL p q):PT.nleL (l ++ p) (l ++ q):=by
  induction l with
  | nil => exact h
  | cons x l ih =>
    rw [List.cons_append,List.cons_append,nleL_cons]
    exact ⟨nle_refl_all.1 x,ih⟩
set_option maxHeartbeats 4000000 in
theorem ok_rib (code:List Int) (hc:codeOK code) (a s:Int) (ha:0 ≤ a) (ha2:a ≤ 3980000):∃ (r:GRib) (a' s':Int),ribD r ∧ (a ≤ a' ∧ a' ≤ a + 3000) ∧ CallOK Tryz.prog 92 [.bp (curP code a s)] (.agg (GRib.co r)) [.bp (curP code a' s')]:=by
  obtain ⟨x0,a1,s1,hx0,ha1,q1⟩:=ok_pick code hc 8 (by decide) (by decide) a s ha (by omega)
  obtain ⟨ps,us,a2,s2,⟨hpl,hul,hud⟩,ha2',q2⟩:=ok_updates code hc a1 s1 (by omega) (by omega)
  obtain ⟨own,hown⟩:∃ own,own = IntKind.i64.wrap (1 + x0):=⟨_,rfl⟩
  have hno:rNewRib own = (⟨own,[]⟩,true):=by
    have:isAsnB own = true:=by
      rw [hown,wrap64 (by omega) (by omega)]
      simp [isAsnB,inR]
      omega
    simp [rNewRib,this]
  have hwt:=rTakeAll_good own ps us
  have q3:=ok_sTakeAll 0 0 own ps us (by omega) (by omega) (fun u hu => by have:=hud u hu; exact ⟨by have:=this.1; omega,by have:=this.2.1; omega,by have:=this.2.2.1; omega,by have:=this.2.2.2; omega⟩)
  have q4:=law_sNewRib own
  rw [hno] at q4
  obtain ⟨r0,hr0,h0r⟩:∃ r0,ribD r0 ∧ r0.Rows.length ≤ 20 ∧ ((rTakeAll own ps us).2 = true ∧ r0 = (rTakeAll own ps us).1 ∨ (rTakeAll own ps us).2 = false ∧ r0 = ⟨own,[]⟩):=by
    cases hb:(rTakeAll own ps us).2 with
    | true =>
      have hw:GRib.wt (rTakeAll own ps us).1 ≤ 1048576:=by omega
      have hw2:=rTakeAll_rows own ps us
      exact ⟨(rTakeAll own ps us).1,⟨rib_ok hw,rows_len hw,by omega⟩,hw2,.inl ⟨rfl,rfl⟩⟩
    | false => exact ⟨⟨own,[]⟩,⟨⟨by simp,by simp⟩,by simp,by simp⟩,by simp,.inr ⟨rfl,rfl⟩⟩
  obtain ⟨hr1,h0r⟩:=h0r
  obtain ⟨x,a3,s3,hx,ha3,q5⟩:=ok_pick code hc 30 (by decide) (by decide) a2 s2 (by omega) (by omega)
  obtain ⟨r,a4,s4,hrd,ha4,hfin⟩:∃ (r:GRib) (a4 s4:Int),ribD r ∧ (a3 ≤ a4 ∧ a4 ≤ a3 + 4) ∧ ((x = 0 ∧ ∃ y,r = ⟨y,r0.Rows⟩ ∧ CallOK Tryz.prog 111 [.bp (curP code a3 s3),.c (rd 0 3 ([0,65535,65536].map pi))] (.c (pi y)) [.bp (curP code a4 s4),.c (rd 0 3 ([0,65535,65536].map pi))]) ∨ (x = 1 ∧ ∃ p:GPrefix,r = ⟨r0.Own,r0.Rows ++ [⟨p,[]⟩]⟩ ∧ CallOK Tryz.prog 107 [.bp (curP code a3 s3)] (.agg p.c) [.bp (curP code a4 s4)]) ∨ ((x ≠ 0 ∧ x ≠ 1) ∧ r = r0 ∧ a4 = a3 ∧ s4 = s3)):=by
    by_cases h0:x = 0
    · obtain ⟨y,b,t,hy,hb,c⟩:=ok_among 0 code hc [0,65535,65536] (by decide) (by decide) a3 s3 (by omega) (by omega)
      exact ⟨⟨y,r0.Rows⟩,b,t,hr0,by omega,.inl ⟨h0,y,rfl,c⟩⟩
    · by_cases h1:x = 1
      · obtain ⟨p,b,t,hb,c⟩:=ok_prefix code hc a3 s3 (by omega) (by omega)
        refine ⟨_,b,t,⟨⟨?_,?_⟩,?_,?_⟩,by omega,.inr (.inl ⟨h1,p,rfl,c⟩)⟩
        · simp only [List.length_append,List.length_singleton]; omega
        · intro w hw
          rcases List.mem_append.1 hw with h | h
          · exact hr0.1.2 w h
          · rw [List.mem_singleton.1 h]; exact ⟨by simp,by simp⟩
        · intro w hw
          rcases List.mem_append.1 hw with h | h
          · exact hr0.2.1 w h
          · rw [List.mem_singleton.1 h]; simp
        · simp only [List.length_append,List.length_singleton]; omega
      · exact ⟨_,a3,s3,hr0,by omega,.inr (.inr ⟨⟨h0,h1⟩,rfl,rfl,rfl⟩)⟩
  refine ⟨r,a4,s4,hrd,by omega,?_⟩
  refine okE (fn:=Tryz.f92) h0 Tryz.func92 (by kernel_rfl) rfl Tryz.ntmps92 Tryz.results92 (by simp) ?_
  unfold curP at q1 q2 q5 hfin ⊢
  refine ewrN_cut (M:=[(93,[1]),(111,[1]),(109,[1]),(107,[1])]) h0 5 [0,2,6] [.op 0 0 0,.op 3 7 0] ⟨slOf 49 [(0,.ptr ⟨.arg 0 0,[]⟩ 0),(2,.ptr ⟨.op 0 0 0,[]⟩ 0),(6,.ptr ⟨.op 3 7 0,[]⟩ 0)],ofL [(.arg 0 0,.sl 0 129 1 [rd 1 code.length (code.map pu),pi a2,.raw (.int .u64 s2)]),(.op 0 0 0,.sl 0 32 1 [pi 0,.sl 0 nilE 0 []]),(.op 3 7 0,.sl 0 32 1 (GRib.co r0))]⟩ ?_ ?_
  · refine ewr_sound (M:=[(93,[1]),(111,[1]),(109,[1]),(107,[1])]) h0 ?_
    simp [Code.rest]
    refine Inv_intro q5 ?_
    have hRl:=fm_len GRow.co 3 (fun _ => rfl) r0.Rows
    have hTR:=List.take_of_length_le (Nat.le_of_eq hRl)
    have r3:([0,1,2]:List Nat) = List.range 3:=by decide
    rcases hfin with ⟨rfl,y,rfl,c1⟩ | ⟨rfl,p,rfl,c1⟩ | ⟨⟨x0,x1⟩,rfl,rfl,rfl⟩
    · simp
      refine Inv_intro c1 ?_
      simp [hRl,hTR]
      done
    · simp
      have hb1:(r0.Rows.length + 1) * 40 ≤ 140737488355328:=by omega
      have hb2:r0.Rows.length ≤ 9223372036854775806:=by omega
      refine drawP (tabEnv [(93,[1]),(111,[1]),(109,[1]),(107,[1])] _) [⟨[.op 3 7 0],allD 49,true⟩,⟨[.op 3 7 0],allD 49,true⟩,⟨[.arg 0 0],allD 49,true⟩,⟨[.arg 0 0],[40,41,42,43,44,45,46,47],false⟩,⟨[],allD 49,true⟩,⟨[],allD 49,false⟩,⟨[.op 3 7 0,.op 10 5 0],[40,41,42,43,44,45,46,47],false⟩,⟨[.op 3 7 0],allD 49,true⟩,⟨[.op 3 7 0,.op 10 5 0,.op 10 6 0],[40,41,42,43,44,45,46,47],false⟩] h0 hm (tabEnv_ok (tab_cons c1 tab_nil)) (by kernel_rfl) (by kernel_rfl) ?_
      simp [hRl,hTR,hb1,hb2]
      refine nleL_app _ ?_
      simp
    · simp [x0,x1,hRl,hTR]
      done
  · intro K hK
    simp
    refine Inv_intro q1 ?_
    simp
    rw [← hown]
    refine Inv_intro q2 ?_
    simp
    refine Inv_intro q3 ?_
    rcases h0r with ⟨hb,rfl⟩ | ⟨hb,rfl⟩
    · simp [hb]
      refine hK _ ?_
      simp
    · simp [hb]
      refine Inv_intro q4 ?_
      simp
      refine hK _ ?_
      simp
theorem ok_DrawDropPeer (code:List Int) (hc:codeOK code):∃ (r:GRib) (n:Int),ribD r ∧ CallOK Tryz.prog 48 [.c (rd 1 code.length (code.map pu))] (.tup [.agg (GRib.co r),.c (pi n)]) [.c (rd 1 code.length (code.map pu))]:=by
  obtain ⟨r,a1,s1,hr,ha1,q1⟩:=ok_rib code hc 0 0 (by decide) (by decide)
  obtain ⟨x,a2,s2,hx,ha2,q2⟩:=ok_pick code hc 8 (by decide) (by decide) a1 s1 (by omega) (by omega)
  refine ⟨r,IntKind.i64.wrap (x - 1),hr,?_⟩
  have hRl:=fm_len GRow.co 3 (fun _ => rfl) r.Rows
  have hTR:=List.take_of_length_le (Nat.le_of_eq hRl)
  refine okS (fn:=Tryz.f48) [(93,[1]),(92,[1])] h0 Tryz.func48 (by kernel_rfl) rfl Tryz.ntmps48 Tryz.results48 (by simp) ?_
  unfold curP at q1 q2
  simp
  refine Inv_intro q1 ?_
  simp
  refine Inv_intro q2 ?_
  simp [hRl,hTR]
theorem ok_DrawTakeAll (code:List Int) (hc:codeOK code):∃ (own:Int) (ps:List Int) (us:List GUpdate),(ps.length = us.length ∧ updsD us) ∧ CallOK Tryz.prog 52 [.c (rd 1 code.length (code.map pu))] (.tup [.c (pi own),.c (.sl 0 3 ps.length (ps.map pi)),.c (.sl 0 54 us.length (us.flatMap GUpdate.co))]) [.c (rd 1 code.length (code.map pu))]:=by
  obtain ⟨x,a1,s1,hx,ha1,q1⟩:=ok_pick code hc 8 (by decide) (by decide) 0 0 (by decide) (by decide)
  obtain ⟨ps,us,a2,s2,hu,ha2,q2⟩:=ok_updates code hc a1 s1 (by omega) (by omega)
  refine ⟨IntKind.i64.wrap (1 + x),ps,us,hu,?_⟩
  have hUc:=fm_len GUpdate.co 8 (fun _ => rfl) us
  have hTU:=List.take_of_length_le (Nat.le_of_eq hUc)
  have hTL:List.take ps.length (ps.map pi) = ps.map pi:=List.take_of_length_le (by rw [List.length_map]; exact Nat.le_refl _)
  refine okS (fn:=Tryz.f52) [(93,[1]),(109,[1])] h0 Tryz.func52 (by kernel_rfl) rfl Tryz.ntmps52 Tryz.results52 (by simp) ?_
  unfold curP at q1 q2
  simp
  refine Inv_intro q1 ?_
  simp
  refine Inv_intro q2 ?_
  simp [hUc,hTU,hTL]
theorem ok_DrawGoodRib (code:List Int) (hc:codeOK code):∃ (r:GRib),ribD r ∧ CallOK Tryz.prog 110 [.c (rd 1 code.length (code.map pu))] (.agg (GRib.co r)) [.c (rd 1 code.length (code.map pu))]:=by
  obtain ⟨r,a1,s1,hr,ha1,q1⟩:=ok_rib code hc 0 0 (by decide) (by decide)
  refine ⟨r,hr,?_⟩
  have hRl:=fm_len GRow.co 3 (fun _ => rfl) r.Rows
  have hTR:=List.take_of_length_le (Nat.le_of_eq hRl)
  refine okS (fn:=Tryz.f110) [(92,[1])] h0 Tryz.func110 (by kernel_rfl) rfl Tryz.ntmps110 Tryz.results110 (by simp) ?_
  unfold curP at q1
  simp
  refine Inv_intro q1 ?_
  simp [hRl,hTR]
theorem ok_DrawBestRows (code:List Int) (hc:codeOK code):∃ (r:GRib),ribD r ∧ CallOK Tryz.prog 54 [.c (rd 1 code.length (code.map pu))] (.agg (GRib.co r)) [.c (rd 1 code.length (code.map pu))]:=by
  obtain ⟨r,hr,q1⟩:=ok_DrawGoodRib code hc
  refine ⟨r,hr,?_⟩
  have hRl:=fm_len GRow.co 3 (fun _ => rfl) r.Rows
  have hTR:=List.take_of_length_le (Nat.le_of_eq hRl)
  refine okS (fn:=Tryz.f54) [] h0 Tryz.func54 (by kernel_rfl) rfl Tryz.ntmps54 Tryz.results54 (by simp) ?_
  simp
  refine Inv_intro q1 ?_
  simp [hRl,hTR]
theorem ok_DrawHeardFrom (code:List Int) (hc:codeOK code):∃ (r:GRib) (n:Int),ribD r ∧ CallOK Tryz.prog 56 [.c (rd 1 code.length (code.map pu))] (.tup [.agg (GRib.co r),.c (pi n)]) [.c (rd 1 code.length (code.map pu))]:=by
  obtain ⟨r,n,hr,q1⟩:=ok_DrawDropPeer code hc
  refine ⟨r,n,hr,?_⟩
  have hRl:=fm_len GRow.co 3 (fun _ => rfl) r.Rows
  have hTR:=List.take_of_length_le (Nat.le_of_eq hRl)
  refine okS (fn:=Tryz.f56) [] h0 Tryz.func56 (by kernel_rfl) rfl Tryz.ntmps56 Tryz.results56 (by simp) ?_
  simp
  refine Inv_intro q1 ?_
  simp [hRl,hTR]

theorem ok_DrawNewRib (code:List Int) (hc:codeOK code):∃ (n:Int),CallOK Tryz.prog 58 [.c (rd 1 code.length (code.map pu))] (.c (pi n)) [.c (rd 1 code.length (code.map pu))]:=by
  obtain ⟨n,a1,s1,hn,ha1,q1⟩:=ok_among 0 code hc [0,1,7,65535,65536] (by decide) (by decide) 0 0 (by decide) (by decide)
  refine ⟨n,?_⟩
  have r5:([0,1,2,3,4]:List Nat) = List.range 5:=by decide
  refine okS (fn:=Tryz.f58) [(111,[1])] h0 Tryz.func58 (by kernel_rfl) rfl Tryz.ntmps58 Tryz.results58 (by simp) ?_
  unfold curP at q1
  simp
  refine Inv_intro q1 ?_
  simp
def numS (n x:Int):Int:=(31 * n + x).tmod 1000003
theorem numS_in {n x:Int} (h1:0 ≤ n ∧ n < 1000003) (h2:0 ≤ x ∧ x ≤ 255):0 ≤ numS n x ∧ numS n x < 1000003:=by
  unfold numS
  rw [Int.tmod_eq_emod_of_nonneg (by omega)]
  omega
theorem num_take (b:List Int) (hb:∀ c ∈ b,0 ≤ c ∧ c ≤ 255) (i:Nat):0 ≤ (b.take i).foldl numS 0 ∧ (b.take i).foldl numS 0 < 1000003:=by
  induction i with
  | zero => simp
  | succ i ih =>
    rcases Nat.lt_or_ge i b.length with h | h
    · rw [take_step b i h,List.foldl_append]
      exact numS_in ih (hb _ (List.getElem_mem h))
    · rw [List.take_of_length_le (by omega)] at ih ⊢
      exact ih
theorem ok_numberOf (k:Nat) (b:List Int) (hb:codeOK b):∃ n:Int,(0 ≤ n ∧ n < 1000003) ∧ CallOK Tryz.prog 53 [.c (rd k b.length (b.map pu))] (.c (pi n)) [.c (rd k b.length (b.map pu))]:=by
  refine ⟨(b.take b.length).foldl numS 0,num_take b hb.2 _,?_⟩
  refine okS (fn:=Tryz.f53) [] h0 Tryz.func53 (by kernel_rfl) rfl Tryz.ntmps53 Tryz.results53 (by simp) ?_
  simp
  refine loopS [3,6,7,8] [] (fun m st => ∃ (i:Nat),i + m = b.length ∧ st = ⟨slOf 20 [(3,.t (pi ((b.take i).foldl numS 0))),(6,.t (rd k b.length (b.map pu))),(7,.t (pi b.length)),(8,.t (pi i))],ofL []⟩) b.length ?_ ?_
  · rintro Inv hI
    simp
    subst hI
    exact ⟨0,by omega,rfl⟩
  · rintro Inv hI m st ⟨i,hi,rfl⟩
    refine ewr_sound (M:=[]) h0 ?_
    simp
    refine brn_app (fun a => ?_) (fun a => ?_)
    · simp at a
      have hb1:=hb.1
      have hn:=num_take b hb.2 i
      have hx:=hb.2 _ (List.getElem_mem a)
      have hs:(b.take (i + 1)).foldl numS 0 = numS ((b.take i).foldl numS 0) b[i]:=by rw [take_step b i a,List.foldl_append]; rfl
      generalize (b.take i).foldl numS 0 = n at hn hs ⊢
      have hS:=numS_in hn hx
      have e1:IntKind.i64.wrap (31 * n) = 31 * n:=wrap64 (by omega) (by omega)
      have e2:IntKind.i64.wrap b[i] = b[i]:=wrap64 (by omega) (by omega)
      have e3:IntKind.i64.wrap (31 * n + b[i]) = 31 * n + b[i]:=wrap64 (by omega) (by omega)
      have e4:IntKind.i64.wrap ((31 * n + b[i]).tmod 1000003) = (31 * n + b[i]).tmod 1000003:=wrap64 (by unfold numS at hS; omega) (by unfold numS at hS; omega)
      simp [a,e1,e2,e3,e4]
      subst hI
      refine Less_mk (m - 1) (by omega) ⟨i + 1,by omega,?_⟩
      rw [wrNext i (by omega),hs]
      simp [numS]
    · simp at a
      obtain rfl:i = b.length:=by omega
      simp
theorem ok_sameIntsG (k k':Nat) (xs ys:List Int) (ha:xs.length ≤ 140737488351232) (hb:ys.length ≤ 140737488351232):CallOK Tryz.prog 104 [.c (rd k xs.length (xs.map pi)),.c (rd k' ys.length (ys.map pi))] (.c (pb (decide (xs = ys)))) [.c (rd k xs.length (xs.map pi)),.c (rd k' ys.length (ys.map pi))]:=by
  refine okS (fn:=Tryz.f104) [] h0 Tryz.func104 (by kernel_rfl) rfl Tryz.ntmps104 Tryz.results104 (by simp) ?_
  simp
  refine brn_app (fun h => ?_) (fun h => ?_)
  · simp at h
    simp
    rintro rfl
    exact h rfl
  · simp at h
    have hl:ys.length = xs.length:=by omega
    simp
    refine loopS [0,1,11,12,13] [] (fun n st => ∃ (i:Nat),i + n = xs.length ∧ (xs.drop i = ys.drop i ↔ xs = ys) ∧ st = ⟨slOf 26 [(0,.t (rd k xs.length (xs.map pi))),(1,.t (rd k' ys.length (ys.map pi))),(11,.t (rd k xs.length (xs.map pi))),(12,.t (pi xs.length)),(13,.t (pi i))],ofL []⟩) xs.length ?_ ?_
    · rintro Inv hI
      simp
      subst hI
      exact ⟨0,by omega,by simp,rfl⟩
    · rintro Inv hI n st ⟨i,hi,htk,rfl⟩
      refine ewr_sound (M:=[]) h0 ?_
      simp
      refine brn_app (fun h => ?_) (fun h => ?_)
      · simp at h
        have hib:i < ys.length:=by omega
        rw [drop_step xs i h,drop_step ys i hib,List.cons.injEq] at htk
        simp
        refine drawP (tabEnv [] []) [⟨[],allD 26,true⟩,⟨[],allD 26,true⟩,⟨[],allD 26,true⟩,⟨[],allD 26,true⟩,⟨[],allD 26,true⟩,⟨[],allD 26,true⟩,⟨[],allD 26,true⟩,⟨[],allD 26,true⟩,⟨[],allD 26,true⟩] h0 hm (tabEnv_ok tab_nil) (by kernel_rfl) (by kernel_rfl) ?_
        simp [h,hib]
        refine brn_app (fun h2 => ?_) (fun h2 => ?_)
        · simp at h2
          simp
          intro he
          exact h2 (htk.2 he).1
        · simp at h2
          simp
          subst hI
          exact Less_mk (n - 1) (by omega) ⟨i + 1,by omega,⟨fun h4 => htk.1 ⟨h2,h4⟩,fun h4 => (htk.2 h4).2⟩,by rw [wrNext i (by omega)]⟩
      · simp at h
        rw [List.drop_of_length_le (by omega),List.drop_of_length_le (by omega)] at htk
        simp
        exact htk.1 rfl
theorem ok_sameAttrsG (k k':Nat) (a b:GAttrs) (ha:attrOK a) (hb:attrOK b):CallOK Tryz.prog 45 [.agg (GAttrs.ci k a),.agg (GAttrs.ci k' b)] (.c (pb (decide (a = b)))) [.agg (GAttrs.ci k a),.agg (GAttrs.ci k' b)]:=by
  have q1:=ok_sameIntsG k k' a.Path b.Path ha.1 hb.1
  have q2:=ok_sameIntsG k k' a.Comms b.Comms ha.2 hb.2
  have e:decide (a = b) = (decide (a.Origin = b.Origin) && (decide (a.Next = b.Next) && (decide (a.Med = b.Med) && (decide (a.Pref = b.Pref) && (decide (a.Path = b.Path) && decide (a.Comms = b.Comms)))))):=by
    cases a
    cases b
    rw [Bool.eq_iff_iff]
    simp only [GAttrs.mk.injEq,decide_eq_true_eq,Bool.and_eq_true]
    constructor
    · rintro ⟨h1,h2,h3,h4,h5,h6⟩
      exact ⟨h1,h3,h4,h5,h2,h6⟩
    · rintro ⟨h1,h3,h4,h5,h2,h6⟩
      exact ⟨h1,h2,h3,h4,h5,h6⟩
  rw [e]
  refine okS (fn:=Tryz.f45) [] h0 Tryz.func45 (by kernel_rfl) rfl Tryz.ntmps45 Tryz.results45 (by simp) ?_
  simp
  by_cases h1:a.Origin = b.Origin
  · by_cases h2:a.Next = b.Next
    · by_cases h3:a.Med = b.Med
      · by_cases h4:a.Pref = b.Pref
        · simp [h1,h2,h3,h4]
          refine Inv_intro q1 ?_
          by_cases h5:a.Path = b.Path
          · simp [h5]
            refine Inv_intro q2 ?_
            simp
          · simp [h5]
        · simp [h1,h2,h3,h4]
      · simp [h1,h2,h3]
    · simp [h1,h2]
  · simp [h1]
theorem ok_sameOffers (k k':Nat) (l:List GOffer) (hl:offersOK l):CallOK Tryz.prog 55 [.c (rd k l.length (l.flatMap (GOffer.ci k))),.c (rd k' l.length (l.flatMap (GOffer.ci k')))] (.c (pb true)) [.c (rd k l.length (l.flatMap (GOffer.ci k))),.c (rd k' l.length (l.flatMap (GOffer.ci k')))]:=by
  obtain ⟨hl1,hl2⟩:=hl
  refine okS (fn:=Tryz.f55) [] h0 Tryz.func55 (by kernel_rfl) rfl Tryz.ntmps55 Tryz.results55 (by simp) ?_
  simp
  refine loopS [0,1,11,12,13] [] (fun m st => ∃ (i:Nat),i + m = l.length ∧ st = ⟨slOf 42 [(0,.t (rd k l.length (l.flatMap (GOffer.ci k)))),(1,.t (rd k' l.length (l.flatMap (GOffer.ci k')))),(11,.t (rd k l.length (l.flatMap (GOffer.ci k)))),(12,.t (pi l.length)),(13,.t (pi i))],ofL []⟩) l.length ?_ ?_
  · rintro Inv hI
    simp
    subst hI
    exact ⟨0,by omega,rfl⟩
  · rintro Inv hI m st ⟨i,hi,rfl⟩
    refine ewr_sound (M:=[]) h0 ?_
    simp
    refine brn_app (fun a => ?_) (fun a => ?_)
    · simp at a
      have hd:=fm_drop (GOffer.ci k) 7 (fun _ => rfl) l i a
      have hlen:=fm_len (GOffer.ci k) 7 (fun _ => rfl) l
      have hd':=fm_drop (GOffer.ci k') 7 (fun _ => rfl) l i a
      have hlen':=fm_len (GOffer.ci k') 7 (fun _ => rfl) l
      have hlt:i * 7 < l.length * 7:=by omega
      have hlt2:i * 7 + 1 + 6 ≤ l.length * 7:=by omega
      have hx:=hl2 _ (List.getElem_mem a)
      have hq:=ok_sameAttrsG k k' l[i].Attrs l[i].Attrs hx hx
      rw [decide_eq_true rfl] at hq
      simp
      refine drawP (tabEnv [] _) [⟨[],allD 42,true⟩,⟨[],allD 42,true⟩,⟨[],allD 42,true⟩,⟨[],allD 42,true⟩,⟨[],allD 42,true⟩,⟨[],allD 42,true⟩,⟨[],allD 42,true⟩,⟨[],allD 42,true⟩,⟨[],allD 42,true⟩,⟨[],allD 42,true⟩,⟨[],allD 42,true⟩,⟨[],allD 42,true⟩,⟨[],allD 42,true⟩,⟨[],allD 42,true⟩,⟨[],allD 42,true⟩,⟨[],allD 42,true⟩,⟨[],allD 42,true⟩,⟨[],allD 42,true⟩,⟨[],allD 42,true⟩,⟨[],allD 42,true⟩,⟨[],allD 42,true⟩,⟨[],allD 42,true⟩,⟨[],allD 42,false⟩,⟨[],allD 42,true⟩,⟨[],allD 42,true⟩] h0 hm (tabEnv_ok (tab_cons hq tab_nil)) (by kernel_rfl) (by kernel_rfl) ?_
      simp [a,hd,hlen,hd',hlen',hlt,hlt2]
      subst hI
      exact Less_mk (m - 1) (by omega) ⟨i + 1,by omega,by rw [wrNext i (by omega)]⟩
    · simp
theorem ok_samePrefixes (k k':Nat) (l:List GPrefix) (hl:l.length ≤ 140737488351232):CallOK Tryz.prog 40 [.c (rd k l.length (l.flatMap GPrefix.c)),.c (rd k' l.length (l.flatMap GPrefix.c))] (.c (pb true)) [.c (rd k l.length (l.flatMap GPrefix.c)),.c (rd k' l.length (l.flatMap GPrefix.c))]:=by
  refine okS (fn:=Tryz.f40) [] h0 Tryz.func40 (by kernel_rfl) rfl Tryz.ntmps40 Tryz.results40 (by simp) ?_
  simp
  refine loopS [0,1,11,12,13] [] (fun m st => ∃ (i:Nat),i + m = l.length ∧ st = ⟨slOf 26 [(0,.t (rd k l.length (l.flatMap GPrefix.c))),(1,.t (rd k' l.length (l.flatMap GPrefix.c))),(11,.t (rd k l.length (l.flatMap GPrefix.c))),(12,.t (pi l.length)),(13,.t (pi i))],ofL []⟩) l.length ?_ ?_
  · rintro Inv hI
    simp
    subst hI
    exact ⟨0,by omega,rfl⟩
  · rintro Inv hI m st ⟨i,hi,rfl⟩
    refine ewr_sound (M:=[]) h0 ?_
    simp
    refine brn_app (fun a => ?_) (fun a => ?_)
    · simp at a
      have hd:=fm_drop GPrefix.c 2 (fun _ => rfl) l i a
      have hlen:=fm_len GPrefix.c 2 (fun _ => rfl) l
      have hlt:i * 2 < l.length * 2:=by omega
      simp
      refine drawP (tabEnv [] []) [⟨[],allD 26,true⟩,⟨[],allD 26,true⟩,⟨[],allD 26,true⟩,⟨[],allD 26,true⟩,⟨[],allD 26,true⟩,⟨[],allD 26,true⟩,⟨[],allD 26,true⟩,⟨[],allD 26,true⟩,⟨[],allD 26,true⟩] h0 hm (tabEnv_ok tab_nil) (by kernel_rfl) (by kernel_rfl) ?_
      simp [a,hd,hlen,hlt]
      subst hI
      exact Less_mk (m - 1) (by omega) ⟨i + 1,by omega,by rw [wrNext i (by omega)]⟩
    · simp
theorem ok_sameRibs (k k':Nat) (r:GRib) (hr:ribOK r):CallOK Tryz.prog 41 [.agg (GRib.ci k r),.agg (GRib.ci k' r)] (.c (pb true)) [.agg (GRib.ci k r),.agg (GRib.ci k' r)]:=by
  obtain ⟨hr1,hr2⟩:=hr
  refine okS (fn:=Tryz.f41) [] h0 Tryz.func41 (by kernel_rfl) rfl Tryz.ntmps41 Tryz.results41 (by simp) ?_
  simp
  refine loopS [2,3,22,23] [.op 0 0 0,.op 0 1 0] (fun m st => ∃ (i:Nat),i + m = r.Rows.length ∧ st = ⟨slOf 56 [(2,.ptr ⟨.op 0 0 0,[]⟩ 0),(3,.ptr ⟨.op 0 1 0,[]⟩ 0),(22,.t (pi r.Rows.length)),(23,.t (pi i))],ofL [(.op 0 0 0,.sl 0 32 1 (GRib.ci k r)),(.op 0 1 0,.sl 0 32 1 (GRib.ci k' r))]⟩) r.Rows.length ?_ ?_
  · rintro Inv hI
    simp
    subst hI
    exact ⟨0,by omega,rfl⟩
  · rintro Inv hI m st ⟨i,hi,rfl⟩
    refine ewr_sound (M:=[]) h0 ?_
    simp
    refine brn_app (fun a => ?_) (fun a => ?_)
    · simp at a
      have hd:=fm_drop (GRow.ci k) 3 (fun _ => rfl) r.Rows i a
      have hlen:=fm_len (GRow.ci k) 3 (fun _ => rfl) r.Rows
      have hd':=fm_drop (GRow.ci k') 3 (fun _ => rfl) r.Rows i a
      have hlen':=fm_len (GRow.ci k') 3 (fun _ => rfl) r.Rows
      have hlt:i * 3 < r.Rows.length * 3:=by omega
      have hlt2:i * 3 + 2 ≤ r.Rows.length * 3:=by omega
      have hq:=ok_sameOffers k k' r.Rows[i].Offers (hr2 _ (List.getElem_mem a))
      simp
      refine drawP (tabEnv [] _) [⟨[.op 0 0 0],allD 56,true⟩,⟨[.op 0 0 0],allD 56,true⟩,⟨[],allD 56,true⟩,⟨[.op 0 0 0],allD 56,true⟩,⟨[.op 0 0 0],allD 56,true⟩,⟨[.op 0 0 0],allD 56,true⟩,⟨[.op 0 1 0],allD 56,true⟩,⟨[.op 0 1 0],allD 56,true⟩,⟨[],allD 56,true⟩,⟨[.op 0 1 0],allD 56,true⟩,⟨[.op 0 1 0],allD 56,true⟩,⟨[.op 0 1 0],allD 56,true⟩,⟨[],allD 56,true⟩,⟨[],allD 56,true⟩,⟨[.op 0 0 0],allD 56,true⟩,⟨[.op 0 0 0],allD 56,true⟩,⟨[],allD 56,true⟩,⟨[.op 0 0 0],allD 56,true⟩,⟨[.op 0 0 0],allD 56,true⟩,⟨[.op 0 0 0],allD 56,true⟩,⟨[.op 0 1 0],allD 56,true⟩,⟨[.op 0 1 0],allD 56,true⟩,⟨[],allD 56,true⟩,⟨[.op 0 1 0],allD 56,true⟩,⟨[.op 0 1 0],allD 56,true⟩,⟨[.op 0 1 0],allD 56,true⟩,⟨[.op 0 0 0,.op 0 1 0],[26,27,28,29,30,31,32,33,34,35,36,37,38,39,40,41,42,43,44,45,46,47,48,49,50,51,52,53,54],false⟩,⟨[],allD 56,true⟩,⟨[],allD 56,true⟩] h0 hm (tabEnv_ok (tab_cons hq tab_nil)) (by kernel_rfl) (by kernel_rfl) ?_
      simp [a,hd,hlen,hd',hlen',hlt,hlt2]
      subst hI
      exact Less_mk (m - 1) (by omega) ⟨i + 1,by omega,by rw [wrNext i (by omega)]; simp⟩
    · simp
end Go.V
