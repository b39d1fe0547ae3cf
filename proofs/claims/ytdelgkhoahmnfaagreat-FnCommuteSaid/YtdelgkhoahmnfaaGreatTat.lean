/- What functions of the seat's program do, each proved of its code, under the bounds that its theorem names. -/
import Derived.Test.YtdelgkhoahmnfaaGreatTas
set_option linter.all false
namespace Go.V
open Go.Proofs
set_option maxHeartbeats 1000000
set_option maxRecDepth 10000
set_option linter.unusedSimpArgs false
set_option linter.unusedVariables false
theorem ok_iTakeAll (k k':Nat) (own:Int) (peers:List Int) (l:List GUpdate) (hpl:peers.length ≤ 140737488351232) (hl:l.length ≤ 140737488351232) (hus:∀ u ∈ l,updB u):CallOK Tryz.prog 34 [.c (pi own),.c (rd k peers.length (peers.map pi)),.c (rd k' l.length (l.flatMap (GUpdate.ci k')))] (.tup [.agg (GRib.co (rTakeAll own peers l).1),.c (pb (rTakeAll own peers l).2)]) [.c (pi own),.c (rd k peers.length (peers.map pi)),.c (rd k' l.length (l.flatMap (GUpdate.ci k')))]:=by
  refine okS (fn:=Tryz.f34) [] h0 Tryz.func34 (by kernel_rfl) rfl Tryz.ntmps34 Tryz.results34 (by simp) ?_
  simp
  refine Inv_intro (law_iNewRib own) ?_
  cases ho:isAsnB own with
  | false => simp [rTakeAll,rNewRib,ho]
  | true =>
    have hnr:rNewRib own = (⟨own,[]⟩,true):=by simp [rNewRib,ho]
    rw [hnr]
    by_cases h40:l.length ≤ 40
    · have d40:¬ (40:Int) < (l.length:Int):=by omega
      by_cases hpp:peers.length = l.length
      · have dpp:(peers.length:Int) = (l.length:Int):=by omega
        have er:rTakeAll own peers l = match tkI own peers l l.length with
            | some r => (r,true)
            | none => (⟨0,[]⟩,false):=by
          unfold rTakeAll
          rw [if_pos ⟨ho,h40,hpp⟩]
          all_goals (cases tkI own peers l l.length <;> rfl)
        simp [d40,dpp]
        refine loopS [1,6,8,35,36,37] [.op 0 0 0,.op 1 5 0] (fun m st => ∃ (i:Nat) (r:GRib),i + m = l.length ∧ tkI own peers l i = some r ∧ st = ⟨slOf 59 [(1,.t (rd k peers.length (peers.map pi))),(6,.ptr ⟨.op 0 0 0,[]⟩ 0),(8,.ptr ⟨.op 1 5 0,[]⟩ 0),(35,.t (rd k' l.length (l.flatMap (GUpdate.ci k')))),(36,.t (pi l.length)),(37,.t (pi i))],ofL [(.op 0 0 0,.sl 0 32 1 [pi 0,.sl 0 nilE 0 []]),(.op 1 5 0,.sl 0 32 1 (GRib.co r))]⟩) l.length ?_ ?_
        · rintro Inv hI
          simp
          subst hI
          exact ⟨0,⟨own,[]⟩,by omega,rfl,rfl⟩
        · rintro Inv hI m st ⟨i,r,hi,hr,rfl⟩
          have hg:=tkI_good ho i r hr
          refine ewr_sound (M:=[]) h0 ?_
          simp
          refine brn_app (fun a => ?_) (fun a => ?_)
          · simp at a
            have ap:i < peers.length:=by omega
            have hnx:=tkI_succ hr a ap
            have hd:=fm_drop (GUpdate.ci k') 8 (fun _ => rfl) l i a
            have hlen:=fm_len (GUpdate.ci k') 8 (fun _ => rfl) l
            have hlt:i * 8 < l.length * 8:=by omega
            have hpd:(peers.map pi).drop i = pi peers[i] :: (peers.map pi).drop (i + 1):=by
              rw [← List.map_drop,List.drop_eq_getElem_cons ap,List.map_cons,← List.map_drop]
            have hT:=ok_iTakeUpdate 0 k' r peers[i] l[i] (good_small hg).1 (updB_ok (hus _ (List.getElem_mem a)))
            unfold stepT at hnx
            simp [a,ap,hd,hlen,hlt]
            refine drawP (tabEnv [] _) [⟨[.op 1 5 0],allD 59,true⟩,⟨[],allD 59,true⟩,⟨[],allD 59,true⟩,⟨[],allD 59,true⟩,⟨[],allD 59,true⟩,⟨[.op 6 3 0],allD 59,true⟩,⟨[.op 1 5 0],allD 59,true⟩,⟨[.op 7 6 1,.op 7 6 2],allD 59,true⟩,⟨[.op 7 6 1],allD 59,true⟩,⟨[.op 7 6 2],allD 59,true⟩,⟨[],allD 59,true⟩,⟨[],allD 59,false⟩,⟨[.op 7 11 0,.op 7 6 1],[43,44,45,46,47,48,49,42,50,51,52,12,13,14],false⟩,⟨[.op 7 6 2],allD 59,true⟩,⟨[],allD 59,true⟩] h0 hm (tabEnv_ok (tab_cons hT tab_nil)) (by kernel_rfl) (by kernel_rfl) ?_
            simp [a,ap,hd,hlen,hlt,hpd,hpp]
            cases hb:(rTakeUpdate r peers[i] l[i]).2.2 with
            | false =>
              rw [hb,if_neg (by simp)] at hnx
              have hn:=tkI_none hnx l.length (by omega)
              rw [hn] at er
              simp only at er
              rw [er]
              simp
            | true =>
              rw [hb,if_pos rfl] at hnx
              have hOl:=fm_len GRow.co 3 (fun _ => rfl) (rTakeUpdate r peers[i] l[i]).1.Rows
              have htO:List.take ((rTakeUpdate r peers[i] l[i]).1.Rows.length * 3) ((rTakeUpdate r peers[i] l[i]).1.Rows.flatMap GRow.co) = (rTakeUpdate r peers[i] l[i]).1.Rows.flatMap GRow.co:=List.take_of_length_le (by omega)
              simp [hOl,htO]
              subst hI
              refine Less_mk (m - 1) (by omega) ⟨i + 1,_,by omega,hnx,?_⟩
              rw [wrNext i (by omega)]
              simp [hpp]
          · simp at a
            have hil:i = l.length:=by omega
            subst hil
            rw [hr] at er
            simp only at er
            have hOl:=fm_len GRow.co 3 (fun _ => rfl) r.Rows
            have htO:List.take (r.Rows.length * 3) (r.Rows.flatMap GRow.co) = r.Rows.flatMap GRow.co:=List.take_of_length_le (by omega)
            rw [er]
            simp [hOl,htO]
      · have dpp:¬ (peers.length:Int) = (l.length:Int):=by omega
        simp [d40,dpp,rTakeAll,hpp]
    · have d40:(40:Int) < (l.length:Int):=by omega
      simp [d40,rTakeAll,h40]
theorem ok_l8Put (k k':Nat) (l:List GOffer) (o:GOffer) (hl:l.length ≤ 1000) (hx:∀ x ∈ l,x.Attrs.Path.length ≤ 1048576 ∧ x.Attrs.Comms.length ≤ 1048576) (ho:o.Attrs.Path.length ≤ 1048576 ∧ o.Attrs.Comms.length ≤ 1048576):CallOK Tryz.prog 176 [.c (rd k l.length (l.flatMap (GOffer.ci k))),.agg (GOffer.ci k' o)] (.c (.sl 0 81 (putO o l).length ((putO o l).flatMap GOffer.co))) [.c (rd k l.length (l.flatMap (GOffer.ci k))),.agg (GOffer.ci k' o)]:=by
  refine okS (fn:=Tryz.f176) [] h0 Tryz.func176 (by kernel_rfl) rfl Tryz.ntmps176 Tryz.results176 (by simp) ?_
  simp
  refine loopS [0,3,5] [.op 0 0 0] (fun m st => ∃ (i:Nat),i + m = l.length ∧ (∀ (q:Nat) (hq:q < i) (hl:q < l.length),cmpI l[q].Peer o.Peer < 0) ∧ st = ⟨slOf 58 [(0,.t (rd k l.length (l.flatMap (GOffer.ci k)))),(3,.ptr ⟨.op 0 0 0,[]⟩ 0),(5,.t (pi i))],ofL [(.op 0 0 0,.sl 0 81 1 (GOffer.ci k' o))]⟩) l.length ?_ ?_
  · rintro Inv hI
    simp
    subst hI
    exact ⟨0,by omega,by intro q hq; omega,by simp⟩
  · rintro Inv hI m st ⟨i,hi,hall,rfl⟩
    refine ewr_sound (M:=[]) h0 ?_
    simp
    have hlen:=fm_len (GOffer.ci k) 7 (fun _ => rfl) l
    have hfin:∀ (kk:Nat),(i = l.length ∨ ∃ h:i < l.length,¬ l[i].Peer < o.Peer) → i = offAt o.Peer l:=fun _ h => by
      unfold offAt
      refine (bsI_eq _ l i (by omega) hall fun h2 => ?_).symm
      rcases h with h | ⟨h3,h⟩
      · omega
      · have:¬ cmpI l[i].Peer o.Peer < 0:=by rw [cmpI_lt]; exact h
        omega
    have hown1:=ok_l8Own k (l.take i) (by rw [List.length_take]; omega) (fun x hx' => hx x (List.mem_of_mem_take hx'))
    have hti:(l.take i).length = i:=by rw [List.length_take]; omega
    rw [← fm_take (GOffer.ci k) 7 (fun _ => rfl),hti] at hown1
    have hAl:=fm_len GOffer.co 7 (fun _ => rfl) (l.take i)
    rw [hti] at hAl
    have htA:List.take (i * 7) ((l.take i).flatMap GOffer.co) = (l.take i).flatMap GOffer.co:=List.take_of_length_le (by omega)
    have hb1:(i + 1) * 88 ≤ 140737488355328:=by omega
    have hb2:i ≤ 9223372036854775806:=by omega
    by_cases a:i < l.length
    · have hd:=fm_drop (GOffer.ci k) 7 (fun _ => rfl) l i a
      have hlt:i * 7 < l.length * 7:=by omega
      refine drawP (tabEnv [] _) [⟨[],allD 58,true⟩,⟨[],allD 58,true⟩,⟨[],allD 58,true⟩,⟨[],allD 58,true⟩,⟨[],allD 58,true⟩,⟨[],allD 58,true⟩,⟨[],allD 58,true⟩,⟨[],allD 58,true⟩,⟨[],allD 58,true⟩,⟨[],allD 58,true⟩,⟨[.op 0 0 0],allD 58,true⟩,⟨[.op 0 0 0],allD 58,true⟩,⟨[],allD 58,true⟩,⟨[],allD 58,true⟩] h0 hm (tabEnv_ok tab_nil) (by kernel_rfl) (by kernel_rfl) ?_
      simp [a,hd,hlen,hlt]
      refine brn_app (fun b => ?_) (fun b => ?_)
      · simp at b
        simp
        subst hI
        refine Less_mk (m - 1) (by omega) ⟨i + 1,by omega,?_,by rw [wrNext i (by omega)]; simp⟩
        intro q hq hql
        by_cases hqi:q = i
        · subst hqi; rw [cmpI_lt]; exact b
        · exact hall q (by omega) hql
      · simp at b
        have hat:=hfin 0 (.inr ⟨a,by omega⟩)
        have hile:i ≤ l.length:=by omega
        have hput:putO o l = l.take i ++ o :: l.drop (if offIs o.Peer l = true then i + 1 else i):=by unfold putO; rw [← hat]
        have hoi:offIs o.Peer l = decide (l[i].Peer = o.Peer):=by
          have e1:bsI (fun x:GOffer => cmpI x.Peer o.Peer) l = i:=hat.symm
          unfold offIs bsF
          rw [e1,List.getElem?_eq_getElem a]
          simp only [cmpI_eq]
        rw [hput,List.length_append,List.length_cons,hti,List.flatMap_append,List.flatMap_cons,hoi]
        generalize (l.take i).flatMap GOffer.co = A at hAl htA hown1 ⊢
        have hown2:=ok_l8Own k (l.drop (if l[i].Peer = o.Peer then i + 1 else i)) (by rw [List.length_drop]; omega) (fun x hx' => hx x (List.mem_of_mem_drop hx'))
        rw [← fm_dropAll (GOffer.ci k) 7 (fun _ => rfl)] at hown2
        simp [hile,hlen]
        refine Inv_intro hown1 ?_
        simp
        refine drawP (tabEnv [] _) [⟨[.op 4 3 0],allD 58,true⟩,⟨[.op 0 0 0],allD 58,true⟩,⟨[.op 0 0 0],allD 58,true⟩,⟨[.op 0 0 0],allD 58,true⟩,⟨[.op 0 0 0],allD 58,true⟩,⟨[],allD 58,false⟩,⟨[.op 5 5 1,.op 5 5 5],allD 58,true⟩,⟨[.op 5 5 1,.op 5 5 5],[27,28,29,30,31,32,33,34,35,6],false⟩,⟨[.op 4 3 0,.op 5 7 0],[27,28,29,30,31,32,33,34,35,6],false⟩,⟨[.op 5 8 0],allD 58,true⟩] h0 hm (tabEnv_ok (tab_cons (ok_l4Own k' o.Attrs ho.1 ho.2) tab_nil)) (by kernel_rfl) (by kernel_rfl) ?_
        simp [hAl,htA,hb1,hb2]
        refine drawP (tabEnv [] _) [⟨[],allD 58,true⟩,⟨[],allD 58,true⟩,⟨[],allD 58,true⟩,⟨[],allD 58,true⟩,⟨[],allD 58,true⟩,⟨[],allD 58,true⟩,⟨[],allD 58,true⟩,⟨[],allD 58,true⟩,⟨[],allD 58,true⟩,⟨[],allD 58,true⟩,⟨[.op 0 0 0],allD 58,true⟩,⟨[.op 0 0 0],allD 58,true⟩,⟨[],allD 58,true⟩,⟨[],allD 58,true⟩] h0 hm (tabEnv_ok tab_nil) (by kernel_rfl) (by kernel_rfl) ?_
        simp [a,hd,hlen,hlt]
        have wi:IntKind.i64.wrap ((i:Int) + 1) = (i:Int) + 1:=wrap64 (by omega) (by omega)
        have h01:(0:Int) ≤ (i:Int) + 1:=by omega
        have h02:((i:Int) + 1).toNat = i + 1:=by omega
        have h03:(i:Int) + 1 ≤ (l.length:Int):=by omega
        have h04:i + 1 ≤ l.length:=by omega
        by_cases hpp:l[i].Peer = o.Peer
        · rw [decide_eq_true hpp]
          simp only [if_pos hpp,List.length_drop] at hown2 ⊢
          obtain ⟨q,hq⟩:∃ q,l.length - (i + 1) = q:=⟨_,rfl⟩
          have hDl:=fm_len GOffer.co 7 (fun _ => rfl) (l.drop (i + 1))
          have hEl:(List.drop ((i + 1) * 7) (l.flatMap (GOffer.ci k))).length = q * 7:=by rw [List.length_drop,hlen]; omega
          rw [List.length_drop,hq] at hDl
          rw [hq] at hown2 ⊢
          generalize (l.drop (i + 1)).flatMap GOffer.co = D at *
          have hEt:List.take (q * 7) (List.drop ((i + 1) * 7) (l.flatMap (GOffer.ci k))) = List.drop ((i + 1) * 7) (l.flatMap (GOffer.ci k)):=List.take_of_length_le (by omega)
          have e1:i + (q + 1) = i + 1 + q:=by omega
          have hb3:(i + 1 + q) * 88 ≤ 140737488355328:=by omega
          have hb4:i + 1 + q ≤ 9223372036854775807:=by omega
          have hF:=List.take_of_length_le (l:=A ++ (GOffer.co o ++ D)) (i:=(i + 1 + q) * 7) (by rw [List.length_append,List.length_append,hAl,hDl]; show i * 7 + (7 + q * 7) ≤ _; omega)
          have hF1:=List.take_of_length_le (l:=A ++ GOffer.co o) (i:=(i + 1) * 7) (by rw [List.length_append,hAl]; show i * 7 + 7 ≤ _; omega)
          have hDt:=List.take_of_length_le (l:=D) (i:=q * 7) (by omega)
          simp only [GOffer.co,GAttrs.co,List.cons_append,List.nil_append] at hF hF1
          have hw1:(i + 1 + q) * 7 ≤ i * 7 + (q * 7 + 1 + 1 + 1 + 1 + 1 + 1 + 1):=by omega
          have hw2:(i + 1) * 7 ≤ i * 7 + 7:=by omega
          rw [e1]
          simp [wi,h01,h02,h03,h04,hlen,hq,hEt]
          refine Inv_intro hown2 ?_
          by_cases hq0:q = 0
          · have hD0:D = []:=List.length_eq_zero_iff.1 (by omega)
            subst hD0
            simp only [hq0] at *
            simp [hF1,hAl,hw2]
          · simp [hq0,hDl,hAl,hb3,hb4,hF,hF1,hDt,hw1,hw2]
        · rw [decide_eq_false hpp]
          simp only [if_neg hpp,List.length_drop] at hown2 ⊢
          obtain ⟨q,hq⟩:∃ q,l.length - i = q:=⟨_,rfl⟩
          have hDl:=fm_len GOffer.co 7 (fun _ => rfl) (l.drop i)
          have hEl:(List.drop (i * 7) (l.flatMap (GOffer.ci k))).length = q * 7:=by rw [List.length_drop,hlen]; omega
          rw [List.length_drop,hq] at hDl
          rw [hq] at hown2 ⊢
          generalize (l.drop i).flatMap GOffer.co = D at *
          have hEt:List.take (q * 7) (List.drop (i * 7) (l.flatMap (GOffer.ci k))) = List.drop (i * 7) (l.flatMap (GOffer.ci k)):=List.take_of_length_le (by omega)
          have e1:i + (q + 1) = i + 1 + q:=by omega
          have hb3:(i + 1 + q) * 88 ≤ 140737488355328:=by omega
          have hb4:i + 1 + q ≤ 9223372036854775807:=by omega
          have hF:=List.take_of_length_le (l:=A ++ (GOffer.co o ++ D)) (i:=(i + 1 + q) * 7) (by rw [List.length_append,List.length_append,hAl,hDl]; show i * 7 + (7 + q * 7) ≤ _; omega)
          have hF1:=List.take_of_length_le (l:=A ++ GOffer.co o) (i:=(i + 1) * 7) (by rw [List.length_append,hAl]; show i * 7 + 7 ≤ _; omega)
          have hDt:=List.take_of_length_le (l:=D) (i:=q * 7) (by omega)
          simp only [GOffer.co,GAttrs.co,List.cons_append,List.nil_append] at hF hF1
          have hw1:(i + 1 + q) * 7 ≤ i * 7 + (q * 7 + 1 + 1 + 1 + 1 + 1 + 1 + 1):=by omega
          have hw2:(i + 1) * 7 ≤ i * 7 + 7:=by omega
          rw [e1]
          simp [hile,hlen,hq,hEt]
          refine Inv_intro hown2 ?_
          by_cases hq0:q = 0
          · have hD0:D = []:=List.length_eq_zero_iff.1 (by omega)
            subst hD0
            simp only [hq0] at *
            simp [hF1,hAl,hw2]
          · simp [hq0,hDl,hAl,hb3,hb4,hF,hF1,hDt,hw1,hw2]
    · have hil:i = l.length:=by omega
      have hat:=hfin 0 (.inl hil)
      have hoi:offIs o.Peer l = false:=by
        have e1:bsI (fun x:GOffer => cmpI x.Peer o.Peer) l = i:=hat.symm
        unfold offIs bsF
        rw [e1,List.getElem?_eq_none (Nat.le_of_not_lt a)]
      have hput:putO o l = l.take i ++ [o]:=by
        unfold putO
        rw [← hat,hoi,if_neg (by simp),List.drop_of_length_le (by omega)]
      rw [hput,List.length_append,hti,List.flatMap_append]
      generalize (l.take i).flatMap GOffer.co = A at hAl htA hown1 ⊢
      have hown2:=ok_l8Own k [] (by simp) (by simp)
      have hile:i ≤ l.length:=by omega
      have hile2:(i:Int) ≤ (l.length:Int):=by omega
      have hq:l.length - i = 0:=by omega
      have hD:List.drop (i * 7) (l.flatMap (GOffer.ci k)) = []:=List.drop_of_length_le (by omega)
      have hF1:=List.take_of_length_le (l:=A ++ GOffer.co o) (i:=(i + 1) * 7) (by rw [List.length_append,hAl]; show i * 7 + 7 ≤ _; omega)
      simp only [GOffer.co,GAttrs.co,List.cons_append,List.nil_append] at hF1
      have hw2:(i + 1) * 7 ≤ i * 7 + 7:=by omega
      refine drawP (tabEnv [] _) [⟨[],allD 58,true⟩,⟨[],allD 58,true⟩,⟨[],allD 58,true⟩,⟨[],allD 58,true⟩,⟨[],allD 58,true⟩,⟨[],allD 58,true⟩,⟨[],allD 58,true⟩,⟨[],allD 58,true⟩,⟨[],allD 58,true⟩,⟨[],allD 58,true⟩,⟨[.op 0 0 0],allD 58,true⟩,⟨[.op 0 0 0],allD 58,true⟩,⟨[],allD 58,true⟩,⟨[],allD 58,true⟩] h0 hm (tabEnv_ok tab_nil) (by kernel_rfl) (by kernel_rfl) ?_
      simp [a]
      simp [hile,hlen]
      refine Inv_intro hown1 ?_
      simp
      refine drawP (tabEnv [] _) [⟨[.op 4 3 0],allD 58,true⟩,⟨[.op 0 0 0],allD 58,true⟩,⟨[.op 0 0 0],allD 58,true⟩,⟨[.op 0 0 0],allD 58,true⟩,⟨[.op 0 0 0],allD 58,true⟩,⟨[],allD 58,false⟩,⟨[.op 5 5 1,.op 5 5 5],allD 58,true⟩,⟨[.op 5 5 1,.op 5 5 5],[27,28,29,30,31,32,33,34,35,6],false⟩,⟨[.op 4 3 0,.op 5 7 0],[27,28,29,30,31,32,33,34,35,6],false⟩,⟨[.op 5 8 0],allD 58,true⟩] h0 hm (tabEnv_ok (tab_cons (ok_l4Own k' o.Attrs ho.1 ho.2) tab_nil)) (by kernel_rfl) (by kernel_rfl) ?_
      simp [hAl,htA,hb1,hb2]
      refine drawP (tabEnv [] _) [⟨[],allD 58,true⟩,⟨[],allD 58,true⟩,⟨[],allD 58,true⟩,⟨[],allD 58,true⟩,⟨[],allD 58,true⟩,⟨[],allD 58,true⟩,⟨[],allD 58,true⟩,⟨[],allD 58,true⟩,⟨[],allD 58,true⟩,⟨[],allD 58,true⟩,⟨[.op 0 0 0],allD 58,true⟩,⟨[.op 0 0 0],allD 58,true⟩,⟨[],allD 58,true⟩,⟨[],allD 58,true⟩] h0 hm (tabEnv_ok tab_nil) (by kernel_rfl) (by kernel_rfl) ?_
      simp [a]
      simp [hile,hlen,hq,hD]
      refine Inv_intro hown2 ?_
      simp [hF1,hAl,hw2]
theorem ok_l13Set (k':Nat) (r:GRib) (p:GPrefix) (o:GOffer) (hg:gW r.Rows) (hl:r.Rows.length ≤ 1000) (ho:o.Attrs.Path.length ≤ 1048576 ∧ o.Attrs.Comms.length ≤ 1048576):CallOK Tryz.prog 138 [.agg (GRib.co r),.agg p.c,.agg (GOffer.ci k' o)] (.agg (GRib.co ⟨r.Own,putW p o r.Rows⟩)) [.agg [pi r.Own,.hole],.agg p.c,.agg (GOffer.ci k' o)]:=by
  refine okS (fn:=Tryz.f138) [] h0 Tryz.func138 (by kernel_rfl) rfl Tryz.ntmps138 Tryz.results138 (by simp) ?_
  simp
  obtain ⟨own,rows⟩:=r
  simp only at hg hl
  refine Inv_intro (ok_l13At 0 ⟨own,rows⟩ p (Nat.le_trans hl (by decide))) ?_
  simp
  have hlen:=fm_len GRow.co 3 (fun _ => rfl) rows
  cases hi:rowIs p rows with
  | false =>
    have e:putW p o rows = rows.take (rowAt p rows) ++ ⟨p,[o]⟩ :: rows.drop (rowAt p rows):=by
      unfold putW
      rw [hi]
      rfl
    have hk:rowAt p rows ≤ rows.length:=bs_le _ rows
    rw [e]
    generalize rowAt p rows = k at hk e ⊢
    have hW:=ok_l8Put 1 k' [] o (by simp) (by simp) ho
    rw [putO_nil] at hW
    obtain ⟨q,hq⟩:∃ q,rows.length - k = q:=⟨_,rfl⟩
    have hZc:=ins_cells rows k ⟨p,[o]⟩
    have hZl:(rows.take k ++ ⟨p,[o]⟩ :: rows.drop k).length = k + 1 + q:=by
      rw [List.length_append,List.length_cons,List.length_take,List.length_drop]
      omega
    rw [hZc,hZl]
    clear e hZc hZl
    generalize rows.flatMap GRow.co = C at *
    have hAl:(List.take (k * 3) C).length = k * 3:=by rw [List.length_take]; omega
    have hHl:(List.take (k * 3) (C.map PT.hollow)).length = k * 3:=by rw [List.length_take,List.length_map]; omega
    have hBl:(List.drop (k * 3) C).length = q * 3:=by rw [List.length_drop]; omega
    have hD:List.drop (k * 3) (List.take (k * 3) (C.map PT.hollow) ++ List.drop (k * 3) C) = List.drop (k * 3) C:=List.drop_left' hHl
    have hT:=List.take_of_length_le (l:=List.drop (k * 3) C) (i:=q * 3) (by omega)
    have hAA:=List.take_of_length_le (l:=List.take (k * 3) C) (i:=k * 3) (by omega)
    have hkle:k ≤ rows.length:=hk
    have hki:(k:Int) ≤ (rows.length:Int):=by omega
    have hk3:k * 3 ≤ rows.length * 3:=by omega
    have hb1:k * 40 ≤ 140737488355328:=by omega
    have hb2:k ≤ 9223372036854775807:=by omega
    have hb3:(k + 1) * 40 ≤ 140737488355328:=by omega
    have hb4:k ≤ 9223372036854775806:=by omega
    have hb5:(k + 1 + q) * 40 ≤ 140737488355328:=by omega
    have hb6:k + 1 + q ≤ 9223372036854775807:=by omega
    have hle:k * 3 + q * 3 ≤ rows.length * 3:=by omega
    have hmin:min (q * 3) (rows.length * 3 - k * 3) = q * 3:=by omega
    have hB0:q = 0 → List.drop (k * 3) C = []:=fun h => List.length_eq_zero_iff.1 (by omega)
    obtain ⟨B,hBe⟩:∃ B,B = List.drop (k * 3) C:=⟨_,rfl⟩
    obtain ⟨A,hAe⟩:∃ A,A = List.take (k * 3) C:=⟨_,rfl⟩
    by_cases hk0:k = 0
    · have hk0':=eq_true hk0
      have hA0:List.take (k * 3) C = []:=by rw [hk0]; rfl
      have e1:k + 1 + q = 1 + q:=by omega
      rw [e1,hA0] at *
      simp [hlen,hki,hkle,hk0',hk3,hA0]
      refine ewp_keep [3,4,5,6,7,9] [.op 0 0 0,.op 0 1 0,.op 0 2 0,.op 0 3 0] ?_
      simp
      refine drawK [] (tabEnv [] _) [⟨[],allD 52,true⟩,⟨[.op 0 1 0],allD 52,true⟩,⟨[.op 0 2 0],allD 52,true⟩,⟨[],allD 52,false⟩,⟨[.op 7 3 0],allD 52,true⟩,⟨[.op 7 3 0,.op 7 4 0],[37,38,39,40,41,42,43,9],false⟩,⟨[.op 6 5 0,.op 7 5 0],[37,38,39,40,41,42,43,9],false⟩,⟨[.op 6 5 0,.op 7 5 0,.op 7 6 0],allD 52,true⟩] h0 hm (tabEnv_ok (tab_cons hW tab_nil)) (by kernel_rfl) (by kernel_rfl) ?_
      simp
      by_cases hq0:q = 0
      · have hB1:=hB0 hq0
        simp [hlen,hki,hkle,hk3,hq,hq0,hB1]
      · have hb7:(1 + q) * 40 ≤ 140737488355328:=by omega
        have hb8:1 + q ≤ 9223372036854775807:=by omega
        have hw:(1 + q) * 3 ≤ q * 3 + 1 + 1 + 1:=by omega
        have hF:∀ (a b c:PT),List.take ((1 + q) * 3) (a :: b :: c :: List.drop (k * 3) C) = a :: b :: c :: List.drop (k * 3) C:=fun a b c => List.take_of_length_le (by simp only [List.length_cons,hBl]; omega)
        simp [hlen,hki,hkle,hk3,hq,hq0,hD,hT,hle,hb7,hb8,hBl,hw,hF]
    · simp [hlen,hki,hkle,hk0,hk3,hb1,hb2,hAA]
      refine ewp_keep [3,4,5,6,7,9] [.op 6 5 0,.op 0 0 0,.op 0 1 0,.op 0 2 0,.op 0 3 0] ?_
      simp
      refine drawP (tabEnv [] _) [⟨[.op 6 5 0],allD 52,true⟩,⟨[.op 0 1 0],allD 52,true⟩,⟨[.op 0 2 0],allD 52,true⟩,⟨[],allD 52,false⟩,⟨[.op 7 3 0],allD 52,true⟩,⟨[.op 7 3 0,.op 7 4 0],[37,38,39,40,41,42,43,9],false⟩,⟨[.op 6 5 0,.op 7 5 0],[37,38,39,40,41,42,43,9],false⟩,⟨[.op 7 6 0],allD 52,true⟩] h0 hm (tabEnv_ok (tab_cons hW tab_nil)) (by kernel_rfl) (by kernel_rfl) ?_
      simp [hAl,hAA,hb3,hb4]
      by_cases hq0:q = 0
      · have hB1:=hB0 hq0
        simp [hlen,hki,hkle,hk3,hq,hq0,hD,hB1]
      · have hw:(k + 1 + q) * 3 ≤ k * 3 + (rows.length * 3 - k * 3 + 1 + 1 + 1):=by omega
        have hF:∀ (a b c:PT),List.take ((k + 1 + q) * 3) (List.take (k * 3) C ++ a :: b :: c :: List.drop (k * 3) C) = List.take (k * 3) C ++ a :: b :: c :: List.drop (k * 3) C:=fun a b c => List.take_of_length_le (by simp only [List.length_append,List.length_cons,hBl,hAl]; omega)
        simp [hlen,hki,hkle,hk3,hq,hq0,hD,hT,hle,hb5,hb6,hw,hF]
  | true =>
    obtain ⟨hk,hp⟩:=rowIs_lt hi
    have ek:rows[rowAt p rows]? = some rows[rowAt p rows]:=List.getElem?_eq_getElem hk
    have e:putW p o rows = rows.set (rowAt p rows) ⟨rows[rowAt p rows].Prefix,putO o rows[rowAt p rows].Offers⟩:=by
      unfold putW
      rw [hi,ek]
      rfl
    rw [e]
    generalize rowAt p rows = k at hk hp e ⊢
    have hd:=fm_drop GRow.co 3 (fun _ => rfl) rows k hk
    have hlt:k * 3 < rows.length * 3:=by omega
    have hlt2:k * 3 + 2 < rows.length * 3:=by omega
    have hlt3:k * 3 + 2 + 1 ≤ rows.length * 3:=by omega
    have hx:=goodRow_spec.1 (hg.2 _ (List.getElem_mem hk))
    have hset:=fun ys => set_cells rows k hk ys
    have hSl:∀ y,(rows.set k y).length = rows.length:=fun y => List.length_set
    have hSc:∀ y,((rows.set k y).flatMap GRow.co).length = rows.length * 3:=fun y => by rw [fm_len GRow.co 3 (fun _ => rfl),hSl]
    have hSt:∀ y,List.take (rows.length * 3) ((rows.set k y).flatMap GRow.co) = (rows.set k y).flatMap GRow.co:=fun y => List.take_of_length_le (Nat.le_of_eq (hSc y))
    generalize hxe:rows[k] = x at hd hx hp e hset ⊢
    obtain ⟨hpw,hgo⟩:=goodOs_pw hx.2.2
    have h6:=goodOs_len hx.2.2
    have hsm:∀ o ∈ x.Offers,o.Attrs.Path.length ≤ 1048576 ∧ o.Attrs.Comms.length ≤ 1048576:=fun o ho => by
      have:=goodO_small (hgo o ho)
      omega
    have hget:∀ h,(rows.flatMap GRow.co)[k * 3 + 2]'h = .sl 0 81 x.Offers.length (x.Offers.flatMap GOffer.co):=by
      intro h
      have e1:(rows.flatMap GRow.co)[k * 3 + 2]? = ((rows.flatMap GRow.co).drop (k * 3))[2]?:=by rw [List.getElem?_drop]
      rw [hd,List.getElem?_eq_getElem h] at e1
      simpa using e1
    have hyl:=fm_len GOffer.co 7 (fun _ => rfl) (putO o x.Offers)
    have hW:=ok_l8Put 0 k' x.Offers o (by omega) hsm ho
    have hset':=hset (putO o x.Offers)
    generalize putO o x.Offers = ys at *
    have hty:List.take (ys.length * 7) (ys.flatMap GOffer.co) = ys.flatMap GOffer.co:=List.take_of_length_le (by omega)
    simp
    refine drawP (tabEnv [] _) [⟨[.op 0 0 0],allD 52,true⟩,⟨[.op 0 0 0],allD 52,true⟩,⟨[],allD 52,true⟩,⟨[.op 0 0 0],allD 52,true⟩,⟨[.op 0 0 0],allD 52,true⟩,⟨[],allD 52,true⟩,⟨[.op 0 0 0],allD 52,true⟩,⟨[.op 0 0 0],allD 52,true⟩,⟨[.op 0 0 0],allD 52,true⟩,⟨[.op 0 2 0],allD 52,true⟩,⟨[.op 0 0 0],allD 52,true⟩,⟨[.op 0 0 0],allD 52,true⟩,⟨[.op 0 0 0],allD 52,true⟩,⟨[.op 0 0 0,.op 3 10 0],[17,18,19,20,21,22,23,24,25,26,27,28,29],false⟩] h0 hm (tabEnv_ok (tab_cons hW tab_nil)) (by kernel_rfl) (by kernel_rfl) ?_
    simp [hk,hd,hlen,hlt,hlt2,hlt3,hget,hyl,hty,hset',hSl,hSc,hSt]
theorem ok_l13Take (k k':Nat) (r:GRib) (n:Int) (u:GUpdate) (hg:goodRib r = true) (hgu:goodU u = true) (hp:isPeerB n = true):CallOK Tryz.prog 85 [.agg (GRib.ci k r),.c (pi n),.agg (GUpdate.ci k' u)] (.agg (GRib.co (takeW r n u))) [.agg (GRib.ci k r),.c (pi n),.agg (GUpdate.ci k' u)]:=by
  obtain ⟨hok,hsm⟩:=good_small hg
  obtain ⟨hgW,h20,hasn⟩:=goodRib_gW hg
  obtain ⟨hgo,hap,hac⟩:=goodU_all hgu n hp
  obtain ⟨u1,u2,u3,u4⟩:=goodU_spec hgu
  refine okS (fn:=Tryz.f85) [(75,[2,0,0]),(138,[2,0,0])] h0 Tryz.func85 (by kernel_rfl) rfl Tryz.ntmps85 Tryz.results85 (by simp) ?_
  simp
  refine Inv_intro (ok_l13Own k r (by omega) hsm) ?_
  simp
  refine loopS [1,5,6,7,15,16,17] [.op 0 0 0,.op 0 1 0,.op 0 2 0,.op 1 2 0] (fun m st => ∃ (i:Nat),i + m = u.Gone.length ∧ st = ⟨slOf 42 [(1,.t (pi n)),(5,.ptr ⟨.op 0 1 0,[]⟩ 0),(6,.ptr ⟨.op 0 2 0,[]⟩ 0),(7,.ptr ⟨.op 1 2 0,[]⟩ 0),(15,.t (rd k' u.Gone.length (u.Gone.flatMap GPrefix.c))),(16,.t (pi u.Gone.length)),(17,.t (pi i))],ofL [(.op 0 0 0,.sl 0 32 1 (GRib.ci k r)),(.op 0 1 0,.sl 0 54 1 (GUpdate.ci k' u)),(.op 0 2 0,.sl 0 32 1 [pi 0,.sl 0 nilE 0 []]),(.op 1 2 0,.sl 0 32 1 (GRib.co ⟨r.Own,dropsW n (u.Gone.take i) r.Rows⟩))]⟩) u.Gone.length ?_ ?_
  · rintro Inv hI
    simp
    subst hI
    exact ⟨0,by omega,rfl⟩
  · rintro Inv hI m st ⟨i,hi,rfl⟩
    obtain ⟨g1,g2,_,_⟩:=gW_take hg hgu hp i 0
    have hsn:=dropsW_take n u.Gone r.Rows i
    have hfin:i = u.Gone.length → dropsW n (u.Gone.take i) r.Rows = putsW ⟨n,u.Attrs⟩ (u.Come.take 0) (dropsW n u.Gone r.Rows):=by
      rintro rfl
      rw [List.take_length]
      rfl
    generalize dropsW n (u.Gone.take i) r.Rows = O at g1 g2 hsn hfin ⊢
    have hOl:=fm_len GRow.co 3 (fun _ => rfl) O
    have htO:List.take (O.length * 3) (O.flatMap GRow.co) = O.flatMap GRow.co:=List.take_of_length_le (by omega)
    refine ewr_sound (M:=[(75,[2,0,0]),(138,[2,0,0])]) h0 ?_
    simp
    refine brn_app (fun a => ?_) (fun a => ?_)
    · simp at a
      have hsn':=hsn a
      have hd:=fm_drop GPrefix.c 2 (fun _ => rfl) u.Gone i a
      have hlen:=fm_len GPrefix.c 2 (fun _ => rfl) u.Gone
      have hlt:i * 2 < u.Gone.length * 2:=by omega
      have hUl:=fm_len GRow.co 3 (fun _ => rfl) (dropW u.Gone[i] n O)
      have hU:=ok_l13Unset ⟨r.Own,O⟩ u.Gone[i] n g1 (by simp only; omega)
      simp only at hU
      generalize dropW u.Gone[i] n O = O' at hU hUl hsn'
      have htU:List.take (O'.length * 3) (O'.flatMap GRow.co) = O'.flatMap GRow.co:=List.take_of_length_le (by omega)
      simp [a,hd,hlen,hlt,hOl,htO]
      refine Inv_intro hU ?_
      simp [hUl,htU]
      subst hI
      refine Less_mk (m - 1) (by omega) ⟨i + 1,by omega,?_⟩
      rw [wrNext i (by omega),hsn']
      all_goals simp
    · simp at a
      have hil:i = u.Gone.length:=by omega
      have hfin':=hfin hil
      subst hfin'
      simp
      refine loopS [1,5,6,7,27,28,29] [.op 0 0 0,.op 0 1 0,.op 0 2 0,.op 1 2 0] (fun m st => ∃ (i:Nat),i + m = u.Come.length ∧ st = ⟨slOf 42 [(1,.t (pi n)),(5,.ptr ⟨.op 0 1 0,[]⟩ 0),(6,.ptr ⟨.op 0 2 0,[]⟩ 0),(7,.ptr ⟨.op 1 2 0,[]⟩ 0),(27,.t (rd k' u.Come.length (u.Come.flatMap GPrefix.c))),(28,.t (pi u.Come.length)),(29,.t (pi i))],ofL [(.op 0 0 0,.sl 0 32 1 (GRib.ci k r)),(.op 0 1 0,.sl 0 54 1 (GUpdate.ci k' u)),(.op 0 2 0,.sl 0 32 1 [pi 0,.sl 0 nilE 0 []]),(.op 1 2 0,.sl 0 32 1 (GRib.co ⟨r.Own,putsW ⟨n,u.Attrs⟩ (u.Come.take i) (dropsW n u.Gone r.Rows)⟩))]⟩) u.Come.length ?_ ?_
      · rintro Inv2 hI2
        simp
        subst hI2
        exact ⟨0,by omega,rfl⟩
      · rintro Inv2 hI2 m2 st ⟨j,hj,rfl⟩
        obtain ⟨_,_,g3,g4⟩:=gW_take hg hgu hp 0 j
        have hsn2:=putsW_take ⟨n,u.Attrs⟩ u.Come (dropsW n u.Gone r.Rows) j
        have hfin2:j = u.Come.length → putsW ⟨n,u.Attrs⟩ (u.Come.take j) (dropsW n u.Gone r.Rows) = (takeW r n u).Rows:=by
          rintro rfl
          rw [List.take_length]
          rfl
        generalize putsW ⟨n,u.Attrs⟩ (u.Come.take j) (dropsW n u.Gone r.Rows) = O at g3 g4 hsn2 hfin2 ⊢
        have hOl:=fm_len GRow.co 3 (fun _ => rfl) O
        have htO:List.take (O.length * 3) (O.flatMap GRow.co) = O.flatMap GRow.co:=List.take_of_length_le (by omega)
        refine ewr_sound (M:=[(75,[2,0,0]),(138,[2,0,0])]) h0 ?_
        simp
        refine brn_app (fun c => ?_) (fun c => ?_)
        · simp at c
          have hsn':=hsn2 c
          have hd:=fm_drop GPrefix.c 2 (fun _ => rfl) u.Come j c
          have hlen:=fm_len GPrefix.c 2 (fun _ => rfl) u.Come
          have hlt:j * 2 < u.Come.length * 2:=by omega
          have hUl:=fm_len GRow.co 3 (fun _ => rfl) (putW u.Come[j] ⟨n,u.Attrs⟩ O)
          have hU:=ok_l13Set k' ⟨r.Own,O⟩ u.Come[j] ⟨n,u.Attrs⟩ g3 (by simp only; omega) ⟨by simp only; omega,by simp only; omega⟩
          simp only at hU
          generalize putW u.Come[j] ⟨n,u.Attrs⟩ O = O' at hU hUl hsn'
          have htU:List.take (O'.length * 3) (O'.flatMap GRow.co) = O'.flatMap GRow.co:=List.take_of_length_le (by omega)
          simp [c,hd,hlen,hlt,hOl,htO]
          refine Inv_intro hU ?_
          simp [hUl,htU]
          subst hI2
          refine Less_mk (m2 - 1) (by omega) ⟨j + 1,by omega,?_⟩
          rw [wrNext j (by omega),hsn']
          all_goals simp
        · simp at c
          have hjl:j = u.Come.length:=by omega
          have hfin':=hfin2 hjl
          have hTk:takeW r n u = ⟨r.Own,O⟩:=by rw [hfin']; rfl
          rw [hTk]
          simp [hOl,htO]
theorem ok_sTakeUpdate (k k':Nat) (r:GRib) (n:Int) (u:GUpdate) (hr:ribOK r) (hu:updOK u):CallOK Tryz.prog 25 [.agg (GRib.ci k r),.c (pi n),.agg (GUpdate.ci k' u)] (.tup [.agg (GRib.co (rTakeUpdate r n u).1),.c (.sl 0 77 (rTakeUpdate r n u).2.1.length ((rTakeUpdate r n u).2.1.flatMap GPrefix.c)),.c (pb (rTakeUpdate r n u).2.2)]) [.agg (GRib.ci k r),.c (pi n),.agg (GUpdate.ci k' u)]:=by
  refine okS (fn:=Tryz.f25) [] h0 Tryz.func25 (by kernel_rfl) rfl Tryz.ntmps25 Tryz.results25 (by simp) ?_
  simp
  refine Inv_intro (ok_sGoodRib k r hr) ?_
  cases hg:goodRib r with
  | false => simp [rTakeUpdate,hg]
  | true =>
    simp
    refine Inv_intro (ok_l13Peer n) ?_
    cases hp:isPeerB n with
    | false => simp [rTakeUpdate,hp]
    | true =>
      simp
      refine Inv_intro (ok_sGoodUpdate k' u hu) ?_
      cases hgu:goodU u with
      | false => simp [rTakeUpdate,hgu]
      | true =>
        obtain ⟨hok,hsm⟩:=good_small hg
        have g3:=(gW_take hg hgu hp 0 u.Come.length).2.2
        rw [List.take_length] at g3
        obtain ⟨g3,g4⟩:=g3
        have hTa:=ok_l13Take k k' r n u hg hgu hp
        obtain ⟨O,hO⟩:∃ O,O = putsW ⟨n,u.Attrs⟩ u.Come (dropsW n u.Gone r.Rows):=⟨_,rfl⟩
        have hTk:takeW r n u = ⟨r.Own,O⟩:=by rw [hO]; rfl
        have er:rTakeUpdate r n u = if goodRib ⟨r.Own,O⟩ = true then (⟨r.Own,O⟩,changedG r ⟨r.Own,O⟩,true) else (⟨0,[]⟩,[],false):=by
          unfold rTakeUpdate
          rw [hTk]
          simp [hg,hp,hgu]
        rw [er]
        rw [← hO] at g3 g4
        rw [hTk] at hTa
        clear hO hTk er
        have hOl:=fm_len GRow.co 3 (fun _ => rfl) O
        have htO:List.take (O.length * 3) (O.flatMap GRow.co) = O.flatMap GRow.co:=List.take_of_length_le (by omega)
        simp
        refine Inv_intro hTa ?_
        simp [hOl,htO]
        refine Inv_intro (ok_sGoodRib 0 ⟨r.Own,O⟩ (gW_small g3 (by omega))) ?_
        cases hgt:goodRib ⟨r.Own,O⟩ with
        | false => simp
        | true =>
          have hC:=ok_l13Changed k 0 r ⟨r.Own,O⟩ hok hg (fun x hx => (hsm x hx).1) (good_small hgt).1 hgt (fun x hx => ((good_small hgt).2 x hx).1)
          generalize changedG r ⟨r.Own,O⟩ = W at hC ⊢
          have hWl:=fm_len GPrefix.c 2 (fun _ => rfl) W
          have htW:List.take (W.length * 2) (W.flatMap GPrefix.c) = W.flatMap GPrefix.c:=List.take_of_length_le (by omega)
          simp
          refine drawP (tabEnv [] _) [⟨[.op 3 4 0],allD 36,true⟩,⟨[.op 0 0 0],allD 36,true⟩,⟨[.op 3 4 0],allD 36,true⟩,⟨[.op 0 0 0,.op 3 4 0],allD 36,true⟩,⟨[.op 0 2 0,.op 3 4 0],[32,33,34,35,7,8],false⟩,⟨[.op 6 3 0],allD 36,true⟩,⟨[],allD 36,true⟩] h0 hm (tabEnv_ok (tab_cons hC tab_nil)) (by kernel_rfl) (by kernel_rfl) ?_
          simp [hOl,htO,hWl,htW]
end Go.V
