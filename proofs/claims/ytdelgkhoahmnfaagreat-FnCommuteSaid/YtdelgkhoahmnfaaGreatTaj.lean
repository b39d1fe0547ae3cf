/- What functions of the seat's program do, each proved of its code, under the bounds that its theorem names. -/
import Derived.Test.YtdelgkhoahmnfaaGreatTai
set_option linter.all false
namespace Go.V
open Go.Proofs
set_option maxHeartbeats 1000000
set_option maxRecDepth 10000
set_option linter.unusedSimpArgs false
set_option linter.unusedVariables false
theorem ok_BestOffer (k:Nat) (l:List GOffer) (hl:offersOK l):CallOK Tryz.prog 166 [.c (rd k l.length (l.flatMap (GOffer.ci k)))] (.tup [.c (pi (peerOf (bstO l))),.c (pb (bstO l).isSome)]) [.c (rd k l.length (l.flatMap (GOffer.ci k)))]:=by
  refine okS (fn:=Tryz.f166) [] h0 Tryz.func166 (by kernel_rfl) rfl Tryz.ntmps166 Tryz.results166 (by simp) ?_
  simp
  refine Inv_intro (ok_iGoodOffers k l hl) ?_
  cases hg:goodOs l with
  | false => simp [bstO,hg,peerOf]
  | true =>
    by_cases h0:l = []
    · subst h0
      simp [bstO,bestO,peerOf,hg]
    · have h6:=goodOs_len hg
      have hlen:¬ l.length = 0:=fun e => h0 (List.length_eq_zero_iff.1 e)
      obtain ⟨o,hb,_⟩:=bestO_mem h0
      have hs:=best_sort (goodOs_dist hg)
      rw [hb,← List.head?_reverse] at hs
      have hR:=ok_ranked k l (by omega)
      have hDl:(sortRv l).reverse.length = l.length:=by rw [List.length_reverse,sortRv_len']
      obtain ⟨t,ht⟩:∃ t,(sortRv l).reverse = o :: t:=by
        generalize (sortRv l).reverse = D at hs
        cases D with
        | nil => simp at hs
        | cons x t => simp at hs; exact ⟨t,by rw [hs]⟩
      rw [ht] at hR hDl
      have h1:0 < l.length:=by omega
      simp [hlen,h0]
      refine Inv_intro hR ?_
      have hb':bstO l = some o:=by rw [bstO,if_pos hg,hb]
      simp [h1,hb',peerOf]
theorem ok_BestBy1 (k q:Nat) (o:GOffer) (asn:Int) (ho:attrOK o.Attrs):CallOK Tryz.prog 169 [.agg (GOffer.ci k o),.ip q [pi asn]] (.c (pb (hasI o.Attrs.Path asn))) [.agg (GOffer.ci k o),.ip q [pi asn]]:=by
  refine okS (fn:=Tryz.f169) [] h0 Tryz.func169 (by kernel_rfl) rfl Tryz.ntmps169 Tryz.results169 (by simp) ?_
  simp
  refine Inv_intro (ok_Contains_Int k o.Attrs.Path asn ho.1) ?_
  simp
theorem offersOK_filter {l:List GOffer} (p:GOffer → Bool) (h:offersOK l):offersOK (l.filter p) :=
  ⟨Nat.le_trans (List.length_filter_le _ _) h.1,fun o ho => h.2 o (List.mem_filter.1 ho).1⟩
theorem ok_BestBy2 (k:Nat) (l:List GOffer) (asn:Int) (hl:offersOK l) (hlen:l.length ≤ 1048576):CallOK Tryz.prog 118 [.c (rd (k + 1) l.length (l.flatMap (GOffer.ci (k + 1)))),.c (pi asn)] (.tup [.c (pi (peerOf (bstBy asn l))),.c (pb (bstBy asn l).isSome)]) [.c (rd (k + 1) l.length (l.flatMap (GOffer.ci (k + 1)))),.c (pi asn)]:=by
  refine okS (fn:=Tryz.f118) [(167,[2,0])] h0 Tryz.func118 (by kernel_rfl) rfl Tryz.ntmps118 Tryz.results118 (by simp) ?_
  simp
  refine Inv_intro (ok_iGoodOffers (k + 1) l hl) ?_
  cases hg:goodOs l with
  | false => simp [bstBy,hg,peerOf]
  | true =>
    simp
    refine Inv_intro (ok_isAsn asn) ?_
    cases ha:isAsnB asn with
    | false => simp [bstBy,ha,peerOf]
    | true =>
      simp
      refine Inv_intro (ok_Clone_Offer (k + 1) l hlen) ?_
      simp
      refine Inv_intro (ok_DeleteFunc_Offer (k + 1) 1 169 [[pi asn]] (fun o => hasI o.Attrs.Path asn) l hl.1 (fun k x hx => ok_BestBy1 k 1 x asn (hl.2 x hx))) ?_
      simp
      have hB:=ok_BestOffer 0 (restO asn l) (offersOK_filter _ hl)
      unfold restO at hB
      refine Inv_intro hB ?_
      have e:bstBy asn l = bstO (l.filter fun o => !hasI o.Attrs.Path asn):=by
        rw [bstBy,if_pos ⟨hg,ha⟩,bstO,if_pos (goodOs_filter _ hg)]
        rfl
      simp [e]
theorem offers_up (k:Nat) (l:List GOffer):PV.up (.c (rd k l.length (l.flatMap (GOffer.ci k)))) = .c (rd 1 l.length (l.flatMap (GOffer.ci 1))):=by
  simp only [PV.up,PT.up,PT.upL_eq,List.map_flatMap]
  congr 3
  funext o
  simp [PT.up,PT.upL_eq,Function.comp_def]
theorem ok_BestBy (k:Nat) (l:List GOffer) (asn:Int) (hl:offersOK l) (hlen:l.length ≤ 1048576):CallOK Tryz.prog 118 [.c (rd k l.length (l.flatMap (GOffer.ci k))),.c (pi asn)] (.tup [.c (pi (peerOf (bstBy asn l))),.c (pb (bstBy asn l).isSome)]) [.c (rd k l.length (l.flatMap (GOffer.ci k))),.c (pi asn)]:=by
  have h:=ok_BestBy2 0 l asn hl hlen
  refine CallOK.relabel ?_ rfl ?_
  · have e2:PV.up (.c (pi asn)) = .c (pi asn):=by simp [PV.up,PT.up]
    simpa only [List.map_cons,List.map_nil,offers_up,e2] using h
  · intro w I I' lr he hh
    exact free_cc rfl rfl he hh
theorem ok_findRow (k:Nat) (r:GRib) (p:GPrefix) (hl:r.Rows.length ≤ 140737488351232) (hs:srtW r.Rows):CallOK Tryz.prog 117 [.agg (GRib.ci k r),.agg p.c] (.tup [.c (pi (rowAt p r.Rows)),.c (pb (rowIs p r.Rows))]) [.agg (GRib.ci k r),.agg p.c]:=by
  refine okS (fn:=Tryz.f117) [] h0 Tryz.func117 (by kernel_rfl) rfl Tryz.ntmps117 Tryz.results117 (by simp) ?_
  simp
  refine Inv_intro (ok_BS_Row k r.Rows p hl (srtW_mono hs)) ?_
  simp [rowAt,rowIs]
theorem ok_findOfferB (k:Nat) (l:List GOffer) (n:Int) (hl:l.length ≤ 140737488351232) (hs:l.Pairwise (fun a b => a.Peer < b.Peer)):CallOK Tryz.prog 105 [.c (rd k l.length (l.flatMap (GOffer.ci k))),.c (pi n)] (.tup [.c (pi (bsI (fun o:GOffer => cmpI o.Peer n) l)),.c (pb (bsF (fun o:GOffer => cmpI o.Peer n) l))]) [.c (rd k l.length (l.flatMap (GOffer.ci k))),.c (pi n)]:=by
  refine okS (fn:=Tryz.f105) [] h0 Tryz.func105 (by kernel_rfl) rfl Tryz.ntmps105 Tryz.results105 (by simp) ?_
  simp
  refine Inv_intro (ok_BS_Offer k l n hl (peer_mono hs)) ?_
  simp
def outO (k:Nat):Option GOffer → List PT
  | some o => GOffer.ci k o
  | none => [pi 0,pi 0,.sl 0 nilE 0 [],pi 0,pi 0,pi 0,.sl 0 nilE 0 []]
theorem goodRib_all {r:GRib} (h:goodRib r = true):isAsnB r.Own = true ∧ r.Rows.length ≤ 20 ∧ srtW r.Rows ∧ ∀ x ∈ r.Rows,goodRow x = true:=by
  simp only [goodRib,Bool.and_eq_true,decide_eq_true_eq] at h
  obtain ⟨h1,h2,h3⟩:=h
  obtain ⟨_,g2,g3⟩:=rows_pw _ none h3
  exact ⟨h1,h2,g2,g3⟩
theorem bstBy_mem {asn:Int} {l:List GOffer} {o:GOffer} (h:bstBy asn l = some o):goodOs l = true ∧ o ∈ l:=by
  unfold bstBy at h
  split at h
  · rename_i hc
    refine ⟨hc.1,?_⟩
    by_cases he:restO asn l = []
    · rw [he] at h; cases h
    · obtain ⟨o',h1,h2⟩:=bestO_mem he
      rw [h1] at h
      cases h
      exact (List.mem_filter.1 h2).1
  · cases h
theorem ok_bestAt (k:Nat) (r:GRib) (p:GPrefix) (hr:ribOK r) (hg:goodRib r = true):CallOK Tryz.prog 66 [.agg (GRib.ci (k + 1) r),.agg p.c] (.tup [.agg (outO (k + 1) (bestR r p)),.c (pb (bestR r p).isSome)]) [.agg (GRib.ci (k + 1) r),.agg p.c]:=by
  obtain ⟨_,h20,hs,hrows⟩:=goodRib_all hg
  refine okS (fn:=Tryz.f66) [] h0 Tryz.func66 (by kernel_rfl) rfl Tryz.ntmps66 Tryz.results66 (by simp) ?_
  simp
  refine Inv_intro (ok_findRow (k + 1) r p hr.1 hs) ?_
  by_cases hi:rowIs p r.Rows = true
  · obtain ⟨hl,he⟩:=rowIs_lt hi
    have hbr:bestR r p = bstBy r.Own r.Rows[rowAt p r.Rows].Offers:=by
      unfold bestR
      rw [if_pos hi,List.getElem?_eq_getElem hl]
    rw [hbr]
    have hx:=hr.2 _ (List.getElem_mem hl)
    have hgx:=hrows _ (List.getElem_mem hl)
    generalize rowAt p r.Rows = i at *
    have hd:=fm_drop (GRow.ci (k + 1)) 3 (fun _ => rfl) r.Rows i hl
    have hlen:=fm_len (GRow.ci (k + 1)) 3 (fun _ => rfl) r.Rows
    have hlt:i * 3 < r.Rows.length * 3:=by omega
    have hlt2:i * 3 + 2 < r.Rows.length * 3:=by omega
    have hgo:goodOs r.Rows[i].Offers = true:=by
      simp only [goodRow,Bool.and_eq_true] at hgx
      exact hgx.2.2
    have h6:=goodOs_len hgo
    simp [hi]
    refine drawP (tabEnv [] _) [⟨[.op 0 0 0],allD 55,true⟩,⟨[.op 0 0 0],allD 55,true⟩,⟨[],allD 55,true⟩,⟨[],allD 55,true⟩,⟨[],allD 55,true⟩,⟨[],allD 55,true⟩,⟨[.op 0 0 0],allD 55,true⟩,⟨[.op 0 0 0],allD 55,true⟩,⟨[],allD 55,false⟩,⟨[],allD 55,true⟩,⟨[],allD 55,true⟩,⟨[],allD 55,true⟩,⟨[],allD 55,true⟩,⟨[],allD 55,true⟩] h0 hm (tabEnv_ok (tab_cons (ok_BestBy (k + 1) r.Rows[i].Offers r.Own hx (by omega)) tab_nil)) (by kernel_rfl) (by kernel_rfl) ?_
    simp [hl,hd,hlen,hlt,hlt2]
    cases hb:bstBy r.Own r.Rows[i].Offers with
    | none => simp [peerOf,outO]
    | some o =>
      obtain ⟨_,ho⟩:=bstBy_mem hb
      obtain ⟨j,hj,hoj⟩:=List.mem_iff_getElem.1 ho
      obtain ⟨_,hpw,_⟩:=offers_pw _ none hgo
      have hfo:=ok_findOfferB (k + 1) r.Rows[i].Offers o.Peer hx.1 hpw
      have hbj:bsI (fun x:GOffer => cmpI x.Peer o.Peer) r.Rows[i].Offers = j:=by
        rw [← hoj]
        exact bsI_peer hpw j hj
      rw [hbj] at hfo
      have hdq:=fm_drop (GOffer.ci (k + 1)) 7 (fun _ => rfl) r.Rows[i].Offers j hj
      have hlenq:=fm_len (GOffer.ci (k + 1)) 7 (fun _ => rfl) r.Rows[i].Offers
      have hltq:j * 7 < r.Rows[i].Offers.length * 7:=by omega
      rw [hoj] at hdq
      simp [hb,peerOf,hl,hd,hlen,hlt,hlt2]
      refine Inv_intro hfo ?_
      simp [hl,hd,hlen,hlt,hlt2,hj,hdq,hlenq,hltq,outO]
  · have hi':rowIs p r.Rows = false:=by simpa using hi
    simp [bestR,hi',outO]
theorem ok_iGoodRib (k:Nat) (r:GRib) (hl:ribOK r):CallOK Tryz.prog 42 [.agg (GRib.ci k r)] (.c (pb (goodRib r))) [.agg (GRib.ci k r)]:=by
  obtain ⟨hll,hlx⟩:=hl
  refine okS (fn:=Tryz.f42) [] h0 Tryz.func42 (by kernel_rfl) rfl Tryz.ntmps42 Tryz.results42 (by simp) ?_
  simp
  refine Inv_intro (ok_isAsn r.Own) ?_
  cases d1:isAsnB r.Own with
  | false => simp [goodRib,d1]
  | true =>
    simp
    refine brn_app (fun b => ?_) (fun b => ?_)
    · simp at b
      have d2:¬ r.Rows.length ≤ 20:=by omega
      simp [goodRib,d2]
    · simp at b
      have d2:r.Rows.length ≤ 20:=by omega
      simp
      refine loopS [1,16,17,18] [.op 0 0 0] (fun n st => ∃ (i:Nat),i + n = r.Rows.length ∧ rowsG (prevW r.Rows i) (r.Rows.drop i) = rowsG none r.Rows ∧ st = ⟨slOf 57 [(1,.ptr ⟨.op 0 0 0,[]⟩ 0),(16,.t (rd k r.Rows.length (r.Rows.flatMap (GRow.ci k)))),(17,.t (pi r.Rows.length)),(18,.t (pi i))],ofL [(.op 0 0 0,.sl 0 32 1 [pi r.Own,rd k r.Rows.length (r.Rows.flatMap (GRow.ci k))])]⟩) r.Rows.length ?_ ?_
      · rintro Inv hI
        simp
        subst hI
        exact ⟨0,by omega,rfl,rfl⟩
      · rintro Inv hI n st ⟨i,hi,hg,rfl⟩
        refine ewr_sound (M:=[]) h0 ?_
        simp
        refine brn_app (fun a => ?_) (fun a => ?_)
        · simp at a
          have hx:=hlx r.Rows[i] (List.getElem_mem a)
          rw [drop_step _ i a,rowsG] at hg
          have hd:=fm_drop (GRow.ci k) 3 (fun _ => rfl) r.Rows i a
          have hlen:=fm_len (GRow.ci k) 3 (fun _ => rfl) r.Rows
          have hlt:i * 3 < r.Rows.length * 3:=by omega
          have en:prevW r.Rows (i + 1) = some r.Rows[i]:=prevW_next r.Rows i a
          simp [a,hd,hlen,hlt]
          have hP:=ok_iGoodPrefix r.Rows[i].Prefix
          have hO:=ok_iGoodOffers k r.Rows[i].Offers hx
          by_cases c0:i = 0
          · have e0:¬ 0 < i:=by omega
            have ep:prevW r.Rows i = none:=by simp [prevW,c0]
            rw [ep,adjW,Bool.and_true] at hg
            refine drawP (tabEnv [] _) [⟨[.op 5 3 0],allD 57,true⟩,⟨[.op 5 3 0],allD 57,true⟩,⟨[],allD 57,false⟩,⟨[],allD 57,true⟩,⟨[],allD 57,true⟩,⟨[],allD 57,true⟩,⟨[],allD 57,true⟩,⟨[],allD 57,true⟩,⟨[.op 0 0 0],allD 57,true⟩,⟨[.op 0 0 0],allD 57,true⟩,⟨[],allD 57,true⟩,⟨[],allD 57,true⟩,⟨[],allD 57,true⟩,⟨[],allD 57,true⟩,⟨[],allD 57,true⟩,⟨[.op 5 3 0],allD 57,true⟩,⟨[.op 5 3 0],allD 57,true⟩,⟨[],allD 57,false⟩,⟨[],allD 57,true⟩,⟨[],allD 57,true⟩,⟨[],allD 57,true⟩,⟨[],allD 57,true⟩,⟨[.op 5 3 0],allD 57,true⟩,⟨[.op 5 3 0],allD 57,true⟩,⟨[],allD 57,true⟩,⟨[],allD 57,true⟩,⟨[],allD 57,true⟩,⟨[],allD 57,true⟩,⟨[.op 5 3 0],allD 57,true⟩,⟨[.op 5 3 0],allD 57,true⟩,⟨[],allD 57,false⟩,⟨[],allD 57,true⟩,⟨[],allD 57,true⟩] h0 hm (tabEnv_ok (tab_cons hP (tab_cons hO tab_nil))) (by kernel_rfl) (by kernel_rfl) ?_
            cases c1:goodPx r.Rows[i].Prefix with
            | false =>
              have hk:goodRow r.Rows[i] = false:=by simp [goodRow,c1]
              rw [hk,Bool.false_and] at hg
              simp [c1,goodRib,← hg]
            | true =>
              by_cases c2:r.Rows[i].Offers.length = 0
              · have hk:goodRow r.Rows[i] = false:=by simp [goodRow,c2]
                have c2':r.Rows[i].Offers = []:=List.length_eq_zero_iff.1 c2
                rw [hk,Bool.false_and] at hg
                simp [c1,e0,c2',goodRib,← hg]
              · have c2':¬ r.Rows[i].Offers = []:=fun e => c2 (by rw [e]; rfl)
                cases c3:goodOs r.Rows[i].Offers with
                | false =>
                  have hk:goodRow r.Rows[i] = false:=by simp [goodRow,c3]
                  rw [hk,Bool.false_and] at hg
                  simp [c1,e0,c2',c3,goodRib,← hg]
                | true =>
                  have hk:goodRow r.Rows[i] = true:=by simp [goodRow,c1,c2',c3]
                  rw [hk,Bool.true_and] at hg
                  simp [c1,e0,c2',c3]
                  subst hI
                  exact Less_mk (n - 1) (by omega) ⟨i + 1,by omega,by rw [en]; exact hg,by rw [wrNext i (by omega)]⟩
          · obtain ⟨j,hj⟩:∃ j,i = j + 1:=⟨i - 1,by omega⟩
            have aj:j < r.Rows.length:=by omega
            have ep:prevW r.Rows i = some r.Rows[j]:=by subst hj; exact prevW_next r.Rows j aj
            have hdj:=fm_drop (GRow.ci k) 3 (fun _ => rfl) r.Rows j aj
            have hltj:j * 3 < r.Rows.length * 3:=by omega
            have hw:IntKind.wrap .i64 ((i:Int) - 1) = j:=(wrap64 (by omega) (by omega)).trans (by omega)
            have e0:0 < i:=by omega
            rw [ep,adjW] at hg
            refine drawP (tabEnv [] _) [⟨[.op 5 3 0],allD 57,true⟩,⟨[.op 5 3 0],allD 57,true⟩,⟨[],allD 57,false⟩,⟨[],allD 57,true⟩,⟨[],allD 57,true⟩,⟨[],allD 57,true⟩,⟨[],allD 57,true⟩,⟨[],allD 57,true⟩,⟨[.op 0 0 0],allD 57,true⟩,⟨[.op 0 0 0],allD 57,true⟩,⟨[],allD 57,true⟩,⟨[],allD 57,true⟩,⟨[],allD 57,true⟩,⟨[],allD 57,true⟩,⟨[],allD 57,true⟩,⟨[.op 5 3 0],allD 57,true⟩,⟨[.op 5 3 0],allD 57,true⟩,⟨[],allD 57,false⟩,⟨[],allD 57,true⟩,⟨[],allD 57,true⟩,⟨[],allD 57,true⟩,⟨[],allD 57,true⟩,⟨[.op 5 3 0],allD 57,true⟩,⟨[.op 5 3 0],allD 57,true⟩,⟨[],allD 57,true⟩,⟨[],allD 57,true⟩,⟨[],allD 57,true⟩,⟨[],allD 57,true⟩,⟨[.op 5 3 0],allD 57,true⟩,⟨[.op 5 3 0],allD 57,true⟩,⟨[],allD 57,false⟩,⟨[],allD 57,true⟩,⟨[],allD 57,true⟩] h0 hm (tabEnv_ok (tab_cons hP (tab_cons hO (tab_cons (ok_compare r.Rows[j].Prefix r.Rows[i].Prefix) tab_nil)))) (by kernel_rfl) (by kernel_rfl) ?_
            cases c1:goodPx r.Rows[i].Prefix with
            | false =>
              have hk:goodRow r.Rows[i] = false:=by simp [goodRow,c1]
              rw [hk,Bool.false_and,Bool.false_and] at hg
              simp [c1,goodRib,← hg]
            | true =>
              by_cases c4:cmpPx r.Rows[j].Prefix r.Rows[i].Prefix < 0
              · have c5:¬ 0 ≤ cmpPx r.Rows[j].Prefix r.Rows[i].Prefix:=by omega
                rw [decide_eq_true c4,Bool.and_true] at hg
                by_cases c2:r.Rows[i].Offers.length = 0
                · have hk:goodRow r.Rows[i] = false:=by simp [goodRow,c2]
                  have c2':r.Rows[i].Offers = []:=List.length_eq_zero_iff.1 c2
                  rw [hk,Bool.false_and] at hg
                  simp [c1,e0,hw,aj,hdj,hlen,hltj,c5,c2',goodRib,← hg]
                · have c2':¬ r.Rows[i].Offers = []:=fun e => c2 (by rw [e]; rfl)
                  cases c3:goodOs r.Rows[i].Offers with
                  | false =>
                    have hk:goodRow r.Rows[i] = false:=by simp [goodRow,c3]
                    rw [hk,Bool.false_and] at hg
                    simp [c1,e0,hw,aj,hdj,hlen,hltj,c5,c2',c3,goodRib,← hg]
                  | true =>
                    have hk:goodRow r.Rows[i] = true:=by simp [goodRow,c1,c2',c3]
                    rw [hk,Bool.true_and] at hg
                    simp [c1,e0,hw,aj,hdj,hlen,hltj,c5,c2',c3]
                    subst hI
                    exact Less_mk (n - 1) (by omega) ⟨i + 1,by omega,by rw [en]; exact hg,by rw [wrNext i (by omega)]⟩
              · have c5:0 ≤ cmpPx r.Rows[j].Prefix r.Rows[i].Prefix:=by omega
                rw [decide_eq_false c4,Bool.and_false,Bool.false_and] at hg
                by_cases c2':r.Rows[i].Offers = []
                · simp [c1,e0,hw,aj,hdj,hlen,hltj,c5,c2',goodRib,← hg]
                · cases c3:goodOs r.Rows[i].Offers <;> simp [c1,e0,hw,aj,hdj,hlen,hltj,c5,c2',c3,goodRib,← hg]
        · simp at a
          rw [List.drop_of_length_le (by omega),rowsG] at hg
          simp
          simp [goodRib,d1,d2,← hg]
theorem ok_Clone_Int (k:Nat) (xs:List Int) (hx:xs.length ≤ 1048576):CallOK Tryz.prog 157 [.c (rd k xs.length (xs.map pi))] (.c (.sl 0 3 xs.length (xs.map pi))) [.c (rd k xs.length (xs.map pi))]:=by
  refine okS (fn:=Tryz.f157) [] h0 Tryz.func157 (by kernel_rfl) rfl Tryz.ntmps157 Tryz.results157 (by simp) ?_
  cases xs with
  | nil => simp
  | cons y ys =>
    simp only [List.length_cons] at hx
    have hb:(ys.length + 1) * 8 ≤ 140737488355328 ∧ ys.length + 1 ≤ 9223372036854775807:=by omega
    have hb2:ys.length + 1 ≤ 9223372036854775807:=by omega
    have hb1:(ys.length + 1) * 8 ≤ 140737488355328:=by omega
    simp [hb1,hb2]
theorem ok_ownAttrs (k:Nat) (a:GAttrs) (h1:a.Path.length ≤ 1048576) (h2:a.Comms.length ≤ 1048576):CallOK Tryz.prog 103 [.agg (GAttrs.ci k a)] (.agg (GAttrs.co a)) [.agg (GAttrs.ci k a)]:=by
  refine okS (fn:=Tryz.f103) [] h0 Tryz.func103 (by kernel_rfl) rfl Tryz.ntmps103 Tryz.results103 (by simp) ?_
  simp
  refine drawP (fnEnv 157 (fL1 1048576 fun xs => .sl 0 3 xs.length (xs.map pi)) (tabEnv [] [])) [⟨[.op 0 0 0],allD 12,true⟩,⟨[.op 0 0 0],allD 12,true⟩,⟨[.op 1 2 0],[3,4,5,6,7,8,9,10],false⟩,⟨[.op 0 0 0],allD 12,true⟩,⟨[.op 0 0 0],allD 12,true⟩,⟨[.op 1 5 0],[3,4,5,6,7,8,9,10],false⟩,⟨[.op 0 0 0],allD 12,true⟩,⟨[.op 0 0 0,.op 1 2 0],[3,4,5,6,7,8,9,10],false⟩,⟨[.op 0 0 0],allD 12,true⟩,⟨[.op 0 0 0,.op 1 5 0],[3,4,5,6,7,8,9,10],false⟩] h0 hm (fnEnv_ok (tabEnv_ok tab_nil) (fL1_ok fun k xs hx => ok_Clone_Int k xs hx)) (by kernel_rfl) (by kernel_rfl) ?_
  simp [h1,h2]
theorem ok_l4Own (k:Nat) (a:GAttrs) (h1:a.Path.length ≤ 1048576) (h2:a.Comms.length ≤ 1048576):CallOK Tryz.prog 64 [.agg (GAttrs.ci k a)] (.agg (GAttrs.co a)) [.agg (GAttrs.ci k a)]:=by
  have b1:a.Path.length * 8 ≤ 140737488355328:=by omega
  have b2:a.Path.length ≤ 9223372036854775807:=by omega
  have b3:a.Comms.length * 8 ≤ 140737488355328:=by omega
  have b4:a.Comms.length ≤ 9223372036854775807:=by omega
  refine okS (fn:=Tryz.f64) [] h0 Tryz.func64 (by kernel_rfl) rfl Tryz.ntmps64 Tryz.results64 (by simp) ?_
  by_cases p:a.Path = []
  · by_cases c:a.Comms = []
    · simp [p,c]
    · simp [p,c,b3,b4]
  · by_cases c:a.Comms = []
    · simp [p,c,b1,b2]
    · simp [p,c,b1,b2,b3,b4]
def bestAtG (r:GRib) (p:GPrefix):Option GOffer:=if goodRib r = true ∧ goodPx p = true then bestR r p else none
theorem bestR_mem {r:GRib} {p:GPrefix} {o:GOffer} (h:bestR r p = some o):∃ x ∈ r.Rows,o ∈ x.Offers ∧ goodOs x.Offers = true:=by
  unfold bestR at h
  split at h
  · split at h
    · rename_i x hx
      have:=bstBy_mem h
      exact ⟨x,List.mem_of_getElem? hx,this.2,this.1⟩
    · cases h
  · cases h
theorem goodO_small {o:GOffer} (h:goodO o = true):o.Attrs.Path.length ≤ 10 ∧ o.Attrs.Comms.length ≤ 6:=by
  simp only [goodO,goodA,goodPa,goodCm,Bool.and_eq_true,decide_eq_true_eq] at h
  exact ⟨h.2.2.1.1,h.2.2.2.2.2.2.2⟩
theorem bestR_small {r:GRib} {p:GPrefix} {o:GOffer} (h:bestR r p = some o):o.Attrs.Path.length ≤ 10 ∧ o.Attrs.Comms.length ≤ 6:=by
  obtain ⟨x,_,h2,h3⟩:=bestR_mem h
  exact goodO_small ((offers_pw _ none h3).2.2 o h2)
theorem ok_iBestAt1 (k:Nat) (r:GRib) (p:GPrefix) (hr:ribOK r):CallOK Tryz.prog 44 [.agg (GRib.ci (k + 1) r),.agg p.c] (.tup [.agg (GOffer.co ((bestAtG r p).getD zeroO)),.c (pb (bestAtG r p).isSome)]) [.agg (GRib.ci (k + 1) r),.agg p.c]:=by
  refine okS (fn:=Tryz.f44) [] h0 Tryz.func44 (by kernel_rfl) rfl Tryz.ntmps44 Tryz.results44 (by simp) ?_
  simp
  refine Inv_intro (ok_iGoodRib (k + 1) r hr) ?_
  cases hg:goodRib r with
  | false => simp [bestAtG,hg,zeroO]
  | true =>
    simp
    refine Inv_intro (ok_iGoodPrefix p) ?_
    cases hp:goodPx p with
    | false => simp [bestAtG,hp,zeroO]
    | true =>
      have e:bestAtG r p = bestR r p:=if_pos ⟨hg,hp⟩
      rw [e]
      simp
      refine Inv_intro (ok_bestAt k r p hr hg) ?_
      cases hb:bestR r p with
      | none =>
        simp [outO]
        refine drawP (tabEnv [] _) [⟨[.op 3 6 0],allD 30,true⟩,⟨[.op 3 6 0],allD 30,true⟩,⟨[.op 3 6 0],allD 30,true⟩,⟨[.op 3 6 0],allD 30,true⟩,⟨[.op 3 6 0],allD 30,true⟩,⟨[.op 4 4 1,.op 4 4 5],allD 30,true⟩,⟨[],allD 30,true⟩,⟨[.op 0 2 0,.op 4 4 1,.op 4 4 5],[23,24,25,26,27,28,29,5],false⟩,⟨[],allD 30,true⟩] h0 hm (tabEnv_ok (tab_cons (ok_ownAttrs 0 zeroO.Attrs (by decide) (by decide)) tab_nil)) (by kernel_rfl) (by kernel_rfl) ?_
        simp [zeroO]
      | some o =>
        have hs:=bestR_small hb
        simp [outO]
        refine drawP (tabEnv [] _) [⟨[.op 3 6 0],allD 30,true⟩,⟨[.op 3 6 0],allD 30,true⟩,⟨[.op 3 6 0],allD 30,true⟩,⟨[.op 3 6 0],allD 30,true⟩,⟨[],allD 30,false⟩,⟨[.op 4 4 1,.op 4 4 5],allD 30,true⟩,⟨[],allD 30,true⟩,⟨[.op 0 2 0,.op 4 4 1,.op 4 4 5],[23,24,25,26,27,28,29,5],false⟩,⟨[],allD 30,true⟩] h0 hm (tabEnv_ok (tab_cons (ok_ownAttrs (k + 1) o.Attrs (by omega) (by omega)) tab_nil)) (by kernel_rfl) (by kernel_rfl) ?_
        simp
theorem rib_up (k:Nat) (r:GRib):PV.up (.agg (GRib.ci k r)) = .agg (GRib.ci 1 r):=by
  simp [PV.up,PT.up,PT.upL_eq,List.map_flatMap,Function.comp_def]
  rfl
theorem ok_iBestAt (k:Nat) (r:GRib) (p:GPrefix) (hr:ribOK r):CallOK Tryz.prog 44 [.agg (GRib.ci k r),.agg p.c] (.tup [.agg (GOffer.co ((bestAtG r p).getD zeroO)),.c (pb (bestAtG r p).isSome)]) [.agg (GRib.ci k r),.agg p.c]:=by
  have h:=ok_iBestAt1 0 r p hr
  refine CallOK.relabel ?_ rfl ?_
  · have e2:PV.up (.agg p.c) = .agg p.c:=by simp [PV.up,PT.up]
    simpa only [List.map_cons,List.map_nil,rib_up,e2] using h
  · intro w I I' lr he hh
    refine free_ac ?_ rfl he hh
    simp [PT.freeL,PT.free,freeL_pi]
def mk_RouteS (xs:List GRoute) (k:Int):List GRoute × Int:=mkR GRoute.mark xs k
theorem mk_RouteS_len (xs:List GRoute) (k:Int):(mk_RouteS xs k).1.length = xs.length:=mkR_len _ xs k
attribute [simp] mk_RouteS_len
theorem attr_ok {a:GAttrs} (h:GAttrs.wt a ≤ 1048576):attrOK a:=by
  unfold GAttrs.wt at h
  have h1:=len_wt_IntS a.Path
  have h2:=len_wt_IntS a.Comms
  exact ⟨by omega,by omega⟩
theorem ok_l13Peer (n:Int):CallOK Tryz.prog 73 [.c (pi n)] (.c (pb (isPeerB n))) [.c (pi n)]:=by
  refine okS (fn:=Tryz.f73) [] h0 Tryz.func73 (by kernel_rfl) rfl Tryz.ntmps73 Tryz.results73 (by simp) ?_
  simp
  refine Inv_intro (ok_l1In _ _ _) ?_
  simp [isPeerB,inR]
theorem ok_sGoodOffers (k:Nat) (l:List GOffer) (hl:offersOK l):CallOK Tryz.prog 100 [.c (rd k l.length (l.flatMap (GOffer.ci k)))] (.c (pb (goodOs l))) [.c (rd k l.length (l.flatMap (GOffer.ci k)))]:=by
  obtain ⟨hll,hlx⟩:=hl
  refine okS (fn:=Tryz.f100) [] h0 Tryz.func100 (by kernel_rfl) rfl Tryz.ntmps100 Tryz.results100 (by simp) ?_
  simp
  refine loopS [0,5,6,7] [] (fun n st => ∃ (i:Nat),i + n = l.length ∧ offersG (prevO l i) (l.drop i) = offersG none l ∧ st = ⟨slOf 38 [(0,.t (rd k l.length (l.flatMap (GOffer.ci k)))),(5,.t (rd k l.length (l.flatMap (GOffer.ci k)))),(6,.t (pi l.length)),(7,.t (pi i))],ofL []⟩) l.length ?_ ?_
  · rintro Inv hI
    simp
    subst hI
    exact ⟨0,by omega,rfl,rfl⟩
  · rintro Inv hI n st ⟨i,hi,hg,rfl⟩
    refine ewr_sound (M:=[]) h0 ?_
    simp
    refine brn_app (fun a => ?_) (fun a => ?_)
    · simp at a
      have hx:=hlx l[i] (List.getElem_mem a)
      rw [drop_step _ i a,offersG] at hg
      have hd:=fm_drop (GOffer.ci k) 7 (fun _ => rfl) l i a
      have hlen:=fm_len (GOffer.ci k) 7 (fun _ => rfl) l
      have hlt:i * 7 < l.length * 7:=by omega
      have en:prevO l (i + 1) = some l[i]:=prevO_next l i a
      simp [a,hd,hlen,hlt]
      have hR:=ok_l1In l[i].Peer 0 5
      have hR2:=ok_sGoodAttrs k l[i].Attrs hx
      by_cases c0:i = 0
      · have e0:¬ 0 < i:=by omega
        have ep:prevO l i = none:=by simp [prevO,c0]
        rw [ep,adjO,Bool.and_true] at hg
        refine drawP (tabEnv [] _) [⟨[.op 3 3 0],allD 38,true⟩,⟨[.op 3 3 0],allD 38,true⟩,⟨[],allD 38,false⟩,⟨[],allD 38,true⟩,⟨[],allD 38,true⟩,⟨[.op 3 3 0],allD 38,true⟩,⟨[.op 3 3 0],allD 38,true⟩,⟨[],allD 38,false⟩,⟨[],allD 38,true⟩,⟨[],allD 38,true⟩,⟨[],allD 38,true⟩,⟨[],allD 38,true⟩,⟨[],allD 38,true⟩,⟨[],allD 38,true⟩,⟨[],allD 38,true⟩,⟨[],allD 38,true⟩,⟨[],allD 38,true⟩,⟨[],allD 38,true⟩,⟨[],allD 38,true⟩,⟨[],allD 38,true⟩,⟨[.op 3 3 0],allD 38,true⟩,⟨[.op 3 3 0],allD 38,true⟩,⟨[],allD 38,true⟩,⟨[],allD 38,true⟩,⟨[],allD 38,true⟩] h0 hm (tabEnv_ok (tab_cons hR (tab_cons hR2 tab_nil))) (by kernel_rfl) (by kernel_rfl) ?_
        cases c1:goodO l[i] with
        | false =>
          rw [c1,Bool.false_and] at hg
          by_cases d1:0 ≤ l[i].Peer ∧ l[i].Peer ≤ 5
          · have d2:goodA l[i].Attrs = false:=by simpa [goodO,isPeerB,inR_t d1] using c1
            simp [d1,d2,goodOs,← hg]
          · simp [d1,goodOs,← hg]
        | true =>
          rw [c1,Bool.true_and] at hg
          have d1:0 ≤ l[i].Peer ∧ l[i].Peer ≤ 5:=by
            simp only [goodO,isPeerB,inR,Bool.and_eq_true,decide_eq_true_eq] at c1
            exact c1.1
          have d2:goodA l[i].Attrs = true:=by
            simp only [goodO,Bool.and_eq_true] at c1
            exact c1.2
          simp [d1,d2,e0]
          subst hI
          exact Less_mk (n - 1) (by omega) ⟨i + 1,by omega,by rw [en]; exact hg,by rw [wrNext i (by omega)]⟩
      · obtain ⟨j,hj⟩:∃ j,i = j + 1:=⟨i - 1,by omega⟩
        have aj:j < l.length:=by omega
        have ep:prevO l i = some l[j]:=by subst hj; exact prevO_next l j aj
        have hdj:=fm_drop (GOffer.ci k) 7 (fun _ => rfl) l j aj
        have hltj:j * 7 < l.length * 7:=by omega
        have hw:IntKind.wrap .i64 ((i:Int) - 1) = j:=(wrap64 (by omega) (by omega)).trans (by omega)
        have e0:0 < i:=by omega
        rw [ep,adjO] at hg
        refine drawP (tabEnv [] _) [⟨[.op 3 3 0],allD 38,true⟩,⟨[.op 3 3 0],allD 38,true⟩,⟨[],allD 38,false⟩,⟨[],allD 38,true⟩,⟨[],allD 38,true⟩,⟨[.op 3 3 0],allD 38,true⟩,⟨[.op 3 3 0],allD 38,true⟩,⟨[],allD 38,false⟩,⟨[],allD 38,true⟩,⟨[],allD 38,true⟩,⟨[],allD 38,true⟩,⟨[],allD 38,true⟩,⟨[],allD 38,true⟩,⟨[],allD 38,true⟩,⟨[],allD 38,true⟩,⟨[],allD 38,true⟩,⟨[],allD 38,true⟩,⟨[],allD 38,true⟩,⟨[],allD 38,true⟩,⟨[],allD 38,true⟩,⟨[.op 3 3 0],allD 38,true⟩,⟨[.op 3 3 0],allD 38,true⟩,⟨[],allD 38,true⟩,⟨[],allD 38,true⟩,⟨[],allD 38,true⟩] h0 hm (tabEnv_ok (tab_cons hR (tab_cons hR2 tab_nil))) (by kernel_rfl) (by kernel_rfl) ?_
        cases c1:goodO l[i] with
        | false =>
          rw [c1,Bool.false_and,Bool.false_and] at hg
          by_cases d1:0 ≤ l[i].Peer ∧ l[i].Peer ≤ 5
          · have d2:goodA l[i].Attrs = false:=by simpa [goodO,isPeerB,inR_t d1] using c1
            simp [d1,d2,goodOs,← hg]
          · simp [d1,goodOs,← hg]
        | true =>
          rw [c1,Bool.true_and] at hg
          have d1:0 ≤ l[i].Peer ∧ l[i].Peer ≤ 5:=by
            simp only [goodO,isPeerB,inR,Bool.and_eq_true,decide_eq_true_eq] at c1
            exact c1.1
          have d2:goodA l[i].Attrs = true:=by
            simp only [goodO,Bool.and_eq_true] at c1
            exact c1.2
          by_cases c2:l[j].Peer < l[i].Peer
          · have c3:¬ l[i].Peer ≤ l[j].Peer:=by omega
            rw [decide_eq_true c2,Bool.true_and] at hg
            simp [d1,d2,e0,hw,aj,hdj,hlen,hltj,c3]
            subst hI
            exact Less_mk (n - 1) (by omega) ⟨i + 1,by omega,by rw [en]; exact hg,by rw [wrNext i (by omega)]⟩
          · have c3:l[i].Peer ≤ l[j].Peer:=by omega
            rw [decide_eq_false c2,Bool.false_and] at hg
            simp [d1,d2,e0,hw,aj,hdj,hlen,hltj,c3,goodOs,← hg]
    · simp at a
      rw [List.drop_of_length_le (by omega),offersG] at hg
      simp [goodOs,← hg]
end Go.V
