/- What functions of the seat's program do, each proved of its code, under the bounds that its theorem names. -/
import Derived.Test.YtdelgkhoahmnfaaGreatTaj
set_option linter.all false
namespace Go.V
open Go.Proofs
set_option maxHeartbeats 1000000
set_option maxRecDepth 10000
set_option linter.unusedSimpArgs false
set_option linter.unusedVariables false
theorem ok_sGoodRib (k:Nat) (r:GRib) (hl:ribOK r):CallOK Tryz.prog 43 [.agg (GRib.ci k r)] (.c (pb (goodRib r))) [.agg (GRib.ci k r)]:=by
  obtain ⟨hll,hlx⟩:=hl
  refine okS (fn:=Tryz.f43) [] h0 Tryz.func43 (by kernel_rfl) rfl Tryz.ntmps43 Tryz.results43 (by simp) ?_
  simp
  refine loopS [1,6,7,8] [.op 0 0 0] (fun n st => ∃ (i:Nat),i + n = r.Rows.length ∧ rowsG (prevW r.Rows i) (r.Rows.drop i) = rowsG none r.Rows ∧ st = ⟨slOf 56 [(1,.ptr ⟨.op 0 0 0,[]⟩ 0),(6,.t (rd k r.Rows.length (r.Rows.flatMap (GRow.ci k)))),(7,.t (pi r.Rows.length)),(8,.t (pi i))],ofL [(.op 0 0 0,.sl 0 32 1 [pi r.Own,rd k r.Rows.length (r.Rows.flatMap (GRow.ci k))])]⟩) r.Rows.length ?_ ?_
  · rintro Inv hI
    simp
    subst hI
    exact ⟨0,by omega,rfl,rfl⟩
  · rintro Inv hI n st ⟨i,hi,hg,rfl⟩
    refine ewr_sound (M:=[]) h0 ?_
    simp
    refine brn_app (fun a => ?_) (fun a => ?_)
    · simp at a
      have hx:=hlx r.Rows[i] (List.getElem_mem a)
      rw [drop_step _ i a,rowsG] at hg
      have hd:=fm_drop (GRow.ci k) 3 (fun _ => rfl) r.Rows i a
      have hlen:=fm_len (GRow.ci k) 3 (fun _ => rfl) r.Rows
      have hlt:i * 3 < r.Rows.length * 3:=by omega
      have en:prevW r.Rows (i + 1) = some r.Rows[i]:=prevW_next r.Rows i a
      simp [a,hd,hlen,hlt]
      have hP:=ok_sGoodPrefix r.Rows[i].Prefix
      have hO:=ok_sGoodOffers k r.Rows[i].Offers hx
      by_cases c0:i = 0
      · have e0:¬ 0 < i:=by omega
        have ep:prevW r.Rows i = none:=by simp [prevW,c0]
        rw [ep,adjW,Bool.and_true] at hg
        refine drawP (tabEnv [] _) [⟨[.op 3 3 0],allD 56,true⟩,⟨[.op 3 3 0],allD 56,true⟩,⟨[],allD 56,false⟩,⟨[],allD 56,true⟩,⟨[],allD 56,true⟩,⟨[.op 3 3 0],allD 56,true⟩,⟨[.op 3 3 0],allD 56,true⟩,⟨[],allD 56,true⟩,⟨[],allD 56,true⟩,⟨[],allD 56,true⟩,⟨[],allD 56,true⟩,⟨[.op 3 3 0],allD 56,true⟩,⟨[.op 3 3 0],allD 56,true⟩,⟨[],allD 56,false⟩,⟨[],allD 56,true⟩,⟨[],allD 56,true⟩,⟨[],allD 56,true⟩,⟨[],allD 56,true⟩,⟨[],allD 56,true⟩,⟨[],allD 56,true⟩,⟨[.op 0 0 0],allD 56,true⟩,⟨[.op 0 0 0],allD 56,true⟩,⟨[],allD 56,true⟩,⟨[],allD 56,true⟩,⟨[],allD 56,true⟩,⟨[],allD 56,true⟩,⟨[],allD 56,true⟩,⟨[.op 3 3 0],allD 56,true⟩,⟨[.op 3 3 0],allD 56,true⟩,⟨[],allD 56,false⟩,⟨[],allD 56,true⟩,⟨[],allD 56,true⟩,⟨[],allD 56,true⟩] h0 hm (tabEnv_ok (tab_cons hP (tab_cons hO tab_nil))) (by kernel_rfl) (by kernel_rfl) ?_
        cases c1:goodPx r.Rows[i].Prefix with
        | false =>
          have hk:goodRow r.Rows[i] = false:=by simp [goodRow,c1]
          rw [hk,Bool.false_and] at hg
          simp [c1,goodRib,← hg]
        | true =>
          by_cases c2:r.Rows[i].Offers.length = 0
          · have hk:goodRow r.Rows[i] = false:=by simp [goodRow,c2]
            have c2':r.Rows[i].Offers = []:=List.length_eq_zero_iff.1 c2
            rw [hk,Bool.false_and] at hg
            simp [c1,e0,c2',goodRib,← hg]
          · have c2':¬ r.Rows[i].Offers = []:=fun e => c2 (by rw [e]; rfl)
            cases c3:goodOs r.Rows[i].Offers with
            | false =>
              have hk:goodRow r.Rows[i] = false:=by simp [goodRow,c3]
              rw [hk,Bool.false_and] at hg
              simp [c1,e0,c2',c3,goodRib,← hg]
            | true =>
              have hk:goodRow r.Rows[i] = true:=by simp [goodRow,c1,c2',c3]
              rw [hk,Bool.true_and] at hg
              simp [c1,e0,c2',c3]
              subst hI
              exact Less_mk (n - 1) (by omega) ⟨i + 1,by omega,by rw [en]; exact hg,by rw [wrNext i (by omega)]⟩
      · obtain ⟨j,hj⟩:∃ j,i = j + 1:=⟨i - 1,by omega⟩
        have aj:j < r.Rows.length:=by omega
        have ep:prevW r.Rows i = some r.Rows[j]:=by subst hj; exact prevW_next r.Rows j aj
        have hdj:=fm_drop (GRow.ci k) 3 (fun _ => rfl) r.Rows j aj
        have hltj:j * 3 < r.Rows.length * 3:=by omega
        have hw:IntKind.wrap .i64 ((i:Int) - 1) = j:=(wrap64 (by omega) (by omega)).trans (by omega)
        have e0:0 < i:=by omega
        rw [ep,adjW] at hg
        refine drawP (tabEnv [] _) [⟨[.op 3 3 0],allD 56,true⟩,⟨[.op 3 3 0],allD 56,true⟩,⟨[],allD 56,false⟩,⟨[],allD 56,true⟩,⟨[],allD 56,true⟩,⟨[.op 3 3 0],allD 56,true⟩,⟨[.op 3 3 0],allD 56,true⟩,⟨[],allD 56,true⟩,⟨[],allD 56,true⟩,⟨[],allD 56,true⟩,⟨[],allD 56,true⟩,⟨[.op 3 3 0],allD 56,true⟩,⟨[.op 3 3 0],allD 56,true⟩,⟨[],allD 56,false⟩,⟨[],allD 56,true⟩,⟨[],allD 56,true⟩,⟨[],allD 56,true⟩,⟨[],allD 56,true⟩,⟨[],allD 56,true⟩,⟨[],allD 56,true⟩,⟨[.op 0 0 0],allD 56,true⟩,⟨[.op 0 0 0],allD 56,true⟩,⟨[],allD 56,true⟩,⟨[],allD 56,true⟩,⟨[],allD 56,true⟩,⟨[],allD 56,true⟩,⟨[],allD 56,true⟩,⟨[.op 3 3 0],allD 56,true⟩,⟨[.op 3 3 0],allD 56,true⟩,⟨[],allD 56,false⟩,⟨[],allD 56,true⟩,⟨[],allD 56,true⟩,⟨[],allD 56,true⟩] h0 hm (tabEnv_ok (tab_cons hP (tab_cons hO (tab_cons (ok_l1Compare r.Rows[j].Prefix r.Rows[i].Prefix) tab_nil)))) (by kernel_rfl) (by kernel_rfl) ?_
        cases c1:goodPx r.Rows[i].Prefix with
        | false =>
          have hk:goodRow r.Rows[i] = false:=by simp [goodRow,c1]
          rw [hk,Bool.false_and,Bool.false_and] at hg
          simp [c1,goodRib,← hg]
        | true =>
          by_cases c4:cmpPx r.Rows[j].Prefix r.Rows[i].Prefix < 0
          · have c5:¬ 0 ≤ cmpPx r.Rows[j].Prefix r.Rows[i].Prefix:=by omega
            rw [decide_eq_true c4,Bool.and_true] at hg
            by_cases c2:r.Rows[i].Offers.length = 0
            · have hk:goodRow r.Rows[i] = false:=by simp [goodRow,c2]
              have c2':r.Rows[i].Offers = []:=List.length_eq_zero_iff.1 c2
              rw [hk,Bool.false_and] at hg
              simp [c1,e0,hw,aj,hdj,hlen,hltj,c5,c2',goodRib,← hg]
            · have c2':¬ r.Rows[i].Offers = []:=fun e => c2 (by rw [e]; rfl)
              cases c3:goodOs r.Rows[i].Offers with
              | false =>
                have hk:goodRow r.Rows[i] = false:=by simp [goodRow,c3]
                rw [hk,Bool.false_and] at hg
                simp [c1,e0,hw,aj,hdj,hlen,hltj,c5,c2',c3,goodRib,← hg]
              | true =>
                have hk:goodRow r.Rows[i] = true:=by simp [goodRow,c1,c2',c3]
                rw [hk,Bool.true_and] at hg
                simp [c1,e0,hw,aj,hdj,hlen,hltj,c5,c2',c3]
                subst hI
                exact Less_mk (n - 1) (by omega) ⟨i + 1,by omega,by rw [en]; exact hg,by rw [wrNext i (by omega)]⟩
          · have c5:0 ≤ cmpPx r.Rows[j].Prefix r.Rows[i].Prefix:=by omega
            rw [decide_eq_false c4,Bool.and_false,Bool.false_and] at hg
            by_cases c2':r.Rows[i].Offers = []
            · simp [c1,e0,hw,aj,hdj,hlen,hltj,c5,c2',goodRib,← hg]
            · cases c3:goodOs r.Rows[i].Offers <;> simp [c1,e0,hw,aj,hdj,hlen,hltj,c5,c2',c3,goodRib,← hg]
    · simp at a
      rw [List.drop_of_length_le (by omega),rowsG] at hg
      simp
      refine Inv_intro (ok_l1In r.Own 1 65535) ?_
      by_cases d1:1 ≤ r.Own ∧ r.Own ≤ 65535
      · have d1':isAsnB r.Own = true:=inR_t d1
        simp [d1,goodRib,d1',← hg]
        omega
      · have d1':isAsnB r.Own = false:=by simp only [isAsnB,inR,decide_eq_false_iff_not]; exact d1
        simp [d1,goodRib,d1']
theorem offers_ok {l:List GOffer} (h:wt_OfferS l ≤ 1048576):offersOK l:=by
  have:=len_wt_OfferS l
  refine ⟨by omega,fun x hx => attr_ok ?_⟩
  have h1:=mem_wt_OfferS hx
  unfold GOffer.wt at h1
  omega
theorem rib_ok {r:GRib} (h:GRib.wt r ≤ 1048576):ribOK r:=by
  unfold GRib.wt at h
  have:=len_wt_RowS r.Rows
  refine ⟨by omega,fun x hx => offers_ok ?_⟩
  have h1:=mem_wt_RowS hx
  unfold GRow.wt at h1
  omega
theorem ok_l8By (u v:Int):CallOK Tryz.prog 186 [.c (pi u),.c (pi v)] (.c (pi (cmpI u v))) [.c (pi u),.c (pi v)]:=by
  refine okS (fn:=Tryz.f186) [] h0 Tryz.func186 (by kernel_rfl) rfl Tryz.ntmps186 Tryz.results186 (by simp) ?_
  by_cases a:u < v
  · simp [a,cmpI]
  · by_cases b:v < u
    · simp [a,b,cmpI]
    · simp [a,b,cmpI]
theorem orI_snoc:∀ (l:List Int) (x:Int),orI (l ++ [x]) = if orI l = 0 then x else orI l
  | [],x => by
    show (if x = 0 then (0:Int) else x) = if (0:Int) = 0 then x else 0
    rw [if_pos (rfl:(0:Int) = 0)]
    split
    · rename_i h; exact h.symm
    · rfl
  | y :: l,x => by
    show (if y = 0 then orI (l ++ [x]) else y) = _
    by_cases h:y = 0
    · have e:orI (y :: l) = orI l:=if_pos h
      rw [e,if_pos h,orI_snoc l x]
    · have e:orI (y :: l) = y:=if_neg h
      rw [e,if_neg h,if_neg h]
theorem ok_l8Compare (k k':Nat) (a b:GOffer):CallOK Tryz.prog 162 [.agg (GOffer.ci k a),.agg (GOffer.ci k' b)] (.c (pi (ordO a b))) [.agg (GOffer.ci k a),.agg (GOffer.ci k' b)]:=by
  refine okS (fn:=Tryz.f162) [] h0 Tryz.func162 (by kernel_rfl) rfl Tryz.ntmps162 Tryz.results162 (by simp) ?_
  simp
  refine brn_app (fun c => ?_) (fun c => ?_)
  · simp at c
    simp [ordO,c]
  · simp at c
    obtain ⟨V,hV⟩:∃ V,V = [cmpI b.Attrs.Pref a.Attrs.Pref,cmpI a.Attrs.Path.length b.Attrs.Path.length,cmpI a.Attrs.Origin b.Attrs.Origin,cmpI a.Attrs.Med b.Attrs.Med,cmpI a.Attrs.Next b.Attrs.Next]:=⟨_,rfl⟩
    have hV5:V.length = 5:=by rw [hV]; rfl
    have hO:ordO a b = if orI V = 0 then cmpI a.Peer b.Peer else orI V:=by
      unfold ordO
      rw [if_neg c,← orI_snoc,hV]
      rfl
    rw [hO]
    simp
    refine drawP (fnEnv 186 (fI2 fun a b => pi (cmpI a b)) (tabEnv [] [])) [⟨[.op 0 1 0],allD 64,true⟩,⟨[.op 0 1 0],allD 64,true⟩,⟨[.op 0 1 0],allD 64,true⟩,⟨[.op 0 0 0],allD 64,true⟩,⟨[.op 0 0 0],allD 64,true⟩,⟨[.op 0 0 0],allD 64,true⟩,⟨[],allD 64,false⟩,⟨[.op 0 0 0],allD 64,true⟩,⟨[.op 0 0 0],allD 64,true⟩,⟨[.op 0 0 0],allD 64,true⟩,⟨[],allD 64,true⟩,⟨[.op 0 1 0],allD 64,true⟩,⟨[.op 0 1 0],allD 64,true⟩,⟨[.op 0 1 0],allD 64,true⟩,⟨[],allD 64,true⟩,⟨[],allD 64,false⟩,⟨[.op 0 0 0],allD 64,true⟩,⟨[.op 0 0 0],allD 64,true⟩,⟨[.op 0 0 0],allD 64,true⟩,⟨[.op 0 1 0],allD 64,true⟩,⟨[.op 0 1 0],allD 64,true⟩,⟨[.op 0 1 0],allD 64,true⟩,⟨[],allD 64,false⟩,⟨[.op 0 0 0],allD 64,true⟩,⟨[.op 0 0 0],allD 64,true⟩,⟨[.op 0 0 0],allD 64,true⟩,⟨[.op 0 1 0],allD 64,true⟩,⟨[.op 0 1 0],allD 64,true⟩,⟨[.op 0 1 0],allD 64,true⟩,⟨[],allD 64,false⟩,⟨[.op 0 0 0],allD 64,true⟩,⟨[.op 0 0 0],allD 64,true⟩,⟨[.op 0 0 0],allD 64,true⟩,⟨[.op 0 1 0],allD 64,true⟩,⟨[.op 0 1 0],allD 64,true⟩,⟨[.op 0 1 0],allD 64,true⟩,⟨[],allD 64,false⟩,⟨[],allD 64,false⟩,⟨[.op 3 37 0],allD 64,true⟩,⟨[],allD 64,true⟩] h0 hm (fnEnv_ok (tabEnv_ok tab_nil) (fI2_ok ok_l8By)) (by kernel_rfl) (by kernel_rfl) ?_
    simp
    refine loopS [2,3,49,50,51] [.op 3 37 0,.op 0 0 0,.op 0 1 0] (fun n st => ∃ (i:Nat),i + n = 5 ∧ orI (V.drop i) = orI V ∧ st = ⟨slOf 64 [(2,.ptr ⟨.op 0 0 0,[]⟩ 0),(3,.ptr ⟨.op 0 1 0,[]⟩ 0),(49,.ref ⟨.op 3 37 0,[]⟩ 0 5),(50,.t (pi 5)),(51,.t (pi i))],ofL [(.op 3 37 0,.sl 0 3 5 (V.map pi)),(.op 0 0 0,.sl 0 81 1 (GOffer.ci k a)),(.op 0 1 0,.sl 0 81 1 (GOffer.ci k' b))]⟩) 5 ?_ ?_
    · rintro Inv hI
      simp
      subst hI
      refine ⟨0,by omega,rfl,?_⟩
      simp [hV]
    · rintro Inv hI n st ⟨i,hi,hor,rfl⟩
      refine ewr_sound (M:=[]) h0 ?_
      simp
      refine brn_app (fun h => ?_) (fun h => ?_)
      · simp at h
        have hiV:i < V.length:=by omega
        rw [List.drop_eq_getElem_cons hiV,orI] at hor
        simp [h,hiV,hV5,List.getElem?_eq_getElem hiV]
        refine brn_app (fun h2 => ?_) (fun h2 => ?_)
        · simp at h2
          rw [if_neg h2] at hor
          have h3:¬ orI V = 0:=by rw [← hor]; exact h2
          simp [h3,hor]
        · simp at h2
          rw [if_pos h2] at hor
          simp
          subst hI
          exact Less_mk (n - 1) (by omega) ⟨i + 1,by omega,hor,by rw [wrNext i (by omega)]; simp⟩
      · simp at h
        have h3:orI V = 0:=by rw [← hor,List.drop_eq_nil_of_le (by omega)]; rfl
        simp
        refine Inv_intro (ok_l8By a.Peer b.Peer) ?_
        simp [h3]
def bJ (l:List GOffer):Nat → Option Nat
  | 0 => none
  | i + 1 => match bJ l i with
    | none => some i
    | some j => match l[i]?,l[j]? with
      | some x,some y => if ordO x y < 0 then some i else some j
      | _,_ => some j
def jI (b:Option Nat):Int:=match b with
  | none => -1
  | some j => j
theorem bJ_best (l:List GOffer):∀ i,i ≤ l.length → (bJ l i = none ∧ i = 0) ∨ ∃ (j:Nat) (hj:j < i) (hl:j < l.length),bJ l i = some j ∧ bestO (l.take i) = some l[j]
  | 0,_ => .inl ⟨rfl,rfl⟩
  | i + 1,h => by
    right
    have hi:i < l.length:=by omega
    have hb:bestO (l.take (i + 1)) = match bestO (l.take i) with
        | none => some l[i]
        | some y => if ordO l[i] y < 0 then some l[i] else some y:=by
      rw [take_step l i hi]
      unfold bestO
      rw [List.foldl_append]
      rfl
    rw [hb]
    rcases bJ_best l i (by omega) with ⟨h1,h2⟩ | ⟨j,hj,hl,h1,h2⟩
    · subst h2
      exact ⟨0,by omega,hi,by simp only [bJ],rfl⟩
    · rw [h2]
      simp only [bJ,h1,List.getElem?_eq_getElem hi,List.getElem?_eq_getElem hl]
      by_cases hc:ordO l[i] l[j] < 0
      · rw [if_pos hc,if_pos hc]
        exact ⟨i,by omega,hi,rfl,rfl⟩
      · rw [if_neg hc,if_neg hc]
        exact ⟨j,by omega,hl,rfl,rfl⟩
theorem ok_l8Best (k:Nat) (l:List GOffer) (hl:l.length ≤ 1048576):CallOK Tryz.prog 115 [.c (rd k l.length (l.flatMap (GOffer.ci k)))] (.c (pi (jI (bJ l l.length)))) [.c (rd k l.length (l.flatMap (GOffer.ci k)))]:=by
  refine okS (fn:=Tryz.f115) [] h0 Tryz.func115 (by kernel_rfl) rfl Tryz.ntmps115 Tryz.results115 (by simp) ?_
  simp
  refine loopS [0,3,6,7,8] [] (fun n st => ∃ (i:Nat),i + n = l.length ∧ st = ⟨slOf 27 [(0,.t (rd k l.length (l.flatMap (GOffer.ci k)))),(3,.t (pi (jI (bJ l i)))),(6,.t (rd k l.length (l.flatMap (GOffer.ci k)))),(7,.t (pi l.length)),(8,.t (pi i))],ofL []⟩) l.length ?_ ?_
  · rintro Inv hI
    simp
    subst hI
    exact ⟨0,by omega,rfl⟩
  · rintro Inv hI n st ⟨i,hi,rfl⟩
    refine ewr_sound (M:=[]) h0 ?_
    simp
    refine brn_app (fun h => ?_) (fun h => ?_)
    · simp at h
      have hd:=fm_drop (GOffer.ci k) 7 (fun _ => rfl) l i h
      have hlen:=fm_len (GOffer.ci k) 7 (fun _ => rfl) l
      have hlt:i * 7 < l.length * 7:=by omega
      simp [h,hd,hlen,hlt]
      rcases bJ_best l i (by omega) with ⟨h1,h2⟩ | ⟨j,hj,hjl,h1,h2⟩
      · have e2:bJ l (i + 1) = some i:=by simp only [bJ,h1]
        simp only [h1,jI]
        refine drawP (tabEnv [] _) [⟨[],allD 27,true⟩,⟨[],allD 27,true⟩,⟨[],allD 27,true⟩,⟨[.op 4 3 0],allD 27,true⟩,⟨[],allD 27,true⟩,⟨[],allD 27,true⟩,⟨[],allD 27,true⟩,⟨[],allD 27,true⟩,⟨[],allD 27,false⟩,⟨[],allD 27,true⟩,⟨[],allD 27,true⟩] h0 hm (tabEnv_ok tab_nil) (by kernel_rfl) (by kernel_rfl) ?_
        simp
        subst hI
        exact Less_mk (n - 1) (by omega) ⟨i + 1,by omega,by rw [wrNext i (by omega),e2]; rfl⟩
      · have hdj:=fm_drop (GOffer.ci k) 7 (fun _ => rfl) l j hjl
        have hltj:j * 7 < l.length * 7:=by omega
        have e2:bJ l (i + 1) = if ordO l[i] l[j] < 0 then some i else some j:=by simp only [bJ,h1,List.getElem?_eq_getElem h,List.getElem?_eq_getElem hjl]
        have hnn:¬ (j:Int) < 0:=by omega
        simp only [h1,jI]
        refine drawP (tabEnv [] _) [⟨[],allD 27,true⟩,⟨[],allD 27,true⟩,⟨[],allD 27,true⟩,⟨[.op 4 3 0],allD 27,true⟩,⟨[],allD 27,true⟩,⟨[],allD 27,true⟩,⟨[],allD 27,true⟩,⟨[],allD 27,true⟩,⟨[],allD 27,false⟩,⟨[],allD 27,true⟩,⟨[],allD 27,true⟩] h0 hm (tabEnv_ok (tab_cons (ok_l8Compare k k l[i] l[j]) tab_nil)) (by kernel_rfl) (by kernel_rfl) ?_
        simp [hnn,hjl,hdj,hlen,hltj]
        refine brn_app (fun b => ?_) (fun b => ?_)
        · simp at b
          simp
          subst hI
          exact Less_mk (n - 1) (by omega) ⟨i + 1,by omega,by rw [wrNext i (by omega),e2,if_pos b]; rfl⟩
        · simp at b
          simp
          subst hI
          exact Less_mk (n - 1) (by omega) ⟨i + 1,by omega,by rw [wrNext i (by omega),e2,if_neg (by omega)]; rfl⟩
    · simp at h
      have:i = l.length:=by omega
      subst this
      simp
theorem ok_l13Best (k:Nat) (asn:Int) (l:List GOffer) (hl:offersOK l) (hlen:l.length ≤ 1048576):CallOK Tryz.prog 63 [.c (pi asn),.c (rd (k + 1) l.length (l.flatMap (GOffer.ci (k + 1))))] (.tup [.agg (outO (k + 1) (bestO (restO asn l))),.c (pb (bestO (restO asn l)).isSome)]) [.c (pi asn),.c (rd (k + 1) l.length (l.flatMap (GOffer.ci (k + 1))))]:=by
  refine okS (fn:=Tryz.f63) [] h0 Tryz.func63 (by kernel_rfl) rfl Tryz.ntmps63 Tryz.results63 (by simp) ?_
  simp
  refine ewp_nil 6 (.op 6 3 0) 81 (by decide) rfl rfl rfl ?_
  refine loopS [0,4,6,10,11,12] [.op 6 3 0,.op 0 0 0] (fun n st => ∃ (i:Nat),i + n = l.length ∧ st = ⟨slOf 36 [(0,.t (pi asn)),(4,.ptr ⟨.op 0 0 0,[]⟩ 0),(6,.ref ⟨.op 6 3 0,[]⟩ 0 (restO asn (l.take i)).length),(10,.t (rd (k + 1) l.length (l.flatMap (GOffer.ci (k + 1))))),(11,.t (pi l.length)),(12,.t (pi i))],ofL [(.op 6 3 0,.sl 0 81 (restO asn (l.take i)).length ((restO asn (l.take i)).flatMap (GOffer.ci (k + 1)))),(.op 0 0 0,.sl 0 81 1 [pi 0,pi 0,.sl 0 nilE 0 [],pi 0,pi 0,pi 0,.sl 0 nilE 0 []])]⟩) l.length ?_ ?_
  · rintro Inv hI
    simp
    subst hI
    refine ⟨0,by omega,?_⟩
    simp [restO]
  · rintro Inv hI n st ⟨i,hi,rfl⟩
    have hRl:(restO asn (l.take i)).length ≤ i:=by
      unfold restO
      exact Nat.le_trans (List.length_filter_le _ _) (by rw [List.length_take]; omega)
    have hS:∀ h:i < l.length,restO asn (l.take (i + 1)) = restO asn (l.take i) ++ (if hasI l[i].Attrs.Path asn = true then [] else [l[i]]):=by
      intro h
      unfold restO
      rw [take_step l i h,List.filter_append]
      cases hc:hasI l[i].Attrs.Path asn <;> simp [hc]
    have hend:i = l.length → restO asn (l.take i) = restO asn l:=fun h => by rw [List.take_of_length_le (by omega)]
    generalize restO asn (l.take i) = R at hRl hS hend ⊢
    refine ewr_sound (M:=[]) h0 ?_
    simp
    refine brn_app (fun a => ?_) (fun a => ?_)
    · simp at a
      have hS':=hS a
      have hx:=hl.2 l[i] (List.getElem_mem a)
      have hd:=fm_drop (GOffer.ci (k + 1)) 7 (fun _ => rfl) l i a
      have hlen:=fm_len (GOffer.ci (k + 1)) 7 (fun _ => rfl) l
      have hlt:i * 7 < l.length * 7:=by omega
      simp [a,hd,hlen,hlt]
      refine Inv_intro (ok_l1Has (k + 1) l[i].Attrs.Path asn hx.1) ?_
      simp
      refine brn_app (fun b => ?_) (fun b => ?_)
      · simp at b
        rw [if_neg (by simp [b])] at hS'
        have hA:=fm_len (GOffer.ci (k + 1)) 7 (fun _ => rfl) R
        have ht:List.take (R.length * 7) (R.flatMap (GOffer.ci (k + 1))) = R.flatMap (GOffer.ci (k + 1)):=List.take_of_length_le (by omega)
        have hb1:(R.length + 1) * 88 ≤ 140737488355328:=by omega
        have hb2:R.length ≤ 9223372036854775806:=by omega
        simp [hA,ht,hb1,hb2]
        subst hI
        refine Less_mk (n - 1) (by omega) ⟨i + 1,by omega,?_⟩
        rw [wrNext i (by omega),hS']
        all_goals simp
      · simp at b
        rw [if_pos b,List.append_nil] at hS'
        simp
        subst hI
        refine Less_mk (n - 1) (by omega) ⟨i + 1,by omega,?_⟩
        rw [wrNext i (by omega),hS']
    · simp at a
      have hil:i = l.length:=by omega
      rw [hend hil] at hRl ⊢
      generalize restO asn l = R at hRl ⊢
      simp
      refine Inv_intro (ok_l8Best 0 R (by omega)) ?_
      rcases bJ_best R R.length (Nat.le_refl _) with ⟨h1,h2⟩ | ⟨j,hj,hjl,h1,h2⟩
      · have hR0:R = []:=List.length_eq_zero_iff.1 h2
        subst hR0
        have h3:bJ ([]:List GOffer) 0 = none:=rfl
        simp [h3,jI,bestO,outO]
      · rw [List.take_length] at h2
        have hnn:¬ (j:Int) < 0:=by omega
        have hdj:=fm_drop (GOffer.ci (k + 1)) 7 (fun _ => rfl) R j hjl
        have hlen:=fm_len (GOffer.ci (k + 1)) 7 (fun _ => rfl) R
        have hltj:j * 7 < R.length * 7:=by omega
        have hltj7:j * 7 + 7 ≤ R.length * 7:=by omega
        simp [h1,jI,h2,hnn,hjl,hdj,hlen,hltj,hltj7,outO]
theorem ok_l13At (k:Nat) (r:GRib) (p:GPrefix) (hr:r.Rows.length ≤ 140737488351232):CallOK Tryz.prog 121 [.agg (GRib.ci k r),.agg p.c] (.tup [.c (pi (rowAt p r.Rows)),.c (pb (rowIs p r.Rows))]) [.agg (GRib.ci k r),.agg p.c]:=by
  refine okS (fn:=Tryz.f121) [] h0 Tryz.func121 (by kernel_rfl) rfl Tryz.ntmps121 Tryz.results121 (by simp) ?_
  simp
  refine loopS [2,3,6] [.op 0 0 0,.op 0 1 0] (fun n st => ∃ (i:Nat),i + n = r.Rows.length ∧ (∀ (q:Nat) (hq:q < i) (hl:q < r.Rows.length),cmpPx r.Rows[q].Prefix p < 0) ∧ st = ⟨slOf 41 [(2,.ptr ⟨.op 0 0 0,[]⟩ 0),(3,.ptr ⟨.op 0 1 0,[]⟩ 0),(6,.t (pi i))],ofL [(.op 0 0 0,.sl 0 32 1 (GRib.ci k r)),(.op 0 1 0,.sl 0 77 1 p.c)]⟩) r.Rows.length ?_ ?_
  · rintro Inv hI
    simp
    subst hI
    exact ⟨0,by omega,by intro q hq; omega,by simp⟩
  · rintro Inv hI n st ⟨i,hi,hall,rfl⟩
    refine ewr_sound (M:=[]) h0 ?_
    simp
    by_cases a:i < r.Rows.length
    · have hd:=fm_drop (GRow.ci k) 3 (fun _ => rfl) r.Rows i a
      have hlen:=fm_len (GRow.ci k) 3 (fun _ => rfl) r.Rows
      have hlt:i * 3 < r.Rows.length * 3:=by omega
      refine drawP (tabEnv [] _) [⟨[],allD 41,true⟩,⟨[.op 0 0 0],allD 41,true⟩,⟨[.op 0 0 0],allD 41,true⟩,⟨[],allD 41,true⟩,⟨[],allD 41,true⟩,⟨[],allD 41,true⟩,⟨[.op 0 0 0],allD 41,true⟩,⟨[.op 0 0 0],allD 41,true⟩,⟨[],allD 41,true⟩,⟨[],allD 41,true⟩,⟨[],allD 41,true⟩,⟨[],allD 41,true⟩,⟨[.op 0 1 0],allD 41,true⟩,⟨[],allD 41,false⟩,⟨[],allD 41,true⟩,⟨[],allD 41,true⟩] h0 hm (tabEnv_ok (tab_cons (ok_l1Compare r.Rows[i].Prefix p) tab_nil)) (by kernel_rfl) (by kernel_rfl) ?_
      simp [a,hd,hlen,hlt]
      refine brn_app (fun b => ?_) (fun b => ?_)
      · simp at b
        simp
        subst hI
        refine Less_mk (n - 1) (by omega) ⟨i + 1,by omega,?_,by rw [wrNext i (by omega)]; simp⟩
        intro q hq hql
        by_cases hqi:q = i
        · subst hqi; exact b
        · exact hall q (by omega) hql
      · simp at b
        have e1:rowAt p r.Rows = i:=bsI_eq _ r.Rows i (by omega) hall fun h => b
        have e2:rowIs p r.Rows = decide (cmpPx r.Rows[i].Prefix p = 0):=by
          have:bsI (fun x:GRow => cmpPx x.Prefix p) r.Rows = i:=e1
          simp only [rowIs,bsF,this,List.getElem?_eq_getElem a]
        rw [e1,e2]
        simp only [cmpPx_eq,px_ext]
        simp
        refine drawP (tabEnv [] _) [⟨[],allD 41,true⟩,⟨[],allD 41,true⟩,⟨[.op 0 0 0],allD 41,true⟩,⟨[.op 0 0 0],allD 41,true⟩,⟨[],allD 41,true⟩,⟨[],allD 41,true⟩,⟨[],allD 41,true⟩,⟨[.op 0 0 0],allD 41,true⟩,⟨[.op 0 0 0],allD 41,true⟩,⟨[],allD 41,true⟩,⟨[],allD 41,true⟩,⟨[],allD 41,true⟩,⟨[],allD 41,true⟩,⟨[.op 0 1 0],allD 41,true⟩,⟨[],allD 41,true⟩,⟨[],allD 41,true⟩,⟨[],allD 41,true⟩,⟨[],allD 41,true⟩] h0 hm (tabEnv_ok tab_nil) (by kernel_rfl) (by kernel_rfl) ?_
        simp [a,hd,hlen,hlt]
    · have hil:i = r.Rows.length:=by omega
      have e1:rowAt p r.Rows = i:=bsI_eq _ r.Rows i (by omega) hall fun h => by omega
      have e2:rowIs p r.Rows = false:=by
        have:bsI (fun x:GRow => cmpPx x.Prefix p) r.Rows = i:=e1
        simp only [rowIs,bsF,this,List.getElem?_eq_none (Nat.le_of_not_lt a)]
      rw [e1,e2]
      refine drawP (tabEnv [] _) [⟨[],allD 41,true⟩,⟨[.op 0 0 0],allD 41,true⟩,⟨[.op 0 0 0],allD 41,true⟩,⟨[],allD 41,true⟩,⟨[],allD 41,true⟩,⟨[],allD 41,true⟩,⟨[.op 0 0 0],allD 41,true⟩,⟨[.op 0 0 0],allD 41,true⟩,⟨[],allD 41,true⟩,⟨[],allD 41,true⟩,⟨[],allD 41,true⟩,⟨[],allD 41,true⟩,⟨[.op 0 1 0],allD 41,true⟩,⟨[],allD 41,false⟩,⟨[],allD 41,true⟩,⟨[],allD 41,true⟩] h0 hm (tabEnv_ok tab_nil) (by kernel_rfl) (by kernel_rfl) ?_
      simp [a]
      refine drawP (tabEnv [] _) [⟨[],allD 41,true⟩,⟨[],allD 41,true⟩,⟨[.op 0 0 0],allD 41,true⟩,⟨[.op 0 0 0],allD 41,true⟩,⟨[],allD 41,true⟩,⟨[],allD 41,true⟩,⟨[],allD 41,true⟩,⟨[.op 0 0 0],allD 41,true⟩,⟨[.op 0 0 0],allD 41,true⟩,⟨[],allD 41,true⟩,⟨[],allD 41,true⟩,⟨[],allD 41,true⟩,⟨[],allD 41,true⟩,⟨[.op 0 1 0],allD 41,true⟩,⟨[],allD 41,true⟩,⟨[],allD 41,true⟩,⟨[],allD 41,true⟩,⟨[],allD 41,true⟩] h0 hm (tabEnv_ok tab_nil) (by kernel_rfl) (by kernel_rfl) ?_
      simp [a]
theorem bestR_good {r:GRib} {p:GPrefix} (hg:goodRib r = true) (hi:rowIs p r.Rows = true):∃ hl:rowAt p r.Rows < r.Rows.length,bestR r p = bestO (restO r.Own r.Rows[rowAt p r.Rows].Offers):=by
  obtain ⟨ho,_,_,hrows⟩:=goodRib_all hg
  obtain ⟨hl,he⟩:=rowIs_lt hi
  have hgx:=hrows _ (List.getElem_mem hl)
  have hgo:goodOs r.Rows[rowAt p r.Rows].Offers = true:=by
    simp only [goodRow,Bool.and_eq_true] at hgx
    exact hgx.2.2
  refine ⟨hl,?_⟩
  unfold bestR
  rw [if_pos hi,List.getElem?_eq_getElem hl]
  simp only [bstBy]
  rw [if_pos ⟨hgo,ho⟩]
theorem ok_l13BestAt (k:Nat) (r:GRib) (p:GPrefix) (hr:ribOK r) (hx:∀ x ∈ r.Rows,x.Offers.length ≤ 1048576) (hg:goodRib r = true):CallOK Tryz.prog 108 [.agg (GRib.ci (k + 1) r),.agg p.c] (.tup [.agg (outO (k + 1) (bestR r p)),.c (pb (bestR r p).isSome)]) [.agg (GRib.ci (k + 1) r),.agg p.c]:=by
  refine okS (fn:=Tryz.f108) [] h0 Tryz.func108 (by kernel_rfl) rfl Tryz.ntmps108 Tryz.results108 (by simp) ?_
  simp
  refine Inv_intro (ok_l13At (k + 1) r p hr.1) ?_
  by_cases hi:rowIs p r.Rows = true
  · obtain ⟨hl,hbr⟩:=bestR_good hg hi
    rw [hbr]
    have ho:=hr.2 _ (List.getElem_mem hl)
    have hol:=hx _ (List.getElem_mem hl)
    generalize rowAt p r.Rows = i at *
    have hd:=fm_drop (GRow.ci (k + 1)) 3 (fun _ => rfl) r.Rows i hl
    have hlen:=fm_len (GRow.ci (k + 1)) 3 (fun _ => rfl) r.Rows
    have hlt:i * 3 < r.Rows.length * 3:=by omega
    have hlt2:i * 3 + 2 < r.Rows.length * 3:=by omega
    have hB:=ok_l13Best k r.Own r.Rows[i].Offers ho hol
    simp [hi]
    cases hb:bestO (restO r.Own r.Rows[i].Offers) with
    | none =>
      rw [hb] at hB
      simp [outO] at hB ⊢
      refine drawP (tabEnv [] _) [⟨[.op 0 0 0],allD 28,true⟩,⟨[.op 0 0 0],allD 28,true⟩,⟨[.op 0 0 0],allD 28,true⟩,⟨[.op 0 0 0],allD 28,true⟩,⟨[],allD 28,true⟩,⟨[],allD 28,true⟩,⟨[],allD 28,true⟩,⟨[],allD 28,true⟩,⟨[],allD 28,false⟩,⟨[.op 4 8 2,.op 4 8 6],allD 28,true⟩,⟨[.op 4 8 2,.op 4 8 6],allD 28,true⟩,⟨[.op 0 2 0,.op 4 8 2,.op 4 8 6],[17,18,19,20,21,22,23,24,25,26,27,5],false⟩,⟨[],allD 28,true⟩] h0 hm (tabEnv_ok (tab_cons hB tab_nil)) (by kernel_rfl) (by kernel_rfl) ?_
      simp [hl,hd,hlen,hlt,hlt2]
    | some o =>
      rw [hb] at hB
      simp [outO] at hB ⊢
      refine drawP (tabEnv [] _) [⟨[.op 0 0 0],allD 28,true⟩,⟨[.op 0 0 0],allD 28,true⟩,⟨[.op 0 0 0],allD 28,true⟩,⟨[.op 0 0 0],allD 28,true⟩,⟨[],allD 28,true⟩,⟨[],allD 28,true⟩,⟨[],allD 28,true⟩,⟨[],allD 28,true⟩,⟨[],allD 28,false⟩,⟨[],allD 28,true⟩,⟨[],allD 28,true⟩,⟨[.op 0 2 0],[17,18,19,20,21,22,23,24,25,26,27,5],false⟩,⟨[],allD 28,true⟩] h0 hm (tabEnv_ok (tab_cons hB tab_nil)) (by kernel_rfl) (by kernel_rfl) ?_
      simp [hl,hd,hlen,hlt,hlt2]
  · have hi':rowIs p r.Rows = false:=by simpa using hi
    simp [bestR,hi',outO]
end Go.V
