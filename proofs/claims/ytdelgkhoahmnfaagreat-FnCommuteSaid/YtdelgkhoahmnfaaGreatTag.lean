/- What functions of the seat's program do, each proved of its code, under the bounds that its theorem names. -/
import Derived.Test.YtdelgkhoahmnfaaGreatTaf
set_option linter.all false
namespace Go.V
open Go.Proofs
set_option maxHeartbeats 1000000
set_option maxRecDepth 10000
set_option linter.unusedSimpArgs false
set_option linter.unusedVariables false
theorem ok_ContainsFunc_Prefix (k q g:Nat) (caps:List (List PT)) (p:GPrefix → Bool) (xs:List GPrefix) (ha:xs.length ≤ 140737488351232)
    (hg:∀ x ∈ xs,CallOK Tryz.prog g (.agg (GPrefix.c x) :: caps.map (PV.ip q)) (.c (pb (p x))) (.agg (GPrefix.c x) :: caps.map (PV.ip q))) :
    CallOK Tryz.prog 142 [.c (rd k xs.length (xs.flatMap GPrefix.c)),.c (.fn q g caps)] (.c (pb (xs.any p))) [.c (rd k xs.length (xs.flatMap GPrefix.c)),.c (.fn q g caps)]:=by
  refine okS (fn:=Tryz.f142) [] h0 Tryz.func142 (by kernel_rfl) rfl Tryz.ntmps142 Tryz.results142 (by simp) ?_
  simp
  refine Inv_intro (ok_IndexFunc_Prefix k q g caps p xs ha hg) ?_
  simp [idxOf_any]
theorem ok_IndexFunc_Int (k q g:Nat) (caps:List (List PT)) (p:Int → Bool) (xs:List Int) (ha:xs.length ≤ 140737488351232)
    (hg:∀ x ∈ xs,CallOK Tryz.prog g (.c (pi x) :: caps.map (PV.ip q)) (.c (pb (p x))) (.c (pi x) :: caps.map (PV.ip q))) :
    CallOK Tryz.prog 214 [.c (rd k xs.length (xs.map pi)),.c (.fn q g caps)] (.c (pi (idxOf p xs))) [.c (rd k xs.length (xs.map pi)),.c (.fn q g caps)]:=by
  refine okS (fn:=Tryz.f214) [] h0 Tryz.func214 (by kernel_rfl) rfl Tryz.ntmps214 Tryz.results214 (by simp) ?_
  simp
  refine loopS [0,1,7,8] [] (fun n st => ∃ (i:Nat),i + n = xs.length ∧ (∀ (j:Nat) (hj:j < i) (hj':j < xs.length),p xs[j] = false) ∧ st = ⟨slOf 19 [(0,.t (rd k xs.length (xs.map pi))),(1,.t (.fn q g caps)),(7,.t (pi xs.length)),(8,.t (pi i))],ofL []⟩) xs.length ?_ ?_
  · rintro Inv hI
    simp
    subst hI
    exact ⟨0,by omega,by intro j hj; omega,rfl⟩
  · rintro Inv hI n st ⟨i,hi,hall,rfl⟩
    refine ewr_sound (M:=[]) h0 ?_
    simp
    refine brn_app (fun h => ?_) (fun h => ?_)
    · simp at h
      simp [h]
      refine Inv_intro (hg _ (List.getElem_mem h)) ?_
      simp
      refine brn_app (fun h2 => ?_) (fun h2 => ?_)
      · simp
        exact (idxOf_hit p xs i h h2 fun j hj => hall j hj (by omega)).symm
      · simp
        subst hI
        refine Less_mk (n - 1) (by omega) ⟨i + 1,by omega,?_,by rw [wrNext i (by omega)]⟩
        intro j hj hj'
        by_cases hji:j = i
        · subst hji; exact h2
        · exact hall j (by omega) hj'
    · simp at h
      simp
      exact (idxOf_no p xs fun j hj => hall j (by omega) hj).symm
theorem ok_ContainsFunc_Int (k q g:Nat) (caps:List (List PT)) (p:Int → Bool) (xs:List Int) (ha:xs.length ≤ 140737488351232)
    (hg:∀ x ∈ xs,CallOK Tryz.prog g (.c (pi x) :: caps.map (PV.ip q)) (.c (pb (p x))) (.c (pi x) :: caps.map (PV.ip q))) :
    CallOK Tryz.prog 201 [.c (rd k xs.length (xs.map pi)),.c (.fn q g caps)] (.c (pb (xs.any p))) [.c (rd k xs.length (xs.map pi)),.c (.fn q g caps)]:=by
  refine okS (fn:=Tryz.f201) [] h0 Tryz.func201 (by kernel_rfl) rfl Tryz.ntmps201 Tryz.results201 (by simp) ?_
  simp
  refine Inv_intro (ok_IndexFunc_Int k q g caps p xs ha hg) ?_
  simp [idxOf_any]
theorem any_not {α:Type} (p:α → Bool) (xs:List α):xs.any (fun x => !p x) = !xs.all p:=by
  induction xs with
  | nil => rfl
  | cons x xs ih => simp [ih]
theorem ok_isValue (n:Int):CallOK Tryz.prog 178 [.c (pi n)] (.c (pb (isValB n))) [.c (pi n)]:=by
  refine okS (fn:=Tryz.f178) [] h0 Tryz.func178 (by kernel_rfl) rfl Tryz.ntmps178 Tryz.results178 (by simp) ?_
  simp
  refine Inv_intro (ok_within _ _ _) ?_
  simp [isValB,inR]
theorem ok_isPath1 (n:Int):CallOK Tryz.prog 202 [.c (pi n)] (.c (pb (!isAsnB n))) [.c (pi n)]:=by
  refine okS (fn:=Tryz.f202) [] h0 Tryz.func202 (by kernel_rfl) rfl Tryz.ntmps202 Tryz.results202 (by simp) ?_
  simp
  refine Inv_intro (ok_isAsn n) ?_
  simp
theorem ok_isPath (k:Nat) (p:List Int) (hl:p.length ≤ 140737488351232):CallOK Tryz.prog 177 [.c (rd k p.length (p.map pi))] (.c (pb (goodPa p))) [.c (rd k p.length (p.map pi))]:=by
  refine okS (fn:=Tryz.f177) [] h0 Tryz.func177 (by kernel_rfl) rfl Tryz.ntmps177 Tryz.results177 (by simp) ?_
  simp
  refine gT (fun a => ?_) (fun a => ?_)
  · have a':p.length ≤ 10:=by simp at a; omega
    simp [a]
    refine Inv_intro (ok_ContainsFunc_Int k 0 202 [] (fun n => !isAsnB n) p hl fun x hx => ok_isPath1 x) ?_
    simp [goodPa,any_not,a']
  · have a':¬ p.length ≤ 10:=by simp at a; omega
    simp [goodPa,a,a']
theorem ok_areComms (k:Nat) (l:List Int) (hl:l.length ≤ 140737488351232):CallOK Tryz.prog 179 [.c (rd k l.length (l.map pi))] (.c (pb (goodCm l))) [.c (rd k l.length (l.map pi))]:=by
  refine okS (fn:=Tryz.f179) [] h0 Tryz.func179 (by kernel_rfl) rfl Tryz.ntmps179 Tryz.results179 (by simp) ?_
  simp
  refine loopS [0,5,6,7] [] (fun n st => ∃ (i:Nat),i + n = l.length ∧ commsG (prevI l i) (l.drop i) = commsG none l ∧ st = ⟨slOf 32 [(0,.t (rd k l.length (l.map pi))),(5,.t (rd k l.length (l.map pi))),(6,.t (pi l.length)),(7,.t (pi i))],ofL []⟩) l.length ?_ ?_
  · rintro Inv hI
    simp
    subst hI
    exact ⟨0,by omega,rfl,rfl⟩
  · rintro Inv hI n st ⟨i,hi,hg,rfl⟩
    refine ewr_sound (M:=[]) h0 ?_
    simp
    refine brn_app (fun a => ?_) (fun a => ?_)
    · simp at a
      rw [drop_step _ i a,commsG] at hg
      have en:prevI l (i + 1) = some l[i]:=prevI_next l i a
      simp [a]
      refine Inv_intro (ok_isValue l[i]) ?_
      cases c1:isValB l[i] with
      | false =>
        rw [c1,Bool.false_and,Bool.false_and] at hg
        simp [goodCm,← hg]
      | true =>
        rw [c1,Bool.true_and] at hg
        by_cases c0:i = 0
        · have e0:¬ 0 < i:=by omega
          have ep:prevI l i = none:=by simp [prevI,c0]
          rw [ep,adjI,Bool.true_and] at hg
          simp [e0]
          subst hI
          exact Less_mk (n - 1) (by omega) ⟨i + 1,by omega,by rw [en]; exact hg,by rw [wrNext i (by omega)]⟩
        · obtain ⟨j,hj⟩:∃ j,i = j + 1:=⟨i - 1,by omega⟩
          have aj:j < l.length:=by omega
          have ep:prevI l i = some l[j]:=by subst hj; exact prevI_next l j aj
          have hw:IntKind.wrap .i64 ((i:Int) - 1) = j:=(wrap64 (by omega) (by omega)).trans (by omega)
          have e0:0 < i:=by omega
          rw [ep,adjI] at hg
          simp [e0,hw,aj]
          refine brn_app (fun c => ?_) (fun c => ?_)
          · simp at c
            have c':¬ l[j] < l[i]:=by omega
            simp [c'] at hg
            simp [goodCm,hg]
          · simp at c
            have c':l[j] < l[i]:=by omega
            simp [c'] at hg
            simp
            subst hI
            exact Less_mk (n - 1) (by omega) ⟨i + 1,by omega,by rw [en]; exact hg,by rw [wrNext i (by omega)]⟩
    · simp at a
      rw [List.drop_of_length_le (by omega),commsG] at hg
      simp [goodCm,← hg]
      omega
theorem ok_iGoodAttrs (k:Nat) (x:GAttrs) (hx:attrOK x):CallOK Tryz.prog 141 [.agg (GAttrs.ci k x)] (.c (pb (goodA x))) [.agg (GAttrs.ci k x)]:=by
  obtain ⟨h1,h2⟩:=hx
  refine okS (fn:=Tryz.f141) [] h0 Tryz.func141 (by kernel_rfl) rfl Tryz.ntmps141 Tryz.results141 (by simp) ?_
  simp
  refine Inv_intro (ok_within _ _ _) ?_
  by_cases c1:0 ≤ x.Origin ∧ x.Origin ≤ 2
  · simp [c1]
    refine Inv_intro (ok_isPath k x.Path h1) ?_
    cases c2:goodPa x.Path with
    | false => simp [goodA,c2]
    | true =>
      simp
      refine Inv_intro (ok_isAddr _) ?_
      cases c3:inR x.Next 0 4294967295 with
      | false => simp [goodA,c3]
      | true =>
        simp
        refine Inv_intro (ok_isValue _) ?_
        cases c4:isValB x.Med with
        | false => simp [goodA,c4]
        | true =>
          simp
          refine Inv_intro (ok_isValue _) ?_
          cases c5:isValB x.Pref with
          | false => simp [goodA,c5]
          | true =>
            simp
            refine Inv_intro (ok_areComms k x.Comms h2) ?_
            simp [goodA,c2,c3,c4,c5,inR_t c1]
  · have c1':inR x.Origin 0 2 = false:=by simp only [inR,decide_eq_false_iff_not]; exact c1
    simp [c1,goodA,c1']
theorem idxPx_mem (l:List GPrefix) (p:GPrefix):decide (0 ≤ idxOf (fun x => decide (p = x)) l) = decide (p ∈ l):=by
  rw [idxOf_any]
  by_cases h:p ∈ l
  · rw [decide_eq_true h]; exact List.any_eq_true.2 ⟨p,h,by simp⟩
  · rw [decide_eq_false h]
    refine List.any_eq_false.2 fun x hx => ?_
    simp
    rintro rfl
    exact h hx
theorem ok_IndexPx (k:Nat) (l:List GPrefix) (p:GPrefix) (hll:l.length ≤ 140737488351232):CallOK Tryz.prog 180 [.c (rd k l.length (l.flatMap GPrefix.c)),.agg p.c] (.c (pi (idxOf (fun x => decide (p = x)) l))) [.c (rd k l.length (l.flatMap GPrefix.c)),.agg p.c]:=by
  refine okS (fn:=Tryz.f180) [] h0 Tryz.func180 (by kernel_rfl) rfl Tryz.ntmps180 Tryz.results180 (by simp) ?_
  simp
  refine loopS [0,3,6,7,8] [.op 0 0 0] (fun n st => ∃ (i:Nat),i + n = l.length ∧ (∀ (j:Nat) (hj:j < i) (hl:j < l.length),¬ p = l[j]) ∧ st = ⟨slOf 19 [(0,.t (rd k l.length (l.flatMap GPrefix.c))),(3,.ptr ⟨.op 0 0 0,[]⟩ 0),(6,.t (rd k l.length (l.flatMap GPrefix.c))),(7,.t (pi l.length)),(8,.t (pi i))],ofL [(.op 0 0 0,.sl 0 77 1 p.c)]⟩) l.length ?_ ?_
  · rintro Inv hI
    simp
    subst hI
    exact ⟨0,by omega,fun j hj => absurd hj (by omega),rfl⟩
  · rintro Inv hI n st ⟨i,hi,hg,rfl⟩
    refine ewr_sound (M:=[]) h0 ?_
    simp
    refine brn_app (fun a => ?_) (fun a => ?_)
    · simp at a
      have hd:=fm_drop GPrefix.c 2 (fun _ => rfl) l i a
      have hlen:=fm_len GPrefix.c 2 (fun _ => rfl) l
      have hlt:i * 2 < l.length * 2:=by omega
      simp
      refine drawP E0 [⟨[.op 0 0 0],allD 19,true⟩,⟨[],allD 19,true⟩,⟨[],allD 19,true⟩,⟨[],allD 19,true⟩,⟨[],allD 19,true⟩,⟨[],allD 19,true⟩] h0 hm (E0_ok _) (by kernel_rfl) (by kernel_rfl) ?_
      by_cases c:p = l[i]
      · have e:idxOf (fun x => decide (p = x)) l = i:=idxOf_hit _ l i a (by simpa using c) fun j hj => by simpa using hg j hj (by omega)
        simp [a,hd,hlen,hlt,px_dec,decide_eq_true c,e]
      · simp [a,hd,hlen,hlt,px_dec,c]
        subst hI
        refine Less_mk (n - 1) (by omega) ⟨i + 1,by omega,fun j hj hl => ?_,by rw [wrNext i (by omega)]; rfl⟩
        rcases Nat.lt_or_ge j i with h | h
        · exact hg j h hl
        · have:j = i:=by omega
          subst this
          exact c
    · simp at a
      have e:idxOf (fun x => decide (p = x)) l = -1:=idxOf_no _ l fun j hj => by simpa using hg j (by omega) hj
      simp [e]
theorem ok_ContainsPx (k:Nat) (l:List GPrefix) (p:GPrefix) (hll:l.length ≤ 140737488351232):CallOK Tryz.prog 144 [.c (rd k l.length (l.flatMap GPrefix.c)),.agg p.c] (.c (pb (decide (p ∈ l)))) [.c (rd k l.length (l.flatMap GPrefix.c)),.agg p.c]:=by
  refine okS (fn:=Tryz.f144) [] h0 Tryz.func144 (by kernel_rfl) rfl Tryz.ntmps144 Tryz.results144 (by simp) ?_
  simp
  refine Inv_intro (ok_IndexPx k l p hll) ?_
  have e:=idxPx_mem l p
  generalize idxOf (fun x => decide (p = x)) l = z at e ⊢
  rw [← e]
  simp
theorem ok_areRising (k:Nat) (l:List GPrefix) (hll:l.length ≤ 140737488351232):CallOK Tryz.prog 140 [.c (rd k l.length (l.flatMap GPrefix.c))] (.c (pb (risG none l))) [.c (rd k l.length (l.flatMap GPrefix.c))]:=by
  refine okS (fn:=Tryz.f140) [] h0 Tryz.func140 (by kernel_rfl) rfl Tryz.ntmps140 Tryz.results140 (by simp) ?_
  simp
  refine loopS [0,5,6,7] [] (fun n st => ∃ (i:Nat),i + n = l.length ∧ risG (prevPx l i) (l.drop i) = risG none l ∧ st = ⟨slOf 30 [(0,.t (rd k l.length (l.flatMap GPrefix.c))),(5,.t (rd k l.length (l.flatMap GPrefix.c))),(6,.t (pi l.length)),(7,.t (pi i))],ofL []⟩) l.length ?_ ?_
  · rintro Inv hI
    simp
    subst hI
    exact ⟨0,by omega,rfl,rfl⟩
  · rintro Inv hI n st ⟨i,hi,hg,rfl⟩
    refine ewr_sound (M:=[]) h0 ?_
    simp
    refine brn_app (fun a => ?_) (fun a => ?_)
    · simp at a
      rw [drop_step _ i a,risG] at hg
      have hd:=fm_drop GPrefix.c 2 (fun _ => rfl) l i a
      have hlen:=fm_len GPrefix.c 2 (fun _ => rfl) l
      have hlt:i * 2 < l.length * 2:=by omega
      have en:prevPx l (i + 1) = some l[i]:=prevPx_next l i a
      simp [a,hd,hlen,hlt]
      have hR:=ok_iGoodPrefix l[i]
      by_cases c0:i = 0
      · have e0:¬ 0 < i:=by omega
        have ep:prevPx l i = none:=by simp [prevPx,c0]
        rw [ep,adjPx,Bool.and_true] at hg
        refine drawP (tabEnv [] _) [⟨[.op 3 3 0],allD 30,true⟩,⟨[],allD 30,false⟩,⟨[],allD 30,true⟩,⟨[],allD 30,true⟩,⟨[],allD 30,true⟩,⟨[],allD 30,true⟩,⟨[],allD 30,true⟩,⟨[],allD 30,true⟩,⟨[],allD 30,true⟩,⟨[],allD 30,true⟩,⟨[],allD 30,true⟩,⟨[],allD 30,true⟩,⟨[.op 3 3 0],allD 30,true⟩,⟨[],allD 30,false⟩,⟨[],allD 30,true⟩,⟨[],allD 30,true⟩,⟨[],allD 30,true⟩] h0 hm (tabEnv_ok (tab_cons hR tab_nil)) (by kernel_rfl) (by kernel_rfl) ?_
        cases c1:goodPx l[i] with
        | false =>
          rw [c1,Bool.false_and] at hg
          simp [c1,← hg]
        | true =>
          rw [c1,Bool.true_and] at hg
          simp [c1,e0]
          subst hI
          exact Less_mk (n - 1) (by omega) ⟨i + 1,by omega,by rw [en]; exact hg,by rw [wrNext i (by omega)]⟩
      · obtain ⟨j,hj⟩:∃ j,i = j + 1:=⟨i - 1,by omega⟩
        have aj:j < l.length:=by omega
        have ep:prevPx l i = some l[j]:=by subst hj; exact prevPx_next l j aj
        have hdj:=fm_drop GPrefix.c 2 (fun _ => rfl) l j aj
        have hltj:j * 2 < l.length * 2:=by omega
        have hw:IntKind.wrap .i64 ((i:Int) - 1) = j:=(wrap64 (by omega) (by omega)).trans (by omega)
        have e0:0 < i:=by omega
        rw [ep,adjPx] at hg
        refine drawP (tabEnv [] _) [⟨[.op 3 3 0],allD 30,true⟩,⟨[],allD 30,false⟩,⟨[],allD 30,true⟩,⟨[],allD 30,true⟩,⟨[],allD 30,true⟩,⟨[],allD 30,true⟩,⟨[],allD 30,true⟩,⟨[],allD 30,true⟩,⟨[],allD 30,true⟩,⟨[],allD 30,true⟩,⟨[],allD 30,true⟩,⟨[],allD 30,true⟩,⟨[.op 3 3 0],allD 30,true⟩,⟨[],allD 30,false⟩,⟨[],allD 30,true⟩,⟨[],allD 30,true⟩,⟨[],allD 30,true⟩] h0 hm (tabEnv_ok (tab_cons hR (tab_cons (ok_compare l[j] l[i]) tab_nil))) (by kernel_rfl) (by kernel_rfl) ?_
        cases c1:goodPx l[i] with
        | false =>
          rw [c1,Bool.false_and,Bool.false_and] at hg
          simp [c1,← hg]
        | true =>
          rw [c1,Bool.true_and] at hg
          by_cases c2:cmpPx l[j] l[i] < 0
          · have c3:¬ 0 ≤ cmpPx l[j] l[i]:=by omega
            rw [decide_eq_true c2,Bool.true_and] at hg
            simp [c1,e0,hw,aj,hdj,hlen,hltj,c3]
            subst hI
            exact Less_mk (n - 1) (by omega) ⟨i + 1,by omega,by rw [en]; exact hg,by rw [wrNext i (by omega)]⟩
          · have c3:0 ≤ cmpPx l[j] l[i]:=by omega
            rw [decide_eq_false c2,Bool.false_and] at hg
            simp [c1,e0,hw,aj,hdj,hlen,hltj,c3,← hg]
    · simp at a
      rw [List.drop_of_length_le (by omega),risG] at hg
      simp [← hg]
def updOK (u:GUpdate):Prop:=u.Gone.length ≤ 140737488351232 ∧ u.Come.length ≤ 140737488351232 ∧ attrOK u.Attrs
theorem ok_GoodUpdate1 (q k:Nat) (p:GPrefix) (u:GUpdate) (h:u.Come.length ≤ 140737488351232):CallOK Tryz.prog 143 [.agg p.c,.ip q (GUpdate.ci k u)] (.c (pb (decide (p ∈ u.Come)))) [.agg p.c,.ip q (GUpdate.ci k u)]:=by
  refine okS (fn:=Tryz.f143) [] h0 Tryz.func143 (by kernel_rfl) rfl Tryz.ntmps143 Tryz.results143 (by simp) ?_
  simp
  refine Inv_intro (ok_ContainsPx k u.Come p h) ?_
  simp
theorem any_come (u:GUpdate):u.Gone.any (fun p => decide (p ∈ u.Come)) = !u.Come.all (fun p => !decide (p ∈ u.Gone)):=by
  rw [Bool.eq_iff_iff]
  simp
  constructor
  · rintro ⟨x,h1,h2⟩; exact ⟨x,h2,h1⟩
  · rintro ⟨x,h1,h2⟩; exact ⟨x,h2,h1⟩
theorem ok_iGoodUpdate (k:Nat) (u:GUpdate) (hu:updOK u):CallOK Tryz.prog 88 [.agg (GUpdate.ci k u)] (.c (pb (goodU u))) [.agg (GUpdate.ci k u)]:=by
  obtain ⟨u1,u2,u3⟩:=hu
  have hz:=ok_sameAttrs k 1 u.Attrs zeroA u3 ⟨by decide,by decide⟩
  refine okS (fn:=Tryz.f88) [] h0 Tryz.func88 (by kernel_rfl) rfl Tryz.ntmps88 Tryz.results88 (by simp) ?_
  by_cases c1:u.Gone.length ≤ 10
  · by_cases c2:u.Come.length ≤ 10
    · have d1:¬ (10:Int) < (u.Gone.length:Int):=by omega
      have d2:¬ (10:Int) < (u.Come.length:Int):=by omega
      simp [d1,d2]
      refine Inv_intro (ok_areRising k u.Gone u1) ?_
      cases c3:risG none u.Gone with
      | false => simp [goodU,goodPs,c3]
      | true =>
        simp
        refine Inv_intro (ok_areRising k u.Come u2) ?_
        cases c4:risG none u.Come with
        | false => simp [goodU,goodPs,c4]
        | true =>
          simp
          refine Inv_intro (ok_iGoodAttrs k u.Attrs u3) ?_
          cases c5:goodA u.Attrs with
          | false => simp [goodU,goodPs,c5]
          | true =>
            simp
            refine Inv_intro (ok_ContainsFunc_Prefix k 1 143 [GUpdate.ci k u] (fun p => decide (p ∈ u.Come)) u.Gone u1 fun x _ => ok_GoodUpdate1 1 k x u u2) ?_
            rw [any_come]
            cases c6:u.Come.all (fun p => !decide (p ∈ u.Gone)) with
            | false => simp [goodU,c6]
            | true =>
              have e:goodU u = (decide (u.Come ≠ []) || decide (u.Attrs = zeroA)):=by simp only [goodU,goodPs,c3,c4,c5,c6,c1,c2,decide_true,Bool.true_and]
              rw [e]
              by_cases c7:u.Come = []
              · simp [c7]
                refine Inv_intro hz ?_
                simp
              · have c8:0 < u.Come.length:=List.length_pos_iff.2 c7
                simp [c7,c8]
    · have d1:¬ (10:Int) < (u.Gone.length:Int):=by omega
      have d2:(10:Int) < (u.Come.length:Int):=by omega
      simp [d1,d2,goodU,goodPs,c2]
  · have d1:(10:Int) < (u.Gone.length:Int):=by omega
    simp [d1,goodU,goodPs,c1]
theorem ok_sGoodAttrs (k:Nat) (x:GAttrs) (hx:attrOK x):CallOK Tryz.prog 136 [.agg (GAttrs.ci k x)] (.c (pb (goodA x))) [.agg (GAttrs.ci k x)]:=by
  obtain ⟨h1,h2⟩:=hx
  refine okS (fn:=Tryz.f136) [] h0 Tryz.func136 (by kernel_rfl) rfl Tryz.ntmps136 Tryz.results136 (by simp) ?_
  simp
  refine loopS [1,8,9,10] [.op 0 0 0] (fun n st => ∃ (i:Nat),i + n = x.Path.length ∧ (x.Path.drop i).all isAsnB = x.Path.all isAsnB ∧ st = ⟨slOf 74 [(1,.ptr ⟨.op 0 0 0,[]⟩ 0),(8,.t (rd k x.Path.length (x.Path.map pi))),(9,.t (pi x.Path.length)),(10,.t (pi i))],ofL [(.op 0 0 0,.sl 0 52 1 (GAttrs.ci k x))]⟩) x.Path.length ?_ ?_
  · rintro Inv hI
    simp
    subst hI
    exact ⟨0,by omega,rfl,rfl⟩
  · rintro Inv hI n st ⟨i,hi,hg,rfl⟩
    refine ewr_sound (M:=[]) h0 ?_
    simp
    refine brn_app (fun a => ?_) (fun a => ?_)
    · simp at a
      rw [drop_step _ i a,List.all_cons] at hg
      simp [a]
      refine Inv_intro (ok_l1In _ _ _) ?_
      by_cases c:1 ≤ x.Path[i] ∧ x.Path[i] ≤ 65535
      · have c':isAsnB x.Path[i] = true:=inR_t c
        rw [c',Bool.true_and] at hg
        simp [c]
        subst hI
        exact Less_mk (n - 1) (by omega) ⟨i + 1,by omega,hg,by rw [wrNext i (by omega)]; rfl⟩
      · have c':isAsnB x.Path[i] = false:=by simp only [isAsnB,inR,decide_eq_false_iff_not]; exact c
        rw [c',Bool.false_and] at hg
        simp [c,goodA,goodPa,← hg]
    · simp at a
      rw [List.drop_of_length_le (by omega),List.all_nil] at hg
      simp
      refine loopS [1,19,20,21] [.op 0 0 0] (fun n st => ∃ (i:Nat),i + n = x.Comms.length ∧ commsG (prevI x.Comms i) (x.Comms.drop i) = commsG none x.Comms ∧ st = ⟨slOf 74 [(1,.ptr ⟨.op 0 0 0,[]⟩ 0),(19,.t (rd k x.Comms.length (x.Comms.map pi))),(20,.t (pi x.Comms.length)),(21,.t (pi i))],ofL [(.op 0 0 0,.sl 0 52 1 (GAttrs.ci k x))]⟩) x.Comms.length ?_ ?_
      · rintro Inv hI
        simp
        subst hI
        exact ⟨0,by omega,rfl,rfl⟩
      · rintro Inv hI n st ⟨i,hi,hc,rfl⟩
        refine ewr_sound (M:=[]) h0 ?_
        simp
        refine brn_app (fun a => ?_) (fun a => ?_)
        · simp at a
          rw [drop_step _ i a,commsG] at hc
          have en:prevI x.Comms (i + 1) = some x.Comms[i]:=prevI_next x.Comms i a
          simp [a]
          refine Inv_intro (ok_l1In _ _ _) ?_
          by_cases c1:0 ≤ x.Comms[i] ∧ x.Comms[i] ≤ 1000000
          · have c1':isValB x.Comms[i] = true:=inR_t c1
            rw [c1',Bool.true_and] at hc
            by_cases c0:i = 0
            · have e0:¬ 0 < i:=by omega
              have ep:prevI x.Comms i = none:=by simp [prevI,c0]
              rw [ep,adjI,Bool.true_and] at hc
              simp [c1,e0]
              subst hI
              exact Less_mk (n - 1) (by omega) ⟨i + 1,by omega,by rw [en]; exact hc,by rw [wrNext i (by omega)]; rfl⟩
            · obtain ⟨j,hj⟩:∃ j,i = j + 1:=⟨i - 1,by omega⟩
              have aj:j < x.Comms.length:=by omega
              have ep:prevI x.Comms i = some x.Comms[j]:=by subst hj; exact prevI_next x.Comms j aj
              have hw:IntKind.wrap .i64 ((i:Int) - 1) = j:=(wrap64 (by omega) (by omega)).trans (by omega)
              have e0:0 < i:=by omega
              rw [ep,adjI] at hc
              simp [c1,e0,hw,aj]
              refine brn_app (fun c => ?_) (fun c => ?_)
              · simp at c
                have c':¬ x.Comms[j] < x.Comms[i]:=by omega
                simp [c'] at hc
                simp [goodA,goodCm,hc]
              · simp at c
                have c':x.Comms[j] < x.Comms[i]:=by omega
                simp [c'] at hc
                simp
                subst hI
                exact Less_mk (n - 1) (by omega) ⟨i + 1,by omega,by rw [en]; exact hc,by rw [wrNext i (by omega)]; rfl⟩
          · have c1':isValB x.Comms[i] = false:=by simp only [isValB,inR,decide_eq_false_iff_not]; exact c1
            rw [c1',Bool.false_and,Bool.false_and] at hc
            simp [c1,goodA,goodCm,← hc]
        · simp at a
          rw [List.drop_of_length_le (by omega),commsG] at hc
          simp
          refine Inv_intro (ok_l1In _ _ _) ?_
          by_cases c1:0 ≤ x.Origin ∧ x.Origin ≤ 2
          · simp [c1]
            by_cases c2:x.Path.length ≤ 10
            · have c2':(x.Path.length:Int) ≤ 10:=by omega
              simp [c2']
              refine Inv_intro (ok_l1Addr _) ?_
              cases c3:inR x.Next 0 4294967295 with
              | false => simp [goodA,c3]
              | true =>
                simp
                refine Inv_intro (ok_l1In _ _ _) ?_
                by_cases c4:0 ≤ x.Med ∧ x.Med ≤ 1000000
                · simp [c4]
                  refine Inv_intro (ok_l1In _ _ _) ?_
                  by_cases c5:0 ≤ x.Pref ∧ x.Pref ≤ 1000000
                  · have c4':isValB x.Med = true:=inR_t c4
                    have c5':isValB x.Pref = true:=inR_t c5
                    have hp:goodPa x.Path = true:=by simp [goodPa,c2,← hg]
                    have hcm:goodCm x.Comms = decide ((x.Comms.length:Int) ≤ 6):=by
                      simp only [goodCm,← hc,Bool.true_and]
                      exact decide_eq_decide.2 (by omega)
                    simp [c5,goodA,c3,c4',c5',hp,hcm,inR_t c1]
                  · have c5':isValB x.Pref = false:=by simp only [isValB,inR,decide_eq_false_iff_not]; exact c5
                    simp [c5,goodA,c5']
                · have c4':isValB x.Med = false:=by simp only [isValB,inR,decide_eq_false_iff_not]; exact c4
                  simp [c4,goodA,c4']
            · have c2':¬ (x.Path.length:Int) ≤ 10:=by omega
              simp [c2',goodA,goodPa,c2]
          · have c1':inR x.Origin 0 2 = false:=by simp only [inR,decide_eq_false_iff_not]; exact c1
            simp [c1,goodA,c1']
theorem ok_sGoodUpdate (k:Nat) (u:GUpdate) (hu:updOK u):CallOK Tryz.prog 84 [.agg (GUpdate.ci k u)] (.c (pb (goodU u))) [.agg (GUpdate.ci k u)]:=by
  obtain ⟨u1,u2,u3⟩:=hu
  have hz:=ok_l4Zero k u.Attrs
  refine okS (fn:=Tryz.f84) [] h0 Tryz.func84 (by kernel_rfl) rfl Tryz.ntmps84 Tryz.results84 (by simp) ?_
  simp
  refine loopS [1,6,7,8] [.op 0 0 0] (fun n st => ∃ (i:Nat),i + n = u.Come.length ∧ u.Come.all (fun p => !decide (p ∈ u.Gone)) = (u.Come.drop i).all (fun p => !decide (p ∈ u.Gone)) ∧ st = ⟨slOf 41 [(1,.ptr ⟨.op 0 0 0,[]⟩ 0),(6,.t (rd k u.Come.length (u.Come.flatMap GPrefix.c))),(7,.t (pi u.Come.length)),(8,.t (pi i))],ofL [(.op 0 0 0,.sl 0 54 1 (GUpdate.ci k u))]⟩) u.Come.length ?_ ?_
  · rintro Inv hI
    simp
    subst hI
    exact ⟨0,by omega,rfl,rfl⟩
  · rintro Inv hI n st ⟨i,hi,hg,rfl⟩
    refine ewr_sound (M:=[]) h0 ?_
    simp
    refine brn_app (fun a => ?_) (fun a => ?_)
    · simp at a
      have hd:=fm_drop GPrefix.c 2 (fun _ => rfl) u.Come i a
      have hlen:=fm_len GPrefix.c 2 (fun _ => rfl) u.Come
      have hlt:i * 2 < u.Come.length * 2:=by omega
      rw [drop_step _ i a,List.all_cons] at hg
      simp [a,hd,hlen,hlt]
      refine Inv_intro (ok_l4In k u.Gone u.Come[i] u1) ?_
      by_cases c:u.Come[i] ∈ u.Gone
      · rw [decide_eq_true c,Bool.not_true,Bool.false_and] at hg
        have e:goodU u = false:=by simp only [goodU,hg,Bool.and_false,Bool.false_and]
        simp [c,e]
      · rw [decide_eq_false c,Bool.not_false,Bool.true_and] at hg
        simp [c]
        subst hI
        exact Less_mk (n - 1) (by omega) ⟨i + 1,by omega,hg,by rw [wrNext i (by omega)]; rfl⟩
    · simp at a
      rw [List.drop_of_length_le (by omega),List.all_nil] at hg
      simp
      refine Inv_intro (ok_l4Rising k u.Gone u1) ?_
      cases c3:goodPs u.Gone with
      | false => simp [goodU,c3]
      | true =>
        simp
        refine Inv_intro (ok_l4Rising k u.Come u2) ?_
        cases c4:goodPs u.Come with
        | false => simp [goodU,c4]
        | true =>
          simp
          refine Inv_intro (ok_sGoodAttrs k u.Attrs u3) ?_
          cases c5:goodA u.Attrs with
          | false => simp [goodU,c5]
          | true =>
            have e:goodU u = (decide (u.Come ≠ []) || decide (u.Attrs = zeroA)):=by simp only [goodU,c3,c4,c5,hg,Bool.true_and]
            rw [e]
            by_cases c7:u.Come = []
            · simp [c7]
              refine Inv_intro hz ?_
              simp
            · have c8:0 < u.Come.length:=List.length_pos_iff.2 c7
              simp [c7,c8]
theorem ok_goodUpdate (code:List Int) (hc:codeOK code) (a s:Int) (ha:0 ≤ a) (ha2:a ≤ 3999800):∃ (u:GUpdate) (a' s':Int),(u.Gone.length ≤ 4 ∧ u.Come.length ≤ 3 ∧ u.Attrs.Path.length ≤ 6 ∧ u.Attrs.Comms.length ≤ 6) ∧ (a ≤ a' ∧ a' ≤ a + 55) ∧ CallOK Tryz.prog 160 [.bp (curP code a s)] (.agg (GUpdate.co u)) [.bp (curP code a' s')]:=by
  obtain ⟨u,a1,s1,hu,ha1,q1⟩:=ok_update code hc a s ha ha2
  have hok:updOK u:=⟨by omega,by omega,⟨by omega,by omega⟩⟩
  have hTG:=List.take_of_length_le (Nat.le_of_eq (fm_len GPrefix.c 2 (fun _ => rfl) u.Gone))
  have hTC:=List.take_of_length_le (Nat.le_of_eq (fm_len GPrefix.c 2 (fun _ => rfl) u.Come))
  have hGl:=fm_len GPrefix.c 2 (fun _ => rfl) u.Gone
  have hCl:=fm_len GPrefix.c 2 (fun _ => rfl) u.Come
  have hTP:List.take u.Attrs.Path.length (u.Attrs.Path.map pi) = u.Attrs.Path.map pi:=List.take_of_length_le (by rw [List.length_map]; exact Nat.le_refl _)
  have hTQ:List.take u.Attrs.Comms.length (u.Attrs.Comms.map pi) = u.Attrs.Comms.map pi:=List.take_of_length_le (by rw [List.length_map]; exact Nat.le_refl _)
  cases hg:goodU u with
  | true =>
    refine ⟨u,a1,s1,hu,ha1,?_⟩
    refine okS (fn:=Tryz.f160) [(94,[1])] h0 Tryz.func160 (by kernel_rfl) rfl Tryz.ntmps160 Tryz.results160 (by simp) ?_
    unfold curP at q1 ⊢
    simp
    refine Inv_intro q1 ?_
    simp
    refine Inv_intro (ok_sGoodUpdate 0 u hok) ?_
    simp [hg,hTG,hTC,hGl,hCl,hTP,hTQ]
  | false =>
    refine ⟨⟨[],⟨0,[2],0,0,100,[]⟩,[⟨167772160,8⟩]⟩,a1,s1,by decide,ha1,?_⟩
    refine okS (fn:=Tryz.f160) [(94,[1])] h0 Tryz.func160 (by kernel_rfl) rfl Tryz.ntmps160 Tryz.results160 (by simp) ?_
    unfold curP at q1 ⊢
    simp
    refine Inv_intro q1 ?_
    simp
    refine Inv_intro (ok_sGoodUpdate 0 u hok) ?_
    simp [hg]
def updD (u:GUpdate):Prop:=u.Gone.length ≤ 4 ∧ u.Come.length ≤ 3 ∧ u.Attrs.Path.length ≤ 6 ∧ u.Attrs.Comms.length ≤ 6
def updsD (l:List GUpdate):Prop:=l.length ≤ 41 ∧ ∀ u ∈ l,updD u
set_option maxHeartbeats 4000000 in
theorem ok_updates (code:List Int) (hc:codeOK code) (a s:Int) (ha:0 ≤ a) (ha2:a ≤ 3990000):∃ (ps:List Int) (us:List GUpdate) (a' s':Int),(ps.length = us.length ∧ updsD us) ∧ (a ≤ a' ∧ a' ≤ a + 2500) ∧ CallOK Tryz.prog 109 [.bp (curP code a s)] (.tup [.c (.sl 0 3 ps.length (ps.map pi)),.c (.sl 0 54 us.length (us.flatMap GUpdate.co))]) [.bp (curP code a' s')]:=by
  obtain ⟨n0,a1,s1,hn0,ha1,q1⟩:=ok_pick code hc 8 (by decide) (by decide) a s ha (by omega)
  obtain ⟨b0,a2,s2,ha2',q2⟩:=ok_one code hc 20 (by decide) (by decide) a1 s1 (by omega) (by omega)
  obtain ⟨N,a3,s3,hN,ha3,hfr⟩:∃ (N:Nat) (a3 s3:Int),N ≤ 41 ∧ (a2 ≤ a3 ∧ a3 ≤ a2 + 1) ∧ ((b0 = false ∧ n0 = (N:Int) ∧ a3 = a2 ∧ s3 = s2) ∨ (b0 = true ∧ ∃ x,IntKind.i64.wrap (38 + x) = (N:Int) ∧ CallOK Tryz.prog 93 [.bp (curP code a2 s2),.c (pi 4)] (.c (pi x)) [.bp (curP code a3 s3),.c (pi 4)])):=by
    cases b0 with
    | false => exact ⟨n0.toNat,a2,s2,by omega,by omega,.inl ⟨rfl,by omega,rfl,rfl⟩⟩
    | true =>
      obtain ⟨x,b,t,hx,hb,c1⟩:=ok_pick code hc 4 (by decide) (by decide) a2 s2 (by omega) (by omega)
      exact ⟨(38 + x).toNat,b,t,by omega,by omega,.inr ⟨rfl,x,by rw [wrap64 (by omega) (by omega)]; omega,c1⟩⟩
  obtain ⟨run,run0,runI,runR⟩:=exists_run (α:=List Int × List GUpdate × Int × Int) N ([],[],a3,s3) (fun i x => x.1.length = i ∧ x.2.1.length = i ∧ (∀ u ∈ x.2.1,updD u) ∧ a3 ≤ x.2.2.1 ∧ x.2.2.1 ≤ a3 + 56 * i)
    (fun x y => ∃ (p:Int) (u:GUpdate) (b t:Int),y.1 = x.1 ++ [p] ∧ y.2.1 = x.2.1 ++ [u] ∧ CallOK Tryz.prog 93 [.bp (curP code x.2.2.1 x.2.2.2),.c (pi 4)] (.c (pi p)) [.bp (curP code b t),.c (pi 4)] ∧ CallOK Tryz.prog 160 [.bp (curP code b t)] (.agg (GUpdate.co u)) [.bp (curP code y.2.2.1 y.2.2.2)])
    ⟨rfl,rfl,by simp,by simp,by simp⟩ (by
      rintro i ⟨l,us,b,t⟩ hi ⟨g1,g2,g3,g4,g5⟩
      simp only at g1 g2 g3 g4 g5
      obtain ⟨p,b1,t1,hp,hb1,c1⟩:=ok_pick code hc 4 (by decide) (by decide) b t (by omega) (by omega)
      obtain ⟨u,b2,t2,hu,hb2,c2⟩:=ok_goodUpdate code hc b1 t1 (by omega) (by omega)
      refine ⟨(l ++ [p],us ++ [u],b2,t2),⟨p,u,b1,t1,rfl,rfl,c1,c2⟩,by simp [g1],by simp [g2],?_,by simp only; omega,by simp only; omega⟩
      intro v hv
      rcases List.mem_append.1 hv with h | h
      · exact g3 v h
      · rw [List.mem_singleton.1 h]; exact hu)
  obtain ⟨e1,e2,e3,e4,e5⟩:=runI N (Nat.le_refl _)
  obtain ⟨L,hL⟩:∃ L,L = (run N).1:=⟨_,rfl⟩
  obtain ⟨U,hU⟩:∃ U,U = (run N).2.1:=⟨_,rfl⟩
  obtain ⟨a4,ha4⟩:∃ a4,a4 = (run N).2.2.1:=⟨_,rfl⟩
  obtain ⟨s4,hs4⟩:∃ s4,s4 = (run N).2.2.2:=⟨_,rfl⟩
  rw [← hL] at e1
  rw [← hU] at e2 e3
  obtain ⟨ps,us,a5,s5,hpu,ha5,hfin⟩:∃ (ps:List Int) (us:List GUpdate) (a5 s5:Int),(ps.length = us.length ∧ updsD us) ∧ (a4 ≤ a5 ∧ a5 ≤ a4 + 60) ∧ ((U = [] ∧ ps = [] ∧ us = [] ∧ a5 = a4 ∧ s5 = s4) ∨ (U ≠ [] ∧ ∃ (b:Bool) (a6 s6:Int),CallOK Tryz.prog 106 [.bp (curP code a4 s4),.c (pi 30)] (.c (pb b)) [.bp (curP code a6 s6),.c (pi 30)] ∧ ((b = false ∧ ps = L ∧ us = U ∧ a5 = a6 ∧ s5 = s6) ∨ (b = true ∧ ∃ (u:GUpdate) (x a7 s7:Int),ps = IntKind.i64.wrap (x - 1) :: L.tail ∧ us = u :: U.tail ∧ CallOK Tryz.prog 94 [.bp (curP code a6 s6)] (.agg (GUpdate.co u)) [.bp (curP code a7 s7)] ∧ CallOK Tryz.prog 93 [.bp (curP code a7 s7),.c (pi 8)] (.c (pi x)) [.bp (curP code a5 s5),.c (pi 8)])))):=by
    by_cases hz:U = []
    · exact ⟨[],[],a4,s4,⟨rfl,by simp,by simp⟩,by omega,.inl ⟨hz,rfl,rfl,rfl,rfl⟩⟩
    · obtain ⟨b,a6,s6,ha6,c1⟩:=ok_one code hc 30 (by decide) (by decide) a4 s4 (by omega) (by omega)
      cases b with
      | false => exact ⟨L,U,a6,s6,⟨by omega,by omega,e3⟩,by omega,.inr ⟨hz,false,a6,s6,c1,.inl ⟨rfl,rfl,rfl,rfl,rfl⟩⟩⟩
      | true =>
        obtain ⟨u,a7,s7,hu,ha7,c2⟩:=ok_update code hc a6 s6 (by omega) (by omega)
        obtain ⟨x,a8,s8,hx,ha8,c3⟩:=ok_pick code hc 8 (by decide) (by decide) a7 s7 (by omega) (by omega)
        refine ⟨_,_,a8,s8,⟨?_,?_,?_⟩,by omega,.inr ⟨hz,true,a6,s6,c1,.inr ⟨rfl,u,x,a7,s7,rfl,rfl,c2,c3⟩⟩⟩
        · simp only [List.length_cons,List.length_tail]; omega
        · have:U.length ≠ 0:=fun h => hz (List.eq_nil_of_length_eq_zero h)
          simp only [List.length_cons,List.length_tail]; omega
        · intro v hv
          rcases List.mem_cons.1 hv with h | h
          · rw [h]; exact hu
          · exact e3 v (List.mem_of_mem_tail h)
  refine ⟨ps,us,a5,s5,hpu,by omega,?_⟩
  refine okE (fn:=Tryz.f109) h0 Tryz.func109 (by kernel_rfl) rfl Tryz.ntmps109 Tryz.results109 (by simp) ?_
  unfold curP at q1 q2 hfr runR hfin ⊢
  refine ewrN_cut (M:=[(93,[1]),(106,[1]),(94,[1]),(160,[1])]) h0 5 [0,4,5,6] [] ⟨slOf 46 [(0,.ptr ⟨.arg 0 0,[]⟩ 0),(4,.t (.sl 0 nilE 0 [])),(5,.t (.sl 0 nilE 0 [])),(6,.t (pi N))],ofL [(.arg 0 0,.sl 0 129 1 [rd 1 code.length (code.map pu),pi a3,.raw (.int .u64 s3)])]⟩ ?_ ?_
  · refine ewr_sound (M:=[(93,[1]),(106,[1]),(94,[1]),(160,[1])]) h0 ?_
    simp [Code.rest]
    refine ewp_nil 4 (.op 8 4 0) 3 (by decide) rfl rfl rfl ?_
    refine ewp_nil 5 (.op 9 4 0) 54 (by decide) rfl rfl rfl ?_
    refine loopS [0,4,5,6] [.op 9 4 0,.op 8 4 0,.arg 0 0] (fun m st => ∃ (i:Nat),i + m = N ∧ st = ⟨slOf 46 [(0,.ptr ⟨.arg 0 0,[]⟩ 0),(4,.ref ⟨.op 8 4 0,[]⟩ 0 i),(5,.ref ⟨.op 9 4 0,[]⟩ 0 i),(6,.t (pi m))],ofL [(.op 9 4 0,.sl 0 54 i ((run i).2.1.flatMap GUpdate.co)),(.op 8 4 0,.sl 0 3 i ((run i).1.map pi)),(.arg 0 0,.sl 0 129 1 [rd 1 code.length (code.map pu),pi (run i).2.2.1,.raw (.int .u64 (run i).2.2.2)])]⟩) N ?_ ?_
    · rintro Inv hI
      simp
      subst hI
      exact ⟨0,by omega,by rw [run0]; rfl⟩
    · rintro Inv hI m st ⟨i,hi,rfl⟩
      refine ewr_sound (M:=[(93,[1]),(106,[1]),(94,[1]),(160,[1])]) h0 ?_
      by_cases c:0 < m
      · obtain ⟨g1,g2,_,_,_⟩:=runI i (by omega)
        obtain ⟨p,u,b,t,k1,k2,c1,c2⟩:=runR i (by omega)
        have c':(0:Int) < (m:Int):=by omega
        have w2:IntKind.i64.wrap ((m:Int) - 1) = ((m - 1:Nat):Int):=by rw [wrap64 (by omega) (by omega)]; omega
        have hb1:(i + 1) * 128 ≤ 140737488355328:=by omega
        have hb3:(i + 1) * 8 ≤ 140737488355328:=by omega
        have hb2:i ≤ 9223372036854775806:=by omega
        have hml:((run i).2.1.flatMap GUpdate.co).length = i * 8:=by rw [fm_len GUpdate.co 8 (fun _ => rfl),g2]
        have hmt:List.take (i * 8) ((run i).2.1.flatMap GUpdate.co) = (run i).2.1.flatMap GUpdate.co:=List.take_of_length_le (by omega)
        have hmp:List.take i ((run i).1.map pi) = (run i).1.map pi:=List.take_of_length_le (by rw [List.length_map]; omega)
        simp [c,c']
        refine Inv_intro c1 ?_
        simp [g1,hb2,hb3,hmp]
        refine Inv_intro c2 ?_
        simp [g2,hb1,hb2,hml,hmt,w2]
        subst hI
        refine Less_mk (m - 1) (by omega) ⟨i + 1,by omega,?_⟩
        rw [k1,k2]
        simp
        done
      · have hm0:m = 0:=by omega
        have hiN:i = N:=by omega
        subst hm0
        subst hiN
        rw [← hL,← hU,← ha4,← hs4]
        clear runI runR run0 e4 e5 hL hU ha4 hs4 q1 q2 hfr
        have hUc:=fm_len GUpdate.co 8 (fun _ => rfl) U
        have hTU:=List.take_of_length_le (Nat.le_of_eq hUc)
        have hTL:List.take L.length (L.map pi) = L.map pi:=List.take_of_length_le (by rw [List.length_map]; exact Nat.le_refl _)
        rcases hfin with ⟨rfl,rfl,rfl,rfl,rfl⟩ | ⟨hz,b,a6,s6,c1,hfin⟩
        · have hi0:i = 0:=by simpa using e2.symm
          have hLn:L = []:=List.eq_nil_of_length_eq_zero (by omega)
          subst hLn
          subst hi0
          simp
          done
        · have hi0:0 < i:=by
            have:=List.length_pos_iff.2 hz
            omega
          simp [hi0]
          refine Inv_intro c1 ?_
          rcases hfin with ⟨rfl,rfl,rfl,rfl,rfl⟩ | ⟨rfl,u,x,a7,s7,rfl,rfl,c2,c3⟩
          · subst e1
            rw [e2] at hUc hTU
            simp [e2,hUc,hTU,hTL]
            done
          · cases L with
            | nil => simp at e1; omega
            | cons l0 L =>
              cases U with
              | nil => simp at e2; omega
              | cons u0 U =>
                simp [hi0]
                refine Inv_intro c2 ?_
                have hTG:=List.take_of_length_le (Nat.le_of_eq (fm_len GPrefix.c 2 (fun _ => rfl) u.Gone))
                have hTC:=List.take_of_length_le (Nat.le_of_eq (fm_len GPrefix.c 2 (fun _ => rfl) u.Come))
                have hGl:=fm_len GPrefix.c 2 (fun _ => rfl) u.Gone
                have hCl:=fm_len GPrefix.c 2 (fun _ => rfl) u.Come
                have hTP:List.take u.Attrs.Path.length (u.Attrs.Path.map pi) = u.Attrs.Path.map pi:=List.take_of_length_le (by rw [List.length_map]; exact Nat.le_refl _)
                have hTQ:List.take u.Attrs.Comms.length (u.Attrs.Comms.map pi) = u.Attrs.Comms.map pi:=List.take_of_length_le (by rw [List.length_map]; exact Nat.le_refl _)
                simp [hi0,hTG,hTC,hGl,hCl,hTP,hTQ]
                refine Inv_intro c3 ?_
                obtain rfl:i = L.length + 1:=by simpa using e1.symm
                have hUL:U.length = L.length:=by simpa using e2
                have hUc':(U.flatMap GUpdate.co).length = L.length * 8:=by rw [fm_len GUpdate.co 8 (fun _ => rfl),hUL]
                have hTL':List.take L.length (L.map pi) = L.map pi:=List.take_of_length_le (by rw [List.length_map]; exact Nat.le_refl _)
                have hTA:∀ q1 q2 q3 q4 q5 q6 q7 q8:PT,List.take ((L.length + 1) * 8) (q1 :: q2 :: q3 :: q4 :: q5 :: q6 :: q7 :: q8 :: U.flatMap GUpdate.co) = q1 :: q2 :: q3 :: q4 :: q5 :: q6 :: q7 :: q8 :: U.flatMap GUpdate.co:=fun q1 q2 q3 q4 q5 q6 q7 q8 => List.take_of_length_le (by simp only [List.length_cons]; omega)
                have hLA:(L.length + 1) * 8 ≤ L.length * 8 + 1 + 1 + 1 + 1 + 1 + 1 + 1 + 1:=by omega
                simp [hTL',hTA,hUc',hLA,hUL]
                done
  · intro K hK
    simp
    refine Inv_intro q1 ?_
    simp
    refine Inv_intro q2 ?_
    rcases hfr with ⟨rfl,rfl,rfl,rfl⟩ | ⟨rfl,x,hx,c1⟩
    · simp
      refine hK _ ?_
      simp
    · simp
      refine Inv_intro c1 ?_
      simp [hx]
      refine hK _ ?_
      simp
end Go.V
