/- What functions of the seat's program do, each proved of its code, under the bounds that its theorem names. -/
import Derived.Test.YtdelgkhoahmnfaaGreatTag
set_option linter.all false
namespace Go.V
open Go.Proofs
set_option maxHeartbeats 1000000
set_option maxRecDepth 10000
set_option linter.unusedSimpArgs false
set_option linter.unusedVariables false
theorem ok_findOffer1 (k:Nat) (o:GOffer) (n:Int):CallOK Tryz.prog 159 [.agg (GOffer.ci k o),.c (pi n)] (.c (pi (cmpI o.Peer n))) [.agg (GOffer.ci k o),.c (pi n)]:=by
  refine okS (fn:=Tryz.f159) [] h0 Tryz.func159 (by kernel_rfl) rfl Tryz.ntmps159 Tryz.results159 (by simp) ?_
  simp
  refine Inv_intro (ok_cmpI o.Peer n) ?_
  simp
theorem ok_BS_Offer (k:Nat) (xs:List GOffer) (n:Int) (hl:xs.length ≤ 140737488351232) (hmono:∀ (i j:Nat) (hij:i < j) (hj:j < xs.length),cmpI xs[j].Peer n < 0 → cmpI xs[i].Peer n < 0) :
    CallOK Tryz.prog 158 [.c (rd k xs.length (xs.flatMap (GOffer.ci k))),.c (pi n),.c (.fn 0 159 [])] (.tup [.c (pi (bsI (fun o:GOffer => cmpI o.Peer n) xs)),.c (pb (bsF (fun o:GOffer => cmpI o.Peer n) xs))]) [.c (rd k xs.length (xs.flatMap (GOffer.ci k))),.c (pi n),.c (.fn 0 159 [])]:=by
  refine okS (fn:=Tryz.f158) [] h0 Tryz.func158 (by kernel_rfl) rfl Tryz.ntmps158 Tryz.results158 (by simp) ?_
  simp
  refine loopS [0,1,2,8,9,10] [] (fun m st => ∃ (i j:Nat),i + m = j ∧ j ≤ xs.length ∧ (∀ (q:Nat) (hq:q < i) (hl:q < xs.length),cmpI xs[q].Peer n < 0) ∧ (∀ (q:Nat) (hq:j ≤ q) (hl:q < xs.length),0 ≤ cmpI xs[q].Peer n) ∧ st = ⟨slOf 49 [(0,.t (rd k xs.length (xs.flatMap (GOffer.ci k)))),(1,.t (pi n)),(2,.t (.fn 0 159 [])),(8,.t (pi xs.length)),(9,.t (pi i)),(10,.t (pi j))],ofL []⟩) xs.length ?_ ?_
  · rintro Inv hI
    simp
    subst hI
    exact ⟨0,xs.length,by omega,by omega,by intro q hq; omega,by intro q hq h; omega,rfl⟩
  · rintro Inv hI m st ⟨i,j,hm,hj,hlo,hhi,rfl⟩
    refine ewr_sound (M:=[]) h0 ?_
    simp
    refine brn_app (fun a => ?_) (fun a => ?_)
    · simp at a
      have hw0:IntKind.wrap .i64 ((i:Int) + j) = (i:Int) + j:=wrap64 (by omega) (by omega)
      have hw:=half_u64 i j (by omega)
      obtain ⟨h,hh⟩:∃ h,h = (i + j) / 2:=⟨_,rfl⟩
      rw [← hh] at hw
      have hb:h < xs.length:=by omega
      have hd:=fm_drop (GOffer.ci k) 7 (fun _ => rfl) xs h hb
      have hlen:=fm_len (GOffer.ci k) 7 (fun _ => rfl) xs
      have hlt:h * 7 < xs.length * 7:=by omega
      simp [hw0,hw,hb,hd,hlen,hlt]
      refine Inv_intro (ok_findOffer1 k xs[h] n) ?_
      simp
      refine brn_app (fun b => ?_) (fun b => ?_)
      · simp at b
        have hn1:IntKind.wrap .i64 ((h:Int) + 1) = ((h + 1:Nat):Int):=wrNext h (by omega)
        simp
        subst hI
        refine Less_mk (j - (h + 1)) (by omega) ⟨h + 1,j,by omega,hj,?_,hhi,by rw [hn1]⟩
        intro q hq hql
        rcases Nat.lt_or_ge q h with h' | h'
        · exact hmono q h h' hb b
        · have:q = h:=by omega
          subst this
          exact b
      · simp at b
        simp
        subst hI
        refine Less_mk (h - i) (by omega) ⟨i,h,by omega,by omega,hlo,?_,rfl⟩
        intro q hq hql
        rcases Nat.eq_or_lt_of_le hq with h' | h'
        · subst h'
          exact b
        · exact Int.not_lt.1 fun hc => by have:=hmono h q h' hql hc; omega
    · simp at a
      have hij:i = j:=by omega
      subst hij
      have e1:bsI (fun o:GOffer => cmpI o.Peer n) xs = i:=bsI_eq _ xs i hj hlo fun h => hhi i (Nat.le_refl _) h
      simp
      by_cases hb:i < xs.length
      · have hd:=fm_drop (GOffer.ci k) 7 (fun _ => rfl) xs i hb
        have hlen:=fm_len (GOffer.ci k) 7 (fun _ => rfl) xs
        have hlt:i * 7 < xs.length * 7:=by omega
        have e2:bsF (fun o:GOffer => cmpI o.Peer n) xs = decide (cmpI xs[i].Peer n = 0):=by simp only [bsF,e1,List.getElem?_eq_getElem hb]
        simp [hb,hd,hlen,hlt]
        refine Inv_intro (ok_findOffer1 k xs[i] n) ?_
        simp [e1,e2]
      · have e2:bsF (fun o:GOffer => cmpI o.Peer n) xs = false:=by simp only [bsF,e1,List.getElem?_eq_none (Nat.le_of_not_lt hb)]
        simp [hb,e1,e2]
theorem ok_findRow1 (k:Nat) (o:GRow) (n:GPrefix):CallOK Tryz.prog 165 [.agg (GRow.ci k o),.agg n.c] (.c (pi (cmpPx o.Prefix n))) [.agg (GRow.ci k o),.agg n.c]:=by
  refine okS (fn:=Tryz.f165) [] h0 Tryz.func165 (by kernel_rfl) rfl Tryz.ntmps165 Tryz.results165 (by simp) ?_
  simp
  refine Inv_intro (ok_compare o.Prefix n) ?_
  simp
theorem ok_BS_Row (k:Nat) (xs:List GRow) (n:GPrefix) (hl:xs.length ≤ 140737488351232) (hmono:∀ (i j:Nat) (hij:i < j) (hj:j < xs.length),cmpPx xs[j].Prefix n < 0 → cmpPx xs[i].Prefix n < 0) :
    CallOK Tryz.prog 164 [.c (rd k xs.length (xs.flatMap (GRow.ci k))),.agg n.c,.c (.fn 0 165 [])] (.tup [.c (pi (bsI (fun o:GRow => cmpPx o.Prefix n) xs)),.c (pb (bsF (fun o:GRow => cmpPx o.Prefix n) xs))]) [.c (rd k xs.length (xs.flatMap (GRow.ci k))),.agg n.c,.c (.fn 0 165 [])]:=by
  refine okS (fn:=Tryz.f164) [] h0 Tryz.func164 (by kernel_rfl) rfl Tryz.ntmps164 Tryz.results164 (by simp) ?_
  simp
  refine loopS [0,2,4,8,9,10] [.op 0 0 0] (fun m st => ∃ (i j:Nat),i + m = j ∧ j ≤ xs.length ∧ (∀ (q:Nat) (hq:q < i) (hl:q < xs.length),cmpPx xs[q].Prefix n < 0) ∧ (∀ (q:Nat) (hq:j ≤ q) (hl:q < xs.length),0 ≤ cmpPx xs[q].Prefix n) ∧ st = ⟨slOf 49 [(0,.t (rd k xs.length (xs.flatMap (GRow.ci k)))),(2,.t (.fn 0 165 [])),(4,.ptr ⟨.op 0 0 0,[]⟩ 0),(8,.t (pi xs.length)),(9,.t (pi i)),(10,.t (pi j))],ofL [(.op 0 0 0,.sl 0 77 1 n.c)]⟩) xs.length ?_ ?_
  · rintro Inv hI
    simp
    subst hI
    exact ⟨0,xs.length,by omega,by omega,by intro q hq; omega,by intro q hq h; omega,rfl⟩
  · rintro Inv hI m st ⟨i,j,hm',hj,hlo,hhi,rfl⟩
    refine ewr_sound (M:=[]) h0 ?_
    simp
    refine brn_app (fun a => ?_) (fun a => ?_)
    · simp at a
      have hw0:IntKind.wrap .i64 ((i:Int) + j) = (i:Int) + j:=wrap64 (by omega) (by omega)
      have hw:=half_u64 i j (by omega)
      obtain ⟨h,hh⟩:∃ h,h = (i + j) / 2:=⟨_,rfl⟩
      rw [← hh] at hw
      have hb:h < xs.length:=by omega
      have hd:=fm_drop (GRow.ci k) 3 (fun _ => rfl) xs h hb
      have hlen:=fm_len (GRow.ci k) 3 (fun _ => rfl) xs
      have hlt:h * 3 < xs.length * 3:=by omega
      simp [hw0,hw]
      refine drawP (tabEnv [] _) [⟨[],allD 49,true⟩,⟨[],allD 49,true⟩,⟨[],allD 49,true⟩,⟨[],allD 49,true⟩,⟨[],allD 49,true⟩,⟨[.op 0 0 0],allD 49,true⟩,⟨[],allD 49,false⟩,⟨[],allD 49,true⟩] h0 hm (tabEnv_ok (tab_cons (ok_findRow1 k xs[h] n) tab_nil)) (by kernel_rfl) (by kernel_rfl) ?_
      simp [hb,hd,hlen,hlt]
      refine brn_app (fun b => ?_) (fun b => ?_)
      · simp at b
        have hn1:IntKind.wrap .i64 ((h:Int) + 1) = ((h + 1:Nat):Int):=wrNext h (by omega)
        simp
        subst hI
        refine Less_mk (j - (h + 1)) (by omega) ⟨h + 1,j,by omega,hj,?_,hhi,by rw [hn1]; rfl⟩
        intro q hq hql
        rcases Nat.lt_or_ge q h with h' | h'
        · exact hmono q h h' hb b
        · have:q = h:=by omega
          subst this
          exact b
      · simp at b
        simp
        subst hI
        refine Less_mk (h - i) (by omega) ⟨i,h,by omega,by omega,hlo,?_,rfl⟩
        intro q hq hql
        rcases Nat.eq_or_lt_of_le hq with h' | h'
        · subst h'
          exact b
        · exact Int.not_lt.1 fun hc => by have:=hmono h q h' hql hc; omega
    · simp at a
      have hij:i = j:=by omega
      subst hij
      have e1:bsI (fun o:GRow => cmpPx o.Prefix n) xs = i:=bsI_eq _ xs i hj hlo fun h => hhi i (Nat.le_refl _) h
      simp
      by_cases hb:i < xs.length
      · have hd:=fm_drop (GRow.ci k) 3 (fun _ => rfl) xs i hb
        have hlen:=fm_len (GRow.ci k) 3 (fun _ => rfl) xs
        have hlt:i * 3 < xs.length * 3:=by omega
        have e2:bsF (fun o:GRow => cmpPx o.Prefix n) xs = decide (cmpPx xs[i].Prefix n = 0):=by simp only [bsF,e1,List.getElem?_eq_getElem hb]
        refine drawP (tabEnv [] _) [⟨[],allD 49,true⟩,⟨[],allD 49,true⟩,⟨[],allD 49,true⟩,⟨[],allD 49,true⟩,⟨[],allD 49,true⟩,⟨[],allD 49,true⟩,⟨[],allD 49,true⟩,⟨[],allD 49,true⟩,⟨[],allD 49,true⟩,⟨[],allD 49,true⟩,⟨[.op 0 0 0],allD 49,true⟩,⟨[],allD 49,false⟩,⟨[],allD 49,true⟩,⟨[],allD 49,true⟩,⟨[],allD 49,true⟩,⟨[],allD 49,true⟩] h0 hm (tabEnv_ok (tab_cons (ok_findRow1 k xs[i] n) tab_nil)) (by kernel_rfl) (by kernel_rfl) ?_
        simp [hb,hd,hlen,hlt,e1,e2]
      · have e2:bsF (fun o:GRow => cmpPx o.Prefix n) xs = false:=by simp only [bsF,e1,List.getElem?_eq_none (Nat.le_of_not_lt hb)]
        refine drawP E0 [⟨[],allD 49,true⟩,⟨[],allD 49,true⟩,⟨[],allD 49,true⟩,⟨[],allD 49,true⟩,⟨[],allD 49,true⟩,⟨[],allD 49,true⟩,⟨[],allD 49,true⟩,⟨[],allD 49,true⟩,⟨[],allD 49,true⟩,⟨[],allD 49,true⟩,⟨[.op 0 0 0],allD 49,true⟩,⟨[],allD 49,false⟩,⟨[],allD 49,true⟩,⟨[],allD 49,true⟩,⟨[],allD 49,true⟩,⟨[],allD 49,true⟩] h0 hm (E0_ok _) (by kernel_rfl) (by kernel_rfl) ?_
        simp [hb,e1,e2]
theorem ok_Clone_Offer (k:Nat) (xs:List GOffer) (hx:xs.length ≤ 1048576):CallOK Tryz.prog 168 [.c (rd k xs.length (xs.flatMap (GOffer.ci k)))] (.c (.sl 0 81 xs.length (xs.flatMap (GOffer.ci k)))) [.c (rd k xs.length (xs.flatMap (GOffer.ci k)))]:=by
  refine okS (fn:=Tryz.f168) [] h0 Tryz.func168 (by kernel_rfl) rfl Tryz.ntmps168 Tryz.results168 (by simp) ?_
  cases xs with
  | nil => simp
  | cons y ys =>
    simp only [List.length_cons] at hx
    have hb:(ys.length + 1) * 88 ≤ 140737488355328 ∧ ys.length + 1 ≤ 9223372036854775807:=by omega
    have hb2:ys.length + 1 ≤ 9223372036854775807:=by omega
    have hb1:(ys.length + 1) * 88 ≤ 140737488355328:=by omega
    have he:ys.length * 7 + 1 + 1 + 1 + 1 + 1 + 1 + 1 = (ys.length + 1) * 7:=by omega
    have ht:List.take ((ys.length + 1) * 7) (pi y.Peer :: pi y.Attrs.Origin :: rd k y.Attrs.Path.length (y.Attrs.Path.map pi) :: pi y.Attrs.Next :: pi y.Attrs.Med :: pi y.Attrs.Pref :: rd k y.Attrs.Comms.length (y.Attrs.Comms.map pi) :: ys.flatMap (GOffer.ci k)) = (pi y.Peer :: pi y.Attrs.Origin :: rd k y.Attrs.Path.length (y.Attrs.Path.map pi) :: pi y.Attrs.Next :: pi y.Attrs.Med :: pi y.Attrs.Pref :: rd k y.Attrs.Comms.length (y.Attrs.Comms.map pi) :: ys.flatMap (GOffer.ci k)):=GOffer.tkRi k (y :: ys)
    simp [hb1,hb2,he,ht]
theorem ok_IndexFunc_Offer (k q g:Nat) (caps:List (List PT)) (p:GOffer → Bool) (xs:List GOffer) (ha:xs.length ≤ 140737488351232)
    (hg:∀ x ∈ xs,CallOK Tryz.prog g (.agg (GOffer.ci k x) :: caps.map (PV.ip q)) (.c (pb (p x))) (.agg (GOffer.ci k x) :: caps.map (PV.ip q))) :
    CallOK Tryz.prog 189 [.c (rd k xs.length (xs.flatMap (GOffer.ci k))),.c (.fn q g caps)] (.c (pi (idxOf p xs))) [.c (rd k xs.length (xs.flatMap (GOffer.ci k))),.c (.fn q g caps)]:=by
  refine okS (fn:=Tryz.f189) [] h0 Tryz.func189 (by kernel_rfl) rfl Tryz.ntmps189 Tryz.results189 (by simp) ?_
  simp
  refine loopS [0,1,7,8] [] (fun n st => ∃ (i:Nat),i + n = xs.length ∧ (∀ (j:Nat) (hj:j < i) (hj':j < xs.length),p xs[j] = false) ∧ st = ⟨slOf 19 [(0,.t (rd k xs.length (xs.flatMap (GOffer.ci k)))),(1,.t (.fn q g caps)),(7,.t (pi xs.length)),(8,.t (pi i))],ofL []⟩) xs.length ?_ ?_
  · rintro Inv hI
    simp
    subst hI
    exact ⟨0,by omega,by intro j hj; omega,rfl⟩
  · rintro Inv hI n st ⟨i,hi,hall,rfl⟩
    refine ewr_sound (M:=[]) h0 ?_
    simp
    refine brn_app (fun h => ?_) (fun h => ?_)
    · simp at h
      have hd:=fm_drop (GOffer.ci k) 7 (fun _ => rfl) xs i h
      have hlen:=fm_len (GOffer.ci k) 7 (fun _ => rfl) xs
      have hlt:i * 7 < xs.length * 7:=by omega
      simp [h,hd,hlen,hlt]
      refine Inv_intro (hg _ (List.getElem_mem h)) ?_
      simp
      refine brn_app (fun h2 => ?_) (fun h2 => ?_)
      · simp
        exact (idxOf_hit p xs i h h2 fun j hj => hall j hj (by omega)).symm
      · simp
        subst hI
        refine Less_mk (n - 1) (by omega) ⟨i + 1,by omega,?_,by rw [wrNext i (by omega)]⟩
        intro j hj hj'
        by_cases hji:j = i
        · subst hji; exact h2
        · exact hall j (by omega) hj'
    · simp at h
      simp
      exact (idxOf_no p xs fun j hj => hall j (by omega) hj).symm
theorem idxOf_find {α:Type} (p:α → Bool) (xs:List α):(idxOf p xs = -1 ∧ xs.findIdx? p = none) ∨ ∃ (i:Nat) (h:i < xs.length),idxOf p xs = i ∧ xs.findIdx? p = some i:=by
  unfold idxOf
  cases h:xs.findIdx? p with
  | none => exact .inl ⟨rfl,rfl⟩
  | some i =>
    have h':=h
    rw [List.findIdx?_eq_some_iff_getElem] at h'
    exact .inr ⟨i,h'.1,rfl,rfl⟩
theorem put7 {α:Type} (C:List α) (a b c d e f g:α) (i j:Nat) (h:i * 7 + 7 ≤ C.length) (hij:i < j):(C.take (i * 7) ++ a :: b :: c :: d :: e :: f :: g :: C.drop (i * 7 + 7)).length = C.length ∧ (C.take (i * 7) ++ a :: b :: c :: d :: e :: f :: g :: C.drop (i * 7 + 7)).take ((i + 1) * 7) = C.take (i * 7) ++ [a,b,c,d,e,f,g] ∧ (C.take (i * 7) ++ a :: b :: c :: d :: e :: f :: g :: C.drop (i * 7 + 7)).drop ((j + 1) * 7) = C.drop ((j + 1) * 7):=by
  have hl:(C.take (i * 7)).length = i * 7:=by rw [List.length_take]; omega
  have e1:(i + 1) * 7 = (C.take (i * 7)).length + 7:=by omega
  refine ⟨?_,?_,?_⟩
  · simp only [List.length_append,List.length_cons,List.length_drop,hl]
    omega
  · rw [e1,List.take_length_add_append]
    rfl
  · have e2:(j + 1) * 7 = (C.take (i * 7)).length + (7 + (j - i) * 7):=by omega
    rw [e2,List.drop_length_add_append,← List.drop_drop]
    show List.drop ((j - i) * 7) (C.drop (i * 7 + 7)) = _
    rw [List.drop_drop,hl]
    congr 1
    omega
theorem ok_DeleteFunc_Offer (k q g:Nat) (caps:List (List PT)) (p:GOffer → Bool) (xs:List GOffer) (ha:xs.length ≤ 140737488351232)
    (hg:∀ k,∀ x ∈ xs,CallOK Tryz.prog g (.agg (GOffer.ci k x) :: caps.map (PV.ip q)) (.c (pb (p x))) (.agg (GOffer.ci k x) :: caps.map (PV.ip q))) :
    CallOK Tryz.prog 167 [.c (.sl 0 81 xs.length (xs.flatMap (GOffer.ci k))),.c (.fn q g caps)] (.c (.sl 0 81 (xs.filter fun x => !p x).length ((xs.filter fun x => !p x).flatMap (GOffer.ci k)))) [.c .hole,.c (.fn q g caps)]:=by
  refine okS (fn:=Tryz.f167) [] h0 Tryz.func167 (by kernel_rfl) rfl Tryz.ntmps167 Tryz.results167 (by simp) ?_
  simp
  refine Inv_intro (ok_IndexFunc_Offer 0 q g caps p xs ha (hg 0)) ?_
  simp
  rcases idxOf_find p xs with ⟨e,hf⟩ | ⟨i0,hi0,e,hf⟩
  · rw [e]
    have hall:xs.filter (fun x => !p x) = xs:=by
      rw [List.findIdx?_eq_none_iff] at hf
      exact List.filter_eq_self.2 fun x hx => by simp [hf x hx]
    rw [hall]
    simp
  · rw [e]
    have hne:¬ (i0:Int) = -1:=by omega
    have hw0:IntKind.wrap .i64 ((i0:Int) + 1) = ((i0 + 1:Nat):Int):=wrNext i0 (by omega)
    simp [hne,hw0]
    refine loopS [0,1,5,6] [.arg 0 0] (fun m st => ∃ (j i:Nat) (C:List PT),j + m = xs.length ∧ i < j ∧ ((xs.take j).filter fun x => !p x).length = i ∧ C.length = xs.length * 7 ∧ C.take (i * 7) = ((xs.take j).filter fun x => !p x).flatMap (GOffer.ci k) ∧ C.drop (j * 7) = (xs.drop j).flatMap (GOffer.ci k) ∧ st = ⟨slOf 42 [(0,.ref ⟨.arg 0 0,[]⟩ 0 xs.length),(1,.t (.fn q g caps)),(5,.t (pi i)),(6,.t (pi j))],ofL [(.arg 0 0,.sl 0 81 xs.length C)]⟩) (xs.length - (i0 + 1)) ?_ ?_
    · rintro Inv hI
      have hfirst:(xs.take (i0 + 1)).filter (fun x => !p x) = xs.take i0:=by
        rw [List.findIdx?_eq_some_iff_getElem] at hf
        obtain ⟨h1,h2,h3⟩:=hf
        rw [take_step xs i0 hi0,List.filter_append]
        have e1:(xs.take i0).filter (fun x => !p x) = xs.take i0:=by
          refine List.filter_eq_self.2 fun x hx => ?_
          obtain ⟨j,hj,rfl⟩:=List.mem_iff_getElem.1 hx
          have hj':j < i0:=by rw [List.length_take] at hj; omega
          rw [List.getElem_take]
          simpa using h3 j hj'
        rw [e1]
        simp [h2]
      simp
      subst hI
      refine ⟨i0 + 1,i0,xs.flatMap (GOffer.ci k),by omega,by omega,by rw [hfirst,List.length_take]; omega,fm_len (GOffer.ci k) 7 (fun _ => rfl) xs,?_,?_,?_⟩
      · rw [hfirst]; exact fm_take (GOffer.ci k) 7 (fun _ => rfl) xs i0
      · exact fm_dropAll (GOffer.ci k) 7 (fun _ => rfl) xs (i0 + 1)
      · rfl
    · rintro Inv hI m st ⟨j,i,C,hj,hlt,hi,hCl,hCt,hCd0,rfl⟩
      refine ewr_sound (M:=[]) h0 ?_
      simp
      refine brn_app (fun a => ?_) (fun a => ?_)
      · simp at a
        have hCd:C.drop (j * 7) = GOffer.ci k xs[j] ++ (xs.drop (j + 1)).flatMap (GOffer.ci k):=by
          rw [hCd0,drop_step _ j a,List.flatMap_cons]
        have hCn:C.drop ((j + 1) * 7) = (xs.drop (j + 1)).flatMap (GOffer.ci k):=by
          have:(j + 1) * 7 = j * 7 + 7:=by omega
          rw [this,← List.drop_drop,hCd]
          rfl
        have hb:j * 7 + 7 ≤ xs.length * 7:=by omega
        have hfs:(xs.take (j + 1)).filter (fun x => !p x) = (xs.take j).filter (fun x => !p x) ++ (if p xs[j] = true then [] else [xs[j]]):=by
          rw [take_step xs j a,List.filter_append]
          cases hpx:p xs[j] <;> simp [hpx]
        simp [a,hCl,hCd,hb]
        refine Inv_intro (hg _ _ (List.getElem_mem a)) ?_
        simp
        refine brn_app (fun b => ?_) (fun b => ?_)
        · simp at b
          rw [if_neg (by simp [b])] at hfs
          have hib:i * 7 < xs.length * 7:=by omega
          have hib2:i < xs.length:=by omega
          have hib3:i * 7 + 7 ≤ xs.length * 7:=by omega
          simp [hCl,hib,hib2,hib3]
          subst hI
          obtain ⟨g1,g2,g3⟩:=put7 C (pi xs[j].Peer) (pi xs[j].Attrs.Origin) (rd k xs[j].Attrs.Path.length (xs[j].Attrs.Path.map pi)) (pi xs[j].Attrs.Next) (pi xs[j].Attrs.Med) (pi xs[j].Attrs.Pref) (rd k xs[j].Attrs.Comms.length (xs[j].Attrs.Comms.map pi)) i j (by omega) hlt
          refine Less_mk (m - 1) (by omega) ⟨j + 1,i + 1,_,by omega,by omega,by rw [hfs,List.length_append,hi]; rfl,g1.trans hCl,?_,?_,?_⟩
          · rw [g2,hCt,hfs,List.flatMap_append]
            simp
          · rw [g3,hCn]
          · rw [wrNext i (by omega),wrNext j (by omega)]
        · simp at b
          rw [if_pos b,List.append_nil] at hfs
          simp
          subst hI
          refine Less_mk (m - 1) (by omega) ⟨j + 1,i,C,by omega,by omega,by rw [hfs,hi],hCl,?_,hCn,?_⟩
          · rw [hCt,hfs]
          · rw [wrNext j (by omega)]
      · simp at a
        have hjn:j = xs.length:=by omega
        subst hjn
        rw [List.take_length] at hi hCt
        have hil:i ≤ xs.length:=by omega
        have hCtl:(C.take (i * 7)).length = i * 7:=by rw [List.length_take]; omega
        have hz0:¬ xs.length - i = 0:=by omega
        have hz1:i * 7 + (xs.length - i) * 7 ≤ C.length:=by omega
        have hz2:i * 7 ≤ min (i * 7) C.length + ((xs.length - i) * 7 + (C.length - (i * 7 + (xs.length - i) * 7))):=by omega
        have hTT:∀ Y,List.take (i * 7) (C.take (i * 7) ++ Y) = C.take (i * 7):=fun Y => List.take_left' hCtl
        rw [hi,← hCt]
        simp [hil,hz0,hz1,hz2,hTT]
theorem ok_order (k k':Nat) (a b:GOffer):CallOK Tryz.prog 208 [.agg (GOffer.ci k a),.agg (GOffer.ci k' b)] (.c (pi (ordO a b))) [.agg (GOffer.ci k a),.agg (GOffer.ci k' b)]:=by
  refine okS (fn:=Tryz.f208) [] h0 Tryz.func208 (by kernel_rfl) rfl Tryz.ntmps208 Tryz.results208 (by simp) ?_
  simp
  refine brn_app (fun c => ?_) (fun c => ?_)
  · simp at c
    simp [ordO,c]
  · simp at c
    simp
    refine drawP (tabEnv [] _) [⟨[.op 0 0 0],allD 50,true⟩,⟨[.op 0 0 0],allD 50,true⟩,⟨[.op 0 1 0],allD 50,true⟩,⟨[.op 0 1 0],allD 50,true⟩,⟨[],allD 50,false⟩,⟨[],allD 50,false⟩,⟨[.op 3 4 0],[12,13,14,15,5,6],false⟩,⟨[.op 3 5 0],[12,13,14,15,5,6],false⟩] h0 hm (tabEnv_ok tab_nil) (by kernel_rfl) (by kernel_rfl) ?_
    simp
    obtain ⟨v,hv⟩:∃ v,v = orI [cmpI b.Attrs.Pref a.Attrs.Pref,cmpI a.Attrs.Path.length b.Attrs.Path.length,cmpI a.Attrs.Origin b.Attrs.Origin,cmpI a.Attrs.Med b.Attrs.Med,cmpI a.Attrs.Next b.Attrs.Next,cmpI a.Peer b.Peer]:=⟨_,rfl⟩
    have ho:=ok_orI 0 [cmpI b.Attrs.Pref a.Attrs.Pref,cmpI a.Attrs.Path.length b.Attrs.Path.length,cmpI a.Attrs.Origin b.Attrs.Origin,cmpI a.Attrs.Med b.Attrs.Med,cmpI a.Attrs.Next b.Attrs.Next,cmpI a.Peer b.Peer] (by simp)
    rw [← hv] at ho
    simp at ho
    refine drawP (fnEnv 153 (fI2 fun a b => pi (cmpI a b)) (tabEnv [] _)) [⟨[.op 3 5 0],allD 50,true⟩,⟨[.op 3 5 0],allD 50,true⟩,⟨[.op 3 4 0],allD 50,true⟩,⟨[.op 3 4 0],allD 50,true⟩,⟨[],allD 50,false⟩,⟨[.op 3 4 0],allD 50,true⟩,⟨[.op 3 4 0],allD 50,true⟩,⟨[],allD 50,true⟩,⟨[.op 3 5 0],allD 50,true⟩,⟨[.op 3 5 0],allD 50,true⟩,⟨[],allD 50,true⟩,⟨[],allD 50,false⟩,⟨[.op 3 4 0],allD 50,true⟩,⟨[.op 3 4 0],allD 50,true⟩,⟨[.op 3 5 0],allD 50,true⟩,⟨[.op 3 5 0],allD 50,true⟩,⟨[],allD 50,false⟩,⟨[.op 3 4 0],allD 50,true⟩,⟨[.op 3 4 0],allD 50,true⟩,⟨[.op 3 5 0],allD 50,true⟩,⟨[.op 3 5 0],allD 50,true⟩,⟨[],allD 50,false⟩,⟨[.op 3 4 0],allD 50,true⟩,⟨[.op 3 4 0],allD 50,true⟩,⟨[.op 3 5 0],allD 50,true⟩,⟨[.op 3 5 0],allD 50,true⟩,⟨[],allD 50,false⟩,⟨[.op 0 0 0],allD 50,true⟩,⟨[.op 0 0 0],allD 50,true⟩,⟨[.op 0 1 0],allD 50,true⟩,⟨[.op 0 1 0],allD 50,true⟩,⟨[],allD 50,false⟩,⟨[],allD 50,false⟩,⟨[.op 4 32 0],[16,17,18,19,20,21,22,23,24,25,26,27,28,29,30,31,32,33,34,35,36,37,38,39,40,41,42,43,44,45,46,47,48,49,4],false⟩,⟨[],allD 50,true⟩] h0 hm (fnEnv_ok (tabEnv_ok (tab_cons ho tab_nil)) (fI2_ok ok_cmpI)) (by kernel_rfl) (by kernel_rfl) ?_
    simp
    rw [hv]
    unfold ordO
    rw [if_neg c]
theorem insRv_split {x:GOffer}:∀ (q r:List GOffer),(∀ y ∈ q,ordO x y < 0) → insRv x (q ++ r) = q ++ insRv x r
  | [],r,_ => rfl
  | y :: q,r,h => by
    have h1:=h y List.mem_cons_self
    show (if ordO x y < 0 then y :: insRv x (q ++ r) else x :: y :: (q ++ r)) = _
    rw [if_pos h1,insRv_split q r fun z hz => h z (List.mem_cons_of_mem _ hz)]
    rfl
theorem sortRv_step (xs:List GOffer) (i:Nat) (h:i < xs.length):sortRv (xs.take (i + 1)) = insRv xs[i] (sortRv (xs.take i)):=by
  unfold sortRv
  rw [List.take_succ_eq_append_getElem h,List.foldl_append]
  rfl
theorem sortRv_len:∀ (xs acc:List GOffer),(xs.foldl (fun acc x => insRv x acc) acc).length = acc.length + xs.length
  | [],acc => by simp
  | x :: xs,acc => by
    rw [List.foldl_cons,sortRv_len xs,insRv_len]
    simp only [List.length_cons]
    omega
theorem sortRv_len' (xs:List GOffer):(sortRv xs).length = xs.length:=by
  unfold sortRv
  rw [sortRv_len]
  simp
def isSl (k n i:Nat) (C:List PT):St:=⟨slOf 53 [(0,.ref ⟨.arg 0 0,[]⟩ 0 n),(1,.t (pi 0)),(2,.t (pi n)),(3,.t (.fn 0 208 [])),(8,.t (pi i))],ofL [(.arg 0 0,.sl 0 81 n C)]⟩
def isSj (k n i j:Nat) (C:List PT):St:=⟨slOf 53 [(0,.ref ⟨.arg 0 0,[]⟩ 0 n),(1,.t (pi 0)),(2,.t (pi n)),(3,.t (.fn 0 208 [])),(8,.t (pi i)),(9,.t (pi j))],ofL [(.arg 0 0,.sl 0 81 n C)]⟩
theorem ok_isort (k:Nat) (xs:List GOffer) (hn:xs.length ≤ 1000000) :
    CallOK Tryz.prog 224 [.c (.sl 0 81 xs.length (xs.flatMap (GOffer.ci k))),.c (pi 0),.c (pi xs.length),.c (.fn 0 208 [])] (.tup []) [.c (.sl 0 81 xs.length ((sortRv xs).reverse.flatMap (GOffer.ci k))),.c (pi 0),.c (pi xs.length),.c (.fn 0 208 [])]:=by
  refine okS (fn:=Tryz.f224) [] h0 Tryz.func224 (by kernel_rfl) rfl Tryz.ntmps224 Tryz.results224 (by simp) ?_
  simp
  refine loopS [0,1,2,3,8] [.arg 0 0] (fun m st => ∃ (i:Nat),1 ≤ i ∧ (i + m = xs.length ∨ (m = 0 ∧ xs.length < i)) ∧ st = isSl k xs.length i (((sortRv (xs.take i)).reverse ++ xs.drop i).flatMap (GOffer.ci k))) (xs.length - 1) ?_ ?_
  · rintro Inv hI
    simp
    subst hI
    refine ⟨1,by omega,by omega,?_⟩
    have e:((sortRv (xs.take 1)).reverse ++ xs.drop 1) = xs:=by
      cases xs with
      | nil => rfl
      | cons x r => simp [sortRv,insRv]
    rw [e]
    rfl
  · rintro Inv hI m st ⟨i,hi1,hi2,rfl⟩
    unfold isSl
    refine ewr_sound (M:=[]) h0 ?_
    simp
    refine brn_app (fun a => ?_) (fun a => ?_)
    · simp at a
      have hacc:(sortRv (xs.take i)).length = i:=by rw [sortRv_len',List.length_take]; omega
      simp
      refine loopS [0,1,2,3,8,9] [.arg 0 0] (fun m st => ∃ (q r:List GOffer),sortRv (xs.take i) = q ++ r ∧ r.length = m ∧ (∀ y ∈ q,ordO xs[i] y < 0) ∧ st = isSj k xs.length i m ((r.reverse ++ xs[i] :: (q.reverse ++ xs.drop (i + 1))).flatMap (GOffer.ci k))) i ?_ ?_
      · rintro Inv2 hI2
        simp
        subst hI2
        refine ⟨[],sortRv (xs.take i),rfl,hacc,by simp,?_⟩
        rw [List.drop_eq_getElem_cons a]
        simp [isSj]
      · rintro Inv2 hI2 j st ⟨q,r,hqr,hrl,hq,rfl⟩
        unfold isSj
        refine ewr_sound (M:=[]) h0 ?_
        cases r with
        | nil =>
          simp at hrl
          subst hrl
          simp
          refine drawP (tabEnv [] _) [⟨[.arg 0 0],allD 53,true⟩,⟨[.arg 0 0],allD 53,true⟩,⟨[.arg 0 0],allD 53,true⟩,⟨[.arg 0 0],allD 53,true⟩,⟨[.arg 0 0],allD 53,true⟩,⟨[.arg 0 0],allD 53,true⟩,⟨[.arg 0 0],allD 53,true⟩,⟨[.arg 0 0],allD 53,true⟩,⟨[.arg 0 0],allD 53,true⟩,⟨[.arg 0 0],allD 53,true⟩,⟨[.arg 0 0],allD 53,true⟩,⟨[.arg 0 0],allD 53,true⟩,⟨[.arg 0 0],allD 53,true⟩,⟨[.arg 0 0],allD 53,true⟩,⟨[.arg 0 0],[18,19,20,21,22,23,24,25,26,27,28,29,30,31,32,33,34],false⟩,⟨[.arg 0 0],allD 53,true⟩,⟨[.arg 0 0],allD 53,true⟩] h0 hm (tabEnv_ok tab_nil) (by kernel_rfl) (by kernel_rfl) ?_
          simp
          subst hI
          refine Less_mk (m - 1) (by omega) ⟨i + 1,by omega,by omega,?_⟩
          rw [wrNext i (by omega)]
          unfold isSl
          rw [sortRv_step xs i a,hqr,insRv_split q [] hq]
          simp [insRv]
        | cons y r =>
          simp only [List.length_cons] at hrl
          have hmi:j ≤ i:=by
            have:=congrArg List.length hqr
            rw [hacc,List.length_append,List.length_cons] at this
            omega
          have hql:q.length = i - j:=by
            have:=congrArg List.length hqr
            rw [hacc,List.length_append,List.length_cons] at this
            omega
          obtain ⟨R,hR⟩:∃ R,R = r.reverse.flatMap (GOffer.ci k):=⟨_,rfl⟩
          obtain ⟨Z,hZ⟩:∃ Z,Z = (q.reverse ++ xs.drop (i + 1)).flatMap (GOffer.ci k):=⟨_,rfl⟩
          have hRl:R.length = r.length * 7:=by rw [hR,fm_len (GOffer.ci k) 7 (fun _ => rfl),List.length_reverse]
          have hZl:Z.length = (xs.length - (j + 1)) * 7:=by rw [hZ,fm_len (GOffer.ci k) 7 (fun _ => rfl),List.length_append,List.length_reverse,List.length_drop]; congr 1; omega
          have hC0:((y :: r).reverse ++ xs[i] :: (q.reverse ++ xs.drop (i + 1))).flatMap (GOffer.ci k) = R ++ (GOffer.ci k y ++ (GOffer.ci k xs[i] ++ Z)):=by
            rw [hR,hZ]
            simp only [List.reverse_cons,List.flatMap_append,List.flatMap_cons,List.flatMap_nil,List.append_assoc,List.append_nil]
          rw [hC0]
          obtain ⟨C,hC⟩:∃ C,C = R ++ (GOffer.ci k y ++ (GOffer.ci k xs[i] ++ Z)):=⟨_,rfl⟩
          rw [← hC]
          have hlC:C.length = xs.length * 7:=by
            rw [hC]
            simp only [List.length_append,hRl,hZl,GOffer.len_i]
            omega
          have hd0:C.drop (r.length * 7) = GOffer.ci k y ++ (GOffer.ci k xs[i] ++ Z):=by
            rw [hC,← hRl,List.drop_left]
          have hd1:C.drop (j * 7) = GOffer.ci k xs[i] ++ Z:=by
            rw [show j * 7 = r.length * 7 + 7 by omega,← List.drop_drop,hd0]
            rfl
          have hw:IntKind.wrap .i64 ((j:Int) - 1) = (r.length:Int):=by
            rw [show (j:Int) - 1 = (r.length:Int) by omega]
            exact wrap64 (by omega) (by omega)
          have hb0:r.length < xs.length:=by omega
          have hb1:j < xs.length:=by omega
          have hb2:r.length * 7 < xs.length * 7:=by omega
          have hb3:j * 7 < xs.length * 7:=by omega
          have hj0:0 < j:=by omega
          have hb4:j * 7 + 7 ≤ xs.length * 7:=by omega
          have hb5:r.length * 7 + 7 ≤ xs.length * 7:=by omega
          have hmin:min j xs.length = j:=Nat.min_eq_left (by omega)
          have hb6:r.length * 7 + 7 ≤ j * 7 + (xs.length * 7 - (j * 7 + 7) + 1 + 1 + 1 + 1 + 1 + 1 + 1):=by omega
          have hT:C.take (j * 7) = R ++ GOffer.ci k y:=by
            rw [hC,← List.append_assoc,List.take_left' (by rw [List.length_append,hRl,GOffer.len_i]; omega)]
          have hD:C.drop (j * 7 + 7) = Z:=by
            rw [← List.drop_drop,hd1]
            rfl
          have hfin:List.take (r.length * 7) (List.take (j * 7) C ++ (GOffer.ci k y ++ List.drop (j * 7 + 7) C)) ++ (GOffer.ci k xs[i] ++ List.drop (r.length * 7 + 7) (List.take (j * 7) C ++ (GOffer.ci k y ++ List.drop (j * 7 + 7) C))) = (r.reverse ++ xs[i] :: ((q ++ [y]).reverse ++ xs.drop (i + 1))).flatMap (GOffer.ci k):=by
            rw [hT,hD]
            have e1:List.take (r.length * 7) (R ++ GOffer.ci k y ++ (GOffer.ci k y ++ Z)) = R:=by
              rw [List.append_assoc,List.take_left' hRl]
            have e2:List.drop (r.length * 7 + 7) (R ++ GOffer.ci k y ++ (GOffer.ci k y ++ Z)) = GOffer.ci k y ++ Z:=by
              rw [List.drop_left' (by rw [List.length_append,hRl,GOffer.len_i])]
            rw [e1,e2,hR,hZ]
            simp only [List.reverse_append,List.reverse_cons,List.reverse_nil,List.nil_append,List.flatMap_append,List.flatMap_cons,List.flatMap_nil,List.append_assoc,List.append_nil,List.cons_append]
          simp only [GOffer.ci,List.cons_append,List.nil_append] at hfin
          have ho:=ok_order k k xs[i] y
          simp at ho
          simp
          refine drawP (tabEnv [] _) [⟨[.arg 0 0],allD 53,true⟩,⟨[.arg 0 0],allD 53,true⟩,⟨[.arg 0 0],allD 53,true⟩,⟨[.arg 0 0],allD 53,true⟩,⟨[.arg 0 0],allD 53,true⟩,⟨[.arg 0 0],allD 53,true⟩,⟨[.arg 0 0],allD 53,true⟩,⟨[.arg 0 0],allD 53,true⟩,⟨[.arg 0 0],allD 53,true⟩,⟨[.arg 0 0],allD 53,true⟩,⟨[.arg 0 0],allD 53,true⟩,⟨[.arg 0 0],allD 53,true⟩,⟨[.arg 0 0],allD 53,true⟩,⟨[.arg 0 0],allD 53,true⟩,⟨[.arg 0 0],[18,19,20,21,22,23,24,25,26,27,28,29,30,31,32,33,34],false⟩,⟨[.arg 0 0],allD 53,true⟩,⟨[.arg 0 0],allD 53,true⟩] h0 hm (tabEnv_ok (tab_cons ho tab_nil)) (by kernel_rfl) (by kernel_rfl) ?_
          simp [hw,hb0,hb1,hb2,hb3,hb4,hb5,hj0,hlC,hd0,hd1]
          refine brn_app (fun b => ?_) (fun b => ?_)
          · simp at b
            simp
            refine drawK [0,1,2,3,5,6,10,11] (tabEnv [] _) [⟨[],allD 53,true⟩,⟨[],allD 53,true⟩,⟨[],allD 53,true⟩,⟨[],allD 53,true⟩,⟨[],allD 53,true⟩,⟨[],allD 53,true⟩,⟨[],allD 53,true⟩,⟨[],allD 53,true⟩,⟨[.arg 0 0],allD 53,true⟩,⟨[.arg 0 0],allD 53,true⟩,⟨[],allD 53,true⟩,⟨[],allD 53,true⟩,⟨[.arg 0 0],allD 53,true⟩,⟨[.arg 0 0],allD 53,true⟩,⟨[.arg 0 0],allD 53,true⟩,⟨[.arg 0 0],[41,44,45,46,49,50,51,52],false⟩,⟨[.arg 0 0],allD 53,true⟩,⟨[.arg 0 0],[41,44,45,46,49,50,51,52],false⟩] h0 hm (tabEnv_ok tab_nil) (by kernel_rfl) (by kernel_rfl) ?_
            simp [hw,hb0,hb1,hb2,hb3,hb4,hb5,hb6,hmin,hj0,hlC,hd0,hd1]
            subst hI2
            refine Less_mk r.length (by omega) ⟨q ++ [y],r,by rw [hqr]; simp,rfl,?_,?_⟩
            · intro z hz
              rcases List.mem_append.1 hz with hz | hz
              · exact hq z hz
              · rw [List.mem_singleton.1 hz]; exact b
            · unfold isSj
              rw [← hfin]
          · simp at b
            simp
            subst hI
            refine Less_mk (m - 1) (by omega) ⟨i + 1,by omega,by omega,?_⟩
            rw [wrNext i (by omega)]
            unfold isSl
            have e:insRv xs[i] (y :: r) = xs[i] :: y :: r:=if_neg (by omega)
            rw [sortRv_step xs i a,hqr,insRv_split q _ hq,e]
            have e3:((q ++ xs[i] :: y :: r).reverse ++ xs.drop (i + 1)).flatMap (GOffer.ci k) = C:=by
              rw [hC,hR,hZ]
              simp only [List.reverse_append,List.reverse_cons,List.flatMap_append,List.flatMap_cons,List.flatMap_nil,List.append_assoc,List.append_nil,List.cons_append,List.nil_append]
            rw [e3]
    · simp at a
      have e1:xs.take i = xs:=List.take_of_length_le (by omega)
      have e2:xs.drop i = []:=List.drop_eq_nil_of_le (by omega)
      simp [e1,e2]
end Go.V
