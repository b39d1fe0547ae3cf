/- What functions of the seat's program do, each proved of its code, under the bounds that its theorem names. -/
import Derived.Test.YtcmdgenpipojpaaGreatTab
set_option linter.all false
namespace Go.V
open Go.Proofs
set_option maxHeartbeats 1000000
set_option maxRecDepth 10000
set_option linter.unusedSimpArgs false
set_option linter.unusedVariables false
theorem ok_prefix (code:List Int) (hc:codeOK code) (a s:Int) (ha:0 ≤ a) (ha2:a ≤ 3999990):∃ (p:GPrefix) (a' s':Int),(a ≤ a' ∧ a' ≤ a + 4) ∧ CallOK Tryz.prog 97 [.bp (curP code a s)] (.agg p.c) [.bp (curP code a' s')]:=by
  obtain ⟨n,a1,s1,hn,ha1,q1⟩:=ok_among 0 code hc [0,1,2,3,4,8,8,16,24,31,32] (by decide) (by decide) a s ha (by omega)
  obtain ⟨d,a2,s2,hd,ha2',q2⟩:=ok_among 0 code hc [0,167772160,167837696,3232235520,2147483648,4294967295,3758096384,167772165] (by decide) (by decide) a1 s1 (by omega) (by omega)
  obtain ⟨x,a3,s3,hx,ha3,q3⟩:=ok_pick code hc 30 (by decide) (by decide) a2 s2 (by omega) (by omega)
  have hn32:0 ≤ n ∧ n ≤ 32:=by
    simp only [List.mem_cons,List.not_mem_nil,or_false] at hn
    omega
  have hz:=pow_ne (32 - n).toNat
  have hsz:=ok_l1Size ⟨0,n⟩ hn32.1 hn32.2
  have r11:([0,1,2,3,4,5,6,7,8,9,10]:List Nat) = List.range 11:=by decide
  have r8:([0,1,2,3,4,5,6,7]:List Nat) = List.range 8:=by decide
  by_cases hx1:x = 1
  · obtain ⟨y,a4,s4,hy,ha4,q4⟩:=ok_among 0 code hc [-1,33] (by decide) (by decide) a3 s3 (by omega) (by omega)
    subst hx1
    refine ⟨⟨IntKind.i64.wrap (d - d.tmod (szP n)),y⟩,a4,s4,by omega,?_⟩
    refine okS (fn:=Tryz.f97) [(94,[1]),(18,[1])] h0 Tryz.func97 (by kernel_rfl) rfl Tryz.ntmps97 Tryz.results97 (by simp) ?_
    unfold curP at q1 q2 q3 q4 ⊢
    simp [r11,r8]
    refine Inv_intro q1 ?_
    simp [r11,r8]
    refine Inv_intro q2 ?_
    simp [r11,r8]
    refine Inv_intro hsz ?_
    simp [szP,hz]
    refine Inv_intro q3 ?_
    simp
    refine Inv_intro q4 ?_
    simp [szP]
  · by_cases hx0:x = 0
    · subst hx0
      refine ⟨⟨IntKind.i64.wrap (IntKind.i64.wrap (d - d.tmod (szP n)) + 1),n⟩,a3,s3,by omega,?_⟩
      refine okS (fn:=Tryz.f97) [(94,[1]),(18,[1])] h0 Tryz.func97 (by kernel_rfl) rfl Tryz.ntmps97 Tryz.results97 (by simp) ?_
      unfold curP at q1 q2 q3 ⊢
      simp [r11,r8]
      refine Inv_intro q1 ?_
      simp [r11,r8]
      refine Inv_intro q2 ?_
      simp [r11,r8]
      refine Inv_intro hsz ?_
      simp [szP,hz]
      refine Inv_intro q3 ?_
      simp [szP]
    · refine ⟨⟨IntKind.i64.wrap (d - d.tmod (szP n)),n⟩,a3,s3,by omega,?_⟩
      refine okS (fn:=Tryz.f97) [(94,[1]),(18,[1])] h0 Tryz.func97 (by kernel_rfl) rfl Tryz.ntmps97 Tryz.results97 (by simp) ?_
      unfold curP at q1 q2 q3 ⊢
      simp [r11,r8]
      refine Inv_intro q1 ?_
      simp [r11,r8]
      refine Inv_intro q2 ?_
      simp [r11,r8]
      refine Inv_intro hsz ?_
      simp [szP,hz]
      refine Inv_intro q3 ?_
      simp [szP,hx0,hx1]
theorem ok_fine (code:List Int) (hc:codeOK code) (a s:Int) (ha:0 ≤ a) (ha2:a ≤ 3999990):∃ (p:GPrefix) (a' s':Int),goodPx p = true ∧ (a ≤ a' ∧ a' ≤ a + 4) ∧ CallOK Tryz.prog 57 [.bp (curP code a s)] (.agg p.c) [.bp (curP code a' s')]:=by
  obtain ⟨p,a1,s1,ha1,q1⟩:=ok_prefix code hc a s ha ha2
  cases hg:goodPx p with
  | true =>
    refine ⟨p,a1,s1,hg,ha1,?_⟩
    refine okS (fn:=Tryz.f57) [(97,[1])] h0 Tryz.func57 (by kernel_rfl) rfl Tryz.ntmps57 Tryz.results57 (by simp) ?_
    unfold curP at q1 ⊢
    simp
    refine Inv_intro q1 ?_
    simp
    refine Inv_intro (ok_sGoodPrefix p) ?_
    simp [hg]
  | false =>
    refine ⟨⟨167772160,8⟩,a1,s1,by decide,ha1,?_⟩
    refine okS (fn:=Tryz.f57) [(97,[1])] h0 Tryz.func57 (by kernel_rfl) rfl Tryz.ntmps57 Tryz.results57 (by simp) ?_
    unfold curP at q1 ⊢
    simp
    refine Inv_intro q1 ?_
    simp
    refine Inv_intro (ok_sGoodPrefix p) ?_
    simp [hg]
def adjR (q:Option GRoute) (x:GRoute):Bool:=match q with
  | none => true
  | some q => decide (cmpPx q.Prefix x.Prefix < 0)
def routesG:Option GRoute → List GRoute → Bool
  | _,[] => true
  | q,x :: xs => goodR x && adjR q x && routesG (some x) xs
def goodRs (l:List GRoute):Bool:=routesG none l && decide (l.length ≤ 20)
def prevR (l:List GRoute) (i:Nat):Option GRoute:=if i = 0 then none else l[i - 1]?
theorem prevR_next (l:List GRoute) (i:Nat) (h:i < l.length):prevR l (i + 1) = some l[i]:=by simp [prevR,h]
def routesOK (l:List GRoute):Prop:=l.length ≤ 140737488351232 ∧ ∀ r ∈ l,attrOK r.Attrs
theorem cmpPx_lt (p q:GPrefix):cmpPx p q < 0 ↔ (p.Addr < q.Addr ∨ (p.Addr = q.Addr ∧ p.Len < q.Len)):=by
  unfold cmpPx cmpI
  by_cases h1:p.Addr < q.Addr
  · simp [h1]
  · by_cases h2:q.Addr < p.Addr
    · simp [h1,h2]; omega
    · have h3:p.Addr = q.Addr:=by omega
      by_cases h4:p.Len < q.Len
      · simp [h3,h4]
      · by_cases h5:q.Len < p.Len <;> simp [h3,h4,h5]
theorem px_ext (p q:GPrefix):p = q ↔ p.Addr = q.Addr ∧ p.Len = q.Len:=by
  obtain ⟨pa,pl⟩:=p
  obtain ⟨qa,ql⟩:=q
  simp
theorem cmpPx_eq (p q:GPrefix):cmpPx p q = 0 ↔ p = q:=by
  rw [px_ext]
  unfold cmpPx cmpI
  by_cases h1:p.Addr < q.Addr
  · simp [h1]; omega
  · by_cases h2:q.Addr < p.Addr
    · simp [h1,h2]; omega
    · have h3:p.Addr = q.Addr:=by omega
      by_cases h4:p.Len < q.Len
      · simp [h3,h4]; omega
      · by_cases h5:q.Len < p.Len
        · simp [h3,h4,h5]; omega
        · simp [h3,h4,h5]; omega
theorem cmpPx_gt (p q:GPrefix):0 < cmpPx p q ↔ cmpPx q p < 0:=by
  have h1:=cmpPx_lt p q
  have h2:=cmpPx_lt q p
  have h3:=cmpPx_eq p q
  rw [px_ext] at h3
  omega
theorem ltP_trans {p q r:GPrefix} (h1:cmpPx p q < 0) (h2:cmpPx q r < 0):cmpPx p r < 0:=by
  rw [cmpPx_lt] at *
  omega
theorem ltP_irr (p:GPrefix):¬ cmpPx p p < 0:=by rw [cmpPx_lt]; omega
def srt (l:List GRoute):Prop:=l.Pairwise (fun a b => cmpPx a.Prefix b.Prefix < 0)
def lows (p:GPrefix) (l:List GRoute):List GRoute:=l.filter fun x => decide (cmpPx x.Prefix p < 0)
def highs (p:GPrefix) (l:List GRoute):List GRoute:=l.filter fun x => decide (cmpPx p x.Prefix < 0)
def delR (p:GPrefix) (l:List GRoute):List GRoute:=l.filter fun x => !decide (x.Prefix = p)
def putR (r:GRoute) (l:List GRoute):List GRoute:=lows r.Prefix l ++ r :: highs r.Prefix l
def kAt (p:GPrefix) (l:List GRoute):Nat:=bsI (fun x:GRoute => cmpPx x.Prefix p) l
def fnd (p:GPrefix) (l:List GRoute):Bool:=bsF (fun x:GRoute => cmpPx x.Prefix p) l
theorem above_all {p:GPrefix}:∀ {l:List GRoute},(∀ x ∈ l,cmpPx p x.Prefix < 0) → lows p l = [] ∧ highs p l = l ∧ delR p l = l
  | [],_ => ⟨rfl,rfl,rfl⟩
  | x :: l,h => by
    obtain ⟨h1,h2,h3⟩:=above_all (p:=p) (l:=l) fun y hy => h y (by simp [hy])
    have hx:=h x (by simp)
    have hn:¬ cmpPx x.Prefix p < 0:=fun h' => ltP_irr p (ltP_trans hx h')
    have hne:¬ x.Prefix = p:=fun e => by rw [e] at hx; exact ltP_irr p hx
    unfold lows highs delR at *
    refine ⟨?_,?_,?_⟩
    · rw [List.filter_cons,if_neg (by simpa using hn),h1]
    · rw [List.filter_cons,if_pos (by simpa using hx),h2]
    · rw [List.filter_cons,if_pos (by simpa using hne),h3]
theorem srt_split (p:GPrefix):∀ (l:List GRoute),srt l → l.take (kAt p l) = lows p l ∧ l.drop (if fnd p l = true then kAt p l + 1 else kAt p l) = highs p l ∧ delR p l = lows p l ++ highs p l ∧ kAt p l ≤ l.length ∧ (fnd p l = true → kAt p l < l.length) ∧ (fnd p l = false → delR p l = l)
  | [],_ => by simp [kAt,fnd,bsI,bsF,lows,highs,delR]
  | x :: l,h => by
    obtain ⟨h1,h2⟩:=List.pairwise_cons.1 h
    by_cases c:cmpPx x.Prefix p < 0
    · obtain ⟨i1,i2,i3,i4,i5,i6⟩:=srt_split p l h2
      have e1:kAt p (x :: l) = kAt p l + 1:=by simp [kAt,bsI,List.takeWhile_cons,c]
      have e2:fnd p (x :: l) = fnd p l:=by
        have e1':bsI (fun x:GRoute => cmpPx x.Prefix p) (x :: l) = bsI (fun x:GRoute => cmpPx x.Prefix p) l + 1:=e1
        simp only [fnd,bsF,e1',List.getElem?_cons_succ]
      have f1:lows p (x :: l) = x :: lows p l:=by unfold lows; rw [List.filter_cons,if_pos (by simpa using c)]
      have hn:¬ cmpPx p x.Prefix < 0:=fun h' => ltP_irr p (ltP_trans h' c)
      have f2:highs p (x :: l) = highs p l:=by unfold highs; rw [List.filter_cons,if_neg (by simpa using hn)]
      have hne:¬ x.Prefix = p:=fun e => by rw [e] at c; exact ltP_irr p c
      have f3:delR p (x :: l) = x :: delR p l:=by unfold delR; rw [List.filter_cons,if_pos (by simpa using hne)]
      rw [e1,e2,f1,f2,f3]
      refine ⟨by rw [List.take_succ_cons,i1],?_,by rw [i3]; rfl,by simp only [List.length_cons]; omega,fun hh => by have:=i5 hh; simp only [List.length_cons]; omega,fun hh => by rw [i6 hh]⟩
      rw [← i2]
      split <;> rfl
    · have e1:kAt p (x :: l) = 0:=by simp [kAt,bsI,List.takeWhile_cons,c]
      have e2:fnd p (x :: l) = decide (cmpPx x.Prefix p = 0):=by
        have e1':bsI (fun x:GRoute => cmpPx x.Prefix p) (x :: l) = 0:=e1
        simp only [fnd,bsF,e1',List.getElem?_cons_zero]
      by_cases d:cmpPx x.Prefix p = 0
      · have hp:=(cmpPx_eq _ _).1 d
        obtain ⟨a1,a2,a3⟩:=above_all (p:=p) (l:=l) fun y hy => by rw [← hp]; exact h1 y hy
        have f1:lows p (x :: l) = []:=by unfold lows at a1 ⊢; rw [List.filter_cons,if_neg (by simpa using c),a1]
        have hn:¬ cmpPx p x.Prefix < 0:=fun h' => by rw [hp] at h'; exact ltP_irr p h'
        have f2:highs p (x :: l) = l:=by unfold highs at a2 ⊢; rw [List.filter_cons,if_neg (by simpa using hn),a2]
        have f3:delR p (x :: l) = l:=by unfold delR at a3 ⊢; rw [List.filter_cons,if_neg (by simp [hp]),a3]
        rw [e1,e2,f1,f2,f3,decide_eq_true d]
        simp
      · have hx:cmpPx p x.Prefix < 0:=by rw [← cmpPx_gt]; omega
        obtain ⟨a1,a2,a3⟩:=above_all (p:=p) (l:=x :: l) fun y hy => by
          rcases List.mem_cons.1 hy with rfl | hy
          · exact hx
          · exact ltP_trans hx (h1 y hy)
        rw [e1,e2,a1,a2,a3,decide_eq_false d]
        simp
theorem srt_mono {p:GPrefix} {l:List GRoute} (h:srt l) (i j:Nat) (hij:i < j) (hj:j < l.length) (hc:cmpPx l[j].Prefix p < 0):cmpPx l[i].Prefix p < 0 :=
  ltP_trans (List.pairwise_iff_getElem.1 h i j (by omega) hj hij) hc
theorem srt_del {l:List GRoute} (h:srt l) (f:GRoute → Bool):srt (l.filter f):=List.Pairwise.filter f h
theorem srt_put {l:List GRoute} (h:srt l) (r:GRoute):srt (putR r l):=by
  unfold putR srt
  refine List.pairwise_append.2 ⟨srt_del h _,List.pairwise_cons.2 ⟨fun x hx => ?_,srt_del h _⟩,fun a ha b hb => ?_⟩
  · simpa [highs] using (List.mem_filter.1 hx).2
  · have h1:cmpPx a.Prefix r.Prefix < 0:=by simpa using (List.mem_filter.1 ha).2
    rcases List.mem_cons.1 hb with rfl | hb
    · exact h1
    · exact ltP_trans h1 (by simpa using (List.mem_filter.1 hb).2)
theorem mem_put {r x:GRoute} {l:List GRoute} (h:x ∈ putR r l):x = r ∨ x ∈ l:=by
  unfold putR lows highs at h
  rcases List.mem_append.1 h with h | h
  · exact .inr (List.mem_filter.1 h).1
  · rcases List.mem_cons.1 h with h | h
    · exact .inl h
    · exact .inr (List.mem_filter.1 h).1
theorem put_len (r:GRoute) {l:List GRoute} (h:srt l):(putR r l).length ≤ l.length + 1:=by
  obtain ⟨h1,h2,h3,h4,h5,h6⟩:=srt_split r.Prefix l h
  unfold putR
  rw [← h1,← h2,List.length_append,List.length_cons,List.length_take,List.length_drop]
  split <;> omega
theorem routesG_pw:∀ (q:Option GRoute) (l:List GRoute),routesG q l = true → srt l ∧ ∀ x ∈ l,adjR q x = true ∧ goodR x = true
  | _,[],_ => by simp [srt]
  | q,x :: l,h => by
    simp only [routesG,Bool.and_eq_true] at h
    obtain ⟨⟨h1,h2⟩,h3⟩:=h
    obtain ⟨g1,g2⟩:=routesG_pw (some x) l h3
    refine ⟨List.pairwise_cons.2 ⟨fun y hy => by simpa [adjR] using (g2 y hy).1,g1⟩,fun y hy => ?_⟩
    rcases List.mem_cons.1 hy with rfl | hy
    · exact ⟨h2,h1⟩
    · refine ⟨?_,(g2 y hy).2⟩
      have h4:=(g2 y hy).1
      cases q with
      | none => rfl
      | some q =>
        simp only [adjR,decide_eq_true_eq] at h2 h4 ⊢
        exact ltP_trans h2 h4
theorem routesG_of:∀ (q:Option GRoute) (l:List GRoute),srt l → (∀ x ∈ l,goodR x = true) → (∀ x ∈ l,adjR q x = true) → routesG q l = true
  | _,[],_,_,_ => rfl
  | q,x :: l,h,hg,ha => by
    obtain ⟨h1,h2⟩:=List.pairwise_cons.1 h
    simp only [routesG,Bool.and_eq_true]
    exact ⟨⟨hg x (by simp),ha x (by simp)⟩,routesG_of (some x) l h2 (fun y hy => hg y (by simp [hy])) fun y hy => by simpa [adjR] using h1 y hy⟩
def goodL (l:List GRoute):Prop:=srt l ∧ ∀ x ∈ l,goodR x = true
theorem goodRs_L {l:List GRoute} (h:goodRs l = true):goodL l ∧ l.length ≤ 20:=by
  simp only [goodRs,Bool.and_eq_true,decide_eq_true_eq] at h
  obtain ⟨h1,h2⟩:=routesG_pw none l h.1
  exact ⟨⟨h1,fun x hx => (h2 x hx).2⟩,h.2⟩
theorem goodL_Rs {l:List GRoute} (h:goodL l):goodRs l = decide (l.length ≤ 20):=by
  simp only [goodRs,routesG_of none l h.1 h.2 (fun _ _ => rfl),Bool.true_and]
def wt_PrefixS (xs:List GPrefix):Nat:=xs.length
theorem len_wt_PrefixS (xs:List GPrefix):xs.length ≤ wt_PrefixS xs:=by unfold wt_PrefixS; omega
def mk_PrefixS (xs:List GPrefix) (k:Int):List GPrefix × Int:=mkR GPrefix.mark xs k
def cn_PrefixS (xs:List GPrefix):Nat:=cnR GPrefix.cn xs
theorem mk_PrefixS_len (xs:List GPrefix) (k:Int):(mk_PrefixS xs k).1.length = xs.length:=mkR_len _ xs k
attribute [simp] mk_PrefixS_len
structure GUpdate where
  Gone:(List GPrefix)
  Attrs:GAttrs
  Come:(List GPrefix)
  deriving DecidableEq
def GUpdate.co (x:GUpdate):List PT:=[.sl 0 54 x.Gone.length (x.Gone.flatMap GPrefix.c),pi x.Attrs.Origin,.sl 0 3 x.Attrs.Path.length (x.Attrs.Path.map pi),pi x.Attrs.Next,pi x.Attrs.Med,pi x.Attrs.Pref,.sl 0 3 x.Attrs.Comms.length (x.Attrs.Comms.map pi),.sl 0 54 x.Come.length (x.Come.flatMap GPrefix.c)]
def GUpdate.ci (k:Nat) (x:GUpdate):List PT:=[rd k x.Gone.length (x.Gone.flatMap GPrefix.c),pi x.Attrs.Origin,rd k x.Attrs.Path.length (x.Attrs.Path.map pi),pi x.Attrs.Next,pi x.Attrs.Med,pi x.Attrs.Pref,rd k x.Attrs.Comms.length (x.Attrs.Comms.map pi),rd k x.Come.length (x.Come.flatMap GPrefix.c)]
attribute [simp] GUpdate.co GUpdate.ci
theorem GUpdate.len_i (k:Nat) (x:GUpdate):(x.ci k).length = 8:=rfl
theorem GUpdate.un1 (x:GUpdate):PT.unownL x.co = x.ci 0:=by simp [rd]
theorem GUpdate.uni1 (k:Nat) (x:GUpdate):PT.unownL (x.ci k) = x.ci 0:=by simp [rd]
theorem GUpdate.un (xs:List GUpdate):PT.unownL (xs.flatMap GUpdate.co) = xs.flatMap (GUpdate.ci 0):=by
  rw [unownL_fm]
  congr 1
  funext x
  exact GUpdate.un1 x
theorem GUpdate.uni (k:Nat) (xs:List GUpdate):PT.unownL (xs.flatMap (GUpdate.ci k)) = xs.flatMap (GUpdate.ci 0):=by
  rw [unownL_fm]
  congr 1
  funext x
  exact GUpdate.uni1 k x
theorem GUpdate.nt (xs:List GUpdate):PT.noTmpL (xs.flatMap GUpdate.co) = true:=noTmpL_fm _ xs fun x => by simp
theorem GUpdate.nti (k:Nat) (xs:List GUpdate):PT.noTmpL (xs.flatMap (GUpdate.ci (k + 1))) = true:=noTmpL_fm _ xs fun x => by simp [rd]
attribute [simp] GUpdate.un GUpdate.uni GUpdate.nt GUpdate.nti
theorem GUpdate.lenR (xs:List GUpdate):(xs.flatMap GUpdate.co).length = xs.length * 8:=fm_len _ 8 (fun _ => rfl) xs
theorem GUpdate.lenRi (k:Nat) (xs:List GUpdate):(xs.flatMap (GUpdate.ci k)).length = xs.length * 8:=fm_len _ 8 (fun _ => rfl) xs
theorem GUpdate.tkR (xs:List GUpdate):(xs.flatMap GUpdate.co).take (xs.length * 8) = xs.flatMap GUpdate.co:=List.take_of_length_le (by rw [GUpdate.lenR]; exact Nat.le_refl _)
theorem GUpdate.tkRi (k:Nat) (xs:List GUpdate):(xs.flatMap (GUpdate.ci k)).take (xs.length * 8) = xs.flatMap (GUpdate.ci k):=List.take_of_length_le (by rw [GUpdate.lenRi]; exact Nat.le_refl _)
attribute [simp high] GUpdate.lenR GUpdate.tkR GUpdate.lenRi GUpdate.tkRi
def GUpdate.wt (x:GUpdate):Nat:=wt_PrefixS x.Gone + GAttrs.wt x.Attrs + wt_PrefixS x.Come
def GUpdate.mark (x:GUpdate) (k:Int):GUpdate × Int:=(⟨(mk_PrefixS x.Gone k).1,⟨(mk_PrefixS x.Gone k).2,(mk_IntS x.Attrs.Path ((mk_PrefixS x.Gone k).2 + 1)).1,(mk_IntS x.Attrs.Path ((mk_PrefixS x.Gone k).2 + 1)).2,((mk_IntS x.Attrs.Path ((mk_PrefixS x.Gone k).2 + 1)).2 + 1),(((mk_IntS x.Attrs.Path ((mk_PrefixS x.Gone k).2 + 1)).2 + 1) + 1),(mk_IntS x.Attrs.Comms ((((mk_IntS x.Attrs.Path ((mk_PrefixS x.Gone k).2 + 1)).2 + 1) + 1) + 1)).1⟩,(mk_PrefixS x.Come (mk_IntS x.Attrs.Comms ((((mk_IntS x.Attrs.Path ((mk_PrefixS x.Gone k).2 + 1)).2 + 1) + 1) + 1)).2).1⟩,(mk_PrefixS x.Come (mk_IntS x.Attrs.Comms ((((mk_IntS x.Attrs.Path ((mk_PrefixS x.Gone k).2 + 1)).2 + 1) + 1) + 1)).2).2)
def GUpdate.cn (x:GUpdate):Nat:=cn_PrefixS x.Gone + 1 + cn_IntS x.Attrs.Path + 1 + 1 + 1 + cn_IntS x.Attrs.Comms + cn_PrefixS x.Come
def adjPx (q:Option GPrefix) (x:GPrefix):Bool:=match q with
  | none => true
  | some q => decide (cmpPx q x < 0)
def risG:Option GPrefix → List GPrefix → Bool
  | _,[] => true
  | q,x :: xs => goodPx x && adjPx q x && risG (some x) xs
def goodPs (l:List GPrefix):Bool:=risG none l && decide (l.length ≤ 10)
def prevPx (l:List GPrefix) (i:Nat):Option GPrefix:=if i = 0 then none else l[i - 1]?
theorem prevPx_next (l:List GPrefix) (i:Nat) (h:i < l.length):prevPx l (i + 1) = some l[i]:=by simp [prevPx,h]
def zeroA:GAttrs:=⟨0,[],0,0,0,[]⟩
def goodU (u:GUpdate):Bool:=goodPs u.Gone && goodPs u.Come && goodA u.Attrs && u.Come.all (fun p => !decide (p ∈ u.Gone)) && (decide (u.Come ≠ []) || decide (u.Attrs = zeroA))
theorem risG_all:∀ (q:Option GPrefix) (l:List GPrefix),risG q l = true → ∀ x ∈ l,goodPx x = true
  | _,[],_,x,hx => by simp at hx
  | q,y :: l,h,x,hx => by
    simp only [risG,Bool.and_eq_true] at h
    rcases List.mem_cons.1 hx with rfl | hx
    · exact h.1.1
    · exact risG_all (some y) l h.2 x hx
theorem goodU_spec {u:GUpdate} (h:goodU u = true):u.Gone.length ≤ 10 ∧ u.Come.length ≤ 10 ∧ goodA u.Attrs = true ∧ ∀ p ∈ u.Come,goodPx p = true:=by
  simp only [goodU,goodPs,Bool.and_eq_true,decide_eq_true_eq] at h
  obtain ⟨⟨⟨⟨⟨_,h1⟩,h2,h3⟩,h4⟩,_⟩,_⟩:=h
  exact ⟨h1,h3,h4,risG_all none u.Come h2⟩
def hearL (l:List GRoute) (u:GUpdate):List GRoute:=u.Come.foldl (fun o p => putR ⟨p,u.Attrs⟩ o) (l.filter fun r => !decide (r.Prefix ∈ u.Gone))
def comeL (l:List GRoute) (u:GUpdate) (i:Nat):List GRoute:=(u.Come.take i).foldl (fun o p => putR ⟨p,u.Attrs⟩ o) (l.filter fun r => !decide (r.Prefix ∈ u.Gone))
def goneL (l:List GRoute) (u:GUpdate) (i:Nat):List GRoute:=l.filter fun r => !decide (r.Prefix ∈ u.Gone.take i)
theorem goneL_zero (l:List GRoute) (u:GUpdate):goneL l u 0 = l:=by
  unfold goneL
  rw [List.filter_eq_self]
  intro a _
  simp
theorem goneL_succ (l:List GRoute) (u:GUpdate) (i:Nat) (h:i < u.Gone.length):goneL l u (i + 1) = delR u.Gone[i] (goneL l u i):=by
  unfold goneL delR
  rw [List.filter_filter]
  congr 1
  funext r
  rw [take_step u.Gone i h]
  simp only [List.mem_append,List.mem_singleton]
  by_cases h1:r.Prefix ∈ u.Gone.take i <;> by_cases h2:r.Prefix = u.Gone[i] <;> simp [h1,h2]
theorem comeL_zero (l:List GRoute) (u:GUpdate):comeL l u 0 = goneL l u u.Gone.length:=by
  unfold comeL goneL
  rw [List.take_length]
  rfl
theorem comeL_succ (l:List GRoute) (u:GUpdate) (i:Nat) (h:i < u.Come.length):comeL l u (i + 1) = putR ⟨u.Come[i],u.Attrs⟩ (comeL l u i):=by
  unfold comeL
  rw [take_step u.Come i h,List.foldl_append]
  rfl
theorem comeL_all (l:List GRoute) (u:GUpdate):comeL l u u.Come.length = hearL l u:=by
  unfold comeL hearL
  rw [List.take_length]
theorem srt_gone {l:List GRoute} (h:srt l) (u:GUpdate) (i:Nat):srt (goneL l u i):=srt_del h _
theorem srt_come {l:List GRoute} (h:srt l) (u:GUpdate):∀ i,i ≤ u.Come.length → srt (comeL l u i)
  | 0,_ => by rw [comeL_zero]; exact srt_gone h u _
  | i + 1,hi => by rw [comeL_succ l u i (by omega)]; exact srt_put (srt_come h u i (by omega)) _
theorem len_gone (l:List GRoute) (u:GUpdate) (i:Nat):(goneL l u i).length ≤ l.length:=List.length_filter_le _ _
theorem len_come {l:List GRoute} (h:srt l) (u:GUpdate):∀ i,i ≤ u.Come.length → (comeL l u i).length ≤ l.length + i
  | 0,_ => by rw [comeL_zero]; exact len_gone l u _
  | i + 1,hi => by
    rw [comeL_succ l u i (by omega)]
    have h1:=put_len ⟨u.Come[i],u.Attrs⟩ (srt_come h u i (by omega))
    have h2:=len_come h u i (by omega)
    omega
theorem mem_come {l:List GRoute} (u:GUpdate) {x:GRoute}:∀ i,i ≤ u.Come.length → x ∈ comeL l u i → x ∈ l ∨ (x.Attrs = u.Attrs ∧ x.Prefix ∈ u.Come)
  | 0,_,h => by
    rw [comeL_zero] at h
    exact .inl (List.mem_filter.1 h).1
  | i + 1,hi,h => by
    rw [comeL_succ l u i (by omega)] at h
    rcases mem_put h with rfl | h
    · exact .inr ⟨rfl,List.getElem_mem (by omega)⟩
    · exact mem_come u i (by omega) h
theorem good_come {l:List GRoute} (h:goodL l) {u:GUpdate} (hu:goodU u = true) (i:Nat) (hi:i ≤ u.Come.length):goodL (comeL l u i):=by
  obtain ⟨_,_,h3,h4⟩:=goodU_spec hu
  refine ⟨srt_come h.1 u i hi,fun x hx => ?_⟩
  rcases mem_come u i hi hx with hx | ⟨h5,h6⟩
  · exact h.2 x hx
  · simp only [goodR,Bool.and_eq_true]
    rw [h5]
    exact ⟨h4 _ h6,h3⟩
theorem good_hear {l:List GRoute} (h:goodL l) {u:GUpdate} (hu:goodU u = true):goodL (hearL l u):=by
  rw [← comeL_all]
  exact good_come h hu _ (Nat.le_refl _)
def hrI (l:List GRoute) (us:List GUpdate):Nat → Option (List GRoute)
  | 0 => some l
  | i + 1 => match hrI l us i with
    | none => none
    | some o => match us[i]? with
      | none => none
      | some u => if (hearL o u).length ≤ 20 then some (hearL o u) else none
theorem hrI_none (l:List GRoute) (us:List GUpdate) {i:Nat} (h:hrI l us i = none):∀ n,i ≤ n → hrI l us n = none
  | n,hn => by
    induction hn with
    | refl => exact h
    | step _ ih => simp only [hrI,ih]
theorem hrI_good {l:List GRoute} {us:List GUpdate} (h:goodL l ∧ l.length ≤ 20) (hu:∀ u ∈ us,goodU u = true):∀ (i:Nat) (o:List GRoute),hrI l us i = some o → goodL o ∧ o.length ≤ 20
  | 0,o,e => by cases e; exact h
  | i + 1,o,e => by
    unfold hrI at e
    split at e
    · cases e
    · rename_i o' ho'
      split at e
      · cases e
      · rename_i u hus
        split at e
        · rename_i hl
          cases e
          exact ⟨good_hear (hrI_good h hu i o' ho').1 (hu u (List.mem_of_getElem? hus)),hl⟩
        · cases e
def rHearAll (v0:List GRoute) (v1:List GUpdate):List GRoute × Bool:=if goodRs v0 = true ∧ v1.length ≤ 60 ∧ v1.all goodU = true then match hrI v0 v1 v1.length with
    | some o => (o,true)
    | none => ([],false)
  else ([],false)
theorem ok_EqualI (k k':Nat) (xs ys:List Int) (ha:xs.length ≤ 140737488351232) (hb:ys.length ≤ 140737488351232):CallOK Tryz.prog 85 [.c (rd k xs.length (xs.map pi)),.c (rd k' ys.length (ys.map pi))] (.c (pb (decide (xs = ys)))) [.c (rd k xs.length (xs.map pi)),.c (rd k' ys.length (ys.map pi))]:=by
  refine okS (fn:=Tryz.f85) [] h0 Tryz.func85 (by kernel_rfl) rfl Tryz.ntmps85 Tryz.results85 (by simp) ?_
  simp
  refine brn_app (fun h => ?_) (fun h => ?_)
  · simp at h
    simp
    rintro rfl
    exact h rfl
  · simp at h
    have hl:ys.length = xs.length:=by omega
    simp
    refine loopS [0,1,12,13] [] (fun n st => ∃ (i:Nat),i + n = xs.length ∧ (xs.drop i = ys.drop i ↔ xs = ys) ∧ st = ⟨slOf 26 [(0,.t (rd k xs.length (xs.map pi))),(1,.t (rd k' ys.length (ys.map pi))),(12,.t (pi xs.length)),(13,.t (pi i))],ofL []⟩) xs.length ?_ ?_
    · rintro Inv hI
      simp
      subst hI
      exact ⟨0,by omega,by simp,rfl⟩
    · rintro Inv hI n st ⟨i,hi,htk,rfl⟩
      refine ewr_sound (M:=[]) h0 ?_
      simp
      refine brn_app (fun h => ?_) (fun h => ?_)
      · simp at h
        have hib:i < ys.length:=by omega
        rw [drop_step xs i h,drop_step ys i hib,List.cons.injEq] at htk
        simp
        refine drawP E0 [⟨[],allD 26,true⟩,⟨[],allD 26,true⟩,⟨[],allD 26,true⟩,⟨[],allD 26,true⟩,⟨[],allD 26,true⟩,⟨[],allD 26,true⟩,⟨[],allD 26,true⟩,⟨[],allD 26,true⟩,⟨[],allD 26,true⟩] h0 hm (E0_ok _) (by kernel_rfl) (by kernel_rfl) ?_
        simp [h,hib]
        refine brn_app (fun h2 => ?_) (fun h2 => ?_)
        · simp at h2
          simp
          intro he
          exact h2 (htk.2 he).1
        · simp at h2
          simp
          subst hI
          exact Less_mk (n - 1) (by omega) ⟨i + 1,by omega,⟨fun h4 => htk.1 ⟨h2,h4⟩,fun h4 => (htk.2 h4).2⟩,by rw [wrNext i (by omega)]⟩
      · simp at h
        rw [List.drop_of_length_le (by omega),List.drop_of_length_le (by omega)] at htk
        simp
        exact htk.1 rfl
theorem attrs_ext (a b:GAttrs):decide (a = b) = (decide (a.Origin = b.Origin) && (decide (a.Path = b.Path) && (decide (a.Next = b.Next) && (decide (a.Med = b.Med) && (decide (a.Pref = b.Pref) && decide (a.Comms = b.Comms)))))):=by
  cases a
  cases b
  simp
theorem ok_sameAttrs (k k':Nat) (a b:GAttrs) (ha:attrOK a) (hb:attrOK b):CallOK Tryz.prog 43 [.agg (GAttrs.ci k a),.agg (GAttrs.ci k' b)] (.c (pb (decide (a = b)))) [.agg (GAttrs.ci k a),.agg (GAttrs.ci k' b)]:=by
  refine okS (fn:=Tryz.f43) [] h0 Tryz.func43 (by kernel_rfl) rfl Tryz.ntmps43 Tryz.results43 (by simp) ?_
  rw [attrs_ext]
  by_cases c1:a.Origin = b.Origin
  · simp [c1]
    refine Inv_intro (ok_EqualI k k' a.Path b.Path ha.1 hb.1) ?_
    by_cases c2:a.Path = b.Path
    · by_cases c3:a.Next = b.Next
      · by_cases c4:a.Med = b.Med
        · by_cases c5:a.Pref = b.Pref
          · simp [c2,c3,c4,c5]
            refine Inv_intro (ok_EqualI k k' a.Comms b.Comms ha.2 hb.2) ?_
            simp
          · simp [c2,c3,c4,c5]
        · simp [c2,c3,c4]
      · simp [c2,c3]
    · simp [c2]
  · simp [c1]
theorem ok_l4Rising (k:Nat) (l:List GPrefix) (hll:l.length ≤ 140737488351232):CallOK Tryz.prog 92 [.c (rd k l.length (l.flatMap GPrefix.c))] (.c (pb (goodPs l))) [.c (rd k l.length (l.flatMap GPrefix.c))]:=by
  refine okS (fn:=Tryz.f92) [] h0 Tryz.func92 (by kernel_rfl) rfl Tryz.ntmps92 Tryz.results92 (by simp) ?_
  simp
  refine loopS [0,5,6,7] [] (fun n st => ∃ (i:Nat),i + n = l.length ∧ risG (prevPx l i) (l.drop i) = risG none l ∧ st = ⟨slOf 33 [(0,.t (rd k l.length (l.flatMap GPrefix.c))),(5,.t (rd k l.length (l.flatMap GPrefix.c))),(6,.t (pi l.length)),(7,.t (pi i))],ofL []⟩) l.length ?_ ?_
  · rintro Inv hI
    simp
    subst hI
    exact ⟨0,by omega,rfl,rfl⟩
  · rintro Inv hI n st ⟨i,hi,hg,rfl⟩
    refine ewr_sound (M:=[]) h0 ?_
    simp
    refine brn_app (fun a => ?_) (fun a => ?_)
    · simp at a
      rw [drop_step _ i a,risG] at hg
      have hd:=fm_drop GPrefix.c 2 (fun _ => rfl) l i a
      have hlen:=fm_len GPrefix.c 2 (fun _ => rfl) l
      have hlt:i * 2 < l.length * 2:=by omega
      have en:prevPx l (i + 1) = some l[i]:=prevPx_next l i a
      simp [a,hd,hlen,hlt]
      have hR:=ok_sGoodPrefix l[i]
      by_cases c0:i = 0
      · have e0:¬ 0 < i:=by omega
        have ep:prevPx l i = none:=by simp [prevPx,c0]
        rw [ep,adjPx,Bool.and_true] at hg
        refine drawP (tabEnv [] _) [⟨[.op 3 3 0],allD 33,true⟩,⟨[],allD 33,false⟩,⟨[],allD 33,true⟩,⟨[],allD 33,true⟩,⟨[],allD 33,true⟩,⟨[],allD 33,true⟩,⟨[],allD 33,true⟩,⟨[],allD 33,true⟩,⟨[],allD 33,true⟩,⟨[],allD 33,true⟩,⟨[],allD 33,true⟩,⟨[],allD 33,true⟩,⟨[.op 3 3 0],allD 33,true⟩,⟨[],allD 33,false⟩,⟨[],allD 33,true⟩,⟨[],allD 33,true⟩,⟨[],allD 33,true⟩] h0 hm (tabEnv_ok (tab_cons hR tab_nil)) (by kernel_rfl) (by kernel_rfl) ?_
        cases c1:goodPx l[i] with
        | false =>
          rw [c1,Bool.false_and] at hg
          simp [c1,goodPs,← hg]
        | true =>
          rw [c1,Bool.true_and] at hg
          simp [c1,e0]
          subst hI
          exact Less_mk (n - 1) (by omega) ⟨i + 1,by omega,by rw [en]; exact hg,by rw [wrNext i (by omega)]⟩
      · obtain ⟨j,hj⟩:∃ j,i = j + 1:=⟨i - 1,by omega⟩
        have aj:j < l.length:=by omega
        have ep:prevPx l i = some l[j]:=by subst hj; exact prevPx_next l j aj
        have hdj:=fm_drop GPrefix.c 2 (fun _ => rfl) l j aj
        have hltj:j * 2 < l.length * 2:=by omega
        have hw:IntKind.wrap .i64 ((i:Int) - 1) = j:=(wrap64 (by omega) (by omega)).trans (by omega)
        have e0:0 < i:=by omega
        rw [ep,adjPx] at hg
        refine drawP (tabEnv [] _) [⟨[.op 3 3 0],allD 33,true⟩,⟨[],allD 33,false⟩,⟨[],allD 33,true⟩,⟨[],allD 33,true⟩,⟨[],allD 33,true⟩,⟨[],allD 33,true⟩,⟨[],allD 33,true⟩,⟨[],allD 33,true⟩,⟨[],allD 33,true⟩,⟨[],allD 33,true⟩,⟨[],allD 33,true⟩,⟨[],allD 33,true⟩,⟨[.op 3 3 0],allD 33,true⟩,⟨[],allD 33,false⟩,⟨[],allD 33,true⟩,⟨[],allD 33,true⟩,⟨[],allD 33,true⟩] h0 hm (tabEnv_ok (tab_cons hR (tab_cons (ok_l1Compare l[j] l[i]) tab_nil))) (by kernel_rfl) (by kernel_rfl) ?_
        cases c1:goodPx l[i] with
        | false =>
          rw [c1,Bool.false_and,Bool.false_and] at hg
          simp [c1,goodPs,← hg]
        | true =>
          rw [c1,Bool.true_and] at hg
          by_cases c2:cmpPx l[j] l[i] < 0
          · have c3:¬ 0 ≤ cmpPx l[j] l[i]:=by omega
            rw [decide_eq_true c2,Bool.true_and] at hg
            simp [c1,e0,hw,aj,hdj,hlen,hltj,c3]
            subst hI
            exact Less_mk (n - 1) (by omega) ⟨i + 1,by omega,by rw [en]; exact hg,by rw [wrNext i (by omega)]⟩
          · have c3:0 ≤ cmpPx l[j] l[i]:=by omega
            rw [decide_eq_false c2,Bool.false_and] at hg
            simp [c1,e0,hw,aj,hdj,hlen,hltj,c3,goodPs,← hg]
    · simp at a
      rw [List.drop_of_length_le (by omega),risG] at hg
      simp [goodPs,← hg]
      omega
theorem px_dec (p q:GPrefix):(decide (p.Addr = q.Addr) && decide (p.Len = q.Len)) = decide (p = q):=by
  rw [← Bool.decide_and]
  exact decide_eq_decide.2 (px_ext p q).symm
theorem ok_l4In (k:Nat) (l:List GPrefix) (p:GPrefix) (hll:l.length ≤ 140737488351232):CallOK Tryz.prog 90 [.c (rd k l.length (l.flatMap GPrefix.c)),.agg p.c] (.c (pb (decide (p ∈ l)))) [.c (rd k l.length (l.flatMap GPrefix.c)),.agg p.c]:=by
  refine okS (fn:=Tryz.f90) [] h0 Tryz.func90 (by kernel_rfl) rfl Tryz.ntmps90 Tryz.results90 (by simp) ?_
  simp
  refine loopS [3,7,8,9] [.op 0 0 0] (fun n st => ∃ (i:Nat),i + n = l.length ∧ decide (p ∈ l) = decide (p ∈ l.drop i) ∧ st = ⟨slOf 17 [(3,.ptr ⟨.op 0 0 0,[]⟩ 0),(7,.t (rd k l.length (l.flatMap GPrefix.c))),(8,.t (pi l.length)),(9,.t (pi i))],ofL [(.op 0 0 0,.sl 0 54 1 p.c)]⟩) l.length ?_ ?_
  · rintro Inv hI
    simp
    subst hI
    exact ⟨0,by omega,rfl,rfl⟩
  · rintro Inv hI n st ⟨i,hi,hg,rfl⟩
    refine ewr_sound (M:=[]) h0 ?_
    simp
    refine brn_app (fun a => ?_) (fun a => ?_)
    · simp at a
      have hd:=fm_drop GPrefix.c 2 (fun _ => rfl) l i a
      have hlen:=fm_len GPrefix.c 2 (fun _ => rfl) l
      have hlt:i * 2 < l.length * 2:=by omega
      rw [drop_step _ i a] at hg
      by_cases c:l[i] = p
      · have hg':decide (p ∈ l) = true:=by rw [hg]; exact decide_eq_true (by rw [c]; exact List.mem_cons_self ..)
        simp [a,hd,hlen,hlt,px_dec,c,hg']
      · have hg':decide (p ∈ l) = decide (p ∈ l.drop (i + 1)):=by
          have this:¬ p = l[i]:=fun e => c e.symm
          rw [hg]
          exact decide_eq_decide.2 (by rw [List.mem_cons]; exact or_iff_right this)
        simp [a,hd,hlen,hlt,px_dec,c]
        subst hI
        exact Less_mk (n - 1) (by omega) ⟨i + 1,by omega,hg',by rw [wrNext i (by omega)]; rfl⟩
    · simp at a
      rw [List.drop_of_length_le (by omega)] at hg
      simp [hg]
theorem ok_l4Zero (k:Nat) (a:GAttrs):CallOK Tryz.prog 93 [.agg (GAttrs.ci k a)] (.c (pb (decide (a = zeroA)))) [.agg (GAttrs.ci k a)]:=by
  have e:decide (a = zeroA) = (decide (a.Origin = 0) && (decide (a.Path = []) && (decide (a.Next = 0) && (decide (a.Med = 0) && (decide (a.Pref = 0) && decide (a.Comms = [])))))):=attrs_ext a zeroA
  rw [e]
  refine okS (fn:=Tryz.f93) [] h0 Tryz.func93 (by kernel_rfl) rfl Tryz.ntmps93 Tryz.results93 (by simp) ?_
  by_cases c1:a.Origin = 0
  · by_cases c2:a.Path = []
    · by_cases c3:a.Next = 0
      · by_cases c4:a.Med = 0
        · by_cases c5:a.Pref = 0
          · by_cases c6:a.Comms = []
            · simp [c1,c2,c3,c4,c5,c6]
            · simp [c1,c2,c3,c4,c5,c6]
          · simp [c1,c2,c3,c4,c5]
        · simp [c1,c2,c3,c4]
      · simp [c1,c2,c3]
    · simp [c1,c2]
  · simp [c1]
end Go.V
