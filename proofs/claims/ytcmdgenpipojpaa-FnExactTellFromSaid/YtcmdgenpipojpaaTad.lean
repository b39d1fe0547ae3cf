/- What functions of the seat's program do, each proved of its code, under the bounds that its theorem names. -/
import Derived.Test.YtcmdgenpipojpaaTac
set_option linter.all false
namespace Go.V
open Go.Proofs
set_option maxHeartbeats 1000000
set_option maxRecDepth 10000
set_option linter.unusedSimpArgs false
set_option linter.unusedVariables false
def zeroA:GAttrs:=⟨0,[],0,0,0,[]⟩
theorem bsF_at {α:Type} {c:α → Int} {l:List α} (h:bsF c l = true):∃ hl:bsI c l < l.length,c l[bsI c l] = 0:=by
  unfold bsF at h
  split at h
  · rename_i x hx
    obtain ⟨hl,he⟩:=List.getElem?_eq_some_iff.1 hx
    exact ⟨hl,by rw [he]; simpa using h⟩
  · cases h
/-- Where a prefix stands among routes. -/
theorem fnd_spec {p:GPrefix}:∀ {l:List GRoute},srt l → (fnd p l = true → ∃ h:kAt p l < l.length,l[kAt p l].Prefix = p) ∧ (∀ r ∈ l,r.Prefix = p → fnd p l = true ∧ l[kAt p l]? = some r):=by
  intro l hs
  constructor
  · intro h
    unfold fnd at h
    obtain ⟨hl,he⟩:=bsF_at h
    exact ⟨hl,(cmpPx_eq _ _).1 he⟩
  · intro r hr hp
    obtain ⟨i,hi,rfl⟩:=List.mem_iff_getElem.1 hr
    have hk:kAt p l = i:=bsI_eq (fun x:GRoute => cmpPx x.Prefix p) l i (by omega) (fun m hm hl => by
      rw [← hp]
      exact (List.pairwise_iff_getElem.1 hs) m i hl hi hm) (fun h => by
      have:=(cmpPx_eq l[i].Prefix p).2 hp
      omega)
    refine ⟨?_,by rw [hk]; exact List.getElem?_eq_getElem hi⟩
    unfold fnd bsF
    have hk':bsI (fun x:GRoute => cmpPx x.Prefix p) l = i:=hk
    rw [hk',List.getElem?_eq_getElem hi]
    simpa using (cmpPx_eq _ _).2 hp
def inT (l:List GRoute) (p:GPrefix):Bool:=l.any fun x => decide (x.Prefix = p)
theorem fnd_in {p:GPrefix} {l:List GRoute} (hs:srt l):fnd p l = inT l p:=by
  rw [Bool.eq_iff_iff]
  unfold inT
  rw [List.any_eq_true]
  constructor
  · intro h
    obtain ⟨hl,he⟩:=(fnd_spec hs).1 h
    exact ⟨_,List.getElem_mem hl,by simpa using he⟩
  · rintro ⟨x,hx,he⟩
    exact ((fnd_spec hs).2 x hx (by simpa using he)).1
/-- A route stands among others as it is. -/
theorem fnd_mem {r:GRoute} {l:List GRoute} (hs:srt l):(fnd r.Prefix l = true ∧ l[kAt r.Prefix l]? = some r) ↔ r ∈ l:=by
  constructor
  · rintro ⟨_,h⟩
    exact List.mem_of_getElem? h
  · intro h
    exact (fnd_spec hs).2 r h rfl
def goneT (old now:List GRoute):List GPrefix:=(old.filter fun r => !inT now r.Prefix).map GRoute.Prefix
def comeT (old now:List GRoute):List GRoute:=now.filter fun r => !decide (r ∈ old)
theorem goneT_len (old now:List GRoute):(goneT old now).length ≤ old.length:=by
  unfold goneT
  rw [List.length_map]
  exact List.length_filter_le _ _
theorem comeT_len (old now:List GRoute):(comeT old now).length ≤ now.length:=List.length_filter_le _ _
theorem goneT_snoc (old now:List GRoute) (i:Nat) (h:i < old.length):goneT (old.take (i + 1)) now = goneT (old.take i) now ++ (if inT now old[i].Prefix = true then [] else [old[i].Prefix]):=by
  unfold goneT
  rw [take_step old i h,List.filter_append,List.map_append]
  cases hh:inT now old[i].Prefix <;> simp [hh]
theorem comeT_snoc (old now:List GRoute) (i:Nat) (h:i < now.length):comeT old (now.take (i + 1)) = comeT old (now.take i) ++ (if now[i] ∈ old then [] else [now[i]]):=by
  unfold comeT
  rw [take_step now i h,List.filter_append]
  by_cases hh:now[i] ∈ old <;> simp [hh]
/-- The parts of a row, ten at a time. -/
def partC {α:Type} (g:List α) (i:Nat):List α:=(g.drop (i * 10)).take 10
def partN {α:Type} (g:List α):Nat:=(g.length + 9) / 10
def prefAt (C:List GRoute) (i:Int):GPrefix:=match C[i.toNat]? with
  | some r => r.Prefix
  | none => ⟨0,0⟩
def attrAt (C:List GRoute) (g:List Int):GAttrs:=match g with
  | h :: _ => (match C[h.toNat]? with
    | some r => r.Attrs
    | none => zeroA)
  | [] => zeroA
def updA (C:List GRoute) (g:List Int) (i:Nat):GUpdate:=⟨[],attrAt C g,(partC g i).map (prefAt C)⟩
def updsG (C:List GRoute) (g:List Int):List GUpdate:=(List.range (partN g)).map (updA C g)
def upds1 (C:List GRoute) (G:List (List Int)):List GUpdate:=G.flatMap (updsG C)
theorem upds1_snoc (C:List GRoute) (G:List (List Int)) (i:Nat) (h:i < G.length):upds1 C (G.take (i + 1)) = upds1 C (G.take i) ++ updsG C G[i]:=by
  unfold upds1
  rw [take_step G i h,List.flatMap_append]
  simp
theorem updsG_step (C:List GRoute) (g:List Int) (i:Nat):(List.range (i + 1)).map (updA C g) = (List.range i).map (updA C g) ++ [updA C g i]:=by
  rw [List.range_succ,List.map_append]
  rfl
def putG (o:List GUpdate) (k:Nat) (p:List GPrefix):List GUpdate:=match o[k]? with
  | some u => o.set k ⟨p,u.Attrs,u.Come⟩
  | none => o ++ [⟨p,zeroA,[]⟩]
def putGs (gone:List GPrefix) (o:List GUpdate):Nat → List GUpdate
  | 0 => o
  | i + 1 => putG (putGs gone o i) i (partC gone i)
def tellL (old now:List GRoute):List GUpdate:=putGs (goneT old now) (upds1 (comeT old now) (groupsL (comeT old now))) (partN (goneT old now))
def rTellFrom (v0 v1:List GRoute):List GUpdate × Bool:=if goodRs v0 = true ∧ goodRs v1 = true then (tellL v0 v1,true) else ([],false)
theorem putG_len (o:List GUpdate) (k:Nat) (p:List GPrefix):(putG o k p).length = if k < o.length then o.length else o.length + 1:=by
  unfold putG
  split
  · rename_i u hu
    rw [if_pos (List.getElem?_eq_some_iff.1 hu).1,List.length_set]
  · rename_i hn
    rw [if_neg (by rw [List.getElem?_eq_none_iff] at hn; omega),List.length_append]
    rfl
theorem putGs_ge (gone:List GPrefix) (o:List GUpdate):∀ i,i ≤ (putGs gone o i).length
  | 0 => Nat.zero_le _
  | i + 1 => by
    have ih:=putGs_ge gone o i
    simp only [putGs,putG_len]
    split <;> omega
theorem putGs_le (gone:List GPrefix) (o:List GUpdate):∀ i,(putGs gone o i).length ≤ o.length + i
  | 0 => Nat.le_refl _
  | i + 1 => by
    have ih:=putGs_le gone o i
    simp only [putGs,putG_len]
    split <;> omega
theorem partC_len {α:Type} (g:List α) (i:Nat):(partC g i).length = min 10 (g.length - i * 10):=by
  unfold partC
  rw [List.length_take,List.length_drop]
/-- The cells of an update whose Gone is nil. -/
def GUpdate.cz (x:GUpdate):List PT:=.sl 0 nilE 0 [] :: (GUpdate.co x).drop 1
theorem gOK_mem {n:Nat} {G:List (List Int)} (h:gOK n G) (i:Nat) (hi:i < G.length):∃ a t,G[i] = a :: t ∧ (a :: t).length ≤ n ∧ ∀ x ∈ a :: t,0 ≤ x ∧ x < n:=by
  obtain ⟨⟨a,t,e⟩,h2,h3⟩:=h.2 _ (List.getElem_mem hi)
  rw [e] at h2 h3
  exact ⟨a,t,e,h2,h3⟩
theorem part_cells (g:List Int) (q:Nat):((g.map pi).drop (q * 10 * 1)).take (minN g.length q * 1) = (partC g q).map pi ∧ minN g.length q = (partC g q).length:=by
  refine ⟨?_,(partC_len g q).symm⟩
  unfold partC minN
  rw [Nat.mul_one,Nat.mul_one,List.map_take,List.map_drop]
  rcases Nat.lt_or_ge (g.length - q * 10) 10 with h | h
  · rw [Nat.min_eq_right (by omega),List.take_of_length_le (by rw [List.length_drop,List.length_map]; exact Nat.le_refl _),List.take_of_length_le (by rw [List.length_drop,List.length_map]; omega)]
  · rw [Nat.min_eq_left (by omega)]
theorem upds1_len (C:List GRoute):∀ G:List (List Int),(∀ g ∈ G,g.length ≤ 20) → (upds1 C G).length ≤ 2 * G.length
  | [],_ => Nat.le_refl _
  | g :: G,h => by
    have ih:=upds1_len C G fun x hx => h x (List.mem_cons_of_mem _ hx)
    have hg:=h g (by simp)
    unfold upds1 at ih ⊢
    rw [List.flatMap_cons,List.length_append,List.length_cons]
    have:(updsG C g).length ≤ 2:=by
      unfold updsG partN
      rw [List.length_map,List.length_range]
      omega
    omega
theorem goodR_small {r:GRoute} (h:goodR r = true):r.Attrs.Path.length ≤ 10 ∧ r.Attrs.Comms.length ≤ 6:=by
  simp only [goodR,goodA,goodPa,goodCm,Bool.and_eq_true,decide_eq_true_eq] at h
  exact ⟨by omega,by omega⟩
theorem ok_within (n lo hi:Int):CallOK Try.prog 72 [.c (pi n),.c (pi lo),.c (pi hi)] (.c (pb (decide (lo ≤ n ∧ n ≤ hi)))) [.c (pi n),.c (pi lo),.c (pi hi)]:=by
  refine okS (fn:=Try.f72) [] h0 Try.func72 (by kernel_rfl) rfl Try.ntmps72 Try.results72 (by simp) ?_
  simp
  refine gT (fun h => ?_) (fun h => ?_) <;> simp [h]
/-- Where a condition holds first, or -1. -/
def idxOf {α:Type} (p:α → Bool) (xs:List α):Int:=match xs.findIdx? p with | some i => i | none => -1
theorem idxOf_hit {α:Type} (p:α → Bool) (xs:List α) (i:Nat) (h:i < xs.length) (hp:p xs[i] = true) (hall:∀ (j:Nat) (hj:j < i),p (xs[j]'(by omega)) = false):idxOf p xs = i:=by
  unfold idxOf
  rw [(List.findIdx?_eq_some_iff_getElem (i:=i)).2 ⟨h,hp,fun j hj => by simp [hall j hj]⟩]
theorem idxOf_no {α:Type} (p:α → Bool) (xs:List α) (hall:∀ (j:Nat) (hj:j < xs.length),p xs[j] = false):idxOf p xs = -1:=by
  unfold idxOf
  rw [List.findIdx?_eq_none_iff.2 (fun s hs => by
    obtain ⟨j,hj,rfl⟩:=List.getElem_of_mem hs
    simp [hall j hj])]
theorem idxOf_any {α:Type} (p:α → Bool) (xs:List α):decide (0 ≤ idxOf p xs) = xs.any p:=by
  unfold idxOf
  cases h:xs.findIdx? p with
  | none =>
    rw [List.findIdx?_eq_none_iff] at h
    simp
    exact fun x hx => by simpa using h x hx
  | some i =>
    rw [List.findIdx?_eq_some_iff_getElem] at h
    obtain ⟨h1,h2,_⟩:=h
    simp
    exact ⟨_,List.getElem_mem h1,h2⟩
theorem ok_IndexFunc_Int (k q g:Nat) (caps:List (List PT)) (p:Int → Bool) (xs:List Int) (ha:xs.length ≤ 140737488351232)
    (hg:∀ x ∈ xs,CallOK Try.prog g (.c (pi x) :: caps.map (PV.ip q)) (.c (pb (p x))) (.c (pi x) :: caps.map (PV.ip q))) :
    CallOK Try.prog 82 [.c (rd k xs.length (xs.map pi)),.c (.fn q g caps)] (.c (pi (idxOf p xs))) [.c (rd k xs.length (xs.map pi)),.c (.fn q g caps)]:=by
  refine okS (fn:=Try.f82) [] h0 Try.func82 (by kernel_rfl) rfl Try.ntmps82 Try.results82 (by simp) ?_
  simp
  refine loopS [0,1,7,8] [] (fun n st => ∃ (i:Nat),i + n = xs.length ∧ (∀ (j:Nat) (hj:j < i) (hj':j < xs.length),p xs[j] = false) ∧ st = ⟨slOf 19 [(0,.t (rd k xs.length (xs.map pi))),(1,.t (.fn q g caps)),(7,.t (pi xs.length)),(8,.t (pi i))],ofL []⟩) xs.length ?_ ?_
  · rintro Inv hI
    simp
    subst hI
    exact ⟨0,by omega,by intro j hj; omega,rfl⟩
  · rintro Inv hI n st ⟨i,hi,hall,rfl⟩
    refine ewr_sound (M:=[]) h0 ?_
    simp
    refine brn_app (fun h => ?_) (fun h => ?_)
    · simp at h
      simp [h]
      refine Inv_intro (hg _ (List.getElem_mem h)) ?_
      simp
      refine brn_app (fun h2 => ?_) (fun h2 => ?_)
      · simp
        exact (idxOf_hit p xs i h h2 fun j hj => hall j hj (by omega)).symm
      · simp
        subst hI
        refine Less_mk (n - 1) (by omega) ⟨i + 1,by omega,?_,by rw [wrNext i (by omega)]⟩
        intro j hj hj'
        by_cases hji:j = i
        · subst hji; exact h2
        · exact hall j (by omega) hj'
    · simp at h
      simp
      exact (idxOf_no p xs fun j hj => hall j (by omega) hj).symm
theorem ok_ContainsFunc_Int (k q g:Nat) (caps:List (List PT)) (p:Int → Bool) (xs:List Int) (ha:xs.length ≤ 140737488351232)
    (hg:∀ x ∈ xs,CallOK Try.prog g (.c (pi x) :: caps.map (PV.ip q)) (.c (pb (p x))) (.c (pi x) :: caps.map (PV.ip q))) :
    CallOK Try.prog 79 [.c (rd k xs.length (xs.map pi)),.c (.fn q g caps)] (.c (pb (xs.any p))) [.c (rd k xs.length (xs.map pi)),.c (.fn q g caps)]:=by
  refine okS (fn:=Try.f79) [] h0 Try.func79 (by kernel_rfl) rfl Try.ntmps79 Try.results79 (by simp) ?_
  simp
  refine Inv_intro (ok_IndexFunc_Int k q g caps p xs ha hg) ?_
  simp [idxOf_any]
theorem any_not {α:Type} (p:α → Bool) (xs:List α):xs.any (fun x => !p x) = !xs.all p:=by
  induction xs with
  | nil => rfl
  | cons x xs ih => simp [ih]
theorem ok_l1In (n lo hi:Int):CallOK Try.prog 68 [.c (pi n),.c (pi lo),.c (pi hi)] (.c (pb (decide (lo ≤ n ∧ n ≤ hi)))) [.c (pi n),.c (pi lo),.c (pi hi)]:=by
  refine okS (fn:=Try.f68) [] h0 Try.func68 (by kernel_rfl) rfl Try.ntmps68 Try.results68 (by simp) ?_
  simp
  refine gT (fun h => ?_) (fun h => ?_) <;> simp [h]
theorem inR_t {n lo hi:Int} (h:lo ≤ n ∧ n ≤ hi):inR n lo hi = true:=by simp [inR,h]
theorem ok_isAsn (n:Int):CallOK Try.prog 81 [.c (pi n)] (.c (pb (isAsnB n))) [.c (pi n)]:=by
  refine okS (fn:=Try.f81) [] h0 Try.func81 (by kernel_rfl) rfl Try.ntmps81 Try.results81 (by simp) ?_
  simp
  refine Inv_intro (ok_within _ _ _) ?_
  simp [isAsnB,inR]
theorem ok_isAddr (n:Int):CallOK Try.prog 73 [.c (pi n)] (.c (pb (inR n 0 4294967295))) [.c (pi n)]:=by
  refine okS (fn:=Try.f73) [] h0 Try.func73 (by kernel_rfl) rfl Try.ntmps73 Try.results73 (by simp) ?_
  simp
  refine Inv_intro (ok_within _ _ _) ?_
  simp [inR]
theorem ok_l1Addr (n:Int):CallOK Try.prog 69 [.c (pi n)] (.c (pb (inR n 0 4294967295))) [.c (pi n)]:=by
  refine okS (fn:=Try.f69) [] h0 Try.func69 (by kernel_rfl) rfl Try.ntmps69 Try.results69 (by simp) ?_
  simp
  refine Inv_intro (ok_l1In _ _ _) ?_
  simp [inR]
theorem ok_sizeOf (n:Int) (h1:0 ≤ n) (h2:n ≤ 32):CallOK Try.prog 74 [.c (pi n)] (.c (pi (szP n))) [.c (pi n)]:=by
  refine okS (fn:=Try.f74) [] h0 Try.func74 (by kernel_rfl) rfl Try.ntmps74 Try.results74 (by simp) ?_
  have hw:IntKind.wrap .i64 (32 - n) = 32 - n:=wrap64 (by omega) (by omega)
  have hs:=shl_pow (32 - n).toNat (by omega)
  have hn:0 ≤ 32 - n:=by omega
  simp [hw,h2]
  simpa [szP] using hs
theorem ok_l1Size (p:GPrefix) (h1:0 ≤ p.Len) (h2:p.Len ≤ 32):CallOK Try.prog 70 [.agg p.c] (.c (pi (szP p.Len))) [.agg p.c]:=by
  refine okS (fn:=Try.f70) [] h0 Try.func70 (by kernel_rfl) rfl Try.ntmps70 Try.results70 (by simp) ?_
  have hw:IntKind.wrap .i64 (32 - p.Len) = 32 - p.Len:=wrap64 (by omega) (by omega)
  have hw2:IntKind.wrap .u64 (32 - p.Len) = 32 - p.Len:=by
    show (32 - p.Len) % 18446744073709551616 = _
    omega
  have hs:=shl_pow (32 - p.Len).toNat (by omega)
  have hn:0 ≤ 32 - p.Len:=by omega
  simp [hw,hw2,h2]
  simpa [szP] using hs
theorem ok_iGoodPrefix (p:GPrefix):CallOK Try.prog 62 [.agg p.c] (.c (pb (goodPx p))) [.agg p.c]:=by
  refine okS (fn:=Try.f62) [] h0 Try.func62 (by kernel_rfl) rfl Try.ntmps62 Try.results62 (by simp) ?_
  simp
  have hz:=pow_ne (32 - p.Len).toNat
  by_cases c1:0 ≤ p.Len ∧ p.Len ≤ 32
  · refine drawP (tabEnv [] _) [⟨[.op 0 0 0],allD 20,true⟩,⟨[.op 0 0 0],allD 20,true⟩,⟨[],allD 20,false⟩,⟨[],allD 20,true⟩,⟨[.op 0 0 0],allD 20,true⟩,⟨[.op 0 0 0],allD 20,true⟩,⟨[],allD 20,false⟩,⟨[],allD 20,true⟩,⟨[],allD 20,true⟩,⟨[.op 0 0 0],allD 20,true⟩,⟨[.op 0 0 0],allD 20,true⟩,⟨[.op 0 0 0],allD 20,true⟩,⟨[.op 0 0 0],allD 20,true⟩,⟨[],allD 20,false⟩,⟨[],allD 20,true⟩,⟨[],allD 20,true⟩,⟨[],allD 20,true⟩,⟨[],allD 20,true⟩] h0 hm (tabEnv_ok (tab_cons (ok_within p.Len 0 32) (tab_cons (ok_isAddr p.Addr) (tab_cons (ok_sizeOf p.Len c1.1 c1.2) tab_nil)))) (by kernel_rfl) (by kernel_rfl) ?_
    cases c2:inR p.Addr 0 4294967295 with
    | false => simp [c1,c2,goodPx,inR_t c1]
    | true =>
      simp [c1,c2,goodPx,inR_t c1,szP,hz]
      try exact decide_eq_decide.2 Iff.rfl
  · refine drawP (tabEnv [] _) [⟨[.op 0 0 0],allD 20,true⟩,⟨[.op 0 0 0],allD 20,true⟩,⟨[],allD 20,false⟩,⟨[],allD 20,true⟩,⟨[.op 0 0 0],allD 20,true⟩,⟨[.op 0 0 0],allD 20,true⟩,⟨[],allD 20,false⟩,⟨[],allD 20,true⟩,⟨[],allD 20,true⟩,⟨[.op 0 0 0],allD 20,true⟩,⟨[.op 0 0 0],allD 20,true⟩,⟨[.op 0 0 0],allD 20,true⟩,⟨[.op 0 0 0],allD 20,true⟩,⟨[],allD 20,false⟩,⟨[],allD 20,true⟩,⟨[],allD 20,true⟩,⟨[],allD 20,true⟩,⟨[],allD 20,true⟩] h0 hm (tabEnv_ok (tab_cons (ok_within p.Len 0 32) tab_nil)) (by kernel_rfl) (by kernel_rfl) ?_
    simp [c1,goodPx,inR]
theorem ok_sGoodPrefix (p:GPrefix):CallOK Try.prog 58 [.agg p.c] (.c (pb (goodPx p))) [.agg p.c]:=by
  refine okS (fn:=Try.f58) [] h0 Try.func58 (by kernel_rfl) rfl Try.ntmps58 Try.results58 (by simp) ?_
  simp
  have hz:=pow_ne (32 - p.Len).toNat
  by_cases c1:0 ≤ p.Len ∧ p.Len ≤ 32
  · refine drawP (tabEnv [] _) [⟨[.op 0 0 0],allD 19,true⟩,⟨[.op 0 0 0],allD 19,true⟩,⟨[],allD 19,false⟩,⟨[],allD 19,true⟩,⟨[.op 0 0 0],allD 19,true⟩,⟨[.op 0 0 0],allD 19,true⟩,⟨[],allD 19,false⟩,⟨[],allD 19,true⟩,⟨[],allD 19,true⟩,⟨[.op 0 0 0],allD 19,true⟩,⟨[.op 0 0 0],allD 19,true⟩,⟨[.op 0 0 0],allD 19,true⟩,⟨[],allD 19,false⟩,⟨[],allD 19,true⟩,⟨[],allD 19,true⟩,⟨[],allD 19,true⟩,⟨[],allD 19,true⟩] h0 hm (tabEnv_ok (tab_cons (ok_l1In p.Len 0 32) (tab_cons (ok_l1Addr p.Addr) (tab_cons (ok_l1Size p c1.1 c1.2) tab_nil)))) (by kernel_rfl) (by kernel_rfl) ?_
    cases c2:inR p.Addr 0 4294967295 with
    | false => simp [c1,c2,goodPx,inR_t c1]
    | true =>
      simp [c1,c2,goodPx,inR_t c1,szP,hz]
      try exact decide_eq_decide.2 Iff.rfl
  · refine drawP (tabEnv [] _) [⟨[.op 0 0 0],allD 19,true⟩,⟨[.op 0 0 0],allD 19,true⟩,⟨[],allD 19,false⟩,⟨[],allD 19,true⟩,⟨[.op 0 0 0],allD 19,true⟩,⟨[.op 0 0 0],allD 19,true⟩,⟨[],allD 19,false⟩,⟨[],allD 19,true⟩,⟨[],allD 19,true⟩,⟨[.op 0 0 0],allD 19,true⟩,⟨[.op 0 0 0],allD 19,true⟩,⟨[.op 0 0 0],allD 19,true⟩,⟨[],allD 19,false⟩,⟨[],allD 19,true⟩,⟨[],allD 19,true⟩,⟨[],allD 19,true⟩,⟨[],allD 19,true⟩] h0 hm (tabEnv_ok (tab_cons (ok_l1In p.Len 0 32) tab_nil)) (by kernel_rfl) (by kernel_rfl) ?_
    simp [c1,goodPx,inR]
theorem ok_isNaNI (s:Int):CallOK Try.prog 78 [.c (pi s)] (.c (pb false)) [.c (pi s)]:=by
  refine okS (fn:=Try.f78) [] h0 Try.func78 (by kernel_rfl) rfl Try.ntmps78 Try.results78 (by simp) ?_
  simp
theorem ok_cmpI (u v:Int):CallOK Try.prog 65 [.c (pi u),.c (pi v)] (.c (pi (cmpI u v))) [.c (pi u),.c (pi v)]:=by
  refine okS (fn:=Try.f65) [] h0 Try.func65 (by kernel_rfl) rfl Try.ntmps65 Try.results65 (by simp) ?_
  simp
  refine Inv_intro (ok_isNaNI u) ?_
  simp
  refine Inv_intro (ok_isNaNI v) ?_
  simp
  refine brn_app (fun a => ?_) (fun a => ?_)
  · simp at a
    simp [cmpI,a]
  · simp at a
    have a':¬ u < v:=by omega
    simp
    refine brn_app (fun b => ?_) (fun b => ?_)
    · simp at b
      simp [cmpI,a',b]
    · simp at b
      have b':¬ v < u:=by omega
      simp [cmpI,a',b']
theorem ok_orI (k:Nat) (xs:List Int) (hx:xs.length ≤ 140737488351232):CallOK Try.prog 64 [.c (rd k xs.length (xs.map pi))] (.c (pi (orI xs))) [.c (rd k xs.length (xs.map pi))]:=by
  refine okS (fn:=Try.f64) [] h0 Try.func64 (by kernel_rfl) rfl Try.ntmps64 Try.results64 (by simp) ?_
  simp
  refine loopS [3,6,7,8] [] (fun n st => ∃ (i:Nat),i + n = xs.length ∧ orI (xs.drop i) = orI xs ∧ st = ⟨slOf 18 [(3,.t (pi 0)),(6,.t (rd k xs.length (xs.map pi))),(7,.t (pi xs.length)),(8,.t (pi i))],ofL []⟩) xs.length ?_ ?_
  · rintro Inv hI
    simp
    subst hI
    exact ⟨0,by omega,rfl,rfl⟩
  · rintro Inv hI n st ⟨i,hi,hf,rfl⟩
    refine ewr_sound (M:=[]) h0 ?_
    simp
    refine brn_app (fun a => ?_) (fun a => ?_)
    · simp at a
      rw [drop_step _ i a,orI] at hf
      simp [a]
      refine brn_app (fun b => ?_) (fun b => ?_)
      · simp at b
        rw [if_neg b] at hf
        simp [hf]
      · simp at b
        rw [if_pos b] at hf
        simp
        subst hI
        exact Less_mk (n - 1) (by omega) ⟨i + 1,by omega,hf,by rw [wrNext i (by omega)]⟩
    · simp at a
      rw [List.drop_of_length_le (by omega),orI] at hf
      simp [← hf]
theorem ok_compare (p q:GPrefix):CallOK Try.prog 44 [.agg p.c,.agg q.c] (.c (pi (cmpPx p q))) [.agg p.c,.agg q.c]:=by
  refine okS (fn:=Try.f44) [] h0 Try.func44 (by kernel_rfl) rfl Try.ntmps44 Try.results44 (by simp) ?_
  simp
  have ho:=ok_orI 0 [cmpI p.Addr q.Addr,cmpI p.Len q.Len] (by simp)
  simp at ho
  refine drawP (fnEnv 65 (fI2 fun a b => pi (cmpI a b)) (tabEnv [] _)) [⟨[.op 0 0 0],allD 17,true⟩,⟨[.op 0 0 0],allD 17,true⟩,⟨[.op 0 1 0],allD 17,true⟩,⟨[.op 0 1 0],allD 17,true⟩,⟨[],allD 17,false⟩,⟨[.op 0 0 0],allD 17,true⟩,⟨[.op 0 0 0],allD 17,true⟩,⟨[.op 0 1 0],allD 17,true⟩,⟨[.op 0 1 0],allD 17,true⟩,⟨[],allD 17,false⟩,⟨[],allD 17,false⟩,⟨[.op 1 10 0],[5,6,7,8,9,10,11,12,13,14,15,16,4],false⟩,⟨[],allD 17,true⟩] h0 hm (fnEnv_ok (tabEnv_ok (tab_cons ho tab_nil)) (fI2_ok ok_cmpI)) (by kernel_rfl) (by kernel_rfl) ?_
  simp
  by_cases c:cmpI p.Addr q.Addr = 0
  · by_cases d:cmpI p.Len q.Len = 0 <;> simp [orI,cmpPx,c,d]
  · simp [orI,cmpPx,c]
theorem ok_l1Compare (p q:GPrefix):CallOK Try.prog 36 [.agg p.c,.agg q.c] (.c (pi (cmpPx p q))) [.agg p.c,.agg q.c]:=by
  refine okS (fn:=Try.f36) [] h0 Try.func36 (by kernel_rfl) rfl Try.ntmps36 Try.results36 (by simp) ?_
  by_cases a1:p.Addr < q.Addr
  · simp [a1,cmpPx,cmpI]
  · by_cases a2:p.Addr = q.Addr
    · by_cases b1:p.Len < q.Len
      · simp [a1,a2,b1,cmpPx,cmpI]
      · by_cases b2:p.Len = q.Len
        · simp [a2,b2,cmpPx,cmpI]
        · have b3:q.Len < p.Len:=by omega
          simp [a2,b1,b2,b3,cmpPx,cmpI]
    · have a3:q.Addr < p.Addr:=by omega
      simp [a1,a2,a3,cmpPx,cmpI]
theorem ok_isValue (n:Int):CallOK Try.prog 76 [.c (pi n)] (.c (pb (isValB n))) [.c (pi n)]:=by
  refine okS (fn:=Try.f76) [] h0 Try.func76 (by kernel_rfl) rfl Try.ntmps76 Try.results76 (by simp) ?_
  simp
  refine Inv_intro (ok_within _ _ _) ?_
  simp [isValB,inR]
theorem ok_isPath1 (n:Int):CallOK Try.prog 80 [.c (pi n)] (.c (pb (!isAsnB n))) [.c (pi n)]:=by
  refine okS (fn:=Try.f80) [] h0 Try.func80 (by kernel_rfl) rfl Try.ntmps80 Try.results80 (by simp) ?_
  simp
  refine Inv_intro (ok_isAsn n) ?_
  simp
theorem ok_isPath (k:Nat) (p:List Int) (hl:p.length ≤ 140737488351232):CallOK Try.prog 75 [.c (rd k p.length (p.map pi))] (.c (pb (goodPa p))) [.c (rd k p.length (p.map pi))]:=by
  refine okS (fn:=Try.f75) [] h0 Try.func75 (by kernel_rfl) rfl Try.ntmps75 Try.results75 (by simp) ?_
  simp
  refine gT (fun a => ?_) (fun a => ?_)
  · have a':p.length ≤ 10:=by simp at a; omega
    simp [a]
    refine Inv_intro (ok_ContainsFunc_Int k 0 80 [] (fun n => !isAsnB n) p hl fun x hx => ok_isPath1 x) ?_
    simp [goodPa,any_not,a']
  · have a':¬ p.length ≤ 10:=by simp at a; omega
    simp [goodPa,a,a']
theorem ok_areComms (k:Nat) (l:List Int) (hl:l.length ≤ 140737488351232):CallOK Try.prog 77 [.c (rd k l.length (l.map pi))] (.c (pb (goodCm l))) [.c (rd k l.length (l.map pi))]:=by
  refine okS (fn:=Try.f77) [] h0 Try.func77 (by kernel_rfl) rfl Try.ntmps77 Try.results77 (by simp) ?_
  simp
  refine loopS [0,5,6,7] [] (fun n st => ∃ (i:Nat),i + n = l.length ∧ commsG (prevI l i) (l.drop i) = commsG none l ∧ st = ⟨slOf 32 [(0,.t (rd k l.length (l.map pi))),(5,.t (rd k l.length (l.map pi))),(6,.t (pi l.length)),(7,.t (pi i))],ofL []⟩) l.length ?_ ?_
  · rintro Inv hI
    simp
    subst hI
    exact ⟨0,by omega,rfl,rfl⟩
  · rintro Inv hI n st ⟨i,hi,hg,rfl⟩
    refine ewr_sound (M:=[]) h0 ?_
    simp
    refine brn_app (fun a => ?_) (fun a => ?_)
    · simp at a
      rw [drop_step _ i a,commsG] at hg
      have en:prevI l (i + 1) = some l[i]:=prevI_next l i a
      simp [a]
      refine Inv_intro (ok_isValue l[i]) ?_
      cases c1:isValB l[i] with
      | false =>
        rw [c1,Bool.false_and,Bool.false_and] at hg
        simp [goodCm,← hg]
      | true =>
        rw [c1,Bool.true_and] at hg
        by_cases c0:i = 0
        · have e0:¬ 0 < i:=by omega
          have ep:prevI l i = none:=by simp [prevI,c0]
          rw [ep,adjI,Bool.true_and] at hg
          simp [e0]
          subst hI
          exact Less_mk (n - 1) (by omega) ⟨i + 1,by omega,by rw [en]; exact hg,by rw [wrNext i (by omega)]⟩
        · obtain ⟨j,hj⟩:∃ j,i = j + 1:=⟨i - 1,by omega⟩
          have aj:j < l.length:=by omega
          have ep:prevI l i = some l[j]:=by subst hj; exact prevI_next l j aj
          have hw:IntKind.wrap .i64 ((i:Int) - 1) = j:=(wrap64 (by omega) (by omega)).trans (by omega)
          have e0:0 < i:=by omega
          rw [ep,adjI] at hg
          simp [e0,hw,aj]
          refine brn_app (fun c => ?_) (fun c => ?_)
          · simp at c
            have c':¬ l[j] < l[i]:=by omega
            simp [c'] at hg
            simp [goodCm,hg]
          · simp at c
            have c':l[j] < l[i]:=by omega
            simp [c'] at hg
            simp
            subst hI
            exact Less_mk (n - 1) (by omega) ⟨i + 1,by omega,by rw [en]; exact hg,by rw [wrNext i (by omega)]⟩
    · simp at a
      rw [List.drop_of_length_le (by omega),commsG] at hg
      simp [goodCm,← hg]
      omega
theorem ok_iGoodAttrs (k:Nat) (x:GAttrs) (hx:attrOK x):CallOK Try.prog 63 [.agg (GAttrs.ci k x)] (.c (pb (goodA x))) [.agg (GAttrs.ci k x)]:=by
  obtain ⟨h1,h2⟩:=hx
  refine okS (fn:=Try.f63) [] h0 Try.func63 (by kernel_rfl) rfl Try.ntmps63 Try.results63 (by simp) ?_
  simp
  refine Inv_intro (ok_within _ _ _) ?_
  by_cases c1:0 ≤ x.Origin ∧ x.Origin ≤ 2
  · simp [c1]
    refine Inv_intro (ok_isPath k x.Path h1) ?_
    cases c2:goodPa x.Path with
    | false => simp [goodA,c2]
    | true =>
      simp
      refine Inv_intro (ok_isAddr _) ?_
      cases c3:inR x.Next 0 4294967295 with
      | false => simp [goodA,c3]
      | true =>
        simp
        refine Inv_intro (ok_isValue _) ?_
        cases c4:isValB x.Med with
        | false => simp [goodA,c4]
        | true =>
          simp
          refine Inv_intro (ok_isValue _) ?_
          cases c5:isValB x.Pref with
          | false => simp [goodA,c5]
          | true =>
            simp
            refine Inv_intro (ok_areComms k x.Comms h2) ?_
            simp [goodA,c2,c3,c4,c5,inR_t c1]
  · have c1':inR x.Origin 0 2 = false:=by simp only [inR,decide_eq_false_iff_not]; exact c1
    simp [c1,goodA,c1']
theorem ok_iGoodRoute (k:Nat) (r:GRoute) (hx:attrOK r.Attrs):CallOK Try.prog 43 [.agg (GRoute.ci k r)] (.c (pb (goodR r))) [.agg (GRoute.ci k r)]:=by
  refine okS (fn:=Try.f43) [] h0 Try.func43 (by kernel_rfl) rfl Try.ntmps43 Try.results43 (by simp) ?_
  simp
  refine Inv_intro (ok_iGoodPrefix r.Prefix) ?_
  cases c1:goodPx r.Prefix with
  | false => simp [goodR,c1]
  | true =>
    simp
    refine Inv_intro (ok_iGoodAttrs k r.Attrs hx) ?_
    simp [goodR,c1]
end Go.V
