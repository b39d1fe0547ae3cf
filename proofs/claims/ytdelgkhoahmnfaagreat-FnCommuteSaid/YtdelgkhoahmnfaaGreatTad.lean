/- What functions of the seat's program do, each proved of its code, under the bounds that its theorem names. -/
import Derived.Test.YtdelgkhoahmnfaaGreatTac
set_option linter.all false
namespace Go.V
open Go.Proofs
set_option maxHeartbeats 1000000
set_option maxRecDepth 10000
set_option linter.unusedSimpArgs false
set_option linter.unusedVariables false
def adjPx (q:Option GPrefix) (x:GPrefix):Bool:=match q with
  | none => true
  | some q => decide (cmpPx q x < 0)
def risG:Option GPrefix → List GPrefix → Bool
  | _,[] => true
  | q,x :: xs => goodPx x && adjPx q x && risG (some x) xs
def goodPs (l:List GPrefix):Bool:=risG none l && decide (l.length ≤ 10)
def prevPx (l:List GPrefix) (i:Nat):Option GPrefix:=if i = 0 then none else l[i - 1]?
theorem prevPx_next (l:List GPrefix) (i:Nat) (h:i < l.length):prevPx l (i + 1) = some l[i]:=by simp [prevPx,h]
def zeroA:GAttrs:=⟨0,[],0,0,0,[]⟩
def goodU (u:GUpdate):Bool:=goodPs u.Gone && goodPs u.Come && goodA u.Attrs && u.Come.all (fun p => !decide (p ∈ u.Gone)) && (decide (u.Come ≠ []) || decide (u.Attrs = zeroA))
theorem risG_all:∀ (q:Option GPrefix) (l:List GPrefix),risG q l = true → ∀ x ∈ l,goodPx x = true
  | _,[],_,x,hx => by simp at hx
  | q,y :: l,h,x,hx => by
    simp only [risG,Bool.and_eq_true] at h
    rcases List.mem_cons.1 hx with rfl | hx
    · exact h.1.1
    · exact risG_all (some y) l h.2 x hx
theorem goodU_spec {u:GUpdate} (h:goodU u = true):u.Gone.length ≤ 10 ∧ u.Come.length ≤ 10 ∧ goodA u.Attrs = true ∧ ∀ p ∈ u.Come,goodPx p = true:=by
  simp only [goodU,goodPs,Bool.and_eq_true,decide_eq_true_eq] at h
  obtain ⟨⟨⟨⟨⟨_,h1⟩,h2,h3⟩,h4⟩,_⟩,_⟩:=h
  exact ⟨h1,h3,h4,risG_all none u.Come h2⟩
theorem ok_EqualI (k k':Nat) (xs ys:List Int) (ha:xs.length ≤ 140737488351232) (hb:ys.length ≤ 140737488351232):CallOK Tryz.prog 175 [.c (rd k xs.length (xs.map pi)),.c (rd k' ys.length (ys.map pi))] (.c (pb (decide (xs = ys)))) [.c (rd k xs.length (xs.map pi)),.c (rd k' ys.length (ys.map pi))]:=by
  refine okS (fn:=Tryz.f175) [] h0 Tryz.func175 (by kernel_rfl) rfl Tryz.ntmps175 Tryz.results175 (by simp) ?_
  simp
  refine brn_app (fun h => ?_) (fun h => ?_)
  · simp at h
    simp
    rintro rfl
    exact h rfl
  · simp at h
    have hl:ys.length = xs.length:=by omega
    simp
    refine loopS [0,1,12,13] [] (fun n st => ∃ (i:Nat),i + n = xs.length ∧ (xs.drop i = ys.drop i ↔ xs = ys) ∧ st = ⟨slOf 26 [(0,.t (rd k xs.length (xs.map pi))),(1,.t (rd k' ys.length (ys.map pi))),(12,.t (pi xs.length)),(13,.t (pi i))],ofL []⟩) xs.length ?_ ?_
    · rintro Inv hI
      simp
      subst hI
      exact ⟨0,by omega,by simp,rfl⟩
    · rintro Inv hI n st ⟨i,hi,htk,rfl⟩
      refine ewr_sound (M:=[]) h0 ?_
      simp
      refine brn_app (fun h => ?_) (fun h => ?_)
      · simp at h
        have hib:i < ys.length:=by omega
        rw [drop_step xs i h,drop_step ys i hib,List.cons.injEq] at htk
        simp
        refine drawP E0 [⟨[],allD 26,true⟩,⟨[],allD 26,true⟩,⟨[],allD 26,true⟩,⟨[],allD 26,true⟩,⟨[],allD 26,true⟩,⟨[],allD 26,true⟩,⟨[],allD 26,true⟩,⟨[],allD 26,true⟩,⟨[],allD 26,true⟩] h0 hm (E0_ok _) (by kernel_rfl) (by kernel_rfl) ?_
        simp [h,hib]
        refine brn_app (fun h2 => ?_) (fun h2 => ?_)
        · simp at h2
          simp
          intro he
          exact h2 (htk.2 he).1
        · simp at h2
          simp
          subst hI
          exact Less_mk (n - 1) (by omega) ⟨i + 1,by omega,⟨fun h4 => htk.1 ⟨h2,h4⟩,fun h4 => (htk.2 h4).2⟩,by rw [wrNext i (by omega)]⟩
      · simp at h
        rw [List.drop_of_length_le (by omega),List.drop_of_length_le (by omega)] at htk
        simp
        exact htk.1 rfl
theorem attrs_ext (a b:GAttrs):decide (a = b) = (decide (a.Origin = b.Origin) && (decide (a.Path = b.Path) && (decide (a.Next = b.Next) && (decide (a.Med = b.Med) && (decide (a.Pref = b.Pref) && decide (a.Comms = b.Comms)))))):=by
  cases a
  cases b
  simp
theorem ok_sameAttrs (k k':Nat) (a b:GAttrs) (ha:attrOK a) (hb:attrOK b):CallOK Tryz.prog 132 [.agg (GAttrs.ci k a),.agg (GAttrs.ci k' b)] (.c (pb (decide (a = b)))) [.agg (GAttrs.ci k a),.agg (GAttrs.ci k' b)]:=by
  refine okS (fn:=Tryz.f132) [] h0 Tryz.func132 (by kernel_rfl) rfl Tryz.ntmps132 Tryz.results132 (by simp) ?_
  rw [attrs_ext]
  by_cases c1:a.Origin = b.Origin
  · simp [c1]
    refine Inv_intro (ok_EqualI k k' a.Path b.Path ha.1 hb.1) ?_
    by_cases c2:a.Path = b.Path
    · by_cases c3:a.Next = b.Next
      · by_cases c4:a.Med = b.Med
        · by_cases c5:a.Pref = b.Pref
          · simp [c2,c3,c4,c5]
            refine Inv_intro (ok_EqualI k k' a.Comms b.Comms ha.2 hb.2) ?_
            simp
          · simp [c2,c3,c4,c5]
        · simp [c2,c3,c4]
      · simp [c2,c3]
    · simp [c2]
  · simp [c1]
theorem ok_l4Rising (k:Nat) (l:List GPrefix) (hll:l.length ≤ 140737488351232):CallOK Tryz.prog 135 [.c (rd k l.length (l.flatMap GPrefix.c))] (.c (pb (goodPs l))) [.c (rd k l.length (l.flatMap GPrefix.c))]:=by
  refine okS (fn:=Tryz.f135) [] h0 Tryz.func135 (by kernel_rfl) rfl Tryz.ntmps135 Tryz.results135 (by simp) ?_
  simp
  refine loopS [0,5,6,7] [] (fun n st => ∃ (i:Nat),i + n = l.length ∧ risG (prevPx l i) (l.drop i) = risG none l ∧ st = ⟨slOf 33 [(0,.t (rd k l.length (l.flatMap GPrefix.c))),(5,.t (rd k l.length (l.flatMap GPrefix.c))),(6,.t (pi l.length)),(7,.t (pi i))],ofL []⟩) l.length ?_ ?_
  · rintro Inv hI
    simp
    subst hI
    exact ⟨0,by omega,rfl,rfl⟩
  · rintro Inv hI n st ⟨i,hi,hg,rfl⟩
    refine ewr_sound (M:=[]) h0 ?_
    simp
    refine brn_app (fun a => ?_) (fun a => ?_)
    · simp at a
      rw [drop_step _ i a,risG] at hg
      have hd:=fm_drop GPrefix.c 2 (fun _ => rfl) l i a
      have hlen:=fm_len GPrefix.c 2 (fun _ => rfl) l
      have hlt:i * 2 < l.length * 2:=by omega
      have en:prevPx l (i + 1) = some l[i]:=prevPx_next l i a
      simp [a,hd,hlen,hlt]
      have hR:=ok_sGoodPrefix l[i]
      by_cases c0:i = 0
      · have e0:¬ 0 < i:=by omega
        have ep:prevPx l i = none:=by simp [prevPx,c0]
        rw [ep,adjPx,Bool.and_true] at hg
        refine drawP (tabEnv [] _) [⟨[.op 3 3 0],allD 33,true⟩,⟨[],allD 33,false⟩,⟨[],allD 33,true⟩,⟨[],allD 33,true⟩,⟨[],allD 33,true⟩,⟨[],allD 33,true⟩,⟨[],allD 33,true⟩,⟨[],allD 33,true⟩,⟨[],allD 33,true⟩,⟨[],allD 33,true⟩,⟨[],allD 33,true⟩,⟨[],allD 33,true⟩,⟨[.op 3 3 0],allD 33,true⟩,⟨[],allD 33,false⟩,⟨[],allD 33,true⟩,⟨[],allD 33,true⟩,⟨[],allD 33,true⟩] h0 hm (tabEnv_ok (tab_cons hR tab_nil)) (by kernel_rfl) (by kernel_rfl) ?_
        cases c1:goodPx l[i] with
        | false =>
          rw [c1,Bool.false_and] at hg
          simp [c1,goodPs,← hg]
        | true =>
          rw [c1,Bool.true_and] at hg
          simp [c1,e0]
          subst hI
          exact Less_mk (n - 1) (by omega) ⟨i + 1,by omega,by rw [en]; exact hg,by rw [wrNext i (by omega)]⟩
      · obtain ⟨j,hj⟩:∃ j,i = j + 1:=⟨i - 1,by omega⟩
        have aj:j < l.length:=by omega
        have ep:prevPx l i = some l[j]:=by subst hj; exact prevPx_next l j aj
        have hdj:=fm_drop GPrefix.c 2 (fun _ => rfl) l j aj
        have hltj:j * 2 < l.length * 2:=by omega
        have hw:IntKind.wrap .i64 ((i:Int) - 1) = j:=(wrap64 (by omega) (by omega)).trans (by omega)
        have e0:0 < i:=by omega
        rw [ep,adjPx] at hg
        refine drawP (tabEnv [] _) [⟨[.op 3 3 0],allD 33,true⟩,⟨[],allD 33,false⟩,⟨[],allD 33,true⟩,⟨[],allD 33,true⟩,⟨[],allD 33,true⟩,⟨[],allD 33,true⟩,⟨[],allD 33,true⟩,⟨[],allD 33,true⟩,⟨[],allD 33,true⟩,⟨[],allD 33,true⟩,⟨[],allD 33,true⟩,⟨[],allD 33,true⟩,⟨[.op 3 3 0],allD 33,true⟩,⟨[],allD 33,false⟩,⟨[],allD 33,true⟩,⟨[],allD 33,true⟩,⟨[],allD 33,true⟩] h0 hm (tabEnv_ok (tab_cons hR (tab_cons (ok_l1Compare l[j] l[i]) tab_nil))) (by kernel_rfl) (by kernel_rfl) ?_
        cases c1:goodPx l[i] with
        | false =>
          rw [c1,Bool.false_and,Bool.false_and] at hg
          simp [c1,goodPs,← hg]
        | true =>
          rw [c1,Bool.true_and] at hg
          by_cases c2:cmpPx l[j] l[i] < 0
          · have c3:¬ 0 ≤ cmpPx l[j] l[i]:=by omega
            rw [decide_eq_true c2,Bool.true_and] at hg
            simp [c1,e0,hw,aj,hdj,hlen,hltj,c3]
            subst hI
            exact Less_mk (n - 1) (by omega) ⟨i + 1,by omega,by rw [en]; exact hg,by rw [wrNext i (by omega)]⟩
          · have c3:0 ≤ cmpPx l[j] l[i]:=by omega
            rw [decide_eq_false c2,Bool.false_and] at hg
            simp [c1,e0,hw,aj,hdj,hlen,hltj,c3,goodPs,← hg]
    · simp at a
      rw [List.drop_of_length_le (by omega),risG] at hg
      simp [goodPs,← hg]
      omega
theorem px_dec (p q:GPrefix):(decide (p.Addr = q.Addr) && decide (p.Len = q.Len)) = decide (p = q):=by
  rw [← Bool.decide_and]
  exact decide_eq_decide.2 (px_ext p q).symm
theorem ok_l4In (k:Nat) (l:List GPrefix) (p:GPrefix) (hll:l.length ≤ 140737488351232):CallOK Tryz.prog 134 [.c (rd k l.length (l.flatMap GPrefix.c)),.agg p.c] (.c (pb (decide (p ∈ l)))) [.c (rd k l.length (l.flatMap GPrefix.c)),.agg p.c]:=by
  refine okS (fn:=Tryz.f134) [] h0 Tryz.func134 (by kernel_rfl) rfl Tryz.ntmps134 Tryz.results134 (by simp) ?_
  simp
  refine loopS [3,7,8,9] [.op 0 0 0] (fun n st => ∃ (i:Nat),i + n = l.length ∧ decide (p ∈ l) = decide (p ∈ l.drop i) ∧ st = ⟨slOf 17 [(3,.ptr ⟨.op 0 0 0,[]⟩ 0),(7,.t (rd k l.length (l.flatMap GPrefix.c))),(8,.t (pi l.length)),(9,.t (pi i))],ofL [(.op 0 0 0,.sl 0 77 1 p.c)]⟩) l.length ?_ ?_
  · rintro Inv hI
    simp
    subst hI
    exact ⟨0,by omega,rfl,rfl⟩
  · rintro Inv hI n st ⟨i,hi,hg,rfl⟩
    refine ewr_sound (M:=[]) h0 ?_
    simp
    refine brn_app (fun a => ?_) (fun a => ?_)
    · simp at a
      have hd:=fm_drop GPrefix.c 2 (fun _ => rfl) l i a
      have hlen:=fm_len GPrefix.c 2 (fun _ => rfl) l
      have hlt:i * 2 < l.length * 2:=by omega
      rw [drop_step _ i a] at hg
      by_cases c:l[i] = p
      · have hg':decide (p ∈ l) = true:=by rw [hg]; exact decide_eq_true (by rw [c]; exact List.mem_cons_self ..)
        simp [a,hd,hlen,hlt,px_dec,c,hg']
      · have hg':decide (p ∈ l) = decide (p ∈ l.drop (i + 1)):=by
          have this:¬ p = l[i]:=fun e => c e.symm
          rw [hg]
          exact decide_eq_decide.2 (by rw [List.mem_cons]; exact or_iff_right this)
        simp [a,hd,hlen,hlt,px_dec,c]
        subst hI
        exact Less_mk (n - 1) (by omega) ⟨i + 1,by omega,hg',by rw [wrNext i (by omega)]; rfl⟩
    · simp at a
      rw [List.drop_of_length_le (by omega)] at hg
      simp [hg]
theorem ok_l4Zero (k:Nat) (a:GAttrs):CallOK Tryz.prog 137 [.agg (GAttrs.ci k a)] (.c (pb (decide (a = zeroA)))) [.agg (GAttrs.ci k a)]:=by
  have e:decide (a = zeroA) = (decide (a.Origin = 0) && (decide (a.Path = []) && (decide (a.Next = 0) && (decide (a.Med = 0) && (decide (a.Pref = 0) && decide (a.Comms = [])))))):=attrs_ext a zeroA
  rw [e]
  refine okS (fn:=Tryz.f137) [] h0 Tryz.func137 (by kernel_rfl) rfl Tryz.ntmps137 Tryz.results137 (by simp) ?_
  by_cases c1:a.Origin = 0
  · by_cases c2:a.Path = []
    · by_cases c3:a.Next = 0
      · by_cases c4:a.Med = 0
        · by_cases c5:a.Pref = 0
          · by_cases c6:a.Comms = []
            · simp [c1,c2,c3,c4,c5,c6]
            · simp [c1,c2,c3,c4,c5,c6]
          · simp [c1,c2,c3,c4,c5]
        · simp [c1,c2,c3,c4]
      · simp [c1,c2,c3]
    · simp [c1,c2]
  · simp [c1]
def putP (p:GPrefix):List GPrefix → List GPrefix
  | [] => [p]
  | x :: l => if cmpPx x p < 0 then x :: putP p l else if x = p then x :: l else p :: x :: l
def putAll (l:List GPrefix) (xs:List GPrefix):List GPrefix:=xs.foldl (fun l p => putP p l) l
theorem putAll_snoc (l xs:List GPrefix) (p:GPrefix):putAll l (xs ++ [p]) = putP p (putAll l xs):=by simp [putAll,List.foldl_append]
theorem cmpPx_ngt {p x:GPrefix} (h1:¬ cmpPx x p < 0) (h2:x ≠ p):cmpPx p x < 0:=by
  rw [cmpPx_lt] at h1 ⊢
  have h3:¬ (x.Addr = p.Addr ∧ x.Len = p.Len):=fun h => h2 ((px_ext x p).2 h)
  omega
theorem mem_putP {p x:GPrefix}:∀ {l:List GPrefix},x ∈ putP p l ↔ x = p ∨ x ∈ l
  | [] => by simp [putP]
  | y :: l => by
    unfold putP
    split
    · simp only [List.mem_cons,mem_putP (l:=l)]
      constructor
      · rintro (h | h | h)
        · exact .inr (.inl h)
        · exact .inl h
        · exact .inr (.inr h)
      · rintro (h | h | h)
        · exact .inr (.inl h)
        · exact .inl h
        · exact .inr (.inr h)
    · split
      · rename_i h1 h2
        subst h2
        simp
      · simp
theorem srtP_putP {p:GPrefix}:∀ {l:List GPrefix},srtP l → srtP (putP p l)
  | [],_ => by simp [putP,srtP]
  | y :: l,h => by
    unfold srtP at h ⊢
    rw [List.pairwise_cons] at h
    unfold putP
    split
    · rename_i h1
      refine List.pairwise_cons.2 ⟨fun z hz => ?_,srtP_putP h.2⟩
      rcases mem_putP.1 hz with rfl | hz
      · exact h1
      · exact h.1 z hz
    · split
      · exact List.pairwise_cons.2 h
      · rename_i h1 h2
        have h3:=cmpPx_ngt h1 h2
        refine List.pairwise_cons.2 ⟨fun z hz => ?_,List.pairwise_cons.2 h⟩
        rcases List.mem_cons.1 hz with rfl | hz
        · exact h3
        · exact ltP_trans h3 (h.1 z hz)
theorem srtP_putAll:∀ (xs l:List GPrefix),srtP l → srtP (putAll l xs)
  | [],l,h => h
  | p :: xs,l,h => srtP_putAll xs (putP p l) (srtP_putP h)
theorem mem_putAll {x:GPrefix}:∀ {xs l:List GPrefix},x ∈ putAll l xs ↔ x ∈ l ∨ x ∈ xs
  | [],l => by simp [putAll]
  | p :: xs,l => by
    have:=mem_putAll (x:=x) (xs:=xs) (l:=putP p l)
    have e:putAll l (p :: xs) = putAll (putP p l) xs:=rfl
    rw [e,this,mem_putP,List.mem_cons]
    constructor
    · rintro ((h | h) | h)
      · exact .inr (.inl h)
      · exact .inl h
      · exact .inr (.inr h)
    · rintro (h | h | h)
      · exact .inl (.inr h)
      · exact .inl (.inl h)
      · exact .inr h
theorem putP_len (p:GPrefix):∀ l:List GPrefix,(putP p l).length ≤ l.length + 1
  | [] => by simp [putP]
  | y :: l => by
    have:=putP_len p l
    unfold putP
    split
    · simpa using this
    · split <;> simp
theorem putAll_len:∀ (xs l:List GPrefix),(putAll l xs).length ≤ l.length + xs.length
  | [],l => by simp [putAll]
  | p :: xs,l => by
    have h1:=putAll_len xs (putP p l)
    have h2:=putP_len p l
    have e:putAll l (p :: xs) = putAll (putP p l) xs:=rfl
    rw [e,List.length_cons]
    omega
theorem srtP_ext:∀ {l m:List GPrefix},srtP l → srtP m → (∀ x,x ∈ l ↔ x ∈ m) → l = m
  | [],[],_,_,_ => rfl
  | [],y :: m,_,_,h => by have:=(h y).2 (by simp); simp at this
  | x :: l,[],_,_,h => by have:=(h x).1 (by simp); simp at this
  | x :: l,y :: m,hl,hm,h => by
    have hl':=List.pairwise_cons.1 hl
    have hm':=List.pairwise_cons.1 hm
    have e:x = y:=by
      rcases List.mem_cons.1 ((h x).1 (by simp)) with e | hx
      · exact e
      · rcases List.mem_cons.1 ((h y).2 (by simp)) with e | hy
        · exact e.symm
        · exact absurd (ltP_trans (hl'.1 y hy) (hm'.1 x hx)) (ltP_irr x)
    subst e
    congr 1
    refine srtP_ext hl'.2 hm'.2 fun z => ?_
    have h1:=h z
    simp only [List.mem_cons] at h1
    constructor
    · intro hz
      rcases h1.1 (.inr hz) with e | hz'
      · subst e
        exact absurd (hl'.1 z hz) (ltP_irr z)
      · exact hz'
    · intro hz
      rcases h1.2 (.inr hz) with e | hz'
      · subst e
        exact absurd (hm'.1 z hz) (ltP_irr z)
      · exact hz'
def compF:GPrefix → List GPrefix → List GPrefix
  | _,[] => []
  | q,x :: l => if x = q then compF q l else x :: compF x l
def compP:List GPrefix → List GPrefix
  | [] => []
  | x :: l => x :: compF x l
theorem compF_mem {q:GPrefix}:∀ {l:List GPrefix} {q x:GPrefix},x ∈ compF q l → x ∈ l
  | [],q,x,h => by simp [compF] at h
  | y :: l,q,x,h => by
    unfold compF at h
    split at h
    · exact List.mem_cons_of_mem _ (compF_mem (q:=q) h)
    · rcases List.mem_cons.1 h with rfl | h
      · simp
      · exact List.mem_cons_of_mem _ (compF_mem (q:=q) h)
theorem compF_all:∀ {l:List GPrefix} {q x:GPrefix},x ∈ l → x = q ∨ x ∈ compF q l
  | [],q,x,h => by simp at h
  | y :: l,q,x,h => by
    unfold compF
    split
    · rename_i e
      rcases List.mem_cons.1 h with rfl | h
      · exact .inl e
      · exact compF_all h
    · rcases List.mem_cons.1 h with rfl | h
      · exact .inr (by simp)
      · rcases compF_all (q:=y) h with rfl | h
        · exact .inr (by simp)
        · exact .inr (List.mem_cons_of_mem _ h)
def leP (l:List GPrefix):Prop:=l.Pairwise (fun a b => ¬ cmpPx b a < 0)
theorem compF_srt:∀ {l:List GPrefix} {q:GPrefix},leP l → (∀ x ∈ l,¬ cmpPx x q < 0) → srtP (compF q l) ∧ ∀ x ∈ compF q l,cmpPx q x < 0
  | [],q,_,_ => by simp [compF,srtP]
  | y :: l,q,h,hq => by
    have h':=List.pairwise_cons.1 h
    unfold compF
    split
    · exact compF_srt h'.2 fun x hx => hq x (List.mem_cons_of_mem _ hx)
    · rename_i hne
      obtain ⟨g1,g2⟩:=compF_srt (q:=y) h'.2 h'.1
      have hqy:=cmpPx_ngt (hq y (by simp)) hne
      refine ⟨List.pairwise_cons.2 ⟨g2,g1⟩,fun x hx => ?_⟩
      rcases List.mem_cons.1 hx with rfl | hx
      · exact hqy
      · exact ltP_trans hqy (g2 x hx)
theorem compP_srt {l:List GPrefix} (h:leP l):srtP (compP l):=by
  cases l with
  | nil => simp [compP,srtP]
  | cons x l =>
    have h':=List.pairwise_cons.1 h
    obtain ⟨g1,g2⟩:=compF_srt (q:=x) h'.2 h'.1
    exact List.pairwise_cons.2 ⟨g2,g1⟩
theorem compP_mem {l:List GPrefix} {x:GPrefix}:x ∈ compP l ↔ x ∈ l:=by
  cases l with
  | nil => simp [compP]
  | cons y l =>
    simp only [compP,List.mem_cons]
    constructor
    · rintro (h | h)
      · exact .inl h
      · exact .inr (compF_mem (q:=y) h)
    · rintro (h | h)
      · exact .inl h
      · exact compF_all h
/-- What a sort and a compacting leave is what is put one by one. -/
theorem comp_union {xs ys:List GPrefix} (h:leP ys) (hm:∀ x,x ∈ ys ↔ x ∈ xs):compP ys = putAll [] xs:=by
  refine srtP_ext (compP_srt h) (srtP_putAll xs [] (by simp [srtP])) fun x => ?_
  rw [compP_mem,mem_putAll,hm]
  simp
/-- Where a condition holds first, or -1. -/
def idxOf {α:Type} (p:α → Bool) (xs:List α):Int:=match xs.findIdx? p with | some i => i | none => -1
theorem idxOf_hit {α:Type} (p:α → Bool) (xs:List α) (i:Nat) (h:i < xs.length) (hp:p xs[i] = true) (hall:∀ (j:Nat) (hj:j < i),p (xs[j]'(by omega)) = false):idxOf p xs = i:=by
  unfold idxOf
  rw [(List.findIdx?_eq_some_iff_getElem (i:=i)).2 ⟨h,hp,fun j hj => by simp [hall j hj]⟩]
theorem idxOf_no {α:Type} (p:α → Bool) (xs:List α) (hall:∀ (j:Nat) (hj:j < xs.length),p xs[j] = false):idxOf p xs = -1:=by
  unfold idxOf
  rw [List.findIdx?_eq_none_iff.2 (fun s hs => by
    obtain ⟨j,hj,rfl⟩:=List.getElem_of_mem hs
    simp [hall j hj])]
theorem idxOf_any {α:Type} (p:α → Bool) (xs:List α):decide (0 ≤ idxOf p xs) = xs.any p:=by
  unfold idxOf
  cases h:xs.findIdx? p with
  | none =>
    rw [List.findIdx?_eq_none_iff] at h
    simp
    exact fun x hx => by simpa using h x hx
  | some i =>
    rw [List.findIdx?_eq_some_iff_getElem] at h
    obtain ⟨h1,h2,_⟩:=h
    simp
    exact ⟨_,List.getElem_mem h1,h2⟩
def hasI (l:List Int) (n:Int):Bool:=l.any fun x => decide (x = n)
theorem ok_Index_Int (k:Nat) (xs:List Int) (v:Int) (ha:xs.length ≤ 140737488351232):CallOK Tryz.prog 190 [.c (rd k xs.length (xs.map pi)),.c (pi v)] (.c (pi (idxOf (fun x => decide (x = v)) xs))) [.c (rd k xs.length (xs.map pi)),.c (pi v)]:=by
  refine okS (fn:=Tryz.f190) [] h0 Tryz.func190 (by kernel_rfl) rfl Tryz.ntmps190 Tryz.results190 (by simp) ?_
  simp
  refine loopS [0,1,6,7,8] [] (fun n st => ∃ (i:Nat),i + n = xs.length ∧ (∀ (j:Nat) (hj:j < i) (hj':j < xs.length),decide (xs[j] = v) = false) ∧ st = ⟨slOf 19 [(0,.t (rd k xs.length (xs.map pi))),(1,.t (pi v)),(6,.t (rd k xs.length (xs.map pi))),(7,.t (pi xs.length)),(8,.t (pi i))],ofL []⟩) xs.length ?_ ?_
  · rintro Inv hI
    simp
    subst hI
    exact ⟨0,by omega,by intro j hj; omega,rfl⟩
  · rintro Inv hI n st ⟨i,hi,hall,rfl⟩
    refine ewr_sound (M:=[]) h0 ?_
    simp
    refine brn_app (fun h => ?_) (fun h => ?_)
    · simp at h
      simp [h]
      refine brn_app (fun h2 => ?_) (fun h2 => ?_)
      · simp at h2
        simp
        exact (idxOf_hit (fun x => decide (x = v)) xs i h (by simp [h2]) fun j hj => hall j hj (by omega)).symm
      · simp at h2
        simp
        subst hI
        refine Less_mk (n - 1) (by omega) ⟨i + 1,by omega,?_,by rw [wrNext i (by omega)]⟩
        intro j hj hj'
        by_cases hji:j = i
        · subst hji; simp; exact fun e => h2 e.symm
        · exact hall j (by omega) hj'
    · simp at h
      simp
      exact (idxOf_no (fun x => decide (x = v)) xs fun j hj => hall j (by omega) hj).symm
theorem ok_Contains_Int (k:Nat) (xs:List Int) (v:Int) (ha:xs.length ≤ 140737488351232):CallOK Tryz.prog 170 [.c (rd k xs.length (xs.map pi)),.c (pi v)] (.c (pb (hasI xs v))) [.c (rd k xs.length (xs.map pi)),.c (pi v)]:=by
  refine okS (fn:=Tryz.f170) [] h0 Tryz.func170 (by kernel_rfl) rfl Tryz.ntmps170 Tryz.results170 (by simp) ?_
  simp
  refine Inv_intro (ok_Index_Int k xs v ha) ?_
  simp [idxOf_any,hasI]
theorem hasI_drop {l:List Int} {n:Int} {i:Nat} (h:i < l.length):hasI (l.drop i) n = (decide (l[i] = n) || hasI (l.drop (i + 1)) n):=by
  unfold hasI
  rw [List.drop_eq_getElem_cons h,List.any_cons]
theorem ok_l1Has (k:Nat) (xs:List Int) (v:Int) (ha:xs.length ≤ 140737488351232):CallOK Tryz.prog 114 [.c (rd k xs.length (xs.map pi)),.c (pi v)] (.c (pb (hasI xs v))) [.c (rd k xs.length (xs.map pi)),.c (pi v)]:=by
  refine okS (fn:=Tryz.f114) [] h0 Tryz.func114 (by kernel_rfl) rfl Tryz.ntmps114 Tryz.results114 (by simp) ?_
  simp
  refine loopS [1,7,8,9] [] (fun n st => ∃ (i:Nat),i + n = xs.length ∧ hasI (xs.drop i) v = hasI xs v ∧ st = ⟨slOf 17 [(1,.t (pi v)),(7,.t (rd k xs.length (xs.map pi))),(8,.t (pi xs.length)),(9,.t (pi i))],ofL []⟩) xs.length ?_ ?_
  · rintro Inv hI
    simp
    subst hI
    exact ⟨0,by omega,rfl,rfl⟩
  · rintro Inv hI n st ⟨i,hi,hall,rfl⟩
    refine ewr_sound (M:=[]) h0 ?_
    simp
    refine brn_app (fun h => ?_) (fun h => ?_)
    · simp at h
      rw [hasI_drop h] at hall
      simp [h]
      refine brn_app (fun h2 => ?_) (fun h2 => ?_)
      · simp at h2
        rw [decide_eq_true h2,Bool.true_or] at hall
        simp [← hall]
      · simp at h2
        rw [decide_eq_false h2,Bool.false_or] at hall
        simp
        subst hI
        exact Less_mk (n - 1) (by omega) ⟨i + 1,by omega,hall,by rw [wrNext i (by omega)]⟩
    · simp at h
      rw [List.drop_eq_nil_of_le (by omega)] at hall
      have h2:hasI xs v = false:=by rw [← hall]; rfl
      simp [h2]
structure GOffer where
  Peer:Int
  Attrs:GAttrs
  deriving DecidableEq
def GOffer.co (x:GOffer):List PT:=[pi x.Peer,pi x.Attrs.Origin,.sl 0 3 x.Attrs.Path.length (x.Attrs.Path.map pi),pi x.Attrs.Next,pi x.Attrs.Med,pi x.Attrs.Pref,.sl 0 3 x.Attrs.Comms.length (x.Attrs.Comms.map pi)]
def GOffer.ci (k:Nat) (x:GOffer):List PT:=[pi x.Peer,pi x.Attrs.Origin,rd k x.Attrs.Path.length (x.Attrs.Path.map pi),pi x.Attrs.Next,pi x.Attrs.Med,pi x.Attrs.Pref,rd k x.Attrs.Comms.length (x.Attrs.Comms.map pi)]
attribute [simp] GOffer.co GOffer.ci
theorem GOffer.len_i (k:Nat) (x:GOffer):(x.ci k).length = 7:=rfl
theorem GOffer.un1 (x:GOffer):PT.unownL x.co = x.ci 0:=by simp [rd]
theorem GOffer.uni1 (k:Nat) (x:GOffer):PT.unownL (x.ci k) = x.ci 0:=by simp [rd]
theorem GOffer.un (xs:List GOffer):PT.unownL (xs.flatMap GOffer.co) = xs.flatMap (GOffer.ci 0):=by
  rw [unownL_fm]
  congr 1
  funext x
  exact GOffer.un1 x
theorem GOffer.uni (k:Nat) (xs:List GOffer):PT.unownL (xs.flatMap (GOffer.ci k)) = xs.flatMap (GOffer.ci 0):=by
  rw [unownL_fm]
  congr 1
  funext x
  exact GOffer.uni1 k x
theorem GOffer.nt (xs:List GOffer):PT.noTmpL (xs.flatMap GOffer.co) = true:=noTmpL_fm _ xs fun x => by simp
theorem GOffer.nti (k:Nat) (xs:List GOffer):PT.noTmpL (xs.flatMap (GOffer.ci (k + 1))) = true:=noTmpL_fm _ xs fun x => by simp [rd]
attribute [simp] GOffer.un GOffer.uni GOffer.nt GOffer.nti
theorem GOffer.lenR (xs:List GOffer):(xs.flatMap GOffer.co).length = xs.length * 7:=fm_len _ 7 (fun _ => rfl) xs
theorem GOffer.lenRi (k:Nat) (xs:List GOffer):(xs.flatMap (GOffer.ci k)).length = xs.length * 7:=fm_len _ 7 (fun _ => rfl) xs
theorem GOffer.tkR (xs:List GOffer):(xs.flatMap GOffer.co).take (xs.length * 7) = xs.flatMap GOffer.co:=List.take_of_length_le (by rw [GOffer.lenR]; exact Nat.le_refl _)
theorem GOffer.tkRi (k:Nat) (xs:List GOffer):(xs.flatMap (GOffer.ci k)).take (xs.length * 7) = xs.flatMap (GOffer.ci k):=List.take_of_length_le (by rw [GOffer.lenRi]; exact Nat.le_refl _)
attribute [simp high] GOffer.lenR GOffer.tkR GOffer.lenRi GOffer.tkRi
def GOffer.wt (x:GOffer):Nat:=GAttrs.wt x.Attrs
def GOffer.mark (x:GOffer) (k:Int):GOffer × Int:=(⟨k,⟨(k + 1),(mk_IntS x.Attrs.Path ((k + 1) + 1)).1,(mk_IntS x.Attrs.Path ((k + 1) + 1)).2,((mk_IntS x.Attrs.Path ((k + 1) + 1)).2 + 1),(((mk_IntS x.Attrs.Path ((k + 1) + 1)).2 + 1) + 1),(mk_IntS x.Attrs.Comms ((((mk_IntS x.Attrs.Path ((k + 1) + 1)).2 + 1) + 1) + 1)).1⟩⟩,(mk_IntS x.Attrs.Comms ((((mk_IntS x.Attrs.Path ((k + 1) + 1)).2 + 1) + 1) + 1)).2)
end Go.V
