/- What functions of the seat's program do, each proved of its code, under the bounds that its theorem names. -/
import Derived.Test.YtcmdgenpipojpaaGreatTao
set_option linter.all false
namespace Go.V
open Go.Proofs
set_option maxHeartbeats 1000000
set_option maxRecDepth 10000
set_option linter.unusedSimpArgs false
set_option linter.unusedVariables false
def smallU (u:GUpdate):Prop:=u.Gone.length ≤ 10 ∧ u.Come.length ≤ 10 ∧ u.Attrs.Path.length ≤ 10 ∧ u.Attrs.Comms.length ≤ 6
theorem partC_le {α:Type} (g:List α) (i:Nat):(partC g i).length ≤ 10:=by rw [partC_len]; exact Nat.min_le_left _ _
theorem putG_small {o:List GUpdate} {k:Nat} {p:List GPrefix} (h:∀ u ∈ o,smallU u) (hp:p.length ≤ 10):∀ u ∈ putG o k p,smallU u:=by
  intro u hu
  unfold putG at hu
  split at hu
  · rename_i x hx
    rcases List.mem_or_eq_of_mem_set hu with hu | rfl
    · exact h u hu
    · have:=h x (List.mem_of_getElem? hx)
      exact ⟨hp,this.2.1,this.2.2⟩
  · rcases List.mem_append.1 hu with hu | hu
    · exact h u hu
    · rw [List.mem_singleton] at hu
      subst hu
      exact ⟨hp,by simp,by simp [zeroA],by simp [zeroA]⟩
theorem putGs_small {D:List GPrefix} {o:List GUpdate} (h:∀ u ∈ o,smallU u):∀ i,∀ u ∈ putGs D o i,smallU u
  | 0 => h
  | i + 1 => putG_small (putGs_small h i) (partC_le D i)
theorem attrAt_small {C:List GRoute} (hC:∀ r ∈ C,goodR r = true) (g:List Int):(attrAt C g).Path.length ≤ 10 ∧ (attrAt C g).Comms.length ≤ 6:=by
  unfold attrAt
  split
  · split
    · rename_i r hr
      exact goodR_small (hC r (List.mem_of_getElem? hr))
    · simp [zeroA]
  · simp [zeroA]
theorem upds1_small {C:List GRoute} (hC:∀ r ∈ C,goodR r = true) (G:List (List Int)):∀ u ∈ upds1 C G,smallU u:=by
  intro u hu
  obtain ⟨g,_,hu⟩:=List.mem_flatMap.1 hu
  obtain ⟨x,_,rfl⟩:=List.mem_map.1 hu
  have:=attrAt_small hC g
  exact ⟨by simp [updA],by simp only [updA,List.length_map]; exact partC_le g x,this.1,this.2⟩
theorem tellL_small {a b:List GRoute} (ha:goodRs a = true) (hb:goodRs b = true):(∀ u ∈ tellL a b,smallU u) ∧ (tellL a b).length ≤ 42:=by
  obtain ⟨⟨_,hgoodb⟩,hlb⟩:=goodRs_L hb
  obtain ⟨_,hla⟩:=goodRs_L ha
  have hcl:(comeT a b).length ≤ 20:=Nat.le_trans (comeT_len a b) hlb
  have hgl:(goneT a b).length ≤ 20:=Nat.le_trans (goneT_len a b) hla
  have hCg:∀ r ∈ comeT a b,goodR r = true:=fun r hr => hgoodb r (List.mem_filter.1 hr).1
  have hgk:gOK (comeT a b).length (groupsL (comeT a b)):=groupsN_ok _ _
  refine ⟨putGs_small (upds1_small hCg _) _,?_⟩
  have h1:=putGs_le (goneT a b) (upds1 (comeT a b) (groupsL (comeT a b))) (partN (goneT a b))
  have h2:=upds1_len (comeT a b) (groupsL (comeT a b)) fun g hg => Nat.le_trans (hgk.2 g hg).2.1 hcl
  have h3:=hgk.1
  have h4:partN (goneT a b) ≤ 2:=by unfold partN; omega
  unfold tellL
  omega
theorem wtR_leT {α:Type} (f:α → Nat) (b:Nat):∀ l:List α,(∀ x ∈ l,f x ≤ b) → wtR f l ≤ l.length * (b + 1)
  | [],_ => by simp [wtR]
  | x :: l,h => by
    have ih:=wtR_leT f b l fun y hy => h y (by simp [hy])
    have h1:=h x (by simp)
    simp only [wtR,List.map_cons,List.length_cons,List.sum_cons,Nat.add_mul] at ih ⊢
    omega
theorem rTellFrom_wt (v0 v1:List GRoute):wt_UpdateS (rTellFrom v0 v1).1 ≤ 1722:=by
  unfold rTellFrom
  split
  · rename_i h
    obtain ⟨h1,h2⟩:=tellL_small h.1 h.2
    have h3:=wtR_leT GUpdate.wt 40 (tellL v0 v1) fun u hu => by
      obtain ⟨k1,k2,k3,k4⟩:=h1 u hu
      simp only [GUpdate.wt,GAttrs.wt,wt_PrefixS,wt_IntS]
      omega
    have h4:(tellL v0 v1).length * (40 + 1) ≤ 42 * 41:=Nat.mul_le_mul h2 (Nat.le_refl _)
    show wtR GUpdate.wt (tellL v0 v1) ≤ 1722
    omega
  · exact Nat.zero_le _
theorem ltP_tri (p q:GPrefix):cmpPx p q < 0 ∨ p = q ∨ cmpPx q p < 0:=by
  rcases Int.lt_trichotomy (cmpPx p q) 0 with h | h | h
  · exact .inl h
  · exact .inr (.inl ((cmpPx_eq p q).1 h))
  · exact .inr (.inr ((cmpPx_gt p q).1 h))
theorem mem_putR {r x:GRoute} {l:List GRoute}:x ∈ putR r l ↔ x = r ∨ (x ∈ l ∧ x.Prefix ≠ r.Prefix):=by
  unfold putR lows highs
  rw [List.mem_append,List.mem_cons,List.mem_filter,List.mem_filter]
  simp only [decide_eq_true_eq]
  constructor
  · rintro (⟨h1,h2⟩ | h | ⟨h1,h2⟩)
    · exact .inr ⟨h1,fun e => by rw [e] at h2; exact ltP_irr _ h2⟩
    · exact .inl h
    · exact .inr ⟨h1,fun e => by rw [e] at h2; exact ltP_irr _ h2⟩
  · rintro (h | ⟨h1,h2⟩)
    · exact .inr (.inl h)
    · rcases ltP_tri x.Prefix r.Prefix with h | h | h
      · exact .inl ⟨h1,h⟩
      · exact absurd h h2
      · exact .inr (.inr ⟨h1,h⟩)
theorem mem_puts {A:GAttrs} {x:GRoute}:∀ {ps:List GPrefix} {o:List GRoute},x ∈ ps.foldl (fun o p => putR ⟨p,A⟩ o) o ↔ (x.Prefix ∈ ps ∧ x.Attrs = A) ∨ (x ∈ o ∧ ¬ x.Prefix ∈ ps)
  | [],o => by simp
  | p :: ps,o => by
    rw [List.foldl_cons,mem_puts,mem_putR,List.mem_cons]
    have e:x = ⟨p,A⟩ ↔ x.Prefix = p ∧ x.Attrs = A:=by
      cases x
      simp
    rw [e]
    show (x.Prefix ∈ ps ∧ x.Attrs = A) ∨ ((x.Prefix = p ∧ x.Attrs = A ∨ x ∈ o ∧ ¬ x.Prefix = p) ∧ ¬ x.Prefix ∈ ps) ↔ _
    generalize (x.Prefix ∈ ps) = P1
    generalize (x.Prefix = p) = P2
    generalize (x.Attrs = A) = P3
    generalize (x ∈ o) = P4
    by_cases h1:P1 <;> by_cases h2:P2 <;> by_cases h3:P3 <;> by_cases h4:P4 <;> simp [h1,h2,h3,h4]
theorem mem_hearL {l:List GRoute} {u:GUpdate} {x:GRoute}:x ∈ hearL l u ↔ (x.Prefix ∈ u.Come ∧ x.Attrs = u.Attrs) ∨ (x ∈ l ∧ ¬ x.Prefix ∈ u.Gone ∧ ¬ x.Prefix ∈ u.Come):=by
  unfold hearL
  rw [mem_puts,List.mem_filter]
  simp [and_assoc]
def hearsL (l:List GRoute) (us:List GUpdate):List GRoute:=us.foldl hearL l
theorem hrI_hears {l:List GRoute} {us:List GUpdate}:∀ {n:Nat} {o:List GRoute},hrI l us n = some o → o = hearsL l (us.take n)
  | 0,o,h => by
    simp only [hrI,Option.some.injEq] at h
    rw [← h]
    rfl
  | n + 1,o,h => by
    simp only [hrI] at h
    split at h
    · cases h
    · rename_i o' ho'
      split at h
      · cases h
      · rename_i u hu
        split at h
        · cases h
          rw [hrI_hears ho',List.take_succ_eq_append_getElem (List.getElem?_eq_some_iff.1 hu).1]
          unfold hearsL
          rw [List.foldl_append,(List.getElem?_eq_some_iff.1 hu).2]
          rfl
        · cases h
/-- Updates that say one thing of each prefix. -/
def oneU (us:List GUpdate):Prop:=(∀ u ∈ us,∀ v ∈ us,∀ p,p ∈ u.Come → p ∈ v.Come → u.Attrs = v.Attrs) ∧ ∀ u ∈ us,∀ v ∈ us,∀ p,p ∈ u.Come → ¬ p ∈ v.Gone
theorem mem_hears {x:GRoute}:∀ {us:List GUpdate} {l:List GRoute},oneU us → (x ∈ hearsL l us ↔ (∃ u ∈ us,x.Prefix ∈ u.Come ∧ x.Attrs = u.Attrs) ∨ (x ∈ l ∧ ∀ u ∈ us,¬ x.Prefix ∈ u.Gone ∧ ¬ x.Prefix ∈ u.Come))
  | [],l,_ => by simp [hearsL]
  | u :: us,l,h => by
    have ih:=mem_hears (x:=x) (us:=us) (l:=hearL l u) ⟨fun a ha b hb => h.1 a (List.mem_cons_of_mem _ ha) b (List.mem_cons_of_mem _ hb),fun a ha b hb => h.2 a (List.mem_cons_of_mem _ ha) b (List.mem_cons_of_mem _ hb)⟩
    have e:hearsL l (u :: us) = hearsL (hearL l u) us:=rfl
    rw [e,ih,mem_hearL]
    constructor
    · rintro (⟨v,hv,h1⟩ | ⟨h1 | h1,h2⟩)
      · exact .inl ⟨v,List.mem_cons_of_mem _ hv,h1⟩
      · exact .inl ⟨u,by simp,h1⟩
      · refine .inr ⟨h1.1,fun v hv => ?_⟩
        rcases List.mem_cons.1 hv with rfl | hv
        · exact h1.2
        · exact h2 v hv
    · rintro (⟨v,hv,h1⟩ | ⟨h1,h2⟩)
      · rcases List.mem_cons.1 hv with rfl | hv
        · by_cases hx:∃ w ∈ us,x.Prefix ∈ w.Come
          · obtain ⟨w,hw,hxw⟩:=hx
            exact .inl ⟨w,hw,hxw,h1.2.trans (h.1 v (by simp) w (List.mem_cons_of_mem _ hw) _ h1.1 hxw)⟩
          · exact .inr ⟨.inl h1,fun w hw => ⟨h.2 v (by simp) w (List.mem_cons_of_mem _ hw) _ h1.1,fun hc => hx ⟨w,hw,hc⟩⟩⟩
        · exact .inl ⟨v,hv,h1⟩
      · exact .inr ⟨.inr ⟨h1,h2 u (by simp)⟩,fun w hw => h2 w (List.mem_cons_of_mem _ hw)⟩
theorem oneU_mem {us vs:List GUpdate} (h:oneU us) (hs:∀ v ∈ vs,v ∈ us):oneU vs:=⟨fun a ha b hb => h.1 a (hs a ha) b (hs b hb),fun a ha b hb => h.2 a (hs a ha) b (hs b hb)⟩
theorem srt_hears {l:List GRoute} (h:srt l):∀ us:List GUpdate,srt (hearsL l us):=by
  intro us
  induction us generalizing l with
  | nil => exact h
  | cons u us ih =>
    refine ih ?_
    have:=srt_come h u u.Come.length (Nat.le_refl _)
    rwa [comeL_all] at this
theorem srt_uniq {l:List GRoute} (hs:srt l) {x y:GRoute} (hx:x ∈ l) (hy:y ∈ l) (h:x.Prefix = y.Prefix):x = y:=by
  have h1:=((fnd_spec hs).2 x hx rfl).2
  have h2:=((fnd_spec hs).2 y hy rfl).2
  rw [h,h2] at h1
  exact (Option.some.inj h1).symm
theorem srt_ext:∀ {l m:List GRoute},srt l → srt m → (∀ x,x ∈ l ↔ x ∈ m) → l = m
  | [],[],_,_,_ => rfl
  | [],y :: m,_,_,h => by simpa using (h y).2 (by simp)
  | x :: l,[],_,_,h => by simpa using (h x).1 (by simp)
  | x :: l,y :: m,h1,h2,h => by
    have h1':=List.pairwise_cons.1 h1
    have h2':=List.pairwise_cons.1 h2
    have e:x = y:=by
      rcases List.mem_cons.1 ((h x).1 (by simp)) with e | hx
      · exact e
      · rcases List.mem_cons.1 ((h y).2 (by simp)) with e | hy
        · exact e.symm
        · exact absurd (ltP_trans (h2'.1 x hx) (h1'.1 y hy)) (ltP_irr _)
    subst e
    rw [srt_ext h1'.2 h2'.2 fun z => ?_]
    constructor
    · intro hz
      rcases List.mem_cons.1 ((h z).1 (List.mem_cons_of_mem _ hz)) with e | hz2
      · subst e; exact absurd (h1'.1 z hz) (ltP_irr _)
      · exact hz2
    · intro hz
      rcases List.mem_cons.1 ((h z).2 (List.mem_cons_of_mem _ hz)) with e | hz2
      · subst e; exact absurd (h2'.1 z hz) (ltP_irr _)
      · exact hz2
/-- The groups hold each number. -/
theorem stepG_has {l:List GRoute} {gs:List (List Int)} {i:Nat} {x:GAttrs}:(∀ y:Int,(∃ g ∈ gs,y ∈ g) → ∃ g ∈ stepG l gs i x,y ∈ g) ∧ ∃ g ∈ stepG l gs i x,(i:Int) ∈ g:=by
  unfold stepG
  split
  · rename_i k hk
    rw [List.findIdx?_eq_some_iff_getElem] at hk
    obtain ⟨hkl,_,_⟩:=hk
    rw [List.getElem?_eq_getElem hkl,Option.getD_some]
    have hmem:gs[k] ++ [(i:Int)] ∈ gs.set k (gs[k] ++ [(i:Int)]):=List.mem_set hkl _
    refine ⟨?_,_,hmem,by simp⟩
    rintro y ⟨g,hg,hy⟩
    obtain ⟨j,hj,rfl⟩:=List.mem_iff_getElem.1 hg
    by_cases hjk:j = k
    · subst hjk
      exact ⟨_,hmem,List.mem_append_left _ hy⟩
    · refine ⟨gs[j],?_,hy⟩
      refine List.mem_iff_getElem.2 ⟨j,by simpa using hj,?_⟩
      rw [List.getElem_set_ne (Ne.symm hjk)]
  · refine ⟨?_,[(i:Int)],List.mem_append_right _ (by simp),by simp⟩
    rintro y ⟨g,hg,hy⟩
    exact ⟨g,List.mem_append_left _ hg,hy⟩
theorem groupsN_has (l:List GRoute):∀ n i:Nat,i < n → i < l.length → ∃ g ∈ groupsN l n,(i:Int) ∈ g
  | 0,i,h,_ => by omega
  | n + 1,i,h,hl => by
    rcases Nat.lt_or_ge n l.length with hn | hn
    · rw [groupsN_succ l n hn]
      by_cases hi:i = n
      · subst hi
        exact stepG_has.2
      · exact stepG_has.1 _ (groupsN_has l n i (by omega) hl)
    · have e:groupsN l (n + 1) = groupsN l n:=by simp [groupsN,List.getElem?_eq_none hn]
      rw [e]
      exact groupsN_has l n i (by omega) hl
theorem mem_partC {α:Type} {g:List α} {x:α}:x ∈ g ↔ ∃ q < partN g,x ∈ partC g q:=by
  constructor
  · intro hx
    obtain ⟨i,hi,rfl⟩:=List.mem_iff_getElem.1 hx
    refine ⟨i / 10,by unfold partN; omega,?_⟩
    unfold partC
    refine List.mem_iff_getElem.2 ⟨i % 10,by rw [List.length_take,List.length_drop]; omega,?_⟩
    rw [List.getElem_take,List.getElem_drop]
    congr 1
    omega
  · rintro ⟨q,_,hx⟩
    exact List.mem_of_mem_drop (List.mem_of_mem_take hx)
theorem partC_ne {α:Type} {g:List α} {q:Nat} (h:q < partN g):partC g q ≠ []:=by
  intro e
  have:=partC_len g q
  rw [e] at this
  unfold partN at h
  simp at this
  omega
theorem stepG_asc {l:List GRoute} {gs:List (List Int)} {i:Nat} {x:GAttrs} (hok:gOK i gs) (h:∀ g ∈ gs,g.Pairwise (· < ·)):∀ g ∈ stepG l gs i x,g.Pairwise (· < ·):=by
  unfold stepG
  split
  · rename_i k hk
    rw [List.findIdx?_eq_some_iff_getElem] at hk
    obtain ⟨hkl,_,_⟩:=hk
    rw [List.getElem?_eq_getElem hkl,Option.getD_some]
    intro g hg
    rcases List.mem_or_eq_of_mem_set hg with hg | rfl
    · exact h g hg
    · refine List.pairwise_append.2 ⟨h _ (List.getElem_mem hkl),List.pairwise_singleton _ _,fun a ha b hb => ?_⟩
      rw [List.mem_singleton] at hb
      subst hb
      exact ((hok.2 _ (List.getElem_mem hkl)).2.2 a ha).2
  · intro g hg
    rcases List.mem_append.1 hg with hg | hg
    · exact h g hg
    · rw [List.mem_singleton] at hg
      subst hg
      exact List.pairwise_singleton _ _
theorem groupsN_asc (l:List GRoute):∀ i,∀ g ∈ groupsN l i,g.Pairwise (· < ·)
  | 0,g,hg => by simp [groupsN] at hg
  | i + 1,g,hg => by
    unfold groupsN at hg
    split at hg
    · exact stepG_asc (groupsN_ok l i) (groupsN_asc l i) g hg
    · exact groupsN_asc l i g hg
theorem partC_sub {α:Type} (g:List α) (q:Nat):(partC g q).Sublist g:=(List.take_sublist _ _).trans (List.drop_sublist _ _)
theorem updA_come {C:List GRoute} {g:List Int} (hg:sameG C g) {q:Nat} {p:GPrefix} (h:p ∈ (updA C g q).Come):(⟨p,(updA C g q).Attrs⟩:GRoute) ∈ C:=by
  obtain ⟨i,hi,rfl⟩:=List.mem_map.1 h
  obtain ⟨r,hr,ha⟩:=hg.2 i ((partC_sub g q).subset hi)
  have e:prefAt C i = r.Prefix:=by unfold prefAt; rw [hr]
  show (⟨prefAt C i,attrAt C g⟩:GRoute) ∈ C
  rw [e,← ha]
  exact List.mem_of_getElem? hr
theorem mem_upds1 {C:List GRoute} {G:List (List Int)} {u:GUpdate}:u ∈ upds1 C G ↔ ∃ g ∈ G,∃ q < partN g,u = updA C g q:=by
  unfold upds1 updsG
  rw [List.mem_flatMap]
  constructor
  · rintro ⟨g,hg,h⟩
    obtain ⟨q,hq,rfl⟩:=List.mem_map.1 h
    exact ⟨g,hg,q,List.mem_range.1 hq,rfl⟩
  · rintro ⟨g,hg,q,hq,rfl⟩
    exact ⟨g,hg,List.mem_map.2 ⟨q,List.mem_range.2 hq,rfl⟩⟩
theorem upds1_has {C:List GRoute} {r:GRoute} (h:r ∈ C):∃ u ∈ upds1 C (groupsL C),r.Prefix ∈ u.Come ∧ r.Attrs = u.Attrs:=by
  obtain ⟨i,hi,rfl⟩:=List.mem_iff_getElem.1 h
  obtain ⟨g,hg,hig⟩:=groupsN_has C C.length i hi hi
  obtain ⟨q,hq,hiq⟩:=mem_partC.1 hig
  obtain ⟨r,hr,ha⟩:=(groupsN_same C _ g hg).2 _ hig
  have e:C[(i:Int).toNat]? = some C[i]:=List.getElem?_eq_getElem hi
  rw [e] at hr
  cases hr
  refine ⟨_,mem_upds1.2 ⟨g,hg,q,hq,rfl⟩,List.mem_map.2 ⟨(i:Int),hiq,?_⟩,ha⟩
  unfold prefAt
  rw [e]
def wU (o:List GUpdate) (k:Nat):GUpdate:=(o[k]?).getD ⟨[],zeroA,[]⟩
theorem putGs_get (D:List GPrefix) (o:List GUpdate):∀ n k:Nat,(putGs D o n)[k]? = if k < n then some ⟨partC D k,(wU o k).Attrs,(wU o k).Come⟩ else o[k]?
  | 0,k => by simp [putGs]
  | n + 1,k => by
    have ih:=putGs_get D o n
    have hge:=putGs_ge D o n
    simp only [putGs]
    unfold putG
    have hn:=ih n
    rw [if_neg (Nat.lt_irrefl n)] at hn
    split
    · rename_i u hu
      rw [hn] at hu
      rw [List.getElem?_set]
      by_cases hk:n = k
      · subst hk
        have hl:n < (putGs D o n).length:=by
          rw [← hn] at hu
          exact (List.getElem?_eq_some_iff.1 hu).1
        rw [if_pos rfl,if_pos hl,if_pos (by omega)]
        simp [wU,hu]
      · rw [if_neg hk,ih k]
        by_cases h:k < n
        · rw [if_pos h,if_pos (by omega)]
        · rw [if_neg h,if_neg (by omega)]
    · rename_i hu
      have hlen:(putGs D o n).length = n:=by
        rw [List.getElem?_eq_none_iff] at hu
        omega
      rw [hn] at hu
      by_cases h:k < n
      · rw [List.getElem?_append_left (by omega),ih k,if_pos h,if_pos (by omega)]
      · rw [List.getElem?_append_right (by omega),hlen]
        by_cases hk:k = n
        · subst hk
          simp [wU,hu]
        · have h1:=ih k
          rw [if_neg h,List.getElem?_eq_none (by omega)] at h1
          rw [if_neg (by omega),← h1,List.getElem?_eq_none (by simp; omega)]
theorem tell_come {a b:List GRoute} {x:GRoute}:(∃ u ∈ tellL a b,x.Prefix ∈ u.Come ∧ x.Attrs = u.Attrs) ↔ x ∈ comeT a b:=by
  constructor
  · rintro ⟨u,hu,h1,h2⟩
    obtain ⟨k,hk,rfl⟩:=List.mem_iff_getElem.1 hu
    have e:=putGs_get (goneT a b) (upds1 (comeT a b) (groupsL (comeT a b))) (partN (goneT a b)) k
    have e2:(tellL a b)[k]? = some (tellL a b)[k]:=List.getElem?_eq_getElem hk
    generalize (tellL a b)[k] = u at e2 h1 h2
    unfold tellL at e2
    rw [e] at e2
    have key:∃ v ∈ upds1 (comeT a b) (groupsL (comeT a b)),x.Prefix ∈ v.Come ∧ x.Attrs = v.Attrs:=by
      split at e2
      · have e3:=(Option.some.inj e2).symm
        have hc:x.Prefix ∈ (wU (upds1 (comeT a b) (groupsL (comeT a b))) k).Come:=by
          have:u.Come = (wU (upds1 (comeT a b) (groupsL (comeT a b))) k).Come:=by rw [e3]
          rwa [← this]
        have ha:u.Attrs = (wU (upds1 (comeT a b) (groupsL (comeT a b))) k).Attrs:=by rw [e3]
        refine ⟨_,?_,hc,h2.trans ha⟩
        unfold wU at hc ⊢
        cases ho:(upds1 (comeT a b) (groupsL (comeT a b)))[k]? with
        | none => rw [ho] at hc; simp at hc
        | some v => exact List.mem_of_getElem? ho
      · exact ⟨_,List.mem_of_getElem? e2,h1,h2⟩
    obtain ⟨v,hv,h3,h4⟩:=key
    obtain ⟨g,hg,q,hq,rfl⟩:=mem_upds1.1 hv
    have:=updA_come (groupsN_same _ _ g hg) h3
    rw [← h4] at this
    exact this
  · intro h
    obtain ⟨v,hv,h3,h4⟩:=upds1_has h
    obtain ⟨k,hk,rfl⟩:=List.mem_iff_getElem.1 hv
    have e:=putGs_get (goneT a b) (upds1 (comeT a b) (groupsL (comeT a b))) (partN (goneT a b)) k
    rw [List.getElem?_eq_getElem hk] at e
    split at e
    · refine ⟨_,List.mem_of_getElem? e,?_⟩
      simp only [wU,List.getElem?_eq_getElem hk,Option.getD_some]
      exact ⟨h3,h4⟩
    · exact ⟨_,List.mem_of_getElem? e,h3,h4⟩
theorem upds1_gone {C:List GRoute} {G:List (List Int)} {u:GUpdate} (h:u ∈ upds1 C G):u.Gone = [] ∧ u.Come ≠ []:=by
  obtain ⟨g,hg,q,hq,rfl⟩:=mem_upds1.1 h
  exact ⟨rfl,fun e => partC_ne hq (List.map_eq_nil_iff.1 e)⟩
/-- What an update of a telling is. -/
theorem tell_cases {a b:List GRoute} {u:GUpdate} (h:u ∈ tellL a b):((∃ k < partN (goneT a b),u.Gone = partC (goneT a b) k) ∨ u.Gone = []) ∧ ((∃ v ∈ upds1 (comeT a b) (groupsL (comeT a b)),u.Attrs = v.Attrs ∧ u.Come = v.Come) ∨ (u.Attrs = zeroA ∧ u.Come = [] ∧ u.Gone ≠ [])):=by
  obtain ⟨k,hk,rfl⟩:=List.mem_iff_getElem.1 h
  have e:=putGs_get (goneT a b) (upds1 (comeT a b) (groupsL (comeT a b))) (partN (goneT a b)) k
  have e2:(tellL a b)[k]? = some (tellL a b)[k]:=List.getElem?_eq_getElem hk
  generalize (tellL a b)[k] = u at e2
  unfold tellL at e2
  rw [e] at e2
  split at e2
  · rename_i hkn
    have e3:=(Option.some.inj e2).symm
    subst e3
    refine ⟨.inl ⟨k,hkn,rfl⟩,?_⟩
    cases ho:(upds1 (comeT a b) (groupsL (comeT a b)))[k]? with
    | none => exact .inr ⟨by simp [wU,ho],by simp [wU,ho],partC_ne hkn⟩
    | some v => exact .inl ⟨v,List.mem_of_getElem? ho,by simp [wU,ho],by simp [wU,ho]⟩
  · have hm:=List.mem_of_getElem? e2
    exact ⟨.inr (upds1_gone hm).1,.inl ⟨u,hm,rfl,rfl⟩⟩
theorem tell_gone {a b:List GRoute} {p:GPrefix}:(∃ u ∈ tellL a b,p ∈ u.Gone) ↔ p ∈ goneT a b:=by
  constructor
  · rintro ⟨u,hu,hp⟩
    rcases (tell_cases hu).1 with ⟨k,_,e⟩ | e
    · rw [e] at hp
      exact (partC_sub _ _).subset hp
    · rw [e] at hp
      cases hp
  · intro h
    obtain ⟨q,hq,hp⟩:=mem_partC.1 h
    have e:=putGs_get (goneT a b) (upds1 (comeT a b) (groupsL (comeT a b))) (partN (goneT a b)) q
    rw [if_pos hq] at e
    exact ⟨_,List.mem_of_getElem? e,hp⟩
theorem tell_ne {a b:List GRoute} {u:GUpdate} (h:u ∈ tellL a b):¬ (u.Gone = [] ∧ u.Come = []):=by
  rintro ⟨h1,h2⟩
  rcases (tell_cases h).2 with ⟨v,hv,_,e⟩ | ⟨_,_,e⟩
  · exact (upds1_gone hv).2 (e ▸ h2)
  · exact e h1
theorem risG_of:∀ (q:Option GPrefix) (l:List GPrefix),l.Pairwise (fun a b => cmpPx a b < 0) → (∀ x ∈ l,goodPx x = true) → (∀ x ∈ l,adjPx q x = true) → risG q l = true
  | _,[],_,_,_ => rfl
  | q,x :: l,h1,h2,h3 => by
    have h1':=List.pairwise_cons.1 h1
    simp only [risG,Bool.and_eq_true]
    exact ⟨⟨h2 x (by simp),h3 x (by simp)⟩,risG_of (some x) l h1'.2 (fun y hy => h2 y (List.mem_cons_of_mem _ hy)) fun y hy => by simpa [adjPx] using h1'.1 y hy⟩
theorem comeT_b {a b:List GRoute} {x:GRoute} (h:x ∈ comeT a b):x ∈ b ∧ ¬ x ∈ a:=by
  unfold comeT at h
  obtain ⟨h1,h2⟩:=List.mem_filter.1 h
  exact ⟨h1,by simpa using h2⟩
theorem mem_goneT {a b:List GRoute} {p:GPrefix}:p ∈ goneT a b ↔ (∃ x ∈ a,x.Prefix = p) ∧ inT b p = false:=by
  unfold goneT
  rw [List.mem_map]
  constructor
  · rintro ⟨x,hx,rfl⟩
    obtain ⟨h1,h2⟩:=List.mem_filter.1 hx
    exact ⟨⟨x,h1,rfl⟩,by simpa using h2⟩
  · rintro ⟨⟨x,hx,rfl⟩,h⟩
    exact ⟨x,List.mem_filter.2 ⟨hx,by simp [h]⟩,rfl⟩
theorem inT_of {b:List GRoute} {x:GRoute} (h:x ∈ b):inT b x.Prefix = true:=List.any_eq_true.2 ⟨x,h,by simp⟩
theorem upds1_come_srt {C:List GRoute} (hC:srt C) {u:GUpdate} (h:u ∈ upds1 C (groupsL C)):u.Come.Pairwise (fun a b => cmpPx a b < 0):=by
  obtain ⟨g,hg,q,hq,rfl⟩:=mem_upds1.1 h
  have hasc:=(groupsN_asc C _ g hg).sublist (partC_sub g q)
  show ((partC g q).map (prefAt C)).Pairwise _
  rw [List.pairwise_map]
  refine hasc.imp_of_mem fun {x y} hx hy hxy => ?_
  have hb:=(groupsN_ok C C.length).2 g hg
  have b1:=hb.2.2 x ((partC_sub g q).subset hx)
  have b2:=hb.2.2 y ((partC_sub g q).subset hy)
  obtain ⟨m,rfl⟩:=Int.eq_ofNat_of_zero_le b1.1
  obtain ⟨n,rfl⟩:=Int.eq_ofNat_of_zero_le b2.1
  have hm:m < C.length:=by omega
  have hn:n < C.length:=by omega
  have e1:prefAt C (m:Int) = C[m].Prefix:=by
    unfold prefAt
    rw [show (m:Int).toNat = m from rfl,List.getElem?_eq_getElem hm]
  have e2:prefAt C (n:Int) = C[n].Prefix:=by
    unfold prefAt
    rw [show (n:Int).toNat = n from rfl,List.getElem?_eq_getElem hn]
  rw [e1,e2]
  exact (List.pairwise_iff_getElem.1 hC) m n hm hn (by omega)
theorem goodA_zero:goodA zeroA = true:=by decide
theorem tell_good {a b:List GRoute} (ha:goodRs a = true) (hb:goodRs b = true) {u:GUpdate} (h:u ∈ tellL a b):goodU u = true:=by
  obtain ⟨⟨sa,ga⟩,_⟩:=goodRs_L ha
  obtain ⟨⟨sb,gb⟩,_⟩:=goodRs_L hb
  obtain ⟨c1,c2⟩:=tell_cases h
  have hs:=(tellL_small ha hb).1 u h
  have hC:srt (comeT a b):=srt_del sb _
  have hD:(goneT a b).Pairwise (fun a b => cmpPx a b < 0):=by
    unfold goneT
    rw [List.pairwise_map]
    exact srt_del sa _
  have hG:risG none u.Gone = true:=by
    refine risG_of _ _ ?_ ?_ fun _ _ => rfl
    · rcases c1 with ⟨k,_,e⟩ | e
      · rw [e]; exact hD.sublist (partC_sub _ _)
      · rw [e]; exact List.Pairwise.nil
    · intro x hx
      obtain ⟨⟨y,hy,rfl⟩,_⟩:=mem_goneT.1 (tell_gone.1 ⟨u,h,hx⟩)
      have:=ga y hy
      simp only [goodR,Bool.and_eq_true] at this
      exact this.1
  have hcm:∀ p ∈ u.Come,(⟨p,u.Attrs⟩:GRoute) ∈ comeT a b:=fun p hp => tell_come.1 ⟨u,h,hp,rfl⟩
  have hH:risG none u.Come = true:=by
    refine risG_of _ _ ?_ ?_ fun _ _ => rfl
    · rcases c2 with ⟨v,hv,_,e⟩ | ⟨_,e,_⟩
      · rw [e]; exact upds1_come_srt hC hv
      · rw [e]; exact List.Pairwise.nil
    · intro x hx
      have:=gb _ (comeT_b (hcm x hx)).1
      simp only [goodR,Bool.and_eq_true] at this
      exact this.1
  have hA:goodA u.Attrs = true:=by
    rcases c2 with ⟨v,hv,e1,e2⟩ | ⟨e,_,_⟩
    · cases hc:u.Come with
      | nil => exact absurd (e2 ▸ hc) (upds1_gone hv).2
      | cons p t =>
        have:=gb _ (comeT_b (hcm p (by rw [hc]; simp))).1
        simp only [goodR,Bool.and_eq_true] at this
        exact this.2
    · rw [e]; exact goodA_zero
  simp only [goodU,goodPs,Bool.and_eq_true,hG,hH,hA,hs.1,hs.2.1,decide_true,and_self,true_and,List.all_eq_true,Bool.or_eq_true,decide_eq_true_eq]
  refine ⟨fun p hp => ?_,?_⟩
  · have h1:=inT_of (comeT_b (hcm p hp)).1
    have h2:¬ p ∈ u.Gone:=fun hg => by
      have:=(mem_goneT.1 (tell_gone.1 ⟨u,h,hg⟩)).2
      rw [this] at h1
      cases h1
    simp [h2]
  · rcases c2 with ⟨v,hv,e1,e2⟩ | ⟨e,_,_⟩
    · exact .inl (e2 ▸ (upds1_gone hv).2)
    · exact .inr e
theorem tell_one {a b:List GRoute} (sb:srt b):oneU (tellL a b):=by
  refine ⟨fun u hu v hv p h1 h2 => ?_,fun u hu v hv p h1 h2 => ?_⟩
  · have k1:(⟨p,u.Attrs⟩:GRoute) ∈ comeT a b:=tell_come.1 ⟨u,hu,h1,rfl⟩
    have k2:(⟨p,v.Attrs⟩:GRoute) ∈ comeT a b:=tell_come.1 ⟨v,hv,h2,rfl⟩
    exact congrArg GRoute.Attrs (srt_uniq sb (comeT_b k1).1 (comeT_b k2).1 rfl)
  · have k1:(⟨p,u.Attrs⟩:GRoute) ∈ comeT a b:=tell_come.1 ⟨u,hu,h1,rfl⟩
    have h1:=inT_of (comeT_b k1).1
    have h3:=(mem_goneT.1 (tell_gone.1 ⟨v,hv,h2⟩)).2
    rw [h3] at h1
    cases h1
/-- Who hears what is told comes to the new table, in whatever order. -/
theorem hears_tell {a b:List GRoute} (sa:srt a) (sb:srt b) {us:List GUpdate} (hus:∀ u,u ∈ us ↔ u ∈ tellL a b):hearsL a us = b:=by
  have ho:oneU us:=oneU_mem (tell_one sb) fun v hv => (hus v).1 hv
  refine srt_ext (srt_hears sa us) sb fun x => ?_
  rw [mem_hears ho]
  have hc:(∃ u ∈ us,x.Prefix ∈ u.Come ∧ x.Attrs = u.Attrs) ↔ x ∈ comeT a b:=by
    rw [← tell_come]
    constructor
    · rintro ⟨u,hu,h⟩; exact ⟨u,(hus u).1 hu,h⟩
    · rintro ⟨u,hu,h⟩; exact ⟨u,(hus u).2 hu,h⟩
  rw [hc]
  constructor
  · rintro (h | ⟨h1,h2⟩)
    · exact (comeT_b h).1
    · by_cases hi:inT b x.Prefix = true
      · obtain ⟨y,hy,e⟩:=List.any_eq_true.1 hi
        have e:=of_decide_eq_true e
        by_cases hya:y ∈ a
        · rw [← srt_uniq sa hya h1 e]
          exact hy
        · have:y ∈ comeT a b:=List.mem_filter.2 ⟨hy,by simp [hya]⟩
          obtain ⟨u,hu,hu1,_⟩:=tell_come.2 this
          rw [e] at hu1
          exact absurd hu1 (h2 u ((hus u).2 hu)).2
      · have:x.Prefix ∈ goneT a b:=mem_goneT.2 ⟨⟨x,h1,rfl⟩,by simpa using hi⟩
        obtain ⟨u,hu,hp⟩:=tell_gone.2 this
        exact absurd hp (h2 u ((hus u).2 hu)).1
  · intro h
    by_cases hxa:x ∈ a
    · refine .inr ⟨hxa,fun u hu => ⟨fun hg => ?_,fun hcm => ?_⟩⟩
      · have h1:=(mem_goneT.1 (tell_gone.1 ⟨u,(hus u).1 hu,hg⟩)).2
        rw [inT_of h] at h1
        cases h1
      · have k1:(⟨x.Prefix,u.Attrs⟩:GRoute) ∈ comeT a b:=tell_come.1 ⟨u,(hus u).1 hu,hcm,rfl⟩
        have e:=srt_uniq sb (comeT_b k1).1 h rfl
        rw [e] at k1
        exact (comeT_b k1).2 hxa
    · exact .inl (List.mem_filter.2 ⟨h,by simp [hxa]⟩)
theorem nd_len {α:Type} [DecidableEq α]:∀ (l m:List α),l.Nodup → (∀ x ∈ l,x ∈ m) → l.length ≤ m.length
  | [],_,_,_ => Nat.zero_le _
  | x :: l,m,h,hs => by
    have h':=List.nodup_cons.1 h
    have ih:=nd_len l (m.erase x) h'.2 fun y hy => (List.mem_erase_of_ne (fun (e:y = x) => h'.1 (e ▸ hy))).2 (hs y (List.mem_cons_of_mem _ hy))
    have hx:=hs x (by simp)
    rw [List.length_erase_of_mem hx] at ih
    have:=List.length_pos_of_mem hx
    simp only [List.length_cons]
    omega
theorem hears_len {a b:List GRoute} (sa:srt a) (sb:srt b) {us:List GUpdate} (hus:∀ u ∈ us,u ∈ tellL a b):(hearsL a us).length ≤ a.length + b.length:=by
  have ho:oneU us:=oneU_mem (tell_one sb) hus
  have h1:=nd_len ((hearsL a us).map GRoute.Prefix) ((a ++ b).map GRoute.Prefix) ?_ ?_
  · simpa using h1
  · rw [List.nodup_iff_pairwise_ne,List.pairwise_map]
    refine List.Pairwise.imp (R:=fun x y:GRoute => cmpPx x.Prefix y.Prefix < 0) ?_ (srt_hears sa us)
    intro x y h e
    rw [e] at h
    exact ltP_irr _ h
  · intro p hp
    obtain ⟨x,hx,rfl⟩:=List.mem_map.1 hp
    refine List.mem_map.2 ?_
    rcases (mem_hears ho).1 hx with ⟨u,hu,h2,h3⟩ | ⟨h2,_⟩
    · exact ⟨x,List.mem_append_right _ (comeT_b (tell_come.1 ⟨u,hus u hu,h2,h3⟩)).1,rfl⟩
    · exact ⟨x,List.mem_append_left _ h2,rfl⟩
theorem hrI_tell {a b:List GRoute} (sa:srt a) (sb:srt b) (hl:a.length + b.length ≤ 20):∀ n,n ≤ (tellL a b).length → hrI a (tellL a b) n = some (hearsL a ((tellL a b).take n))
  | 0,_ => by simp [hrI,hearsL]
  | n + 1,h => by
    have hn:n < (tellL a b).length:=h
    have e:hearL (hearsL a ((tellL a b).take n)) (tellL a b)[n] = hearsL a ((tellL a b).take (n + 1)):=by
      rw [List.take_succ_eq_append_getElem hn]
      unfold hearsL
      rw [List.foldl_append]
      rfl
    simp only [hrI,hrI_tell sa sb hl n (by omega),List.getElem?_eq_getElem hn,e]
    have:=hears_len sa sb (us:=(tellL a b).take (n + 1)) fun u hu => List.mem_of_mem_take hu
    rw [if_pos (by omega)]
theorem hearAll_two {a:List GRoute} {us:List GUpdate} (h:(rHearAll a us).2 = true):(rHearAll a us).1 = hearsL a us:=by
  unfold rHearAll at h ⊢
  split
  · rename_i hg
    rw [if_pos hg] at h
    split
    · rename_i o ho
      have:=hrI_hears ho
      rw [List.take_length] at this
      exact this
    · rename_i ho
      rw [ho] at h
      cases h
  · rename_i hg
    rw [if_neg hg] at h
    cases h
theorem tell_may {a b:List GRoute} (ha:goodRs a = true) (hb:goodRs b = true) (hl:a.length + b.length ≤ 20):(rHearAll a (tellL a b)).2 = true:=by
  obtain ⟨⟨sa,_⟩,_⟩:=goodRs_L ha
  obtain ⟨⟨sb,_⟩,_⟩:=goodRs_L hb
  unfold rHearAll
  have h1:=(tellL_small ha hb).2
  rw [if_pos ⟨ha,by omega,List.all_eq_true.2 fun u hu => tell_good ha hb hu⟩,hrI_tell sa sb hl _ (Nat.le_refl _)]
theorem tell_nil {a b:List GRoute} (sa:srt a) (sb:srt b):tellL a b = [] ↔ a = b:=by
  constructor
  · intro h
    have:=hears_tell sa sb (us:=[]) fun u => by rw [h]
    exact this
  · rintro rfl
    have h1:comeT a a = []:=List.eq_nil_iff_forall_not_mem.2 fun x hx => (comeT_b hx).2 (comeT_b hx).1
    have h2:goneT a a = []:=List.eq_nil_iff_forall_not_mem.2 fun p hp => by
      obtain ⟨⟨x,hx,rfl⟩,h⟩:=mem_goneT.1 hp
      rw [inT_of hx] at h
      cases h
    unfold tellL
    rw [h1,h2]
    rfl
end Go.V
