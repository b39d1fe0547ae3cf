/- What functions of the seat's program do, each proved of its code, under the bounds that its theorem names. -/
import Derived.Test.YtdelgkhoahmnfaaGreatTau
set_option linter.all false
namespace Go.V
open Go.Proofs
set_option maxHeartbeats 1000000
set_option maxRecDepth 10000
set_option linter.unusedSimpArgs false
set_option linter.unusedVariables false
theorem ok_lsameRoute (k k':Nat) (r:GRoute) (hr:attrOK r.Attrs):CallOK Tryz.prog 112 [.agg (GRoute.ci k r),.agg (GRoute.ci k' r)] (.c (pb true)) [.agg (GRoute.ci k r),.agg (GRoute.ci k' r)]:=by
  have hq:=ok_sameAttrsG k k' r.Attrs r.Attrs hr hr
  rw [decide_eq_true rfl] at hq
  refine okS (fn:=Tryz.f112) [] h0 Tryz.func112 (by kernel_rfl) rfl Tryz.ntmps112 Tryz.results112 (by simp) ?_
  simp
  refine Inv_intro hq ?_
  simp
theorem ok_sameRoutes (k k':Nat) (l:List GRoute) (hl1:l.length ≤ 140737488351232) (hl2:∀ r ∈ l,attrOK r.Attrs):CallOK Tryz.prog 61 [.c (rd k l.length (l.flatMap (GRoute.ci k))),.c (rd k' l.length (l.flatMap (GRoute.ci k')))] (.c (pb true)) [.c (rd k l.length (l.flatMap (GRoute.ci k))),.c (rd k' l.length (l.flatMap (GRoute.ci k')))]:=by
  refine okS (fn:=Tryz.f61) [] h0 Tryz.func61 (by kernel_rfl) rfl Tryz.ntmps61 Tryz.results61 (by simp) ?_
  simp
  refine loopS [0,1,11,12,13] [] (fun m st => ∃ (i:Nat),i + m = l.length ∧ st = ⟨slOf 27 [(0,.t (rd k l.length (l.flatMap (GRoute.ci k)))),(1,.t (rd k' l.length (l.flatMap (GRoute.ci k')))),(11,.t (rd k l.length (l.flatMap (GRoute.ci k)))),(12,.t (pi l.length)),(13,.t (pi i))],ofL []⟩) l.length ?_ ?_
  · rintro Inv hI
    simp
    subst hI
    exact ⟨0,by omega,rfl⟩
  · rintro Inv hI m st ⟨i,hi,rfl⟩
    refine ewr_sound (M:=[]) h0 ?_
    simp
    refine brn_app (fun a => ?_) (fun a => ?_)
    · simp at a
      have hd:=fm_drop (GRoute.ci k) 8 (fun _ => rfl) l i a
      have hlen:=fm_len (GRoute.ci k) 8 (fun _ => rfl) l
      have hd':=fm_drop (GRoute.ci k') 8 (fun _ => rfl) l i a
      have hlen':=fm_len (GRoute.ci k') 8 (fun _ => rfl) l
      have hlt:i * 8 < l.length * 8:=by omega
      have hlt2:i * 8 + 8 ≤ l.length * 8:=by omega
      simp
      refine drawP (tabEnv [] _) [⟨[],allD 27,true⟩,⟨[],allD 27,true⟩,⟨[],allD 27,true⟩,⟨[],allD 27,true⟩,⟨[],allD 27,true⟩,⟨[],allD 27,true⟩,⟨[],allD 27,true⟩,⟨[],allD 27,true⟩,⟨[],allD 27,false⟩,⟨[],allD 27,true⟩] h0 hm (tabEnv_ok (tab_cons (ok_lsameRoute k k' l[i] (hl2 _ (List.getElem_mem a))) tab_nil)) (by kernel_rfl) (by kernel_rfl) ?_
      simp [a,hd,hlen,hd',hlen',hlt,hlt2]
      subst hI
      exact Less_mk (m - 1) (by omega) ⟨i + 1,by omega,by rw [wrNext i (by omega)]⟩
    · simp
theorem brows_at (own:Int):∀ l:List GRow,(browsO own l).length = (browsP own l).length ∧ ∀ i (h1:i < (browsO own l).length) (h2:i < (browsP own l).length),∃ x ∈ l,(browsP own l)[i] = x.Prefix ∧ browO own x = some (browsO own l)[i]
  | [] => by simp [browsO,browsP]
  | x :: l => by
    obtain ⟨g1,g2⟩:=brows_at own l
    have eO:browsO own (x :: l) = (browO own x).toList ++ browsO own l:=rfl
    have eP:browsP own (x :: l) = (if (browO own x).isSome = true then [x.Prefix] else []) ++ browsP own l:=rfl
    rw [eO,eP]
    cases hb:browO own x with
    | none =>
      refine ⟨by simpa using g1,fun i h1 h2 => ?_⟩
      simp at h1 h2 ⊢
      obtain ⟨y,hy,h3,h4⟩:=g2 i h1 h2
      exact .inr ⟨y,hy,h3,h4⟩
    | some o =>
      refine ⟨by simpa using g1,fun i h1 h2 => ?_⟩
      cases i with
      | zero => exact ⟨x,by simp,by simp,by simp [hb]⟩
      | succ i =>
        simp at h1 h2 ⊢
        obtain ⟨y,hy,h3,h4⟩:=g2 i h1 h2
        exact .inr ⟨y,hy,h3,h4⟩
theorem brows_best {r:GRib} (hg:goodRib r = true) (i:Nat) (h1:i < (browsO r.Own r.Rows).length) (h2:i < (browsP r.Own r.Rows).length):bestAtG r (browsP r.Own r.Rows)[i] = some (browsO r.Own r.Rows)[i]:=by
  obtain ⟨x,hx,e1,e2⟩:=(brows_at r.Own r.Rows).2 i h1 h2
  have hp:=(goodRow_spec.1 ((goodRib_gW hg).1.2 x hx)).1
  unfold bestAtG
  obtain ⟨j,hj,rfl⟩:=List.mem_iff_getElem.1 hx
  rw [e1,if_pos ⟨hg,hp⟩,bestR_row hg j hj]
  exact e2
theorem pw_ext {α:Type} {R:α → α → Prop} (hi:∀ a,¬ R a a) (ht:∀ a b c,R a b → R b c → R a c):∀ {l m:List α},l.Pairwise R → m.Pairwise R → (∀ x,x ∈ l ↔ x ∈ m) → l = m
  | [],[],_,_,_ => rfl
  | [],y :: m,_,_,h => by simpa using (h y).2 (by simp)
  | x :: l,[],_,_,h => by simpa using (h x).1 (by simp)
  | x :: l,y :: m,h1,h2,h => by
    have h1':=List.pairwise_cons.1 h1
    have h2':=List.pairwise_cons.1 h2
    have e:x = y:=by
      rcases List.mem_cons.1 ((h x).1 (by simp)) with e | hx
      · exact e
      · rcases List.mem_cons.1 ((h y).2 (by simp)) with e | hy
        · exact e.symm
        · exact absurd (ht _ _ _ (h2'.1 x hx) (h1'.1 y hy)) (hi _)
    subst e
    rw [pw_ext hi ht h1'.2 h2'.2 fun z => ?_]
    constructor
    · intro hz
      rcases List.mem_cons.1 ((h z).1 (List.mem_cons_of_mem _ hz)) with e | hz2
      · subst e; exact absurd (h1'.1 z hz) (hi _)
      · exact hz2
    · intro hz
      rcases List.mem_cons.1 ((h z).2 (List.mem_cons_of_mem _ hz)) with e | hz2
      · subst e; exact absurd (h2'.1 z hz) (hi _)
      · exact hz2
theorem pw_split {α:Type} {R:α → α → Prop} {A B:List α} {x:α} (h:(A ++ x :: B).Pairwise R):(∀ y ∈ A,R y x) ∧ ∀ y ∈ B,R x y:=by
  rw [List.pairwise_append] at h
  exact ⟨fun y hy => h.2.2 y hy x (by simp),(List.pairwise_cons.1 h.2.1).1⟩
theorem cmpPx_irr (p:GPrefix):¬ cmpPx p p < 0:=by
  rw [(cmpPx_eq p p).2 rfl]
  omega
/-- A peer's offer stands for a prefix. -/
def offW (l:List GRow) (q:GPrefix) (o:GOffer):Prop:=∃ x ∈ l,x.Prefix = q ∧ o ∈ x.Offers
theorem offW_app {A B:List GRow} {q:GPrefix} {o:GOffer}:offW (A ++ B) q o ↔ offW A q o ∨ offW B q o:=by
  unfold offW
  constructor
  · rintro ⟨x,hx,h⟩
    rcases List.mem_append.1 hx with hx | hx
    · exact .inl ⟨x,hx,h⟩
    · exact .inr ⟨x,hx,h⟩
  · rintro (⟨x,hx,h⟩ | ⟨x,hx,h⟩)
    · exact ⟨x,List.mem_append_left _ hx,h⟩
    · exact ⟨x,List.mem_append_right _ hx,h⟩
theorem offW_cons {x:GRow} {B:List GRow} {q:GPrefix} {o:GOffer}:offW (x :: B) q o ↔ (x.Prefix = q ∧ o ∈ x.Offers) ∨ offW B q o:=by
  unfold offW
  simp
theorem offW_ne {A:List GRow} {p q:GPrefix} {o:GOffer} (h:∀ y ∈ A,y.Prefix ≠ p) (hw:offW A q o):q ≠ p:=by
  obtain ⟨x,hx,rfl,_⟩:=hw
  exact h x hx
theorem rows_at {l:List GRow} {p:GPrefix} (h:srtW l) (hf:rowIs p l = true):∃ x,l[rowAt p l]? = some x ∧ x.Prefix = p ∧ l = l.take (rowAt p l) ++ x :: l.drop (rowAt p l + 1) ∧ (∀ y ∈ l.take (rowAt p l),y.Prefix ≠ p) ∧ ∀ y ∈ l.drop (rowAt p l + 1),y.Prefix ≠ p:=by
  obtain ⟨hk,he⟩:=rowIs_lt hf
  have e:l = l.take (rowAt p l) ++ l[rowAt p l] :: l.drop (rowAt p l + 1):=by
    rw [List.getElem_cons_drop,List.take_append_drop]
  have h2:=h
  rw [e] at h2
  obtain ⟨g1,g2⟩:=pw_split h2
  refine ⟨l[rowAt p l],List.getElem?_eq_getElem hk,he,e,fun y hy hn => ?_,fun y hy hn => ?_⟩
  · have:=g1 y hy
    rw [hn,he] at this
    exact cmpPx_irr _ this
  · have:=g2 y hy
    rw [hn,he] at this
    exact cmpPx_irr _ this
theorem rows_no {l:List GRow} {p:GPrefix} (h:srtW l) (hf:rowIs p l = false):(∀ y ∈ l.take (rowAt p l),y.Prefix ≠ p) ∧ ∀ y ∈ l.drop (rowAt p l),y.Prefix ≠ p:=by
  obtain ⟨g1,g2⟩:=row_split p l h hf
  refine ⟨fun y hy hn => ?_,fun y hy hn => ?_⟩
  · have:=g1 y hy
    rw [hn] at this
    exact cmpPx_irr _ this
  · have:=g2 y hy
    rw [hn] at this
    exact cmpPx_irr _ this
theorem mem_dropO {n:Int} {l:List GOffer} {o:GOffer}:o ∈ dropO n l ↔ o ∈ l ∧ ¬ o.Peer = n:=by simp [dropO]
theorem offW_dropW {l:List GRow} (h:gW l) (p:GPrefix) (n:Int) (q:GPrefix) (o:GOffer):offW (dropW p n l) q o ↔ offW l q o ∧ ¬ (q = p ∧ o.Peer = n):=by
  unfold dropW
  cases hf:rowIs p l with
  | false =>
    obtain ⟨g1,g2⟩:=rows_no h.1 hf
    have e:=(List.take_append_drop (rowAt p l) l).symm
    simp only [Bool.false_eq_true,if_false]
    refine ⟨fun hw => ⟨hw,fun hn => ?_⟩,And.left⟩
    rw [e,offW_app] at hw
    rcases hw with hw | hw
    · exact offW_ne g1 hw hn.1
    · exact offW_ne g2 hw hn.1
  | true =>
    obtain ⟨x,hx,hxp,e,g1,g2⟩:=rows_at h.1 hf
    have hw0:offW l q o ↔ offW (l.take (rowAt p l)) q o ∨ (x.Prefix = q ∧ o ∈ x.Offers) ∨ offW (l.drop (rowAt p l + 1)) q o:=by
      conv => lhs; rw [e]
      rw [offW_app,offW_cons]
    have hne:offW (l.take (rowAt p l)) q o ∨ offW (l.drop (rowAt p l + 1)) q o → q ≠ p:=fun hw => hw.elim (offW_ne g1) (offW_ne g2)
    rw [hw0,if_pos rfl,hx]
    simp only
    split
    · rename_i hz
      have hz':dropO n x.Offers = []:=List.eq_nil_of_length_eq_zero hz
      have ho:o ∈ x.Offers → o.Peer = n:=fun ho => Classical.byContradiction fun hc => by
        have:=mem_dropO.2 ⟨ho,hc⟩
        rw [hz'] at this
        cases this
      rw [offW_app]
      constructor
      · rintro (hw | hw)
        · exact ⟨.inl hw,fun hn => hne (.inl hw) hn.1⟩
        · exact ⟨.inr (.inr hw),fun hn => hne (.inr hw) hn.1⟩
      · rintro ⟨hw | hw | hw,hn⟩
        · exact .inl hw
        · exact absurd ⟨hw.1.symm.trans hxp,ho hw.2⟩ hn
        · exact .inr hw
    · have hk:rowAt p l < l.length:=(List.getElem?_eq_some_iff.1 hx).1
      rw [List.set_eq_take_append_cons_drop,if_pos hk,offW_app,offW_cons]
      simp only [mem_dropO]
      constructor
      · rintro (hw | ⟨h1,h2,h3⟩ | hw)
        · exact ⟨.inl hw,fun hn => hne (.inl hw) hn.1⟩
        · exact ⟨.inr (.inl ⟨h1,h2⟩),fun hn => h3 hn.2⟩
        · exact ⟨.inr (.inr hw),fun hn => hne (.inr hw) hn.1⟩
      · rintro ⟨hw | ⟨h1,h2⟩ | hw,hn⟩
        · exact .inl hw
        · exact .inr (.inl ⟨h1,h2,fun h3 => hn ⟨h1.symm.trans hxp,h3⟩⟩)
        · exact .inr (.inr hw)
theorem mem_putO {l:List GOffer} (h:l.Pairwise (fun a b => a.Peer < b.Peer)) {o' o:GOffer}:o ∈ putO o' l ↔ o = o' ∨ (o ∈ l ∧ ¬ o.Peer = o'.Peer):=by
  obtain ⟨g1,g2⟩:=put_split o'.Peer l h
  unfold putO
  rw [List.mem_append,List.mem_cons]
  constructor
  · rintro (ho | ho | ho)
    · have:=g1 o ho
      exact .inr ⟨List.mem_of_mem_take ho,by omega⟩
    · exact .inl ho
    · have:=g2 o ho
      exact .inr ⟨List.mem_of_mem_drop ho,by omega⟩
  · rintro (ho | ⟨ho,hn⟩)
    · exact .inr (.inl ho)
    · cases hf:offIs o'.Peer l with
      | false =>
        rw [← List.take_append_drop (offAt o'.Peer l) l] at ho
        rcases List.mem_append.1 ho with h | h
        · exact .inl h
        · exact .inr (.inr (by simpa using h))
      | true =>
        obtain ⟨hk,he⟩:=bsF_lt hf
        rw [← List.take_append_drop (offAt o'.Peer l) l] at ho
        rcases List.mem_append.1 ho with h | h
        · exact .inl h
        · unfold offAt at h ⊢
          rw [← List.getElem_cons_drop hk] at h
          rcases List.mem_cons.1 h with h | h
          · exact absurd (by rw [h]; exact (cmpI_eq _ _).1 he) hn
          · exact .inr (.inr (by simpa using h))
theorem offW_putW {l:List GRow} (h:gW l) (p:GPrefix) (o':GOffer) (q:GPrefix) (o:GOffer):offW (putW p o' l) q o ↔ (q = p ∧ o = o') ∨ (offW l q o ∧ ¬ (q = p ∧ o.Peer = o'.Peer)):=by
  unfold putW
  cases hf:rowIs p l with
  | false =>
    obtain ⟨g1,g2⟩:=rows_no h.1 hf
    have hne:offW (l.take (rowAt p l)) q o ∨ offW (l.drop (rowAt p l)) q o → q ≠ p:=fun hw => hw.elim (offW_ne g1) (offW_ne g2)
    have hw0:offW l q o ↔ offW (l.take (rowAt p l)) q o ∨ offW (l.drop (rowAt p l)) q o:=by
      rw [← offW_app,List.take_append_drop]
    rw [hw0]
    simp only [Bool.false_eq_true,if_false]
    rw [offW_app,offW_cons]
    simp only [List.mem_singleton]
    constructor
    · rintro (hw | ⟨h1,h2⟩ | hw)
      · exact .inr ⟨.inl hw,fun hn => hne (.inl hw) hn.1⟩
      · exact .inl ⟨h1.symm,h2⟩
      · exact .inr ⟨.inr hw,fun hn => hne (.inr hw) hn.1⟩
    · rintro (⟨h1,h2⟩ | ⟨hw | hw,hn⟩)
      · exact .inr (.inl ⟨h1.symm,h2⟩)
      · exact .inl hw
      · exact .inr (.inr hw)
  | true =>
    obtain ⟨x,hx,hxp,e,g1,g2⟩:=rows_at h.1 hf
    have hw0:offW l q o ↔ offW (l.take (rowAt p l)) q o ∨ (x.Prefix = q ∧ o ∈ x.Offers) ∨ offW (l.drop (rowAt p l + 1)) q o:=by
      conv => lhs; rw [e]
      rw [offW_app,offW_cons]
    have hne:offW (l.take (rowAt p l)) q o ∨ offW (l.drop (rowAt p l + 1)) q o → q ≠ p:=fun hw => hw.elim (offW_ne g1) (offW_ne g2)
    have hpw:=(goodOs_pw (goodRow_spec.1 (h.2 x (List.mem_of_getElem? hx))).2.2).1
    have hk:rowAt p l < l.length:=(List.getElem?_eq_some_iff.1 hx).1
    rw [hw0,if_pos rfl,hx]
    simp only
    rw [List.set_eq_take_append_cons_drop,if_pos hk,offW_app,offW_cons]
    simp only [mem_putO hpw]
    constructor
    · rintro (hw | ⟨h1,h2 | ⟨h2,h3⟩⟩ | hw)
      · exact .inr ⟨.inl hw,fun hn => hne (.inl hw) hn.1⟩
      · exact .inl ⟨h1.symm.trans hxp,h2⟩
      · exact .inr ⟨.inr (.inl ⟨h1,h2⟩),fun hn => h3 hn.2⟩
      · exact .inr ⟨.inr (.inr hw),fun hn => hne (.inr hw) hn.1⟩
    · rintro (⟨h1,h2⟩ | ⟨hw | ⟨h1,h2⟩ | hw,hn⟩)
      · exact .inr (.inl ⟨hxp.trans h1.symm,.inl h2⟩)
      · exact .inl hw
      · exact .inr (.inl ⟨h1,.inr ⟨h2,fun h3 => hn ⟨h1.symm.trans hxp,h3⟩⟩⟩)
      · exact .inr (.inr hw)
theorem offW_dropsW (n:Int) (q:GPrefix) (o:GOffer):∀ (ps:List GPrefix) (l:List GRow),gW l → (offW (dropsW n ps l) q o ↔ offW l q o ∧ ¬ (q ∈ ps ∧ o.Peer = n))
  | [],l,_ => by simp [dropsW]
  | p :: ps,l,h => by
    have ih:=offW_dropsW n q o ps (dropW p n l) (gW_drop p n h).1
    have e:dropsW n (p :: ps) l = dropsW n ps (dropW p n l):=rfl
    rw [e,ih,offW_dropW h,List.mem_cons]
    constructor
    · rintro ⟨⟨h1,h2⟩,h3⟩
      exact ⟨h1,fun hn => hn.1.elim (fun e => h2 ⟨e,hn.2⟩) fun e => h3 ⟨e,hn.2⟩⟩
    · rintro ⟨h1,h2⟩
      exact ⟨⟨h1,fun hn => h2 ⟨.inl hn.1,hn.2⟩⟩,fun hn => h2 ⟨.inr hn.1,hn.2⟩⟩
theorem offW_putsW {o':GOffer} (ho:goodO o' = true) (q:GPrefix) (o:GOffer):∀ (ps:List GPrefix) (l:List GRow),(∀ p ∈ ps,goodPx p = true) → gW l → (offW (putsW o' ps l) q o ↔ (q ∈ ps ∧ o = o') ∨ (offW l q o ∧ ¬ (q ∈ ps ∧ o.Peer = o'.Peer)))
  | [],l,_,_ => by simp [putsW]
  | p :: ps,l,hp,h => by
    have ih:=offW_putsW ho q o ps (putW p o' l) (fun x hx => hp x (List.mem_cons_of_mem _ hx)) (gW_put h (hp p (by simp)) ho).1
    have e:putsW o' (p :: ps) l = putsW o' ps (putW p o' l):=rfl
    rw [e,ih,offW_putW h,List.mem_cons]
    by_cases c1:q = p
    · subst c1
      by_cases c2:q ∈ ps
      · by_cases c3:o = o'
        · subst c3; simp [c2]
        · by_cases c4:o.Peer = o'.Peer <;> simp [c2,c3,c4]
      · by_cases c3:o = o'
        · subst c3; simp [c2]
        · by_cases c4:o.Peer = o'.Peer <;> simp [c2,c3,c4]
    · simp [c1]
theorem row_uniq {l:List GRow} (hs:srtW l) {a b:GRow} (ha:a ∈ l) (hb:b ∈ l) (hab:a.Prefix = b.Prefix):a = b:=by
  obtain ⟨A,B,rfl⟩:=List.append_of_mem ha
  obtain ⟨g1,g2⟩:=pw_split hs
  rcases List.mem_append.1 hb with hb | hb
  · have:=g1 b hb
    rw [hab] at this
    exact absurd this (cmpPx_irr _)
  · rcases List.mem_cons.1 hb with hb | hb
    · exact hb.symm
    · have:=g2 b hb
      rw [hab] at this
      exact absurd this (cmpPx_irr _)
theorem gW_ext {l m:List GRow} (hl:gW l) (hm:gW m) (h:∀ q o,offW l q o ↔ offW m q o):l = m:=by
  have key:∀ {l m:List GRow},gW l → gW m → (∀ q o,offW l q o ↔ offW m q o) → ∀ x ∈ l,x ∈ m:=by
    intro l m hl hm h x hx
    have hg:=goodRow_spec.1 (hl.2 x hx)
    obtain ⟨o,ho⟩:=List.exists_mem_of_ne_nil _ hg.2.1
    obtain ⟨y,hy,hyp,hoy⟩:=(h x.Prefix o).1 ⟨x,hx,rfl,ho⟩
    have hgy:=goodRow_spec.1 (hm.2 y hy)
    have e:x.Offers = y.Offers:=by
      refine pw_ext (R:=fun a b:GOffer => a.Peer < b.Peer) (fun a => by omega) (fun a b c h1 h2 => by omega) (goodOs_pw hg.2.2).1 (goodOs_pw hgy.2.2).1 fun z => ?_
      constructor
      · intro hz
        obtain ⟨y',hy',h1,h2⟩:=(h x.Prefix z).1 ⟨x,hx,rfl,hz⟩
        rw [row_uniq hm.1 hy hy' (hyp.trans h1.symm)]
        exact h2
      · intro hz
        obtain ⟨x',hx',h1,h2⟩:=(h x.Prefix z).2 ⟨y,hy,hyp,hz⟩
        rw [row_uniq hl.1 hx hx' h1.symm]
        exact h2
    have exy:x = y:=by
      cases x
      cases y
      simp only at e hyp
      rw [e,hyp]
    rw [exy]
    exact hy
  refine pw_ext (R:=fun a b:GRow => cmpPx a.Prefix b.Prefix < 0) (fun a => cmpPx_irr _) (fun a b c h1 h2 => ltP_trans h1 h2) hl.1 hm.1 fun x => ⟨key hl hm h x,key hm hl (fun q o => (h q o).symm) x⟩
theorem offW_takeW {r:GRib} {n:Int} {u:GUpdate} (hg:goodRib r = true) (hu:goodU u = true) (hn:isPeerB n = true) (q:GPrefix) (o:GOffer):offW (takeW r n u).Rows q o ↔ (q ∈ u.Come ∧ o = ⟨n,u.Attrs⟩) ∨ (offW r.Rows q o ∧ ¬ ((q ∈ u.Gone ∨ q ∈ u.Come) ∧ o.Peer = n)):=by
  obtain ⟨g1,_,_⟩:=goodRib_gW hg
  obtain ⟨h3,_⟩:=gW_drops n u.Gone r.Rows g1
  obtain ⟨_,_,_,k4⟩:=goodU_spec hu
  unfold takeW
  simp only
  rw [offW_putsW (goodU_all hu n hn).1 q o u.Come _ k4 h3,offW_dropsW n q o u.Gone r.Rows g1]
  simp only
  by_cases c1:o.Peer = n
  · by_cases c2:q ∈ u.Gone
    · simp [c1,c2]
    · simp [c1,c2]
  · simp [c1]
theorem takeW_gW {r:GRib} {n:Int} {u:GUpdate} (hg:goodRib r = true) (hu:goodU u = true) (hn:isPeerB n = true):gW (takeW r n u).Rows:=by
  have h:=(gW_take hg hu hn 0 u.Come.length).2.2.1
  rw [List.take_length] at h
  exact h
theorem takeW_comm {r:GRib} {n1 n2:Int} {u1 u2:GUpdate} (hg:goodRib r = true) (hu1:goodU u1 = true) (hn1:isPeerB n1 = true) (hu2:goodU u2 = true) (hn2:isPeerB n2 = true) (h1:goodRib (takeW r n1 u1) = true) (h2:goodRib (takeW r n2 u2) = true) (hne:n1 ≠ n2):takeW (takeW r n1 u1) n2 u2 = takeW (takeW r n2 u2) n1 u1:=by
  have e:(takeW (takeW r n1 u1) n2 u2).Rows = (takeW (takeW r n2 u2) n1 u1).Rows:=by
    refine gW_ext (takeW_gW h1 hu2 hn2) (takeW_gW h2 hu1 hn1) fun q o => ?_
    rw [offW_takeW h1 hu2 hn2,offW_takeW h2 hu1 hn1,offW_takeW hg hu1 hn1,offW_takeW hg hu2 hn2]
    have a1:o = ⟨n1,u1.Attrs⟩ → o.Peer = n1:=fun e => by rw [e]
    have a2:o = ⟨n2,u2.Attrs⟩ → o.Peer = n2:=fun e => by rw [e]
    by_cases c1:o.Peer = n1
    · have c2:¬ o.Peer = n2:=fun e => hne (c1.symm.trans e)
      have c3:¬ o = ⟨n2,u2.Attrs⟩:=fun e => c2 (a2 e)
      simp [c1,c3,hne]
    · have c3:¬ o = ⟨n1,u1.Attrs⟩:=fun e => c1 (a1 e)
      simp [c1,c3]
  have e2:∀ (a:GRib) (n:Int) (u:GUpdate),(takeW a n u).Own = a.Own:=fun _ _ _ => rfl
  have mk:∀ a b:GRib,a.Own = b.Own → a.Rows = b.Rows → a = b:=fun a b h1 h2 => by
    cases a
    cases b
    simp only at h1 h2
    rw [h1,h2]
  exact mk _ _ rfl e
theorem stepT_some {r a:GRib} {n:Int} {u:GUpdate} (h:stepT r n u = some a):goodRib r = true ∧ isPeerB n = true ∧ goodU u = true ∧ goodRib (takeW r n u) = true ∧ a = takeW r n u:=by
  unfold stepT at h
  split at h
  · rename_i h2
    cases h
    unfold rTakeUpdate at h2 ⊢
    split at h2
    · rename_i h3
      rw [if_pos h3]
      exact ⟨h3.1,h3.2.1,h3.2.2.1,h3.2.2.2,rfl⟩
    · simp at h2
  · cases h
theorem stepT_comm {r a b c d:GRib} {n1 n2:Int} {u1 u2:GUpdate} (hne:n1 ≠ n2) (h1:stepT r n1 u1 = some a) (h2:stepT a n2 u2 = some b) (h3:stepT r n2 u2 = some c) (h4:stepT c n1 u1 = some d):b = d:=by
  obtain ⟨g1,g2,g3,g4,rfl⟩:=stepT_some h1
  obtain ⟨_,k2,k3,_,rfl⟩:=stepT_some h2
  obtain ⟨_,_,_,m4,rfl⟩:=stepT_some h3
  obtain ⟨_,_,_,_,rfl⟩:=stepT_some h4
  exact takeW_comm g1 g3 g2 k3 k2 g4 m4 hne
theorem tkI_congr {own:Int} {ps ps':List Int} {us us':List GUpdate} {i:Nat} (h:tkI own ps us i = tkI own ps' us' i):∀ d,(∀ j,i ≤ j → j < i + d → us[j]? = us'[j]? ∧ ps[j]? = ps'[j]?) → tkI own ps us (i + d) = tkI own ps' us' (i + d)
  | 0,_ => h
  | d + 1,he => by
    have ih:=tkI_congr h d fun j h1 h2 => he j h1 (by omega)
    obtain ⟨e1,e2⟩:=he (i + d) (by omega) (by omega)
    rw [← Nat.add_assoc]
    simp only [tkI,ih,e1,e2]
theorem tkI_prev {own:Int} {ps:List Int} {us:List GUpdate} {n:Nat} {r:GRib} (h:tkI own ps us n = some r) (i:Nat) (hi:i ≤ n):∃ a,tkI own ps us i = some a:=by
  cases ha:tkI own ps us i with
  | some a => exact ⟨a,rfl⟩
  | none =>
    rw [tkI_none ha n hi] at h
    cases h
def swapL {α:Type} (l:List α) (k:Nat) (hk:k + 1 < l.length):List α:=(l.set k l[k + 1]).set (k + 1) l[k]
theorem swapL_len {α:Type} (l:List α) (k:Nat) (hk:k + 1 < l.length):(swapL l k hk).length = l.length:=by simp [swapL]
theorem swapL_ne {α:Type} (l:List α) (k:Nat) (hk:k + 1 < l.length) (j:Nat) (h1:j ≠ k) (h2:j ≠ k + 1):(swapL l k hk)[j]? = l[j]?:=by
  unfold swapL
  rw [List.getElem?_set_ne (by omega),List.getElem?_set_ne (by omega)]
theorem swapL_a {α:Type} (l:List α) (k:Nat) (hk:k + 1 < l.length):(swapL l k hk)[k]? = some l[k + 1]:=by
  unfold swapL
  rw [List.getElem?_set_ne (by omega),List.getElem?_set_self (by omega)]
theorem swapL_b {α:Type} (l:List α) (k:Nat) (hk:k + 1 < l.length):(swapL l k hk)[k + 1]? = some l[k]:=by
  unfold swapL
  rw [List.getElem?_set_self (by rw [List.length_set]; omega)]
theorem rTakeAll_some {own:Int} {ps:List Int} {us:List GUpdate} (h:(rTakeAll own ps us).2 = true):∃ r,tkI own ps us us.length = some r ∧ (rTakeAll own ps us).1 = r:=by
  unfold rTakeAll at h ⊢
  split at h
  · rename_i h3
    rw [if_pos h3]
    cases ha:tkI own ps us us.length with
    | some a => exact ⟨a,rfl,rfl⟩
    | none => rw [ha] at h; simp at h
  · simp at h
theorem rTakeAll_comm {own:Int} {ps:List Int} {us:List GUpdate} {k:Nat} (hk:k + 1 < us.length) (hp:k + 1 < ps.length) (hne:ps[k] ≠ ps[k + 1]) (h1:(rTakeAll own ps us).2 = true) (h2:(rTakeAll own (swapL ps k hp) (swapL us k hk)).2 = true):(rTakeAll own (swapL ps k hp) (swapL us k hk)).1 = (rTakeAll own ps us).1:=by
  obtain ⟨r,t1,e1⟩:=rTakeAll_some h1
  obtain ⟨r',t2,e2⟩:=rTakeAll_some h2
  rw [e1,e2]
  rw [swapL_len] at t2
  have hpre:tkI own ps us k = tkI own (swapL ps k hp) (swapL us k hk) k:=by
    have:=tkI_congr (own:=own) (ps:=ps) (ps':=swapL ps k hp) (us:=us) (us':=swapL us k hk) (i:=0) rfl k fun j _ hj => ⟨(swapL_ne us k hk j (by omega) (by omega)).symm,(swapL_ne ps k hp j (by omega) (by omega)).symm⟩
    simpa using this
  obtain ⟨r0,q0⟩:=tkI_prev t1 k (by omega)
  obtain ⟨a,qa⟩:=tkI_prev t1 (k + 1) (by omega)
  obtain ⟨b,qb⟩:=tkI_prev t1 (k + 2) (by omega)
  obtain ⟨c,qc⟩:=tkI_prev t2 (k + 1) (by omega)
  obtain ⟨d,qd⟩:=tkI_prev t2 (k + 2) (by omega)
  have q0':=q0
  rw [hpre] at q0'
  have s1:stepT r0 ps[k] us[k] = some a:=by rw [← qa,tkI_succ q0 (by omega) (by omega)]
  have s2:stepT a ps[k + 1] us[k + 1] = some b:=by rw [← qb,tkI_succ qa (by omega) (by omega)]
  have s3:stepT r0 ps[k + 1] us[k + 1] = some c:=by
    rw [← qc]
    simp only [tkI,q0',swapL_a]
  have s4:stepT c ps[k] us[k] = some d:=by
    rw [← qd]
    have e:tkI own (swapL ps k hp) (swapL us k hk) (k + 2) = tkI own (swapL ps k hp) (swapL us k hk) (k + 1 + 1):=rfl
    rw [e]
    rw [tkI,qc,swapL_b,swapL_b]
  have ebd:=stepT_comm hne s1 s2 s3 s4
  have hpost:=tkI_congr (own:=own) (ps:=ps) (ps':=swapL ps k hp) (us:=us) (us':=swapL us k hk) (i:=k + 2) (by rw [qb,qd,ebd]) (us.length - (k + 2)) fun j hj _ => ⟨(swapL_ne us k hk j (by omega) (by omega)).symm,(swapL_ne ps k hp j (by omega) (by omega)).symm⟩
  rw [show k + 2 + (us.length - (k + 2)) = us.length by omega,t1,t2] at hpost
  exact (Option.some.inj hpost).symm
theorem ok_findOffer (k:Nat) (xs:List GOffer) (n:Int) (hl:xs.length ≤ 140737488351232) (hp:xs.Pairwise (fun a b => a.Peer < b.Peer)):CallOK Tryz.prog 105 [.c (rd k xs.length (xs.flatMap (GOffer.ci k))),.c (pi n)] (.tup [.c (pi (bsI (fun o:GOffer => cmpI o.Peer n) xs)),.c (pb (bsF (fun o:GOffer => cmpI o.Peer n) xs))]) [.c (rd k xs.length (xs.flatMap (GOffer.ci k))),.c (pi n)]:=by
  refine okS (fn:=Tryz.f105) [] h0 Tryz.func105 (by kernel_rfl) rfl Tryz.ntmps105 Tryz.results105 (by simp) ?_
  simp
  refine Inv_intro (ok_BS_Offer k xs n hl (pw_mono hp n)) ?_
  simp
theorem ok_iHeardFrom (k:Nat) (r:GRib) (n:Int) (hr:ribOK r):CallOK Tryz.prog 47 [.agg (GRib.ci k r),.c (pi n)] (.tup [.c (.sl 0 90 (rHeardFrom r n).1.length ((rHeardFrom r n).1.flatMap GRoute.co)),.c (pb (rHeardFrom r n).2)]) [.agg (GRib.ci k r),.c (pi n)]:=by
  refine okS (fn:=Tryz.f47) [] h0 Tryz.func47 (by kernel_rfl) rfl Tryz.ntmps47 Tryz.results47 (by simp) ?_
  simp
  refine Inv_intro (ok_iGoodRib k r hr) ?_
  simp
  cases c1:goodRib r with
  | false => simp [rHeardFrom,c1]
  | true =>
    simp
    refine Inv_intro (ok_isPeer n) ?_
    simp
    cases c2:isPeerB n with
    | false => simp [rHeardFrom,c2]
    | true =>
      obtain ⟨hrl,hrx⟩:=goodRib_rows c1
      have er:rHeardFrom r n = (heardL n r.Rows,true):=by simp [rHeardFrom,c1,c2]
      rw [er]
      generalize hR:r.Rows = l at hrl hrx ⊢
      simp
      refine ewp_sw (.op 3 0 0) (.op 9 12 0) rfl rfl ?_
      simp
      refine loopS [1,6,21,22,23] [.op 9 12 0] (fun m st => ∃ (i:Nat),i + m = l.length ∧ st = ⟨slOf 50 [(1,.t (pi n)),(6,.ref ⟨.op 9 12 0,[]⟩ 0 (heardL n (l.take i)).length),(21,.t (rd k l.length (l.flatMap (GRow.ci k)))),(22,.t (pi l.length)),(23,.t (pi i))],ofL [(.op 9 12 0,.sl 0 90 (heardL n (l.take i)).length ((heardL n (l.take i)).flatMap GRoute.co))]⟩) l.length ?_ ?_
      · rintro Inv hI
        simp
        subst hI
        exact ⟨0,by omega,by simp [heardL]⟩
      · rintro Inv hI m st ⟨i,hi,rfl⟩
        have hO:(heardL n (l.take i)).length ≤ i:=by
          have:=heardL_len n (l.take i) fun x hx => (hrx x (List.mem_of_mem_take hx)).1
          rw [List.length_take] at this
          omega
        have hS:=heardL_snoc n l i
        generalize hOe:heardL n (l.take i) = O at hO hS ⊢
        have hA:=fm_len GRoute.co 8 (fun _ => rfl) O
        have hAm:∀ y,(O ++ [y]).flatMap GRoute.co = O.flatMap GRoute.co ++ GRoute.co y:=fun y => by simp
        generalize hAe:O.flatMap GRoute.co = A at hA hAm ⊢
        refine ewr_sound (M:=[]) h0 ?_
        simp
        refine brn_app (fun a => ?_) (fun a => ?_)
        · simp at a
          have hd:=fm_drop (GRow.ci k) 3 (fun _ => rfl) l i a
          have hlen:=fm_len (GRow.ci k) 3 (fun _ => rfl) l
          have hlt:i * 3 < l.length * 3:=by omega
          obtain ⟨hp,hg⟩:=hrx _ (List.getElem_mem a)
          have hxl:l[i].Offers.length ≤ 140737488351232:=(hr.2 l[i] (by rw [hR]; exact List.getElem_mem a)).1
          have hS':=hS a
          simp [a,hd,hlen,hlt]
          refine Inv_intro (ok_findOffer k l[i].Offers n hxl hp) ?_
          have hbs:=ofPeer_bs n l[i].Offers hp
          simp
          refine brn_app (fun b => ?_) (fun b => ?_)
          · rw [if_pos b] at hbs
            have hex:bsI (fun o:GOffer => cmpI o.Peer n) l[i].Offers < l[i].Offers.length:=by
              unfold bsF at b
              split at b
              · rename_i h; exact (List.getElem?_eq_some_iff.1 h).1
              · cases b
            generalize bsI (fun o:GOffer => cmpI o.Peer n) l[i].Offers = q at hbs hex ⊢
            rw [List.getElem?_eq_getElem hex] at hbs
            have hh:heardR n l[i] = [routeOf l[i] l[i].Offers[q]]:=by rw [heardR,hbs]; rfl
            rw [hh] at hS'
            have hgl:=goodO_len (hg _ (List.getElem_mem hex))
            have hdq:=fm_drop (GOffer.ci k) 7 (fun _ => rfl) l[i].Offers q hex
            have hlenq:=fm_len (GOffer.ci k) 7 (fun _ => rfl) l[i].Offers
            have hltq:q * 7 < l[i].Offers.length * 7:=by omega
            have hb1:(O.length + 1) * 96 ≤ 140737488355328:=by omega
            have hb2:O.length ≤ 9223372036854775806:=by omega
            have ht:A.take (O.length * 8) = A:=List.take_of_length_le (by omega)
            refine drawP (tabEnv [] _) [⟨[.op 9 12 0],allD 50,true⟩,⟨[.op 6 2 0],allD 50,true⟩,⟨[.op 6 2 0],allD 50,true⟩,⟨[.op 6 2 0],allD 50,true⟩,⟨[.op 6 2 0],allD 50,true⟩,⟨[],allD 50,true⟩,⟨[],allD 50,true⟩,⟨[],allD 50,true⟩,⟨[],allD 50,true⟩,⟨[],allD 50,false⟩,⟨[.op 9 9 1,.op 9 9 5],allD 50,true⟩,⟨[.op 9 9 1,.op 9 9 5,.op 9 10 0],[35,36,37,38,39,40,41,42,43,44,45,46,47,6],false⟩,⟨[.op 9 12 0,.op 9 11 0],[35,36,37,38,39,40,41,42,43,44,45,46,47,6],false⟩,⟨[.op 9 12 0],allD 50,true⟩] h0 hm (tabEnv_ok (tab_cons (ok_ownAttrs k l[i].Offers[q].Attrs (by omega) (by omega)) tab_nil)) (by kernel_rfl) (by kernel_rfl) ?_
            simp [hA,hb1,hb2,ht,hex,hdq,hlenq,hltq]
            subst hI
            refine Less_mk (m - 1) (by omega) ⟨i + 1,by omega,?_⟩
            rw [wrNext i (by omega),hS']
            simp [hAm,hAe,routeOf]
          · rw [if_neg (by rw [b]; exact Bool.false_ne_true)] at hbs
            have hh:heardR n l[i] = []:=by rw [heardR,hbs]; rfl
            rw [hh,List.append_nil] at hS'
            simp
            subst hI
            refine Less_mk (m - 1) (by omega) ⟨i + 1,by omega,?_⟩
            rw [wrNext i (by omega),hS',hAe]
        · simp at a
          have ht:List.take i l = l:=List.take_of_length_le (by omega)
          rw [ht] at hOe
          subst hOe
          have hA':A.take ((heardL n l).length * 8) = A:=List.take_of_length_le (by omega)
          simp [hA,hA',hAe]
end Go.V
