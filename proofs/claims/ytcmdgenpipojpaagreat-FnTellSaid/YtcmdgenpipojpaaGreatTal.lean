/- What functions of the seat's program do, each proved of its code, under the bounds that its theorem names. -/
import Derived.Test.YtcmdgenpipojpaaGreatTak
set_option linter.all false
namespace Go.V
open Go.Proofs
set_option maxHeartbeats 1000000
set_option maxRecDepth 10000
set_option linter.unusedSimpArgs false
set_option linter.unusedVariables false
theorem ok_sameRoute (k k':Nat) (a b:GRoute) (ha:attrOK a.Attrs) (hb:attrOK b.Attrs):CallOK Tryz.prog 24 [.agg (GRoute.ci k a),.agg (GRoute.ci k' b)] (.c (pb (decide (a = b)))) [.agg (GRoute.ci k a),.agg (GRoute.ci k' b)]:=by
  refine okS (fn:=Tryz.f24) [] h0 Tryz.func24 (by kernel_rfl) rfl Tryz.ntmps24 Tryz.results24 (by simp) ?_
  have e:decide (a = b) = (decide (a.Prefix = b.Prefix) && decide (a.Attrs = b.Attrs)):=by
    cases a
    cases b
    simp
  have e2:decide (a.Prefix = b.Prefix) = (decide (a.Prefix.Addr = b.Prefix.Addr) && decide (a.Prefix.Len = b.Prefix.Len)):=by
    cases a.Prefix
    cases b.Prefix
    simp
  rw [e,e2]
  by_cases c1:a.Prefix.Addr = b.Prefix.Addr
  · by_cases c2:a.Prefix.Len = b.Prefix.Len
    · simp [c1,c2]
      refine Inv_intro (ok_sameAttrs k k' a.Attrs b.Attrs ha hb) ?_
      simp
    · simp [c1,c2]
  · simp [c1]
theorem ok_EqualFunc_Route (k k':Nat) (xs ys:List GRoute) (hx:routesOK xs) (hy:routesOK ys):CallOK Tryz.prog 31 [.c (rd k xs.length (xs.flatMap (GRoute.ci k))),.c (rd k' ys.length (ys.flatMap (GRoute.ci k'))),.c (.fn 0 24 [])] (.c (pb (decide (xs = ys)))) [.c (rd k xs.length (xs.flatMap (GRoute.ci k))),.c (rd k' ys.length (ys.flatMap (GRoute.ci k'))),.c (.fn 0 24 [])]:=by
  obtain ⟨hxl,hxx⟩:=hx
  obtain ⟨hyl,hyy⟩:=hy
  refine okS (fn:=Tryz.f31) [] h0 Tryz.func31 (by kernel_rfl) rfl Tryz.ntmps31 Tryz.results31 (by simp) ?_
  simp
  refine brn_app (fun h => ?_) (fun h => ?_)
  · simp at h
    simp
    rintro rfl
    exact h rfl
  · simp at h
    have hl:ys.length = xs.length:=by omega
    simp
    refine loopS [1,2,15,16,17] [] (fun n st => ∃ (i:Nat),i + n = xs.length ∧ (xs.drop i = ys.drop i ↔ xs = ys) ∧ st = ⟨slOf 32 [(1,.t (rd k' ys.length (ys.flatMap (GRoute.ci k')))),(2,.t (.fn 0 24 [])),(15,.t (rd k xs.length (xs.flatMap (GRoute.ci k)))),(16,.t (pi xs.length)),(17,.t (pi i))],ofL []⟩) xs.length ?_ ?_
    · rintro Inv hI
      simp
      subst hI
      exact ⟨0,by omega,by simp,rfl⟩
    · rintro Inv hI n st ⟨i,hi,htk,rfl⟩
      refine ewr_sound (M:=[]) h0 ?_
      simp
      refine brn_app (fun h => ?_) (fun h => ?_)
      · simp at h
        have hib:i < ys.length:=by omega
        rw [drop_step xs i h,drop_step ys i hib,List.cons.injEq] at htk
        have hd:=fm_drop (GRoute.ci k) 8 (fun _ => rfl) xs i h
        have hlen:=fm_len (GRoute.ci k) 8 (fun _ => rfl) xs
        have hlt:i * 8 < xs.length * 8:=by omega
        have hd':=fm_drop (GRoute.ci k') 8 (fun _ => rfl) ys i hib
        have hlen':=fm_len (GRoute.ci k') 8 (fun _ => rfl) ys
        have hlt':i * 8 < ys.length * 8:=by omega
        simp [h,hd,hlen,hlt,hib,hd',hlen',hlt']
        refine Inv_intro (ok_sameRoute k k' xs[i] ys[i] (hxx _ (List.getElem_mem h)) (hyy _ (List.getElem_mem hib))) ?_
        simp
        refine brn_app (fun h2 => ?_) (fun h2 => ?_)
        · simp at h2
          simp
          intro he
          exact h2 (htk.2 he).1
        · simp at h2
          simp
          subst hI
          exact Less_mk (n - 1) (by omega) ⟨i + 1,by omega,⟨fun h4 => htk.1 ⟨h2,h4⟩,fun h4 => (htk.2 h4).2⟩,by rw [wrNext i (by omega)]⟩
      · simp at h
        rw [List.drop_of_length_le (by omega),List.drop_of_length_le (by omega)] at htk
        simp
        exact htk.1 rfl
theorem ok_l10Same (k k':Nat) (xs ys:List Int) (ha:xs.length ≤ 140737488351232) (hb:ys.length ≤ 140737488351232):CallOK Tryz.prog 98 [.c (rd k xs.length (xs.map pi)),.c (rd k' ys.length (ys.map pi))] (.c (pb (decide (xs = ys)))) [.c (rd k xs.length (xs.map pi)),.c (rd k' ys.length (ys.map pi))]:=by
  refine okS (fn:=Tryz.f98) [] h0 Tryz.func98 (by kernel_rfl) rfl Tryz.ntmps98 Tryz.results98 (by simp) ?_
  simp
  refine brn_app (fun h => ?_) (fun h => ?_)
  · simp at h
    simp
    rintro rfl
    exact h rfl
  · simp at h
    have hl:ys.length = xs.length:=by omega
    simp
    refine loopS [0,1,12,13] [] (fun n st => ∃ (i:Nat),i + n = xs.length ∧ (xs.drop i = ys.drop i ↔ xs = ys) ∧ st = ⟨slOf 26 [(0,.t (rd k xs.length (xs.map pi))),(1,.t (rd k' ys.length (ys.map pi))),(12,.t (pi xs.length)),(13,.t (pi i))],ofL []⟩) xs.length ?_ ?_
    · rintro Inv hI
      simp
      subst hI
      exact ⟨0,by omega,by simp,rfl⟩
    · rintro Inv hI n st ⟨i,hi,htk,rfl⟩
      refine ewr_sound (M:=[]) h0 ?_
      simp
      refine brn_app (fun h => ?_) (fun h => ?_)
      · simp at h
        have hib:i < ys.length:=by omega
        rw [drop_step xs i h,drop_step ys i hib,List.cons.injEq] at htk
        simp
        refine drawP E0 [⟨[],allD 26,true⟩,⟨[],allD 26,true⟩,⟨[],allD 26,true⟩,⟨[],allD 26,true⟩,⟨[],allD 26,true⟩,⟨[],allD 26,true⟩,⟨[],allD 26,true⟩,⟨[],allD 26,true⟩,⟨[],allD 26,true⟩] h0 hm (E0_ok _) (by kernel_rfl) (by kernel_rfl) ?_
        simp [h,hib]
        refine brn_app (fun h2 => ?_) (fun h2 => ?_)
        · simp at h2
          simp
          intro he
          exact h2 (htk.2 he).1
        · simp at h2
          simp
          subst hI
          exact Less_mk (n - 1) (by omega) ⟨i + 1,by omega,⟨fun h4 => htk.1 ⟨h2,h4⟩,fun h4 => (htk.2 h4).2⟩,by rw [wrNext i (by omega)]⟩
      · simp at h
        rw [List.drop_of_length_le (by omega),List.drop_of_length_le (by omega)] at htk
        simp
        exact htk.1 rfl
theorem attrs_ext2 (a b:GAttrs):decide (a = b) = (decide (a.Origin = b.Origin) && (decide (a.Next = b.Next) && (decide (a.Med = b.Med) && (decide (a.Pref = b.Pref) && (decide (a.Path = b.Path) && decide (a.Comms = b.Comms)))))):=by
  rw [attrs_ext]
  cases decide (a.Path = b.Path) <;> simp
theorem ok_l13SameAttrs (k k':Nat) (a b:GAttrs) (ha:attrOK a) (hb:attrOK b):CallOK Tryz.prog 71 [.agg (GAttrs.ci k a),.agg (GAttrs.ci k' b)] (.c (pb (decide (a = b)))) [.agg (GAttrs.ci k a),.agg (GAttrs.ci k' b)]:=by
  refine okS (fn:=Tryz.f71) [] h0 Tryz.func71 (by kernel_rfl) rfl Tryz.ntmps71 Tryz.results71 (by simp) ?_
  rw [attrs_ext2]
  by_cases c1:a.Origin = b.Origin
  · by_cases c3:a.Next = b.Next
    · by_cases c4:a.Med = b.Med
      · by_cases c5:a.Pref = b.Pref
        · simp [c1,c3,c4,c5]
          refine Inv_intro (ok_l10Same k k' a.Path b.Path ha.1 hb.1) ?_
          by_cases c2:a.Path = b.Path
          · simp [c2]
            refine Inv_intro (ok_l10Same k k' a.Comms b.Comms ha.2 hb.2) ?_
            simp
          · simp [c2]
        · simp [c1,c3,c4,c5]
      · simp [c1,c3,c4]
    · simp [c1,c3]
  · simp [c1]
theorem ok_l14Same (k k':Nat) (a b:GRoute) (ha:attrOK a.Attrs) (hb:attrOK b.Attrs):CallOK Tryz.prog 32 [.agg (GRoute.ci k a),.agg (GRoute.ci k' b)] (.c (pb (decide (a = b)))) [.agg (GRoute.ci k a),.agg (GRoute.ci k' b)]:=by
  refine okS (fn:=Tryz.f32) [] h0 Tryz.func32 (by kernel_rfl) rfl Tryz.ntmps32 Tryz.results32 (by simp) ?_
  have e:decide (a = b) = (decide (a.Prefix = b.Prefix) && decide (a.Attrs = b.Attrs)):=by
    cases a
    cases b
    simp
  have e2:decide (a.Prefix = b.Prefix) = (decide (a.Prefix.Addr = b.Prefix.Addr) && decide (a.Prefix.Len = b.Prefix.Len)):=by
    cases a.Prefix
    cases b.Prefix
    simp
  rw [e,e2]
  by_cases c1:a.Prefix.Addr = b.Prefix.Addr
  · by_cases c2:a.Prefix.Len = b.Prefix.Len
    · simp [c1,c2]
      refine Inv_intro (ok_l13SameAttrs k k' a.Attrs b.Attrs ha hb) ?_
      simp
    · simp [c1,c2]
  · simp [c1]
def rSameRoutes (a b:List GRoute):Bool × Bool:=if (goodRs a && goodRs b) = true then (decide (a = b),true) else (false,false)
theorem law_iSameRoutes (v0 v1:List GRoute) (hw0:wt_RouteS v0 ≤ 1048576) (hw1:wt_RouteS v1 ≤ 1048576):CallOK Tryz.prog 7 [.c (rd 0 v0.length (v0.flatMap (GRoute.ci 0))),.c (rd 0 v1.length (v1.flatMap (GRoute.ci 0)))] (.tup [.c (pb (rSameRoutes v0 v1).1),.c (pb (rSameRoutes v0 v1).2)]) [.c (rd 0 v0.length (v0.flatMap (GRoute.ci 0))),.c (rd 0 v1.length (v1.flatMap (GRoute.ci 0)))]:=by
  refine okS (fn:=Tryz.f7) [] h0 Tryz.func7 (by kernel_rfl) rfl Tryz.ntmps7 Tryz.results7 (by simp) ?_
  simp
  refine Inv_intro (ok_iGoodRoutes 0 v0 (routes_ok hw0)) ?_
  simp
  cases c1:goodRs v0 with
  | false => simp [rSameRoutes,c1]
  | true =>
    simp
    refine Inv_intro (ok_iGoodRoutes 0 v1 (routes_ok hw1)) ?_
    simp
    cases c2:goodRs v1 with
    | false => simp [rSameRoutes,c2]
    | true =>
      simp
      refine Inv_intro (ok_EqualFunc_Route 0 0 v0 v1 (routes_ok hw0) (routes_ok hw1)) ?_
      simp [rSameRoutes,c1,c2]
theorem law_sSameRoutes (v0 v1:List GRoute) (hw0:wt_RouteS v0 ≤ 1048576) (hw1:wt_RouteS v1 ≤ 1048576):CallOK Tryz.prog 8 [.c (rd 0 v0.length (v0.flatMap (GRoute.ci 0))),.c (rd 0 v1.length (v1.flatMap (GRoute.ci 0)))] (.tup [.c (pb (rSameRoutes v0 v1).1),.c (pb (rSameRoutes v0 v1).2)]) [.c (rd 0 v0.length (v0.flatMap (GRoute.ci 0))),.c (rd 0 v1.length (v1.flatMap (GRoute.ci 0)))]:=by
  obtain ⟨hxl,hxx⟩:=routes_ok hw0
  obtain ⟨hyl,hyy⟩:=routes_ok hw1
  refine okS (fn:=Tryz.f8) [] h0 Tryz.func8 (by kernel_rfl) rfl Tryz.ntmps8 Tryz.results8 (by simp) ?_
  simp
  refine Inv_intro (ok_sGoodRoutes 0 v0 (routes_ok hw0)) ?_
  simp
  cases c1:goodRs v0 with
  | false => simp [rSameRoutes,c1]
  | true =>
    simp
    refine Inv_intro (ok_sGoodRoutes 0 v1 (routes_ok hw1)) ?_
    simp
    cases c2:goodRs v1 with
    | false => simp [rSameRoutes,c2]
    | true =>
      have er:rSameRoutes v0 v1 = (decide (v0 = v1),true):=by simp [rSameRoutes,c1,c2]
      rw [er]
      simp
      refine brn_app (fun h => ?_) (fun h => ?_)
      · simp at h
        simp
        rintro rfl
        exact h rfl
      · simp at h
        have hl:v1.length = v0.length:=by omega
        simp
        refine loopS [0,1,20,21,22] [] (fun n st => ∃ (i:Nat),i + n = v0.length ∧ (v0.drop i = v1.drop i ↔ v0 = v1) ∧ st = ⟨slOf 36 [(0,.t (rd 0 v0.length (v0.flatMap (GRoute.ci 0)))),(1,.t (rd 0 v1.length (v1.flatMap (GRoute.ci 0)))),(20,.t (rd 0 v0.length (v0.flatMap (GRoute.ci 0)))),(21,.t (pi v0.length)),(22,.t (pi i))],ofL []⟩) v0.length ?_ ?_
        · rintro Inv hI
          simp
          subst hI
          exact ⟨0,by omega,by simp,rfl⟩
        · rintro Inv hI n st ⟨i,hi,htk,rfl⟩
          refine ewr_sound (M:=[]) h0 ?_
          simp
          refine brn_app (fun h => ?_) (fun h => ?_)
          · simp at h
            have hib:i < v1.length:=by omega
            rw [drop_step v0 i h,drop_step v1 i hib,List.cons.injEq] at htk
            have hd:=fm_drop (GRoute.ci 0) 8 (fun _ => rfl) v0 i h
            have hlen:=fm_len (GRoute.ci 0) 8 (fun _ => rfl) v0
            have hlt:i * 8 < v0.length * 8:=by omega
            have hd':=fm_drop (GRoute.ci 0) 8 (fun _ => rfl) v1 i hib
            have hlen':=fm_len (GRoute.ci 0) 8 (fun _ => rfl) v1
            have hlt':i * 8 < v1.length * 8:=by omega
            simp
            refine drawP (tabEnv [] _) [⟨[],allD 36,true⟩,⟨[],allD 36,true⟩,⟨[],allD 36,true⟩,⟨[],allD 36,true⟩,⟨[],allD 36,true⟩,⟨[],allD 36,true⟩,⟨[],allD 36,true⟩,⟨[],allD 36,true⟩,⟨[],allD 36,false⟩,⟨[],allD 36,true⟩] h0 hm (tabEnv_ok (tab_cons (ok_l14Same 0 0 v0[i] v1[i] (hxx _ (List.getElem_mem h)) (hyy _ (List.getElem_mem hib))) tab_nil)) (by kernel_rfl) (by kernel_rfl) ?_
            simp [h,hd,hlen,hlt,hib,hd',hlen',hlt']
            refine brn_app (fun h2 => ?_) (fun h2 => ?_)
            · simp at h2
              simp
              intro he
              exact h2 (htk.2 he).1
            · simp at h2
              simp
              subst hI
              exact Less_mk (n - 1) (by omega) ⟨i + 1,by omega,⟨fun h4 => htk.1 ⟨h2,h4⟩,fun h4 => (htk.2 h4).2⟩,by rw [wrNext i (by omega)]⟩
          · simp at h
            rw [List.drop_of_length_le (by omega),List.drop_of_length_le (by omega)] at htk
            simp
            exact htk.1 rfl
def muC (n:Nat) (a:Act):Nat:=match (a.tmps[4]?:Option Value) with
  | some (Value.int _ i) => n - i.toNat
  | _ => 0
def minN (n i:Nat):Nat:=min 10 (n - i * 10)
def pG (l:List GRoute) (x:GAttrs) (g:List Int):Bool:=match g with
  | h :: _ => match l[h.toNat]? with
    | some r => decide (r.Attrs = x)
    | none => false
  | [] => false
def stepG (l:List GRoute) (gs:List (List Int)) (i:Nat) (x:GAttrs):List (List Int):=match gs.findIdx? (pG l x) with
  | some k => gs.set k ((gs[k]?.getD []) ++ [(i:Int)])
  | none => gs ++ [[(i:Int)]]
def groupsN (l:List GRoute):Nat → List (List Int)
  | 0 => []
  | i + 1 => match l[i]? with
    | some r => stepG l (groupsN l i) i r.Attrs
    | none => groupsN l i
def groupsL (l:List GRoute):List (List Int):=groupsN l l.length
def gOK (n:Nat) (gs:List (List Int)):Prop:=gs.length ≤ n ∧ ∀ g ∈ gs,(∃ h t,g = h :: t) ∧ g.length ≤ n ∧ ∀ h ∈ g,0 ≤ h ∧ h < n
theorem stepG_ok (l:List GRoute) (gs:List (List Int)) (i:Nat) (x:GAttrs) (h:gOK i gs):gOK (i + 1) (stepG l gs i x):=by
  obtain ⟨h1,h2⟩:=h
  unfold stepG
  split
  · rename_i k hk
    rw [List.findIdx?_eq_some_iff_getElem] at hk
    obtain ⟨hkl,_,_⟩:=hk
    refine ⟨by simp; omega,fun g hg => ?_⟩
    rcases List.mem_or_eq_of_mem_set hg with hg | hg
    · obtain ⟨a,b,c⟩:=h2 g hg
      exact ⟨a,by omega,fun h hh => by have:=c h hh; omega⟩
    · subst hg
      rw [List.getElem?_eq_getElem hkl,Option.getD_some]
      obtain ⟨⟨u,t,e⟩,b,c⟩:=h2 _ (List.getElem_mem hkl)
      refine ⟨⟨u,t ++ [(i:Int)],by rw [e]; rfl⟩,by simp; omega,fun h hh => ?_⟩
      rcases List.mem_append.1 hh with hh | hh
      · have:=c h hh; omega
      · simp only [List.mem_singleton] at hh; omega
  · refine ⟨by simp; omega,fun g hg => ?_⟩
    rcases List.mem_append.1 hg with hg | hg
    · obtain ⟨a,b,c⟩:=h2 g hg
      exact ⟨a,by omega,fun h hh => by have:=c h hh; omega⟩
    · simp only [List.mem_singleton] at hg
      subst hg
      exact ⟨⟨_,_,rfl⟩,by simp,fun h hh => by simp only [List.mem_singleton] at hh; omega⟩
theorem groupsN_ok (l:List GRoute):∀ i,gOK i (groupsN l i)
  | 0 => ⟨by simp [groupsN],by simp [groupsN]⟩
  | i + 1 => by
    unfold groupsN
    split
    · exact stepG_ok l _ i _ (groupsN_ok l i)
    · obtain ⟨h1,h2⟩:=groupsN_ok l i
      exact ⟨by omega,fun g hg => let ⟨a,b,c⟩:=h2 g hg; ⟨a,by omega,fun h hh => by have:=c h hh; omega⟩⟩
theorem groupsN_succ (l:List GRoute) (i:Nat) (h:i < l.length):groupsN l (i + 1) = stepG l (groupsN l i) i l[i].Attrs:=by
  simp [groupsN,List.getElem?_eq_getElem h]
theorem ok_groupsOf1 (q k k2:Nat) (l:List GRoute) (hl:routesOK l) (r:GRoute) (hr:attrOK r.Attrs) (g:List Int) (hg:∃ h t,g = h :: t ∧ 0 ≤ h ∧ h < l.length):CallOK Tryz.prog 64 [.c (rd k g.length (g.map pi)),.ip q [rd k2 l.length (l.flatMap (GRoute.ci k2))],.ip q (GRoute.ci k2 r)] (.c (pb (pG l r.Attrs g))) [.c (rd k g.length (g.map pi)),.ip q [rd k2 l.length (l.flatMap (GRoute.ci k2))],.ip q (GRoute.ci k2 r)]:=by
  obtain ⟨h,t,rfl,hh0,hhl⟩:=hg
  have hn:h.toNat < l.length:=by omega
  have e:pG l r.Attrs (h :: t) = decide (l[h.toNat].Attrs = r.Attrs):=by simp only [pG,List.getElem?_eq_getElem hn]
  have hd:=fm_drop (GRoute.ci k2) 8 (fun _ => rfl) l h.toNat hn
  have hlen:=fm_len (GRoute.ci k2) 8 (fun _ => rfl) l
  have hlt:h.toNat * 8 < l.length * 8:=by omega
  refine okS (fn:=Tryz.f64) [] h0 Tryz.func64 (by kernel_rfl) rfl Tryz.ntmps64 Tryz.results64 (by simp) ?_
  simp
  refine drawP (tabEnv [] _) [⟨[],allD 15,true⟩,⟨[],allD 15,true⟩,⟨[],allD 15,true⟩,⟨[],allD 15,true⟩,⟨[],allD 15,true⟩,⟨[],allD 15,true⟩,⟨[],allD 15,true⟩,⟨[],allD 15,true⟩,⟨[],allD 15,true⟩,⟨[],allD 15,false⟩,⟨[],allD 15,true⟩] h0 hm (tabEnv_ok (tab_cons (ok_sameAttrs k2 k2 l[h.toNat].Attrs r.Attrs (hl.2 _ (List.getElem_mem hn)) hr) tab_nil)) (by kernel_rfl) (by kernel_rfl) ?_
  simp [hh0,hhl,hn,hd,hlen,hlt,e]
theorem bsF_at {α:Type} {c:α → Int} {l:List α} (h:bsF c l = true):∃ hl:bsI c l < l.length,c l[bsI c l] = 0:=by
  unfold bsF at h
  split at h
  · rename_i x hx
    obtain ⟨hl,he⟩:=List.getElem?_eq_some_iff.1 hx
    exact ⟨hl,by rw [he]; simpa using h⟩
  · cases h
/-- Where a prefix stands among routes. -/
theorem fnd_spec {p:GPrefix}:∀ {l:List GRoute},srt l → (fnd p l = true → ∃ h:kAt p l < l.length,l[kAt p l].Prefix = p) ∧ (∀ r ∈ l,r.Prefix = p → fnd p l = true ∧ l[kAt p l]? = some r):=by
  intro l hs
  constructor
  · intro h
    unfold fnd at h
    obtain ⟨hl,he⟩:=bsF_at h
    exact ⟨hl,(cmpPx_eq _ _).1 he⟩
  · intro r hr hp
    obtain ⟨i,hi,rfl⟩:=List.mem_iff_getElem.1 hr
    have hk:kAt p l = i:=bsI_eq (fun x:GRoute => cmpPx x.Prefix p) l i (by omega) (fun m hm hl => by
      rw [← hp]
      exact (List.pairwise_iff_getElem.1 hs) m i hl hi hm) (fun h => by
      have:=(cmpPx_eq l[i].Prefix p).2 hp
      omega)
    refine ⟨?_,by rw [hk]; exact List.getElem?_eq_getElem hi⟩
    unfold fnd bsF
    have hk':bsI (fun x:GRoute => cmpPx x.Prefix p) l = i:=hk
    rw [hk',List.getElem?_eq_getElem hi]
    simpa using (cmpPx_eq _ _).2 hp
def inT (l:List GRoute) (p:GPrefix):Bool:=l.any fun x => decide (x.Prefix = p)
theorem fnd_in {p:GPrefix} {l:List GRoute} (hs:srt l):fnd p l = inT l p:=by
  rw [Bool.eq_iff_iff]
  unfold inT
  rw [List.any_eq_true]
  constructor
  · intro h
    obtain ⟨hl,he⟩:=(fnd_spec hs).1 h
    exact ⟨_,List.getElem_mem hl,by simpa using he⟩
  · rintro ⟨x,hx,he⟩
    exact ((fnd_spec hs).2 x hx (by simpa using he)).1
/-- A route stands among others as it is. -/
theorem fnd_mem {r:GRoute} {l:List GRoute} (hs:srt l):(fnd r.Prefix l = true ∧ l[kAt r.Prefix l]? = some r) ↔ r ∈ l:=by
  constructor
  · rintro ⟨_,h⟩
    exact List.mem_of_getElem? h
  · intro h
    exact (fnd_spec hs).2 r h rfl
def goneT (old now:List GRoute):List GPrefix:=(old.filter fun r => !inT now r.Prefix).map GRoute.Prefix
def comeT (old now:List GRoute):List GRoute:=now.filter fun r => !decide (r ∈ old)
theorem goneT_len (old now:List GRoute):(goneT old now).length ≤ old.length:=by
  unfold goneT
  rw [List.length_map]
  exact List.length_filter_le _ _
theorem comeT_len (old now:List GRoute):(comeT old now).length ≤ now.length:=List.length_filter_le _ _
theorem goneT_snoc (old now:List GRoute) (i:Nat) (h:i < old.length):goneT (old.take (i + 1)) now = goneT (old.take i) now ++ (if inT now old[i].Prefix = true then [] else [old[i].Prefix]):=by
  unfold goneT
  rw [take_step old i h,List.filter_append,List.map_append]
  cases hh:inT now old[i].Prefix <;> simp [hh]
theorem comeT_snoc (old now:List GRoute) (i:Nat) (h:i < now.length):comeT old (now.take (i + 1)) = comeT old (now.take i) ++ (if now[i] ∈ old then [] else [now[i]]):=by
  unfold comeT
  rw [take_step now i h,List.filter_append]
  by_cases hh:now[i] ∈ old <;> simp [hh]
/-- The parts of a row, ten at a time. -/
def partC {α:Type} (g:List α) (i:Nat):List α:=(g.drop (i * 10)).take 10
def partN {α:Type} (g:List α):Nat:=(g.length + 9) / 10
def prefAt (C:List GRoute) (i:Int):GPrefix:=match C[i.toNat]? with
  | some r => r.Prefix
  | none => ⟨0,0⟩
def attrAt (C:List GRoute) (g:List Int):GAttrs:=match g with
  | h :: _ => (match C[h.toNat]? with
    | some r => r.Attrs
    | none => zeroA)
  | [] => zeroA
def updA (C:List GRoute) (g:List Int) (i:Nat):GUpdate:=⟨[],attrAt C g,(partC g i).map (prefAt C)⟩
def updsG (C:List GRoute) (g:List Int):List GUpdate:=(List.range (partN g)).map (updA C g)
def upds1 (C:List GRoute) (G:List (List Int)):List GUpdate:=G.flatMap (updsG C)
theorem upds1_snoc (C:List GRoute) (G:List (List Int)) (i:Nat) (h:i < G.length):upds1 C (G.take (i + 1)) = upds1 C (G.take i) ++ updsG C G[i]:=by
  unfold upds1
  rw [take_step G i h,List.flatMap_append]
  simp
theorem updsG_step (C:List GRoute) (g:List Int) (i:Nat):(List.range (i + 1)).map (updA C g) = (List.range i).map (updA C g) ++ [updA C g i]:=by
  rw [List.range_succ,List.map_append]
  rfl
def putG (o:List GUpdate) (k:Nat) (p:List GPrefix):List GUpdate:=match o[k]? with
  | some u => o.set k ⟨p,u.Attrs,u.Come⟩
  | none => o ++ [⟨p,zeroA,[]⟩]
def putGs (gone:List GPrefix) (o:List GUpdate):Nat → List GUpdate
  | 0 => o
  | i + 1 => putG (putGs gone o i) i (partC gone i)
def tellL (old now:List GRoute):List GUpdate:=putGs (goneT old now) (upds1 (comeT old now) (groupsL (comeT old now))) (partN (goneT old now))
def rTellFrom (v0 v1:List GRoute):List GUpdate × Bool:=if goodRs v0 = true ∧ goodRs v1 = true then (tellL v0 v1,true) else ([],false)
theorem putG_len (o:List GUpdate) (k:Nat) (p:List GPrefix):(putG o k p).length = if k < o.length then o.length else o.length + 1:=by
  unfold putG
  split
  · rename_i u hu
    rw [if_pos (List.getElem?_eq_some_iff.1 hu).1,List.length_set]
  · rename_i hn
    rw [if_neg (by rw [List.getElem?_eq_none_iff] at hn; omega),List.length_append]
    rfl
theorem putGs_ge (gone:List GPrefix) (o:List GUpdate):∀ i,i ≤ (putGs gone o i).length
  | 0 => Nat.zero_le _
  | i + 1 => by
    have ih:=putGs_ge gone o i
    simp only [putGs,putG_len]
    split <;> omega
theorem putGs_le (gone:List GPrefix) (o:List GUpdate):∀ i,(putGs gone o i).length ≤ o.length + i
  | 0 => Nat.le_refl _
  | i + 1 => by
    have ih:=putGs_le gone o i
    simp only [putGs,putG_len]
    split <;> omega
theorem partC_len {α:Type} (g:List α) (i:Nat):(partC g i).length = min 10 (g.length - i * 10):=by
  unfold partC
  rw [List.length_take,List.length_drop]
/-- The cells of an update whose Gone is nil. -/
def GUpdate.cz (x:GUpdate):List PT:=.sl 0 nilE 0 [] :: (GUpdate.co x).drop 1
theorem gOK_mem {n:Nat} {G:List (List Int)} (h:gOK n G) (i:Nat) (hi:i < G.length):∃ a t,G[i] = a :: t ∧ (a :: t).length ≤ n ∧ ∀ x ∈ a :: t,0 ≤ x ∧ x < n:=by
  obtain ⟨⟨a,t,e⟩,h2,h3⟩:=h.2 _ (List.getElem_mem hi)
  rw [e] at h2 h3
  exact ⟨a,t,e,h2,h3⟩
theorem part_cells (g:List Int) (q:Nat):((g.map pi).drop (q * 10 * 1)).take (minN g.length q * 1) = (partC g q).map pi ∧ minN g.length q = (partC g q).length:=by
  refine ⟨?_,(partC_len g q).symm⟩
  unfold partC minN
  rw [Nat.mul_one,Nat.mul_one,List.map_take,List.map_drop]
  rcases Nat.lt_or_ge (g.length - q * 10) 10 with h | h
  · rw [Nat.min_eq_right (by omega),List.take_of_length_le (by rw [List.length_drop,List.length_map]; exact Nat.le_refl _),List.take_of_length_le (by rw [List.length_drop,List.length_map]; omega)]
  · rw [Nat.min_eq_left (by omega)]
theorem upds1_len (C:List GRoute):∀ G:List (List Int),(∀ g ∈ G,g.length ≤ 20) → (upds1 C G).length ≤ 2 * G.length
  | [],_ => Nat.le_refl _
  | g :: G,h => by
    have ih:=upds1_len C G fun x hx => h x (List.mem_cons_of_mem _ hx)
    have hg:=h g (by simp)
    unfold upds1 at ih ⊢
    rw [List.flatMap_cons,List.length_append,List.length_cons]
    have:(updsG C g).length ≤ 2:=by
      unfold updsG partN
      rw [List.length_map,List.length_range]
      omega
    omega
theorem goodR_small {r:GRoute} (h:goodR r = true):r.Attrs.Path.length ≤ 10 ∧ r.Attrs.Comms.length ≤ 6:=by
  simp only [goodR,goodA,goodPa,goodCm,Bool.and_eq_true,decide_eq_true_eq] at h
  exact ⟨by omega,by omega⟩
theorem ok_Clone_Prefix (k:Nat) (xs:List GPrefix) (hx:xs.length ≤ 1048576):CallOK Tryz.prog 29 [.c (rd k xs.length (xs.flatMap GPrefix.c))] (.c (.sl 0 54 xs.length (xs.flatMap GPrefix.c))) [.c (rd k xs.length (xs.flatMap GPrefix.c))]:=by
  refine okS (fn:=Tryz.f29) [] h0 Tryz.func29 (by kernel_rfl) rfl Tryz.ntmps29 Tryz.results29 (by simp) ?_
  cases xs with
  | nil => simp
  | cons y ys =>
    simp only [List.length_cons] at hx
    have hb:(ys.length + 1) * 16 ≤ 140737488355328 ∧ ys.length + 1 ≤ 9223372036854775807:=by omega
    have hb2:ys.length + 1 ≤ 9223372036854775807:=by omega
    have hb1:(ys.length + 1) * 16 ≤ 140737488355328:=by omega
    have he:ys.length * 2 + 1 + 1 = (ys.length + 1) * 2:=by omega
    have ht:List.take ((ys.length + 1) * 2) (pi y.Addr :: pi y.Len :: ys.flatMap GPrefix.c) = (pi y.Addr :: pi y.Len :: ys.flatMap GPrefix.c):=GPrefix.tkR (y :: ys)
    simp [hb1,hb2,he,ht]
theorem ok_Clone_Route (k:Nat) (xs:List GRoute) (hx:xs.length ≤ 1048576):CallOK Tryz.prog 22 [.c (rd k xs.length (xs.flatMap (GRoute.ci k)))] (.c (.sl 0 56 xs.length (xs.flatMap (GRoute.ci k)))) [.c (rd k xs.length (xs.flatMap (GRoute.ci k)))]:=by
  refine okS (fn:=Tryz.f22) [] h0 Tryz.func22 (by kernel_rfl) rfl Tryz.ntmps22 Tryz.results22 (by simp) ?_
  cases xs with
  | nil => simp
  | cons y ys =>
    simp only [List.length_cons] at hx
    have hb:(ys.length + 1) * 96 ≤ 140737488355328 ∧ ys.length + 1 ≤ 9223372036854775807:=by omega
    have hb2:ys.length + 1 ≤ 9223372036854775807:=by omega
    have hb1:(ys.length + 1) * 96 ≤ 140737488355328:=by omega
    have he:ys.length * 8 + 1 + 1 + 1 + 1 + 1 + 1 + 1 + 1 = (ys.length + 1) * 8:=by omega
    have ht:List.take ((ys.length + 1) * 8) (pi y.Prefix.Addr :: pi y.Prefix.Len :: pi y.Attrs.Origin :: rd k y.Attrs.Path.length (y.Attrs.Path.map pi) :: pi y.Attrs.Next :: pi y.Attrs.Med :: pi y.Attrs.Pref :: rd k y.Attrs.Comms.length (y.Attrs.Comms.map pi) :: ys.flatMap (GRoute.ci k)) = (pi y.Prefix.Addr :: pi y.Prefix.Len :: pi y.Attrs.Origin :: rd k y.Attrs.Path.length (y.Attrs.Path.map pi) :: pi y.Attrs.Next :: pi y.Attrs.Med :: pi y.Attrs.Pref :: rd k y.Attrs.Comms.length (y.Attrs.Comms.map pi) :: ys.flatMap (GRoute.ci k)):=GRoute.tkRi k (y :: ys)
    simp [hb1,hb2,he,ht]
structure GOffer where
  Peer:Int
  Attrs:GAttrs
  deriving DecidableEq
def GOffer.co (x:GOffer):List PT:=[pi x.Peer,pi x.Attrs.Origin,.sl 0 3 x.Attrs.Path.length (x.Attrs.Path.map pi),pi x.Attrs.Next,pi x.Attrs.Med,pi x.Attrs.Pref,.sl 0 3 x.Attrs.Comms.length (x.Attrs.Comms.map pi)]
def GOffer.ci (k:Nat) (x:GOffer):List PT:=[pi x.Peer,pi x.Attrs.Origin,rd k x.Attrs.Path.length (x.Attrs.Path.map pi),pi x.Attrs.Next,pi x.Attrs.Med,pi x.Attrs.Pref,rd k x.Attrs.Comms.length (x.Attrs.Comms.map pi)]
attribute [simp] GOffer.co GOffer.ci
theorem GOffer.len_i (k:Nat) (x:GOffer):(x.ci k).length = 7:=rfl
theorem GOffer.un1 (x:GOffer):PT.unownL x.co = x.ci 0:=by simp [rd]
theorem GOffer.uni1 (k:Nat) (x:GOffer):PT.unownL (x.ci k) = x.ci 0:=by simp [rd]
theorem GOffer.un (xs:List GOffer):PT.unownL (xs.flatMap GOffer.co) = xs.flatMap (GOffer.ci 0):=by
  rw [unownL_fm]
  congr 1
  funext x
  exact GOffer.un1 x
theorem GOffer.uni (k:Nat) (xs:List GOffer):PT.unownL (xs.flatMap (GOffer.ci k)) = xs.flatMap (GOffer.ci 0):=by
  rw [unownL_fm]
  congr 1
  funext x
  exact GOffer.uni1 k x
theorem GOffer.nt (xs:List GOffer):PT.noTmpL (xs.flatMap GOffer.co) = true:=noTmpL_fm _ xs fun x => by simp
theorem GOffer.nti (k:Nat) (xs:List GOffer):PT.noTmpL (xs.flatMap (GOffer.ci (k + 1))) = true:=noTmpL_fm _ xs fun x => by simp [rd]
attribute [simp] GOffer.un GOffer.uni GOffer.nt GOffer.nti
theorem GOffer.lenR (xs:List GOffer):(xs.flatMap GOffer.co).length = xs.length * 7:=fm_len _ 7 (fun _ => rfl) xs
theorem GOffer.lenRi (k:Nat) (xs:List GOffer):(xs.flatMap (GOffer.ci k)).length = xs.length * 7:=fm_len _ 7 (fun _ => rfl) xs
theorem GOffer.tkR (xs:List GOffer):(xs.flatMap GOffer.co).take (xs.length * 7) = xs.flatMap GOffer.co:=List.take_of_length_le (by rw [GOffer.lenR]; exact Nat.le_refl _)
theorem GOffer.tkRi (k:Nat) (xs:List GOffer):(xs.flatMap (GOffer.ci k)).take (xs.length * 7) = xs.flatMap (GOffer.ci k):=List.take_of_length_le (by rw [GOffer.lenRi]; exact Nat.le_refl _)
attribute [simp high] GOffer.lenR GOffer.tkR GOffer.lenRi GOffer.tkRi
def GOffer.wt (x:GOffer):Nat:=GAttrs.wt x.Attrs
def GOffer.mark (x:GOffer) (k:Int):GOffer × Int:=(⟨k,⟨(k + 1),(mk_IntS x.Attrs.Path ((k + 1) + 1)).1,(mk_IntS x.Attrs.Path ((k + 1) + 1)).2,((mk_IntS x.Attrs.Path ((k + 1) + 1)).2 + 1),(((mk_IntS x.Attrs.Path ((k + 1) + 1)).2 + 1) + 1),(mk_IntS x.Attrs.Comms ((((mk_IntS x.Attrs.Path ((k + 1) + 1)).2 + 1) + 1) + 1)).1⟩⟩,(mk_IntS x.Attrs.Comms ((((mk_IntS x.Attrs.Path ((k + 1) + 1)).2 + 1) + 1) + 1)).2)
def GOffer.cn (x:GOffer):Nat:=1 + 1 + cn_IntS x.Attrs.Path + 1 + 1 + 1 + cn_IntS x.Attrs.Comms
end Go.V
