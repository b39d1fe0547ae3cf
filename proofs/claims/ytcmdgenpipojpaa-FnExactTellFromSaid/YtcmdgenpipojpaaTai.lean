/- What functions of the seat's program do, each proved of its code, under the bounds that its theorem names. -/
import Derived.Test.YtcmdgenpipojpaaTah
set_option linter.all false
namespace Go.V
open Go.Proofs
set_option maxHeartbeats 1000000
set_option maxRecDepth 10000
set_option linter.unusedSimpArgs false
set_option linter.unusedVariables false
def smallU (u:GUpdate):Prop:=u.Gone.length ≤ 10 ∧ u.Come.length ≤ 10 ∧ u.Attrs.Path.length ≤ 10 ∧ u.Attrs.Comms.length ≤ 6
theorem partC_le {α:Type} (g:List α) (i:Nat):(partC g i).length ≤ 10:=by rw [partC_len]; exact Nat.min_le_left _ _
theorem putG_small {o:List GUpdate} {k:Nat} {p:List GPrefix} (h:∀ u ∈ o,smallU u) (hp:p.length ≤ 10):∀ u ∈ putG o k p,smallU u:=by
  intro u hu
  unfold putG at hu
  split at hu
  · rename_i x hx
    rcases List.mem_or_eq_of_mem_set hu with hu | rfl
    · exact h u hu
    · have:=h x (List.mem_of_getElem? hx)
      exact ⟨hp,this.2.1,this.2.2⟩
  · rcases List.mem_append.1 hu with hu | hu
    · exact h u hu
    · rw [List.mem_singleton] at hu
      subst hu
      exact ⟨hp,by simp,by simp [zeroA],by simp [zeroA]⟩
theorem putGs_small {D:List GPrefix} {o:List GUpdate} (h:∀ u ∈ o,smallU u):∀ i,∀ u ∈ putGs D o i,smallU u
  | 0 => h
  | i + 1 => putG_small (putGs_small h i) (partC_le D i)
theorem attrAt_small {C:List GRoute} (hC:∀ r ∈ C,goodR r = true) (g:List Int):(attrAt C g).Path.length ≤ 10 ∧ (attrAt C g).Comms.length ≤ 6:=by
  unfold attrAt
  split
  · split
    · rename_i r hr
      exact goodR_small (hC r (List.mem_of_getElem? hr))
    · simp [zeroA]
  · simp [zeroA]
theorem upds1_small {C:List GRoute} (hC:∀ r ∈ C,goodR r = true) (G:List (List Int)):∀ u ∈ upds1 C G,smallU u:=by
  intro u hu
  obtain ⟨g,_,hu⟩:=List.mem_flatMap.1 hu
  obtain ⟨x,_,rfl⟩:=List.mem_map.1 hu
  have:=attrAt_small hC g
  exact ⟨by simp [updA],by simp only [updA,List.length_map]; exact partC_le g x,this.1,this.2⟩
theorem tellL_small {a b:List GRoute} (ha:goodRs a = true) (hb:goodRs b = true):(∀ u ∈ tellL a b,smallU u) ∧ (tellL a b).length ≤ 42:=by
  obtain ⟨⟨_,hgoodb⟩,hlb⟩:=goodRs_L hb
  obtain ⟨_,hla⟩:=goodRs_L ha
  have hcl:(comeT a b).length ≤ 20:=Nat.le_trans (comeT_len a b) hlb
  have hgl:(goneT a b).length ≤ 20:=Nat.le_trans (goneT_len a b) hla
  have hCg:∀ r ∈ comeT a b,goodR r = true:=fun r hr => hgoodb r (List.mem_filter.1 hr).1
  have hgk:gOK (comeT a b).length (groupsL (comeT a b)):=groupsN_ok _ _
  refine ⟨putGs_small (upds1_small hCg _) _,?_⟩
  have h1:=putGs_le (goneT a b) (upds1 (comeT a b) (groupsL (comeT a b))) (partN (goneT a b))
  have h2:=upds1_len (comeT a b) (groupsL (comeT a b)) fun g hg => Nat.le_trans (hgk.2 g hg).2.1 hcl
  have h3:=hgk.1
  have h4:partN (goneT a b) ≤ 2:=by unfold partN; omega
  unfold tellL
  omega
theorem law_iTellFrom (v0 v1:List GRoute) (hw0:wt_RouteS v0 ≤ 1048576) (hw1:wt_RouteS v1 ≤ 1048576):CallOK Try.prog 7 [.c (rd 0 v0.length (v0.flatMap (GRoute.ci 0))),.c (rd 0 v1.length (v1.flatMap (GRoute.ci 0)))] (.tup [.c (.sl 0 63 (rTellFrom v0 v1).1.length ((rTellFrom v0 v1).1.flatMap GUpdate.co)),.c (pb (rTellFrom v0 v1).2)]) [.c (rd 0 v0.length (v0.flatMap (GRoute.ci 0))),.c (rd 0 v1.length (v1.flatMap (GRoute.ci 0)))]:=ok_iTellFrom 0 0 v0 v1 (routes_ok hw0) (routes_ok hw1)
theorem law_sTellFrom (v0 v1:List GRoute) (hw0:wt_RouteS v0 ≤ 1048576) (hw1:wt_RouteS v1 ≤ 1048576):CallOK Try.prog 5 [.c (rd 0 v0.length (v0.flatMap (GRoute.ci 0))),.c (rd 0 v1.length (v1.flatMap (GRoute.ci 0)))] (.tup [.c (.sl 0 63 (rTellFrom v0 v1).1.length ((rTellFrom v0 v1).1.flatMap GUpdate.co)),.c (pb (rTellFrom v0 v1).2)]) [.c (rd 0 v0.length (v0.flatMap (GRoute.ci 0))),.c (rd 0 v1.length (v1.flatMap (GRoute.ci 0)))]:=ok_sTellFrom 0 0 v0 v1 (routes_ok hw0) (routes_ok hw1)
theorem wtR_leT {α:Type} (f:α → Nat) (b:Nat):∀ l:List α,(∀ x ∈ l,f x ≤ b) → wtR f l ≤ l.length * (b + 1)
  | [],_ => by simp [wtR]
  | x :: l,h => by
    have ih:=wtR_leT f b l fun y hy => h y (by simp [hy])
    have h1:=h x (by simp)
    simp only [wtR,List.map_cons,List.length_cons,List.sum_cons,Nat.add_mul] at ih ⊢
    omega
theorem rTellFrom_wt (v0 v1:List GRoute):wt_UpdateS (rTellFrom v0 v1).1 ≤ 1722:=by
  unfold rTellFrom
  split
  · rename_i h
    obtain ⟨h1,h2⟩:=tellL_small h.1 h.2
    have h3:=wtR_leT GUpdate.wt 40 (tellL v0 v1) fun u hu => by
      obtain ⟨k1,k2,k3,k4⟩:=h1 u hu
      simp only [GUpdate.wt,GAttrs.wt,wt_PrefixS,wt_IntS]
      omega
    have h4:(tellL v0 v1).length * (40 + 1) ≤ 42 * 41:=Nat.mul_le_mul h2 (Nat.le_refl _)
    show wtR GUpdate.wt (tellL v0 v1) ≤ 1722
    omega
  · exact Nat.zero_le _
theorem rTellFrom_ok (v0 v1:List GRoute) (hw0:wt_RouteS v0 ≤ 1048576) (hw1:wt_RouteS v1 ≤ 1048576):lens_UpdateS (rTellFrom v0 v1).1 ∧ cn_UpdateS (rTellFrom v0 v1).1 ≤ 1152921504606846976:=by
  have key:=rTellFrom_wt v0 v1
  have:=cn_le_UpdateS (rTellFrom v0 v1).1
  exact ⟨lens_of_UpdateS (by omega),by omega⟩
theorem ok_FnExactTellFrom (v0:(List GRoute)) (v1:(List GRoute)) (f0:fits_RouteS v0) (f1:fits_RouteS v1):CallOK Try.prog 3 [.c (rd 1 v0.length (v0.flatMap (GRoute.ci 1))),.c (rd 1 v1.length (v1.flatMap (GRoute.ci 1)))] (.c (pb true)) [.c (rd 1 v0.length (v0.flatMap (GRoute.ci 1))),.c (rd 1 v1.length (v1.flatMap (GRoute.ci 1)))]:=by
  refine okS (fn:=Try.f3) [(10,[1,0]),(11,[1,0])] h0 Try.func3 (by kernel_rfl) rfl Try.ntmps3 Try.results3 (by simp) ?_
  simp
  refine Inv_intro (ok_szRouteS 1 v0 _ (by omega) (by omega) f0) ?_
  simp
  refine brn_app (fun b0 => ?_) (fun b0 => ?_)
  · simp
  · simp at b0
    have e0:=szr_ge (szr_ge0 b0)
    have d0:=szr_ge0 b0
    simp
    refine Inv_intro (ok_szRouteS 1 v1 _ (by omega) (by omega) f1) ?_
    simp
    refine brn_app (fun b1 => ?_) (fun b1 => ?_)
    · simp
    · simp at b1
      have e1:=szr_ge (szr_ge0 b1)
      have d1:=szr_ge0 b1
      simp
      have hv0:wt_RouteS v0 ≤ 1048576:=by omega
      have hlp0:lens_RouteS v0:=lens_of_RouteS hv0
      have hcp0:=cn_le_RouteS v0
      have hv1:wt_RouteS v1 ≤ 1048576:=by omega
      have hlp1:lens_RouteS v1:=lens_of_RouteS hv1
      have hcp1:=cn_le_RouteS v1
      have hrr:=rTellFrom_ok v0 v1 hv0 hv1
      obtain ⟨hlr0,hcr0⟩:=hrr
      refine Inv_intro (ok_toRouteS 1 v0 hv0) ?_
      simp
      refine Inv_intro (ok_toRouteS 1 v1 hv1) ?_
      simp
      refine Inv_intro (law_sTellFrom v0 v1 hv0 hv1) ?_
      simp
      refine Inv_intro (ok_toRouteS 1 v0 hv0) ?_
      simp
      refine Inv_intro (ok_toRouteS 1 v1 hv1) ?_
      simp
      refine Inv_intro (law_iTellFrom v0 v1 hv0 hv1) ?_
      simp
      refine Inv_intro (ok_eqUpdateS 0 0 ((rTellFrom v0 v1).1) ((rTellFrom v0 v1).1) hlr0 hlr0) ?_
      simp
      refine Inv_intro (ok_toRouteS 1 v0 hv0) ?_
      simp
      refine Inv_intro (ok_eqRouteS 0 0 (v0) (v0) hlp0 hlp0) ?_
      simp
      refine Inv_intro (ok_toRouteS 1 v1 hv1) ?_
      simp
      refine Inv_intro (ok_eqRouteS 0 0 (v1) (v1) hlp1 hlp1) ?_
      simp
      have hm0:=mk_RouteS_snd (v0) (1)
      have hn0:¬ (mk_RouteS (v0) (1)).2 < 0:=by omega
      have ht0:List.take ((v0).length * 8) (((mk_RouteS (v0) (1))).1.flatMap GRoute.co) = (((mk_RouteS (v0) (1))).1.flatMap GRoute.co):=List.take_of_length_le (by rw [fm_len GRoute.co 8 (fun _ => rfl),mk_RouteS_len]; exact Nat.le_refl _)
      refine Inv_intro (ok_markRouteS (v0) (1) hlp0 (by omega) (by omega)) ?_
      simp [hn0,ht0]
      have hm1:=mk_RouteS_snd (v1) ((mk_RouteS (v0) (1)).2)
      have hn1:¬ (mk_RouteS (v1) ((mk_RouteS (v0) (1)).2)).2 < 0:=by omega
      have ht1:List.take ((v1).length * 8) (((mk_RouteS (v1) ((mk_RouteS (v0) (1)).2))).1.flatMap GRoute.co) = (((mk_RouteS (v1) ((mk_RouteS (v0) (1)).2))).1.flatMap GRoute.co):=List.take_of_length_le (by rw [fm_len GRoute.co 8 (fun _ => rfl),mk_RouteS_len]; exact Nat.le_refl _)
      refine Inv_intro (ok_markRouteS (v1) ((mk_RouteS (v0) (1)).2) hlp1 (by omega) (by omega)) ?_
      simp [hn0,ht0,hn1,ht1]
      refine Inv_intro (ok_eqUpdateS 0 0 ((rTellFrom v0 v1).1) ((rTellFrom v0 v1).1) hlr0 hlr0) ?_
      simp [hn0,ht0,hn1,ht1]
      have hm2:=mk_UpdateS_snd ((rTellFrom v0 v1).1) (1)
      have hn2:¬ (mk_UpdateS ((rTellFrom v0 v1).1) (1)).2 < 0:=by omega
      have ht2:List.take (((rTellFrom v0 v1).1).length * 8) (((mk_UpdateS ((rTellFrom v0 v1).1) (1))).1.flatMap GUpdate.co) = (((mk_UpdateS ((rTellFrom v0 v1).1) (1))).1.flatMap GUpdate.co):=List.take_of_length_le (by rw [fm_len GUpdate.co 8 (fun _ => rfl),mk_UpdateS_len]; exact Nat.le_refl _)
      refine Inv_intro (ok_markUpdateS ((rTellFrom v0 v1).1) (1) hlr0 (by omega) (by omega)) ?_
      simp [hn0,ht0,hn1,ht1,hn2,ht2]
      refine Inv_intro (ok_heldUpdateS 0 ((rTellFrom v0 v1).1) (1) hlr0 (by omega) (by omega)) ?_
      simp [hn0,ht0,hn1,ht1,hn2,ht2]
      refine Inv_intro (ok_toRouteS 1 v0 hv0) ?_
      simp [hn0,ht0,hn1,ht1,hn2,ht2]
      refine Inv_intro (ok_toRouteS 1 v1 hv1) ?_
      simp [hn0,ht0,hn1,ht1,hn2,ht2]
      refine Inv_intro (law_iTellFrom v0 v1 hv0 hv1) ?_
      simp [hn0,ht0,hn1,ht1,hn2,ht2]
      refine Inv_intro (ok_eqUpdateS 0 0 ((rTellFrom v0 v1).1) ((rTellFrom v0 v1).1) hlr0 hlr0) ?_
      simp [hn0,ht0,hn1,ht1,hn2,ht2]
      refine Inv_intro (ok_heldUpdateS 0 ((rTellFrom v0 v1).1) (1) hlr0 (by omega) (by omega)) ?_
      simp [hn0,ht0,hn1,ht1,hn2,ht2]
end Go.V
