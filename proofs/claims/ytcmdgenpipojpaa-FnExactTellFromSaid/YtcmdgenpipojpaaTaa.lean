/- What functions of the seat's program do, each proved of its code, under the bounds that its theorem names. -/
import Derived.Test.YtcmdgenpipojpaaFacts
set_option linter.all false
namespace Go.V
open Go.Proofs
set_option maxHeartbeats 1000000
set_option maxRecDepth 10000
set_option linter.unusedSimpArgs false
set_option linter.unusedVariables false
theorem open_Int {n:Nat} {qs:List PT} (h:TyC Try.prog (n + 1) 3 qs):∃ x:Int,qs = [pi x] ∧ True:=by
  unfold TyC at h
  rw [Try.underlying3] at h
  simp only at h
  obtain ⟨m,rfl,_⟩:=h
  exact ⟨m,rfl,trivial⟩
theorem open_each {α:Type} {f:α → List PT} {q:α → Prop}:∀ {cells:List (List PT)},(∀ c ∈ cells,∃ x,c = f x ∧ q x) → ∃ xs:List α,cells = xs.map f ∧ ∀ x ∈ xs,q x
  | [],_ => ⟨[],rfl,by simp⟩
  | c :: cs,h => by
    obtain ⟨x,hx,hq⟩:=h c (by simp)
    obtain ⟨xs,hxs,hqs⟩:=open_each (cells:=cs) fun d hd => h d (by simp [hd])
    refine ⟨x :: xs,by rw [hx,hxs]; rfl,fun y hy => ?_⟩
    rcases List.mem_cons.1 hy with rfl | hy
    · exact hq
    · exact hqs y hy
theorem open_flat {α:Type} (f:α → PT):∀ xs:List α,(xs.map fun x => [f x]).flatten = xs.map f
  | [] => rfl
  | x :: xs => by simp [open_flat f xs]
abbrev cIntSo (xs:List Int):PT:=.sl 0 3 xs.length (xs.map pi)
abbrev cIntSi (k:Nat) (xs:List Int):PT:=rd k xs.length (xs.map pi)
def wt_IntS (xs:List Int):Nat:=xs.length
theorem len_wt_IntS (xs:List Int):xs.length ≤ wt_IntS xs:=by unfold wt_IntS; omega
def fits_IntS (xs:List Int):Prop:=xs.length ≤ 140737488351232 ∧ ∀ x ∈ xs,True
def lens_IntS (xs:List Int):Prop:=xs.length ≤ 140737488351232 ∧ ∀ x ∈ xs,True
def mk_IntS (xs:List Int) (k:Int):List Int × Int:=mkR (fun (_:Int) k => (k,k + 1)) xs k
def cn_IntS (xs:List Int):Nat:=cnR (fun (_:Int) => 1) xs
theorem mk_IntS_len (xs:List Int) (k:Int):(mk_IntS xs k).1.length = xs.length:=mkR_len _ xs k
attribute [simp] mk_IntS_len
theorem mk_IntS_snd (xs:List Int) (k:Int):(mk_IntS xs k).2 = k + cn_IntS xs:=mkR_snd (fun _ _ => rfl) xs k
theorem lens_of_IntS {xs:List Int} (h:wt_IntS xs ≤ 1048576):lens_IntS xs:=by
  have hl:=len_wt_IntS xs
  exact ⟨by omega,fun _ _ => trivial⟩
theorem cn_le_IntS (xs:List Int):cn_IntS xs ≤ 32 * wt_IntS xs:=cnR_le0 (fun _ => by omega) xs
theorem open_IntS {n:Nat} {qs:List PT} (h:TyC Try.prog (n + 2) 37 qs):∃ x:(List Int),qs = [rd 1 x.length (x.map pi)] ∧ fits_IntS x:=by
  unfold TyC at h
  rw [Try.underlying37] at h
  simp only at h
  obtain ⟨cells,rfl,hl,hc⟩:=h
  obtain ⟨xs,rfl,hx⟩:=open_each (f:=fun x:Int => [pi x]) (q:=fun _ => True) (fun c hcc => open_Int (hc c hcc))
  refine ⟨xs,?_,?_⟩
  · simp only [List.length_map,open_flat]
  · have e1:Try.prog.bytesOf 3 = 8:=by kernel_rfl
    rw [e1,List.length_map] at hl
    have e2:reachBytes = 140737488351232:=rfl
    rw [e2] at hl
    exact ⟨by omega,fun _ _ => trivial⟩
structure GAttrs where
  Origin:Int
  Path:(List Int)
  Next:Int
  Med:Int
  Pref:Int
  Comms:(List Int)
  deriving DecidableEq
def GAttrs.co (x:GAttrs):List PT:=[pi x.Origin,.sl 0 3 x.Path.length (x.Path.map pi),pi x.Next,pi x.Med,pi x.Pref,.sl 0 3 x.Comms.length (x.Comms.map pi)]
def GAttrs.ci (k:Nat) (x:GAttrs):List PT:=[pi x.Origin,rd k x.Path.length (x.Path.map pi),pi x.Next,pi x.Med,pi x.Pref,rd k x.Comms.length (x.Comms.map pi)]
attribute [simp] GAttrs.co GAttrs.ci
theorem GAttrs.un1 (x:GAttrs):PT.unownL x.co = x.ci 0:=by simp [rd]
theorem GAttrs.uni1 (k:Nat) (x:GAttrs):PT.unownL (x.ci k) = x.ci 0:=by simp [rd]
theorem GAttrs.un (xs:List GAttrs):PT.unownL (xs.flatMap GAttrs.co) = xs.flatMap (GAttrs.ci 0):=by
  rw [unownL_fm]
  congr 1
  funext x
  exact GAttrs.un1 x
theorem GAttrs.uni (k:Nat) (xs:List GAttrs):PT.unownL (xs.flatMap (GAttrs.ci k)) = xs.flatMap (GAttrs.ci 0):=by
  rw [unownL_fm]
  congr 1
  funext x
  exact GAttrs.uni1 k x
theorem GAttrs.nt (xs:List GAttrs):PT.noTmpL (xs.flatMap GAttrs.co) = true:=noTmpL_fm _ xs fun x => by simp
theorem GAttrs.nti (k:Nat) (xs:List GAttrs):PT.noTmpL (xs.flatMap (GAttrs.ci (k + 1))) = true:=noTmpL_fm _ xs fun x => by simp [rd]
attribute [simp] GAttrs.un GAttrs.uni GAttrs.nt GAttrs.nti
theorem GAttrs.lenR (xs:List GAttrs):(xs.flatMap GAttrs.co).length = xs.length * 6:=fm_len _ 6 (fun _ => rfl) xs
theorem GAttrs.lenRi (k:Nat) (xs:List GAttrs):(xs.flatMap (GAttrs.ci k)).length = xs.length * 6:=fm_len _ 6 (fun _ => rfl) xs
theorem GAttrs.tkR (xs:List GAttrs):(xs.flatMap GAttrs.co).take (xs.length * 6) = xs.flatMap GAttrs.co:=List.take_of_length_le (by rw [GAttrs.lenR]; exact Nat.le_refl _)
theorem GAttrs.tkRi (k:Nat) (xs:List GAttrs):(xs.flatMap (GAttrs.ci k)).take (xs.length * 6) = xs.flatMap (GAttrs.ci k):=List.take_of_length_le (by rw [GAttrs.lenRi]; exact Nat.le_refl _)
attribute [simp high] GAttrs.lenR GAttrs.tkR GAttrs.lenRi GAttrs.tkRi
def GAttrs.wt (x:GAttrs):Nat:=wt_IntS x.Path + wt_IntS x.Comms
def GAttrs.fits (x:GAttrs):Prop:=fits_IntS x.Path ∧ fits_IntS x.Comms
def GAttrs.lens (x:GAttrs):Prop:=lens_IntS x.Path ∧ lens_IntS x.Comms
def GAttrs.mark (x:GAttrs) (k:Int):GAttrs × Int:=(⟨k,(mk_IntS x.Path (k + 1)).1,(mk_IntS x.Path (k + 1)).2,((mk_IntS x.Path (k + 1)).2 + 1),(((mk_IntS x.Path (k + 1)).2 + 1) + 1),(mk_IntS x.Comms ((((mk_IntS x.Path (k + 1)).2 + 1) + 1) + 1)).1⟩,(mk_IntS x.Comms ((((mk_IntS x.Path (k + 1)).2 + 1) + 1) + 1)).2)
def GAttrs.cn (x:GAttrs):Nat:=1 + cn_IntS x.Path + 1 + 1 + 1 + cn_IntS x.Comms
theorem GAttrs.mark_snd (x:GAttrs) (k:Int):(GAttrs.mark x k).2 = k + GAttrs.cn x:=by
  simp only [GAttrs.mark,GAttrs.cn,mk_IntS_snd] <;> omega
theorem lens_of_Attrs {x:GAttrs} (h:GAttrs.wt x ≤ 1048576):GAttrs.lens x:=by
  unfold GAttrs.wt at h
  exact ⟨lens_of_IntS (by omega),lens_of_IntS (by omega)⟩
theorem open_Attrs {n:Nat} {qs:List PT} (h:TyC Try.prog (n + 3) 39 qs):∃ x:GAttrs,qs = GAttrs.ci 1 x ∧ GAttrs.fits x:=by
  unfold TyC at h
  rw [Try.underlying39] at h
  simp only [TyFs] at h
  obtain ⟨p0,q0,rfl,h0,⟨p1,q1,rfl,h1,⟨p2,q2,rfl,h2,⟨p3,q3,rfl,h3,⟨p4,q4,rfl,h4,⟨p5,q5,rfl,h5,rfl⟩⟩⟩⟩⟩⟩:=h
  obtain ⟨x0,rfl,y0⟩:=open_Int (n:=n + 1) h0
  obtain ⟨x1,rfl,y1⟩:=open_IntS (n:=n + 0) h1
  obtain ⟨x2,rfl,y2⟩:=open_Int (n:=n + 1) h2
  obtain ⟨x3,rfl,y3⟩:=open_Int (n:=n + 1) h3
  obtain ⟨x4,rfl,y4⟩:=open_Int (n:=n + 1) h4
  obtain ⟨x5,rfl,y5⟩:=open_IntS (n:=n + 0) h5
  exact ⟨⟨x0,x1,x2,x3,x4,x5⟩,rfl,⟨y1,y5⟩⟩
structure GPrefix where
  Addr:Int
  Len:Int
  deriving DecidableEq
def GPrefix.c (x:GPrefix):List PT:=[pi x.Addr,pi x.Len]
attribute [simp] GPrefix.c
theorem GPrefix.len (x:GPrefix):x.c.length = 2:=rfl
theorem GPrefix.un (xs:List GPrefix):PT.unownL (xs.flatMap GPrefix.c) = xs.flatMap GPrefix.c:=by
  rw [unownL_fm]
  congr 1
theorem GPrefix.nt (xs:List GPrefix):PT.noTmpL (xs.flatMap GPrefix.c) = true:=noTmpL_fm _ xs fun _ => rfl
attribute [simp] GPrefix.un GPrefix.nt
theorem GPrefix.lenR (xs:List GPrefix):(xs.flatMap GPrefix.c).length = xs.length * 2:=fm_len _ 2 (fun _ => rfl) xs
theorem GPrefix.tkR (xs:List GPrefix):(xs.flatMap GPrefix.c).take (xs.length * 2) = xs.flatMap GPrefix.c:=List.take_of_length_le (by rw [GPrefix.lenR]; exact Nat.le_refl _)
attribute [simp high] GPrefix.lenR GPrefix.tkR
def GPrefix.wt (x:GPrefix):Nat:=0
def GPrefix.fits (x:GPrefix):Prop:=True
def GPrefix.mark (x:GPrefix) (k:Int):GPrefix × Int:=(⟨k,(k + 1)⟩,((k + 1) + 1))
def GPrefix.cn (x:GPrefix):Nat:=1 + 1
theorem GPrefix.mark_snd (x:GPrefix) (k:Int):(GPrefix.mark x k).2 = k + GPrefix.cn x:=by
  simp only [GPrefix.mark,GPrefix.cn] <;> omega
theorem cnE_le_Prefix (x:GPrefix):GPrefix.cn x ≤ 32 * GPrefix.wt x + 16:=by
  unfold GPrefix.cn
  omega
theorem open_Prefix {n:Nat} {qs:List PT} (h:TyC Try.prog (n + 2) 36 qs):∃ x:GPrefix,qs = GPrefix.c x ∧ True:=by
  unfold TyC at h
  rw [Try.underlying36] at h
  simp only [TyFs] at h
  obtain ⟨p0,q0,rfl,h0,⟨p1,q1,rfl,h1,rfl⟩⟩:=h
  obtain ⟨x0,rfl,y0⟩:=open_Int (n:=n + 0) h0
  obtain ⟨x1,rfl,y1⟩:=open_Int (n:=n + 0) h1
  exact ⟨⟨x0,x1⟩,rfl,trivial⟩
structure GRoute where
  Prefix:GPrefix
  Attrs:GAttrs
  deriving DecidableEq
def GRoute.co (x:GRoute):List PT:=[pi x.Prefix.Addr,pi x.Prefix.Len,pi x.Attrs.Origin,.sl 0 3 x.Attrs.Path.length (x.Attrs.Path.map pi),pi x.Attrs.Next,pi x.Attrs.Med,pi x.Attrs.Pref,.sl 0 3 x.Attrs.Comms.length (x.Attrs.Comms.map pi)]
def GRoute.ci (k:Nat) (x:GRoute):List PT:=[pi x.Prefix.Addr,pi x.Prefix.Len,pi x.Attrs.Origin,rd k x.Attrs.Path.length (x.Attrs.Path.map pi),pi x.Attrs.Next,pi x.Attrs.Med,pi x.Attrs.Pref,rd k x.Attrs.Comms.length (x.Attrs.Comms.map pi)]
attribute [simp] GRoute.co GRoute.ci
theorem GRoute.un1 (x:GRoute):PT.unownL x.co = x.ci 0:=by simp [rd]
theorem GRoute.uni1 (k:Nat) (x:GRoute):PT.unownL (x.ci k) = x.ci 0:=by simp [rd]
theorem GRoute.un (xs:List GRoute):PT.unownL (xs.flatMap GRoute.co) = xs.flatMap (GRoute.ci 0):=by
  rw [unownL_fm]
  congr 1
  funext x
  exact GRoute.un1 x
theorem GRoute.uni (k:Nat) (xs:List GRoute):PT.unownL (xs.flatMap (GRoute.ci k)) = xs.flatMap (GRoute.ci 0):=by
  rw [unownL_fm]
  congr 1
  funext x
  exact GRoute.uni1 k x
theorem GRoute.nt (xs:List GRoute):PT.noTmpL (xs.flatMap GRoute.co) = true:=noTmpL_fm _ xs fun x => by simp
theorem GRoute.nti (k:Nat) (xs:List GRoute):PT.noTmpL (xs.flatMap (GRoute.ci (k + 1))) = true:=noTmpL_fm _ xs fun x => by simp [rd]
attribute [simp] GRoute.un GRoute.uni GRoute.nt GRoute.nti
theorem GRoute.lenR (xs:List GRoute):(xs.flatMap GRoute.co).length = xs.length * 8:=fm_len _ 8 (fun _ => rfl) xs
theorem GRoute.lenRi (k:Nat) (xs:List GRoute):(xs.flatMap (GRoute.ci k)).length = xs.length * 8:=fm_len _ 8 (fun _ => rfl) xs
theorem GRoute.tkR (xs:List GRoute):(xs.flatMap GRoute.co).take (xs.length * 8) = xs.flatMap GRoute.co:=List.take_of_length_le (by rw [GRoute.lenR]; exact Nat.le_refl _)
theorem GRoute.tkRi (k:Nat) (xs:List GRoute):(xs.flatMap (GRoute.ci k)).take (xs.length * 8) = xs.flatMap (GRoute.ci k):=List.take_of_length_le (by rw [GRoute.lenRi]; exact Nat.le_refl _)
attribute [simp high] GRoute.lenR GRoute.tkR GRoute.lenRi GRoute.tkRi
def GRoute.wt (x:GRoute):Nat:=GAttrs.wt x.Attrs
def GRoute.fits (x:GRoute):Prop:=GAttrs.fits x.Attrs
def GRoute.lens (x:GRoute):Prop:=GAttrs.lens x.Attrs
def GRoute.mark (x:GRoute) (k:Int):GRoute × Int:=(⟨⟨k,(k + 1)⟩,⟨((k + 1) + 1),(mk_IntS x.Attrs.Path (((k + 1) + 1) + 1)).1,(mk_IntS x.Attrs.Path (((k + 1) + 1) + 1)).2,((mk_IntS x.Attrs.Path (((k + 1) + 1) + 1)).2 + 1),(((mk_IntS x.Attrs.Path (((k + 1) + 1) + 1)).2 + 1) + 1),(mk_IntS x.Attrs.Comms ((((mk_IntS x.Attrs.Path (((k + 1) + 1) + 1)).2 + 1) + 1) + 1)).1⟩⟩,(mk_IntS x.Attrs.Comms ((((mk_IntS x.Attrs.Path (((k + 1) + 1) + 1)).2 + 1) + 1) + 1)).2)
def GRoute.cn (x:GRoute):Nat:=1 + 1 + 1 + cn_IntS x.Attrs.Path + 1 + 1 + 1 + cn_IntS x.Attrs.Comms
theorem GRoute.mark_snd (x:GRoute) (k:Int):(GRoute.mark x k).2 = k + GRoute.cn x:=by
  simp only [GRoute.mark,GRoute.cn,mk_IntS_snd] <;> omega
theorem lens_of_Route {x:GRoute} (h:GRoute.wt x ≤ 1048576):GRoute.lens x:=by
  unfold GRoute.wt at h
  exact lens_of_Attrs (by omega)
theorem cnE_le_Route (x:GRoute):GRoute.cn x ≤ 32 * GRoute.wt x + 16:=by
  unfold GRoute.cn GRoute.wt
  have:=cn_le_IntS x.Attrs.Path
  have:=cn_le_IntS x.Attrs.Comms
  simp only [GAttrs.wt]
  omega
theorem open_Route {n:Nat} {qs:List PT} (h:TyC Try.prog (n + 4) 41 qs):∃ x:GRoute,qs = GRoute.ci 1 x ∧ GRoute.fits x:=by
  unfold TyC at h
  rw [Try.underlying41] at h
  simp only [TyFs] at h
  obtain ⟨p0,q0,rfl,h0,⟨p1,q1,rfl,h1,rfl⟩⟩:=h
  obtain ⟨x0,rfl,y0⟩:=open_Prefix (n:=n + 1) h0
  obtain ⟨x1,rfl,y1⟩:=open_Attrs (n:=n + 0) h1
  exact ⟨⟨x0,x1⟩,rfl,y1⟩
def wt_RouteS (xs:List GRoute):Nat:=wtR GRoute.wt xs
theorem len_wt_RouteS (xs:List GRoute):xs.length ≤ wt_RouteS xs:=by unfold wt_RouteS wtR; omega
theorem mem_wt_RouteS {xs:List GRoute} {x:GRoute} (h:x ∈ xs):GRoute.wt x ≤ wt_RouteS xs:=by
  have:=wt_mem GRoute.wt h
  unfold wt_RouteS wtR
  omega
def fits_RouteS (xs:List GRoute):Prop:=xs.length ≤ 140737488351232 ∧ ∀ x ∈ xs,GRoute.fits x
def lens_RouteS (xs:List GRoute):Prop:=xs.length ≤ 140737488351232 ∧ ∀ x ∈ xs,GRoute.lens x
def mk_RouteS (xs:List GRoute) (k:Int):List GRoute × Int:=mkR GRoute.mark xs k
def cn_RouteS (xs:List GRoute):Nat:=cnR GRoute.cn xs
theorem mk_RouteS_len (xs:List GRoute) (k:Int):(mk_RouteS xs k).1.length = xs.length:=mkR_len _ xs k
attribute [simp] mk_RouteS_len
theorem mk_RouteS_snd (xs:List GRoute) (k:Int):(mk_RouteS xs k).2 = k + cn_RouteS xs:=mkR_snd (GRoute.mark_snd) xs k
theorem lens_of_RouteS {xs:List GRoute} (h:wt_RouteS xs ≤ 1048576):lens_RouteS xs:=by
  have hl:=len_wt_RouteS xs
  exact ⟨by omega,fun x hx => lens_of_Route (by have:=mem_wt_RouteS hx; omega)⟩
theorem cn_le_RouteS (xs:List GRoute):cn_RouteS xs ≤ 32 * wt_RouteS xs:=cnR_le (fun x => by have:=cnE_le_Route x; omega) xs
theorem open_RouteS {n:Nat} {qs:List PT} (h:TyC Try.prog (n + 5) 22 qs):∃ x:(List GRoute),qs = [rd 1 x.length (x.flatMap (GRoute.ci 1))] ∧ fits_RouteS x:=by
  unfold TyC at h
  rw [Try.underlying22] at h
  simp only at h
  obtain ⟨cells,rfl,hl,hc⟩:=h
  obtain ⟨xs,rfl,hx⟩:=open_each (f:=fun x:GRoute => GRoute.ci 1 x) (q:=fun x => GRoute.fits x) (fun c hcc => open_Route (hc c hcc))
  refine ⟨xs,?_,?_⟩
  · simp only [List.length_map]
    rfl
  · have e1:Try.prog.bytesOf 41 = 96:=by kernel_rfl
    rw [e1,List.length_map] at hl
    have e2:reachBytes = 140737488351232:=rfl
    rw [e2] at hl
    exact ⟨by omega,hx⟩
theorem ok_eqIntS (k k':Nat) (xs ys:List Int) (ha:lens_IntS xs) (hb:lens_IntS ys):CallOK Try.prog 67 [.c (rd k xs.length (xs.map pi)),.c (rd k' ys.length (ys.map pi))] (.c (pb (decide (xs = ys)))) [.c (rd k xs.length (xs.map pi)),.c (rd k' ys.length (ys.map pi))]:=by
  obtain ⟨ha,hax⟩:=ha
  obtain ⟨hb,hbx⟩:=hb
  refine okS (fn:=Try.f67) [] h0 Try.func67 (by kernel_rfl) rfl Try.ntmps67 Try.results67 (by simp) ?_
  simp
  refine brn_app (fun h => ?_) (fun h => ?_)
  · simp at h
    simp
    rintro rfl
    exact h rfl
  · simp at h
    have hl:ys.length = xs.length:=by omega
    simp
    refine loopS [0,1,5] [] (fun n st => ∃ (i:Nat),i + n = xs.length ∧ (xs.drop i = ys.drop i ↔ xs = ys) ∧ st = ⟨slOf 26 [(0,.t (rd k xs.length (xs.map pi))),(1,.t (rd k' ys.length (ys.map pi))),(5,.t (pi i))],ofL []⟩) xs.length ?_ ?_
    · rintro Inv hI
      simp
      subst hI
      exact ⟨0,by omega,by simp,rfl⟩
    · rintro Inv hI n st ⟨i,hi,htk,rfl⟩
      refine ewr_sound (M:=[]) h0 ?_
      simp
      refine brn_app (fun h => ?_) (fun h => ?_)
      · simp at h
        have hib:i < ys.length:=by omega
        rw [drop_step xs i h,drop_step ys i hib,List.cons.injEq] at htk
        simp
        refine drawP E0 [⟨[],allD 26,true⟩,⟨[],allD 26,true⟩,⟨[],allD 26,true⟩,⟨[],allD 26,true⟩,⟨[],allD 26,true⟩,⟨[],allD 26,true⟩,⟨[],allD 26,true⟩,⟨[],allD 26,true⟩,⟨[],allD 26,true⟩] h0 hm (E0_ok _) (by kernel_rfl) (by kernel_rfl) ?_
        simp [h,hib]
        refine brn_app (fun h2 => ?_) (fun h2 => ?_)
        · simp at h2
          simp
          intro he
          exact h2 (htk.2 he).1
        · simp at h2
          simp
          subst hI
          exact Less_mk (n - 1) (by omega) ⟨i + 1,by omega,⟨fun h4 => htk.1 ⟨h2,h4⟩,fun h4 => (htk.2 h4).2⟩,by rw [wrNext i (by omega)]⟩
      · simp at h
        rw [List.drop_of_length_le (by omega),List.drop_of_length_le (by omega)] at htk
        simp
        exact htk.1 rfl
theorem ok_eqAttrs (k k':Nat) (x y:GAttrs) (ha:GAttrs.lens x) (hb:GAttrs.lens y):CallOK Try.prog 55 [.agg (GAttrs.ci k x),.agg (GAttrs.ci k' y)] (.c (pb (decide (x = y)))) [.agg (GAttrs.ci k x),.agg (GAttrs.ci k' y)]:=by
  simp only [GAttrs.lens] at ha hb
  refine okS (fn:=Try.f55) [] h0 Try.func55 (by kernel_rfl) rfl Try.ntmps55 Try.results55 (by simp) ?_
  simp
  refine brn_app (fun a0 => ?_) (fun a0 => ?_)
  · simp at a0
    simp
    rintro rfl
    exact a0 rfl
  · simp at a0
    simp
    refine Inv_intro (ok_eqIntS k k' x.Path y.Path (ha.1) (hb.1)) ?_
    simp
    refine brn_app (fun a1 => ?_) (fun a1 => ?_)
    · simp at a1
      simp
      rintro rfl
      exact a1 rfl
    · simp at a1
      simp
      refine brn_app (fun a2 => ?_) (fun a2 => ?_)
      · simp at a2
        simp
        rintro rfl
        exact a2 rfl
      · simp at a2
        simp
        refine brn_app (fun a3 => ?_) (fun a3 => ?_)
        · simp at a3
          simp
          rintro rfl
          exact a3 rfl
        · simp at a3
          simp
          refine brn_app (fun a4 => ?_) (fun a4 => ?_)
          · simp at a4
            simp
            rintro rfl
            exact a4 rfl
          · simp at a4
            simp
            refine Inv_intro (ok_eqIntS k k' x.Comms y.Comms (ha.2) (hb.2)) ?_
            simp
            refine brn_app (fun a5 => ?_) (fun a5 => ?_)
            · simp at a5
              simp
              rintro rfl
              exact a5 rfl
            · simp at a5
              simp
              cases x
              cases y
              simp_all
theorem ok_eqPrefix (x y:GPrefix):CallOK Try.prog 56 [.agg (GPrefix.c x),.agg (GPrefix.c y)] (.c (pb (decide (x = y)))) [.agg (GPrefix.c x),.agg (GPrefix.c y)]:=by
  refine okS (fn:=Try.f56) [] h0 Try.func56 (by kernel_rfl) rfl Try.ntmps56 Try.results56 (by simp) ?_
  simp
  refine brn_app (fun a0 => ?_) (fun a0 => ?_)
  · simp at a0
    simp
    rintro rfl
    exact a0 rfl
  · simp at a0
    simp
    refine brn_app (fun a1 => ?_) (fun a1 => ?_)
    · simp at a1
      simp
      rintro rfl
      exact a1 rfl
    · simp at a1
      simp
      cases x
      cases y
      simp_all
theorem ok_eqRoute (k k':Nat) (x y:GRoute) (ha:GRoute.lens x) (hb:GRoute.lens y):CallOK Try.prog 29 [.agg (GRoute.ci k x),.agg (GRoute.ci k' y)] (.c (pb (decide (x = y)))) [.agg (GRoute.ci k x),.agg (GRoute.ci k' y)]:=by
  simp only [GRoute.lens] at ha hb
  refine okS (fn:=Try.f29) [] h0 Try.func29 (by kernel_rfl) rfl Try.ntmps29 Try.results29 (by simp) ?_
  simp
  refine Inv_intro (ok_eqPrefix x.Prefix y.Prefix) ?_
  simp
  refine brn_app (fun a0 => ?_) (fun a0 => ?_)
  · simp at a0
    simp
    rintro rfl
    exact a0 rfl
  · simp at a0
    simp
    refine Inv_intro (ok_eqAttrs k k' x.Attrs y.Attrs (ha) (hb)) ?_
    simp
    refine brn_app (fun a1 => ?_) (fun a1 => ?_)
    · simp at a1
      simp
      rintro rfl
      exact a1 rfl
    · simp at a1
      simp
      cases x
      cases y
      simp_all
theorem ok_eqRouteS (k k':Nat) (xs ys:List GRoute) (ha:lens_RouteS xs) (hb:lens_RouteS ys):CallOK Try.prog 9 [.c (rd k xs.length (xs.flatMap (GRoute.ci k))),.c (rd k' ys.length (ys.flatMap (GRoute.ci k')))] (.c (pb (decide (xs = ys)))) [.c (rd k xs.length (xs.flatMap (GRoute.ci k))),.c (rd k' ys.length (ys.flatMap (GRoute.ci k')))]:=by
  obtain ⟨ha,hax⟩:=ha
  obtain ⟨hb,hbx⟩:=hb
  refine okS (fn:=Try.f9) [] h0 Try.func9 (by kernel_rfl) rfl Try.ntmps9 Try.results9 (by simp) ?_
  simp
  refine brn_app (fun h => ?_) (fun h => ?_)
  · simp at h
    simp
    rintro rfl
    exact h rfl
  · simp at h
    have hl:ys.length = xs.length:=by omega
    simp
    refine loopS [0,1,5] [] (fun n st => ∃ (i:Nat),i + n = xs.length ∧ (xs.drop i = ys.drop i ↔ xs = ys) ∧ st = ⟨slOf 27 [(0,.t (rd k xs.length (xs.flatMap (GRoute.ci k)))),(1,.t (rd k' ys.length (ys.flatMap (GRoute.ci k')))),(5,.t (pi i))],ofL []⟩) xs.length ?_ ?_
    · rintro Inv hI
      simp
      subst hI
      exact ⟨0,by omega,by simp,rfl⟩
    · rintro Inv hI n st ⟨i,hi,htk,rfl⟩
      refine ewr_sound (M:=[]) h0 ?_
      simp
      refine brn_app (fun h => ?_) (fun h => ?_)
      · simp at h
        have hib:i < ys.length:=by omega
        rw [drop_step xs i h,drop_step ys i hib,List.cons.injEq] at htk
        simp
        have hd:=fm_drop (GRoute.ci k) 8 (fun _ => rfl) xs i h
        have hd':=fm_drop (GRoute.ci k') 8 (fun _ => rfl) ys i hib
        have hlen:=fm_len (GRoute.ci k) 8 (fun _ => rfl) xs
        have hlen':=fm_len (GRoute.ci k') 8 (fun _ => rfl) ys
        have hlt:i * 8 < xs.length * 8:=by omega
        have hlt':i * 8 < ys.length * 8:=by omega
        have hE:=ok_eqRoute k k' xs[i] ys[i] (hax _ (List.getElem_mem h)) (hbx _ (List.getElem_mem hib))
        refine drawP (tabEnv [] [(29,[.agg (GRoute.ci k xs[i]),.agg (GRoute.ci k' ys[i])],.c (pb (decide (xs[i] = ys[i]))),[.agg (GRoute.ci k xs[i]),.agg (GRoute.ci k' ys[i])])]) [⟨[],allD 27,true⟩,⟨[],allD 27,true⟩,⟨[],allD 27,true⟩,⟨[],allD 27,true⟩,⟨[],allD 27,true⟩,⟨[],allD 27,true⟩,⟨[],allD 27,true⟩,⟨[],allD 27,true⟩,⟨[],allD 27,false⟩,⟨[],allD 27,true⟩] h0 hm (tabEnv_ok (by intro x hx; simp only [List.mem_singleton] at hx; subst hx; exact hE)) (by kernel_rfl) (by kernel_rfl) ?_
        simp [h,hib,hd,hd',hlen,hlen',hlt,hlt']
        refine brn_app (fun h2 => ?_) (fun h2 => ?_)
        · simp at h2
          simp
          intro he
          exact h2 (htk.2 he).1
        · simp at h2
          simp
          subst hI
          exact Less_mk (n - 1) (by omega) ⟨i + 1,by omega,⟨fun h4 => htk.1 ⟨h2,h4⟩,fun h4 => (htk.2 h4).2⟩,by rw [wrNext i (by omega)]⟩
      · simp at h
        rw [List.drop_of_length_le (by omega),List.drop_of_length_le (by omega)] at htk
        simp
        exact htk.1 rfl
def wt_PrefixS (xs:List GPrefix):Nat:=xs.length
theorem len_wt_PrefixS (xs:List GPrefix):xs.length ≤ wt_PrefixS xs:=by unfold wt_PrefixS; omega
def fits_PrefixS (xs:List GPrefix):Prop:=xs.length ≤ 140737488351232 ∧ ∀ x ∈ xs,GPrefix.fits x
def lens_PrefixS (xs:List GPrefix):Prop:=xs.length ≤ 140737488351232 ∧ ∀ x ∈ xs,True
def mk_PrefixS (xs:List GPrefix) (k:Int):List GPrefix × Int:=mkR GPrefix.mark xs k
def cn_PrefixS (xs:List GPrefix):Nat:=cnR GPrefix.cn xs
theorem mk_PrefixS_len (xs:List GPrefix) (k:Int):(mk_PrefixS xs k).1.length = xs.length:=mkR_len _ xs k
attribute [simp] mk_PrefixS_len
theorem mk_PrefixS_snd (xs:List GPrefix) (k:Int):(mk_PrefixS xs k).2 = k + cn_PrefixS xs:=mkR_snd (GPrefix.mark_snd) xs k
theorem lens_of_PrefixS {xs:List GPrefix} (h:wt_PrefixS xs ≤ 1048576):lens_PrefixS xs:=by
  have hl:=len_wt_PrefixS xs
  exact ⟨by omega,fun _ _ => trivial⟩
theorem cn_le_PrefixS (xs:List GPrefix):cn_PrefixS xs ≤ 32 * wt_PrefixS xs:=cnR_le0 (fun x => by have:=cnE_le_Prefix x; unfold GPrefix.wt at this; omega) xs
theorem ok_eqPrefixS (k k':Nat) (xs ys:List GPrefix) (ha:lens_PrefixS xs) (hb:lens_PrefixS ys):CallOK Try.prog 54 [.c (rd k xs.length (xs.flatMap GPrefix.c)),.c (rd k' ys.length (ys.flatMap GPrefix.c))] (.c (pb (decide (xs = ys)))) [.c (rd k xs.length (xs.flatMap GPrefix.c)),.c (rd k' ys.length (ys.flatMap GPrefix.c))]:=by
  obtain ⟨ha,hax⟩:=ha
  obtain ⟨hb,hbx⟩:=hb
  refine okS (fn:=Try.f54) [] h0 Try.func54 (by kernel_rfl) rfl Try.ntmps54 Try.results54 (by simp) ?_
  simp
  refine brn_app (fun h => ?_) (fun h => ?_)
  · simp at h
    simp
    rintro rfl
    exact h rfl
  · simp at h
    have hl:ys.length = xs.length:=by omega
    simp
    refine loopS [0,1,5] [] (fun n st => ∃ (i:Nat),i + n = xs.length ∧ (xs.drop i = ys.drop i ↔ xs = ys) ∧ st = ⟨slOf 27 [(0,.t (rd k xs.length (xs.flatMap GPrefix.c))),(1,.t (rd k' ys.length (ys.flatMap GPrefix.c))),(5,.t (pi i))],ofL []⟩) xs.length ?_ ?_
    · rintro Inv hI
      simp
      subst hI
      exact ⟨0,by omega,by simp,rfl⟩
    · rintro Inv hI n st ⟨i,hi,htk,rfl⟩
      refine ewr_sound (M:=[]) h0 ?_
      simp
      refine brn_app (fun h => ?_) (fun h => ?_)
      · simp at h
        have hib:i < ys.length:=by omega
        rw [drop_step xs i h,drop_step ys i hib,List.cons.injEq] at htk
        simp
        have hd:=fm_drop GPrefix.c 2 (fun _ => rfl) xs i h
        have hd':=fm_drop GPrefix.c 2 (fun _ => rfl) ys i hib
        have hlen:=fm_len GPrefix.c 2 (fun _ => rfl) xs
        have hlen':=fm_len GPrefix.c 2 (fun _ => rfl) ys
        have hlt:i * 2 < xs.length * 2:=by omega
        have hlt':i * 2 < ys.length * 2:=by omega
        have hE:=ok_eqPrefix xs[i] ys[i]
        refine drawP (tabEnv [] [(56,[.agg (GPrefix.c xs[i]),.agg (GPrefix.c ys[i])],.c (pb (decide (xs[i] = ys[i]))),[.agg (GPrefix.c xs[i]),.agg (GPrefix.c ys[i])])]) [⟨[],allD 27,true⟩,⟨[],allD 27,true⟩,⟨[],allD 27,true⟩,⟨[],allD 27,true⟩,⟨[],allD 27,true⟩,⟨[],allD 27,true⟩,⟨[],allD 27,true⟩,⟨[],allD 27,true⟩,⟨[],allD 27,false⟩,⟨[],allD 27,true⟩] h0 hm (tabEnv_ok (by intro x hx; simp only [List.mem_singleton] at hx; subst hx; exact hE)) (by kernel_rfl) (by kernel_rfl) ?_
        simp [h,hib,hd,hd',hlen,hlen',hlt,hlt']
        refine brn_app (fun h2 => ?_) (fun h2 => ?_)
        · simp at h2
          simp
          intro he
          exact h2 (htk.2 he).1
        · simp at h2
          simp
          subst hI
          exact Less_mk (n - 1) (by omega) ⟨i + 1,by omega,⟨fun h4 => htk.1 ⟨h2,h4⟩,fun h4 => (htk.2 h4).2⟩,by rw [wrNext i (by omega)]⟩
      · simp at h
        rw [List.drop_of_length_le (by omega),List.drop_of_length_le (by omega)] at htk
        simp
        exact htk.1 rfl
structure GUpdate where
  Gone:(List GPrefix)
  Attrs:GAttrs
  Come:(List GPrefix)
  deriving DecidableEq
def GUpdate.co (x:GUpdate):List PT:=[.sl 0 44 x.Gone.length (x.Gone.flatMap GPrefix.c),pi x.Attrs.Origin,.sl 0 3 x.Attrs.Path.length (x.Attrs.Path.map pi),pi x.Attrs.Next,pi x.Attrs.Med,pi x.Attrs.Pref,.sl 0 3 x.Attrs.Comms.length (x.Attrs.Comms.map pi),.sl 0 44 x.Come.length (x.Come.flatMap GPrefix.c)]
def GUpdate.ci (k:Nat) (x:GUpdate):List PT:=[rd k x.Gone.length (x.Gone.flatMap GPrefix.c),pi x.Attrs.Origin,rd k x.Attrs.Path.length (x.Attrs.Path.map pi),pi x.Attrs.Next,pi x.Attrs.Med,pi x.Attrs.Pref,rd k x.Attrs.Comms.length (x.Attrs.Comms.map pi),rd k x.Come.length (x.Come.flatMap GPrefix.c)]
attribute [simp] GUpdate.co GUpdate.ci
theorem GUpdate.un1 (x:GUpdate):PT.unownL x.co = x.ci 0:=by simp [rd]
theorem GUpdate.uni1 (k:Nat) (x:GUpdate):PT.unownL (x.ci k) = x.ci 0:=by simp [rd]
theorem GUpdate.un (xs:List GUpdate):PT.unownL (xs.flatMap GUpdate.co) = xs.flatMap (GUpdate.ci 0):=by
  rw [unownL_fm]
  congr 1
  funext x
  exact GUpdate.un1 x
theorem GUpdate.uni (k:Nat) (xs:List GUpdate):PT.unownL (xs.flatMap (GUpdate.ci k)) = xs.flatMap (GUpdate.ci 0):=by
  rw [unownL_fm]
  congr 1
  funext x
  exact GUpdate.uni1 k x
theorem GUpdate.nt (xs:List GUpdate):PT.noTmpL (xs.flatMap GUpdate.co) = true:=noTmpL_fm _ xs fun x => by simp
theorem GUpdate.nti (k:Nat) (xs:List GUpdate):PT.noTmpL (xs.flatMap (GUpdate.ci (k + 1))) = true:=noTmpL_fm _ xs fun x => by simp [rd]
attribute [simp] GUpdate.un GUpdate.uni GUpdate.nt GUpdate.nti
theorem GUpdate.lenR (xs:List GUpdate):(xs.flatMap GUpdate.co).length = xs.length * 8:=fm_len _ 8 (fun _ => rfl) xs
theorem GUpdate.lenRi (k:Nat) (xs:List GUpdate):(xs.flatMap (GUpdate.ci k)).length = xs.length * 8:=fm_len _ 8 (fun _ => rfl) xs
theorem GUpdate.tkR (xs:List GUpdate):(xs.flatMap GUpdate.co).take (xs.length * 8) = xs.flatMap GUpdate.co:=List.take_of_length_le (by rw [GUpdate.lenR]; exact Nat.le_refl _)
theorem GUpdate.tkRi (k:Nat) (xs:List GUpdate):(xs.flatMap (GUpdate.ci k)).take (xs.length * 8) = xs.flatMap (GUpdate.ci k):=List.take_of_length_le (by rw [GUpdate.lenRi]; exact Nat.le_refl _)
attribute [simp high] GUpdate.lenR GUpdate.tkR GUpdate.lenRi GUpdate.tkRi
def GUpdate.wt (x:GUpdate):Nat:=wt_PrefixS x.Gone + GAttrs.wt x.Attrs + wt_PrefixS x.Come
def GUpdate.fits (x:GUpdate):Prop:=fits_PrefixS x.Gone ∧ GAttrs.fits x.Attrs ∧ fits_PrefixS x.Come
def GUpdate.lens (x:GUpdate):Prop:=lens_PrefixS x.Gone ∧ GAttrs.lens x.Attrs ∧ lens_PrefixS x.Come
def GUpdate.mark (x:GUpdate) (k:Int):GUpdate × Int:=(⟨(mk_PrefixS x.Gone k).1,⟨(mk_PrefixS x.Gone k).2,(mk_IntS x.Attrs.Path ((mk_PrefixS x.Gone k).2 + 1)).1,(mk_IntS x.Attrs.Path ((mk_PrefixS x.Gone k).2 + 1)).2,((mk_IntS x.Attrs.Path ((mk_PrefixS x.Gone k).2 + 1)).2 + 1),(((mk_IntS x.Attrs.Path ((mk_PrefixS x.Gone k).2 + 1)).2 + 1) + 1),(mk_IntS x.Attrs.Comms ((((mk_IntS x.Attrs.Path ((mk_PrefixS x.Gone k).2 + 1)).2 + 1) + 1) + 1)).1⟩,(mk_PrefixS x.Come (mk_IntS x.Attrs.Comms ((((mk_IntS x.Attrs.Path ((mk_PrefixS x.Gone k).2 + 1)).2 + 1) + 1) + 1)).2).1⟩,(mk_PrefixS x.Come (mk_IntS x.Attrs.Comms ((((mk_IntS x.Attrs.Path ((mk_PrefixS x.Gone k).2 + 1)).2 + 1) + 1) + 1)).2).2)
def GUpdate.cn (x:GUpdate):Nat:=cn_PrefixS x.Gone + 1 + cn_IntS x.Attrs.Path + 1 + 1 + 1 + cn_IntS x.Attrs.Comms + cn_PrefixS x.Come
theorem GUpdate.mark_snd (x:GUpdate) (k:Int):(GUpdate.mark x k).2 = k + GUpdate.cn x:=by
  simp only [GUpdate.mark,GUpdate.cn,mk_IntS_snd,mk_PrefixS_snd] <;> omega
theorem lens_of_Update {x:GUpdate} (h:GUpdate.wt x ≤ 1048576):GUpdate.lens x:=by
  unfold GUpdate.wt at h
  exact ⟨lens_of_PrefixS (by omega),lens_of_Attrs (by omega),lens_of_PrefixS (by omega)⟩
theorem cnE_le_Update (x:GUpdate):GUpdate.cn x ≤ 32 * GUpdate.wt x + 16:=by
  unfold GUpdate.cn GUpdate.wt
  have:=cn_le_PrefixS x.Gone
  have:=cn_le_IntS x.Attrs.Path
  have:=cn_le_IntS x.Attrs.Comms
  have:=cn_le_PrefixS x.Come
  simp only [GAttrs.wt]
  omega
end Go.V
