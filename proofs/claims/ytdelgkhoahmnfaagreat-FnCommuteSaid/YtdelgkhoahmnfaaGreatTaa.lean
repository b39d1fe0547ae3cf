/- What functions of the seat's program do, each proved of its code, under the bounds that its theorem names. -/
import Derived.Test.YtdelgkhoahmnfaaGreatFacts
set_option linter.all false
namespace Go.V
open Go.Proofs
set_option maxHeartbeats 1000000
set_option maxRecDepth 10000
set_option linter.unusedSimpArgs false
set_option linter.unusedVariables false
def wb (c:Int):Bool:=decide (97 ≤ c ∧ c ≤ 122) || decide (48 ≤ c ∧ c ≤ 57) || decide (c = 45)
def curP (code:List Int) (a s:Int):PT:=.sl 0 129 1 [rd 1 code.length (code.map pu),pi a,.raw (.int .u64 s)]
theorem nt_pu:∀ l:List Int,PT.noTmpL (l.map pu) = true
  | [] => by simp [PT.noTmpL]
  | x :: l => by simp [PT.noTmpL,PT.noTmp,nt_pu l]
attribute [simp] nt_pu
def codeOK (code:List Int):Prop:=code.length ≤ 140737488351232 ∧ ∀ c ∈ code,0 ≤ c ∧ c ≤ 255
def seedN (s b:Int):Int:=IntKind.wrap .u64 (IntKind.wrap .u64 (IntKind.wrap .u64 (s * 6364136223846793005) + IntKind.wrap .u64 b) + 1442695040888963407)
def codeN (x:Int):Int:=IntKind.i64.wrap (bitAnd IntKind.u64 (x.fdiv (2 ^ min 40 IntKind.u64.bits)) 255)
theorem and_range (y:Int):0 ≤ IntKind.i64.wrap (bitAnd IntKind.u64 y 255) ∧ IntKind.i64.wrap (bitAnd IntKind.u64 y 255) ≤ 255:=by
  have h1:(BitVec.ofInt IntKind.u64.bits y &&& BitVec.ofInt IntKind.u64.bits 255).toNat ≤ 255:=by
    rw [BitVec.toNat_and]
    exact Nat.and_le_right
  have h2:∀ n:Fin 256,IntKind.i64.wrap (IntKind.u64.wrap (n.1:Int)) = (n.1:Int):=by decide
  unfold bitAnd
  generalize (BitVec.ofInt IntKind.u64.bits y &&& BitVec.ofInt IntKind.u64.bits 255).toNat = n at h1
  have h3:=h2 ⟨n,by omega⟩
  simp only at h3
  rw [h3]
  omega
theorem ok_next (code:List Int) (hc:codeOK code) (a s:Int) (ha:0 ≤ a) (ha2:a ≤ 4000000):∃ r s',(0 ≤ r ∧ r ≤ 255) ∧ CallOK Tryz.prog 147 [.bp (curP code a s)] (.c (pi r)) [.bp (curP code (a + 1) s')]:=by
  obtain ⟨hl,hc⟩:=hc
  have w1:IntKind.i64.wrap (a + 1) = a + 1:=wrap64 (by omega) (by omega)
  unfold curP
  by_cases c1:a < code.length
  · have hat:a.toNat < code.length:=by omega
    have hb:=hc _ (List.getElem_mem hat)
    have hd:List.drop a.toNat (code.map pu) = pu code[a.toNat] :: List.drop (a.toNat + 1) (code.map pu):=by
      rw [List.drop_eq_getElem_cons (by rw [List.length_map]; exact hat),List.getElem_map]
    generalize code[a.toNat] = b at hb hd
    have wb:IntKind.i64.wrap b = b:=wrap64 (by omega) (by omega)
    have c2:a + 1 ≤ (code.length:Int):=by omega
    refine ⟨b,seedN s b,hb,?_⟩
    refine okS (fn:=Tryz.f147) [] h0 Tryz.func147 (by kernel_rfl) rfl Tryz.ntmps147 Tryz.results147 (by simp) ?_
    simp
    refine drawP (tabEnv [] []) [⟨[.arg 0 0],allD 62,true⟩,⟨[.arg 0 0],allD 62,true⟩,⟨[.arg 0 0],allD 62,true⟩,⟨[.arg 0 0],allD 62,true⟩,⟨[.arg 0 0],allD 62,true⟩,⟨[.arg 0 0],allD 62,true⟩,⟨[.arg 0 0],allD 62,true⟩,⟨[.arg 0 0],allD 62,true⟩,⟨[],allD 62,true⟩,⟨[],allD 62,true⟩] h0 hm (tabEnv_ok tab_nil) (by kernel_rfl) (by kernel_rfl) ?_
    simp [c1]
    refine drawP (tabEnv [] []) [⟨[.arg 0 0],allD 62,true⟩,⟨[.arg 0 0],allD 62,true⟩,⟨[.arg 0 0],allD 62,true⟩,⟨[.arg 0 0],allD 62,true⟩,⟨[.arg 0 0],allD 62,true⟩,⟨[.arg 0 0],allD 62,true⟩,⟨[.arg 0 0],allD 62,true⟩,⟨[.arg 0 0],allD 62,true⟩,⟨[],allD 62,true⟩,⟨[],allD 62,true⟩,⟨[],allD 62,true⟩,⟨[],allD 62,true⟩] h0 hm (tabEnv_ok tab_nil) (by kernel_rfl) (by kernel_rfl) ?_
    simp [c1,ha,hat,hd,wb,w1]
    refine drawP (tabEnv [] []) [⟨[.arg 0 0],allD 62,true⟩,⟨[.arg 0 0],allD 62,true⟩,⟨[.arg 0 0],allD 62,true⟩,⟨[.arg 0 0],allD 62,true⟩,⟨[.arg 0 0],allD 62,true⟩,⟨[.arg 0 0],allD 62,true⟩,⟨[.arg 0 0],allD 62,true⟩,⟨[.arg 0 0],allD 62,true⟩,⟨[],allD 62,true⟩,⟨[],allD 62,true⟩] h0 hm (tabEnv_ok tab_nil) (by kernel_rfl) (by kernel_rfl) ?_
    simp [c2,seedN]
  · refine ⟨codeN (seedN s 0),seedN s 0,and_range _,?_⟩
    have c2:¬ a + 1 ≤ (code.length:Int):=by omega
    refine okS (fn:=Tryz.f147) [] h0 Tryz.func147 (by kernel_rfl) rfl Tryz.ntmps147 Tryz.results147 (by simp) ?_
    simp
    refine drawP (tabEnv [] []) [⟨[.arg 0 0],allD 62,true⟩,⟨[.arg 0 0],allD 62,true⟩,⟨[.arg 0 0],allD 62,true⟩,⟨[.arg 0 0],allD 62,true⟩,⟨[.arg 0 0],allD 62,true⟩,⟨[.arg 0 0],allD 62,true⟩,⟨[.arg 0 0],allD 62,true⟩,⟨[.arg 0 0],allD 62,true⟩,⟨[],allD 62,true⟩,⟨[],allD 62,true⟩] h0 hm (tabEnv_ok tab_nil) (by kernel_rfl) (by kernel_rfl) ?_
    simp [c1,w1]
    refine drawP (tabEnv [] []) [⟨[.arg 0 0],allD 62,true⟩,⟨[.arg 0 0],allD 62,true⟩,⟨[.arg 0 0],allD 62,true⟩,⟨[.arg 0 0],allD 62,true⟩,⟨[.arg 0 0],allD 62,true⟩,⟨[.arg 0 0],allD 62,true⟩,⟨[.arg 0 0],allD 62,true⟩,⟨[.arg 0 0],allD 62,true⟩,⟨[],allD 62,true⟩,⟨[],allD 62,true⟩] h0 hm (tabEnv_ok tab_nil) (by kernel_rfl) (by kernel_rfl) ?_
    simp [c2,seedN,codeN]
theorem ok_pick (code:List Int) (hc:codeOK code) (n:Int) (hn:n ≤ 200) (hn0:1 ≤ n) (a s:Int) (ha:0 ≤ a) (ha2:a ≤ 4000000):∃ r a' s',(0 ≤ r ∧ r ≤ n - 1) ∧ (a ≤ a' ∧ a' ≤ a + 1) ∧ CallOK Tryz.prog 93 [.bp (curP code a s),.c (pi n)] (.c (pi r)) [.bp (curP code a' s'),.c (pi n)]:=by
  by_cases c1:n ≤ 1
  · refine ⟨0,a,s,by omega,by omega,?_⟩
    refine okS (fn:=Tryz.f93) [(147,[1])] h0 Tryz.func93 (by kernel_rfl) rfl Tryz.ntmps93 Tryz.results93 (by simp) ?_
    simp [c1,curP]
  · obtain ⟨x,s',hx,hcall⟩:=ok_next code hc a s ha ha2
    have c2:¬ 200 < n:=by omega
    have c3:¬ n = 0:=by omega
    have h1:0 ≤ x.tmod n:=Int.tmod_nonneg n hx.1
    have h2:x.tmod n < n:=Int.tmod_lt_of_pos x (by omega)
    have w1:IntKind.i64.wrap (x.tmod n) = x.tmod n:=wrap64 (by omega) (by omega)
    refine ⟨x.tmod n,a + 1,s',by omega,by omega,?_⟩
    refine okS (fn:=Tryz.f93) [(147,[1])] h0 Tryz.func93 (by kernel_rfl) rfl Tryz.ntmps93 Tryz.results93 (by simp) ?_
    unfold curP at hcall ⊢
    simp [c1]
    refine Inv_intro hcall ?_
    simp [c2,c3,w1]
theorem ok_one (code:List Int) (hc:codeOK code) (n:Int) (hn:n ≤ 200) (hn0:1 ≤ n) (a s:Int) (ha:0 ≤ a) (ha2:a ≤ 4000000):∃ r a' s',(a ≤ a' ∧ a' ≤ a + 1) ∧ CallOK Tryz.prog 106 [.bp (curP code a s),.c (pi n)] (.c (pb r)) [.bp (curP code a' s'),.c (pi n)]:=by
  obtain ⟨x,a',s',hx,ha',hcall⟩:=ok_pick code hc n hn hn0 a s ha ha2
  refine ⟨decide (x = 0),a',s',ha',?_⟩
  refine okS (fn:=Tryz.f106) [(93,[1])] h0 Tryz.func106 (by kernel_rfl) rfl Tryz.ntmps106 Tryz.results106 (by simp) ?_
  unfold curP at hcall ⊢
  simp
  refine Inv_intro hcall ?_
  simp
theorem ok_among (q:Nat) (code:List Int) (hc:codeOK code) (l:List Int) (hl:l.length ≤ 200) (hl0:1 ≤ l.length) (a s:Int) (ha:0 ≤ a) (ha2:a ≤ 4000000):∃ r a' s',r ∈ l ∧ (a ≤ a' ∧ a' ≤ a + 1) ∧ CallOK Tryz.prog 111 [.bp (curP code a s),.c (rd q l.length (l.map pi))] (.c (pi r)) [.bp (curP code a' s'),.c (rd q l.length (l.map pi))]:=by
  obtain ⟨x,a',s',hx,ha',hcall⟩:=ok_pick code hc (l.length:Int) (by omega) (by omega) a s ha ha2
  have hat:x.toNat < l.length:=by omega
  have hd:List.drop x.toNat (l.map pi) = pi l[x.toNat] :: List.drop (x.toNat + 1) (l.map pi):=by
    rw [List.drop_eq_getElem_cons (by rw [List.length_map]; exact hat),List.getElem_map]
  have hm':=List.getElem_mem hat
  have hx2:x < l.length:=by omega
  generalize l[x.toNat] = r at hd hm'
  refine ⟨r,a',s',hm',ha',?_⟩
  refine okS (fn:=Tryz.f111) [(93,[1])] h0 Tryz.func111 (by kernel_rfl) rfl Tryz.ntmps111 Tryz.results111 (by simp) ?_
  unfold curP at hcall ⊢
  simp
  refine Inv_intro hcall ?_
  simp [hx.1,hx2,hat,hd]
theorem open_U8 {n:Nat} {qs:List PT} (h:TyC Tryz.prog (n + 1) 5 qs):∃ x:Int,qs = [pu x] ∧ (0 ≤ x ∧ x ≤ 255):=by
  unfold TyC at h
  rw [Tryz.underlying5] at h
  simp only at h
  obtain ⟨m,rfl,hm⟩:=h
  refine ⟨m,rfl,?_⟩
  simp [Lit.wf] at hm
  have e1:IntKind.u8.min = 0:=by decide
  have e2:IntKind.u8.max = 255:=by decide
  rw [e1,e2] at hm
  exact hm
theorem open_each {α:Type} {f:α → List PT} {q:α → Prop}:∀ {cells:List (List PT)},(∀ c ∈ cells,∃ x,c = f x ∧ q x) → ∃ xs:List α,cells = xs.map f ∧ ∀ x ∈ xs,q x
  | [],_ => ⟨[],rfl,by simp⟩
  | c :: cs,h => by
    obtain ⟨x,hx,hq⟩:=h c (by simp)
    obtain ⟨xs,hxs,hqs⟩:=open_each (cells:=cs) fun d hd => h d (by simp [hd])
    refine ⟨x :: xs,by rw [hx,hxs]; rfl,fun y hy => ?_⟩
    rcases List.mem_cons.1 hy with rfl | hy
    · exact hq
    · exact hqs y hy
theorem open_flat {α:Type} (f:α → PT):∀ xs:List α,(xs.map fun x => [f x]).flatten = xs.map f
  | [] => rfl
  | x :: xs => by simp [open_flat f xs]
theorem open_ByteS {n:Nat} {qs:List PT} (h:TyC Tryz.prog (n + 2) 71 qs):∃ x:(List Int),qs = [rd 1 x.length (x.map pu)] ∧ codeOK x:=by
  unfold TyC at h
  rw [Tryz.underlying71] at h
  simp only at h
  obtain ⟨cells,rfl,hl,hc⟩:=h
  obtain ⟨xs,rfl,hx⟩:=open_each (f:=fun x:Int => [pu x]) (q:=fun x => 0 ≤ x ∧ x ≤ 255) (fun c hcc => open_U8 (hc c hcc))
  refine ⟨xs,?_,?_⟩
  · simp only [List.length_map,open_flat]
  · have e1:Tryz.prog.bytesOf 5 = 1:=by kernel_rfl
    rw [e1,List.length_map] at hl
    have e2:reachBytes = 140737488351232:=rfl
    rw [e2] at hl
    exact ⟨by omega,hx⟩
def wt_IntS (xs:List Int):Nat:=xs.length
theorem len_wt_IntS (xs:List Int):xs.length ≤ wt_IntS xs:=by unfold wt_IntS; omega
def mk_IntS (xs:List Int) (k:Int):List Int × Int:=mkR (fun (_:Int) k => (k,k + 1)) xs k
theorem mk_IntS_len (xs:List Int) (k:Int):(mk_IntS xs k).1.length = xs.length:=mkR_len _ xs k
attribute [simp] mk_IntS_len
structure GAttrs where
  Origin:Int
  Path:(List Int)
  Next:Int
  Med:Int
  Pref:Int
  Comms:(List Int)
  deriving DecidableEq
def GAttrs.co (x:GAttrs):List PT:=[pi x.Origin,.sl 0 3 x.Path.length (x.Path.map pi),pi x.Next,pi x.Med,pi x.Pref,.sl 0 3 x.Comms.length (x.Comms.map pi)]
def GAttrs.ci (k:Nat) (x:GAttrs):List PT:=[pi x.Origin,rd k x.Path.length (x.Path.map pi),pi x.Next,pi x.Med,pi x.Pref,rd k x.Comms.length (x.Comms.map pi)]
attribute [simp] GAttrs.co GAttrs.ci
theorem GAttrs.len_i (k:Nat) (x:GAttrs):(x.ci k).length = 6:=rfl
theorem GAttrs.un1 (x:GAttrs):PT.unownL x.co = x.ci 0:=by simp [rd]
theorem GAttrs.uni1 (k:Nat) (x:GAttrs):PT.unownL (x.ci k) = x.ci 0:=by simp [rd]
theorem GAttrs.un (xs:List GAttrs):PT.unownL (xs.flatMap GAttrs.co) = xs.flatMap (GAttrs.ci 0):=by
  rw [unownL_fm]
  congr 1
  funext x
  exact GAttrs.un1 x
theorem GAttrs.uni (k:Nat) (xs:List GAttrs):PT.unownL (xs.flatMap (GAttrs.ci k)) = xs.flatMap (GAttrs.ci 0):=by
  rw [unownL_fm]
  congr 1
  funext x
  exact GAttrs.uni1 k x
theorem GAttrs.nt (xs:List GAttrs):PT.noTmpL (xs.flatMap GAttrs.co) = true:=noTmpL_fm _ xs fun x => by simp
theorem GAttrs.nti (k:Nat) (xs:List GAttrs):PT.noTmpL (xs.flatMap (GAttrs.ci (k + 1))) = true:=noTmpL_fm _ xs fun x => by simp [rd]
attribute [simp] GAttrs.un GAttrs.uni GAttrs.nt GAttrs.nti
theorem GAttrs.lenR (xs:List GAttrs):(xs.flatMap GAttrs.co).length = xs.length * 6:=fm_len _ 6 (fun _ => rfl) xs
theorem GAttrs.lenRi (k:Nat) (xs:List GAttrs):(xs.flatMap (GAttrs.ci k)).length = xs.length * 6:=fm_len _ 6 (fun _ => rfl) xs
theorem GAttrs.tkR (xs:List GAttrs):(xs.flatMap GAttrs.co).take (xs.length * 6) = xs.flatMap GAttrs.co:=List.take_of_length_le (by rw [GAttrs.lenR]; exact Nat.le_refl _)
theorem GAttrs.tkRi (k:Nat) (xs:List GAttrs):(xs.flatMap (GAttrs.ci k)).take (xs.length * 6) = xs.flatMap (GAttrs.ci k):=List.take_of_length_le (by rw [GAttrs.lenRi]; exact Nat.le_refl _)
attribute [simp high] GAttrs.lenR GAttrs.tkR GAttrs.lenRi GAttrs.tkRi
def GAttrs.wt (x:GAttrs):Nat:=wt_IntS x.Path + wt_IntS x.Comms
def GAttrs.mark (x:GAttrs) (k:Int):GAttrs × Int:=(⟨k,(mk_IntS x.Path (k + 1)).1,(mk_IntS x.Path (k + 1)).2,((mk_IntS x.Path (k + 1)).2 + 1),(((mk_IntS x.Path (k + 1)).2 + 1) + 1),(mk_IntS x.Comms ((((mk_IntS x.Path (k + 1)).2 + 1) + 1) + 1)).1⟩,(mk_IntS x.Comms ((((mk_IntS x.Path (k + 1)).2 + 1) + 1) + 1)).2)
structure GPrefix where
  Addr:Int
  Len:Int
  deriving DecidableEq
def GPrefix.c (x:GPrefix):List PT:=[pi x.Addr,pi x.Len]
attribute [simp] GPrefix.c
theorem GPrefix.len (x:GPrefix):x.c.length = 2:=rfl
theorem GPrefix.un (xs:List GPrefix):PT.unownL (xs.flatMap GPrefix.c) = xs.flatMap GPrefix.c:=by
  rw [unownL_fm]
  congr 1
theorem GPrefix.nt (xs:List GPrefix):PT.noTmpL (xs.flatMap GPrefix.c) = true:=noTmpL_fm _ xs fun _ => rfl
attribute [simp] GPrefix.un GPrefix.nt
theorem GPrefix.lenR (xs:List GPrefix):(xs.flatMap GPrefix.c).length = xs.length * 2:=fm_len _ 2 (fun _ => rfl) xs
theorem GPrefix.tkR (xs:List GPrefix):(xs.flatMap GPrefix.c).take (xs.length * 2) = xs.flatMap GPrefix.c:=List.take_of_length_le (by rw [GPrefix.lenR]; exact Nat.le_refl _)
attribute [simp high] GPrefix.lenR GPrefix.tkR
def GPrefix.wt (x:GPrefix):Nat:=0
def GPrefix.mark (x:GPrefix) (k:Int):GPrefix × Int:=(⟨k,(k + 1)⟩,((k + 1) + 1))
structure GRoute where
  Prefix:GPrefix
  Attrs:GAttrs
  deriving DecidableEq
def GRoute.co (x:GRoute):List PT:=[pi x.Prefix.Addr,pi x.Prefix.Len,pi x.Attrs.Origin,.sl 0 3 x.Attrs.Path.length (x.Attrs.Path.map pi),pi x.Attrs.Next,pi x.Attrs.Med,pi x.Attrs.Pref,.sl 0 3 x.Attrs.Comms.length (x.Attrs.Comms.map pi)]
def GRoute.ci (k:Nat) (x:GRoute):List PT:=[pi x.Prefix.Addr,pi x.Prefix.Len,pi x.Attrs.Origin,rd k x.Attrs.Path.length (x.Attrs.Path.map pi),pi x.Attrs.Next,pi x.Attrs.Med,pi x.Attrs.Pref,rd k x.Attrs.Comms.length (x.Attrs.Comms.map pi)]
attribute [simp] GRoute.co GRoute.ci
theorem GRoute.len_i (k:Nat) (x:GRoute):(x.ci k).length = 8:=rfl
theorem GRoute.un1 (x:GRoute):PT.unownL x.co = x.ci 0:=by simp [rd]
theorem GRoute.uni1 (k:Nat) (x:GRoute):PT.unownL (x.ci k) = x.ci 0:=by simp [rd]
theorem GRoute.un (xs:List GRoute):PT.unownL (xs.flatMap GRoute.co) = xs.flatMap (GRoute.ci 0):=by
  rw [unownL_fm]
  congr 1
  funext x
  exact GRoute.un1 x
theorem GRoute.uni (k:Nat) (xs:List GRoute):PT.unownL (xs.flatMap (GRoute.ci k)) = xs.flatMap (GRoute.ci 0):=by
  rw [unownL_fm]
  congr 1
  funext x
  exact GRoute.uni1 k x
theorem GRoute.nt (xs:List GRoute):PT.noTmpL (xs.flatMap GRoute.co) = true:=noTmpL_fm _ xs fun x => by simp
theorem GRoute.nti (k:Nat) (xs:List GRoute):PT.noTmpL (xs.flatMap (GRoute.ci (k + 1))) = true:=noTmpL_fm _ xs fun x => by simp [rd]
attribute [simp] GRoute.un GRoute.uni GRoute.nt GRoute.nti
theorem GRoute.lenR (xs:List GRoute):(xs.flatMap GRoute.co).length = xs.length * 8:=fm_len _ 8 (fun _ => rfl) xs
theorem GRoute.lenRi (k:Nat) (xs:List GRoute):(xs.flatMap (GRoute.ci k)).length = xs.length * 8:=fm_len _ 8 (fun _ => rfl) xs
theorem GRoute.tkR (xs:List GRoute):(xs.flatMap GRoute.co).take (xs.length * 8) = xs.flatMap GRoute.co:=List.take_of_length_le (by rw [GRoute.lenR]; exact Nat.le_refl _)
theorem GRoute.tkRi (k:Nat) (xs:List GRoute):(xs.flatMap (GRoute.ci k)).take (xs.length * 8) = xs.flatMap (GRoute.ci k):=List.take_of_length_le (by rw [GRoute.lenRi]; exact Nat.le_refl _)
attribute [simp high] GRoute.lenR GRoute.tkR GRoute.lenRi GRoute.tkRi
def GRoute.wt (x:GRoute):Nat:=GAttrs.wt x.Attrs
def GRoute.mark (x:GRoute) (k:Int):GRoute × Int:=(⟨⟨k,(k + 1)⟩,⟨((k + 1) + 1),(mk_IntS x.Attrs.Path (((k + 1) + 1) + 1)).1,(mk_IntS x.Attrs.Path (((k + 1) + 1) + 1)).2,((mk_IntS x.Attrs.Path (((k + 1) + 1) + 1)).2 + 1),(((mk_IntS x.Attrs.Path (((k + 1) + 1) + 1)).2 + 1) + 1),(mk_IntS x.Attrs.Comms ((((mk_IntS x.Attrs.Path (((k + 1) + 1) + 1)).2 + 1) + 1) + 1)).1⟩⟩,(mk_IntS x.Attrs.Comms ((((mk_IntS x.Attrs.Path (((k + 1) + 1) + 1)).2 + 1) + 1) + 1)).2)
def inR (n lo hi:Int):Bool:=decide (lo ≤ n ∧ n ≤ hi)
def szP (n:Int):Int:=2 ^ (32 - n).toNat
theorem shl_pow (m:Nat) (h:m ≤ 32):IntKind.wrap .i64 (1 * 2 ^ min m IntKind.i64.bits) = 2 ^ m:=by
  have:∀ m:Fin 33,IntKind.wrap .i64 (1 * 2 ^ min m.1 IntKind.i64.bits) = 2 ^ m.1:=by decide
  exact this ⟨m,by omega⟩
theorem pow_ne (m:Nat):¬ (2:Int) ^ m = 0:=by
  have:(0:Int) < 2 ^ m:=Int.pow_pos (by decide)
  omega
def goodPx (p:GPrefix):Bool:=inR p.Len 0 32 && (inR p.Addr 0 4294967295 && decide (p.Addr.tmod (szP p.Len) = 0))
def cmpI (a b:Int):Int:=if a < b then -1 else if b < a then 1 else 0
def cmpPx (p q:GPrefix):Int:=if cmpI p.Addr q.Addr = 0 then cmpI p.Len q.Len else cmpI p.Addr q.Addr
def orI:List Int → Int
  | [] => 0
  | x :: xs => if x = 0 then orI xs else x
def isAsnB (n:Int):Bool:=inR n 1 65535
def isValB (n:Int):Bool:=inR n 0 1000000
def adjI (q:Option Int) (x:Int):Bool:=match q with
  | none => true
  | some q => decide (q < x)
def commsG:Option Int → List Int → Bool
  | _,[] => true
  | q,x :: xs => isValB x && adjI q x && commsG (some x) xs
def goodCm (l:List Int):Bool:=commsG none l && decide (l.length ≤ 6)
def goodPa (l:List Int):Bool:=decide (l.length ≤ 10) && l.all isAsnB
def goodA (a:GAttrs):Bool:=inR a.Origin 0 2 && (goodPa a.Path && (inR a.Next 0 4294967295 && (isValB a.Med && (isValB a.Pref && goodCm a.Comms))))
def prevI (l:List Int) (i:Nat):Option Int:=if i = 0 then none else l[i - 1]?
theorem prevI_next (l:List Int) (i:Nat) (h:i < l.length):prevI l (i + 1) = some l[i]:=by simp [prevI,h]
def attrOK (a:GAttrs):Prop:=a.Path.length ≤ 140737488351232 ∧ a.Comms.length ≤ 140737488351232
theorem ok_within (n lo hi:Int):CallOK Tryz.prog 125 [.c (pi n),.c (pi lo),.c (pi hi)] (.c (pb (decide (lo ≤ n ∧ n ≤ hi)))) [.c (pi n),.c (pi lo),.c (pi hi)]:=by
  refine okS (fn:=Tryz.f125) [] h0 Tryz.func125 (by kernel_rfl) rfl Tryz.ntmps125 Tryz.results125 (by simp) ?_
  simp
  refine gT (fun h => ?_) (fun h => ?_) <;> simp [h]
theorem ok_l1In (n lo hi:Int):CallOK Tryz.prog 102 [.c (pi n),.c (pi lo),.c (pi hi)] (.c (pb (decide (lo ≤ n ∧ n ≤ hi)))) [.c (pi n),.c (pi lo),.c (pi hi)]:=by
  refine okS (fn:=Tryz.f102) [] h0 Tryz.func102 (by kernel_rfl) rfl Tryz.ntmps102 Tryz.results102 (by simp) ?_
  simp
  refine gT (fun h => ?_) (fun h => ?_) <;> simp [h]
theorem inR_t {n lo hi:Int} (h:lo ≤ n ∧ n ≤ hi):inR n lo hi = true:=by simp [inR,h]
theorem ok_isAsn (n:Int):CallOK Tryz.prog 95 [.c (pi n)] (.c (pb (isAsnB n))) [.c (pi n)]:=by
  refine okS (fn:=Tryz.f95) [] h0 Tryz.func95 (by kernel_rfl) rfl Tryz.ntmps95 Tryz.results95 (by simp) ?_
  simp
  refine Inv_intro (ok_within _ _ _) ?_
  simp [isAsnB,inR]
theorem ok_isAddr (n:Int):CallOK Tryz.prog 150 [.c (pi n)] (.c (pb (inR n 0 4294967295))) [.c (pi n)]:=by
  refine okS (fn:=Tryz.f150) [] h0 Tryz.func150 (by kernel_rfl) rfl Tryz.ntmps150 Tryz.results150 (by simp) ?_
  simp
  refine Inv_intro (ok_within _ _ _) ?_
  simp [inR]
theorem ok_l1Addr (n:Int):CallOK Tryz.prog 155 [.c (pi n)] (.c (pb (inR n 0 4294967295))) [.c (pi n)]:=by
  refine okS (fn:=Tryz.f155) [] h0 Tryz.func155 (by kernel_rfl) rfl Tryz.ntmps155 Tryz.results155 (by simp) ?_
  simp
  refine Inv_intro (ok_l1In _ _ _) ?_
  simp [inR]
theorem ok_sizeOf (n:Int) (h1:0 ≤ n) (h2:n ≤ 32):CallOK Tryz.prog 151 [.c (pi n)] (.c (pi (szP n))) [.c (pi n)]:=by
  refine okS (fn:=Tryz.f151) [] h0 Tryz.func151 (by kernel_rfl) rfl Tryz.ntmps151 Tryz.results151 (by simp) ?_
  have hw:IntKind.wrap .i64 (32 - n) = 32 - n:=wrap64 (by omega) (by omega)
  have hs:=shl_pow (32 - n).toNat (by omega)
  have hn:0 ≤ 32 - n:=by omega
  simp [hw,h2]
  simpa [szP] using hs
theorem ok_l1Size (p:GPrefix) (h1:0 ≤ p.Len) (h2:p.Len ≤ 32):CallOK Tryz.prog 156 [.agg p.c] (.c (pi (szP p.Len))) [.agg p.c]:=by
  refine okS (fn:=Tryz.f156) [] h0 Tryz.func156 (by kernel_rfl) rfl Tryz.ntmps156 Tryz.results156 (by simp) ?_
  have hw:IntKind.wrap .i64 (32 - p.Len) = 32 - p.Len:=wrap64 (by omega) (by omega)
  have hw2:IntKind.wrap .u64 (32 - p.Len) = 32 - p.Len:=by
    show (32 - p.Len) % 18446744073709551616 = _
    omega
  have hs:=shl_pow (32 - p.Len).toNat (by omega)
  have hn:0 ≤ 32 - p.Len:=by omega
  simp [hw,hw2,h2]
  simpa [szP] using hs
theorem ok_iGoodPrefix (p:GPrefix):CallOK Tryz.prog 96 [.agg p.c] (.c (pb (goodPx p))) [.agg p.c]:=by
  refine okS (fn:=Tryz.f96) [] h0 Tryz.func96 (by kernel_rfl) rfl Tryz.ntmps96 Tryz.results96 (by simp) ?_
  simp
  have hz:=pow_ne (32 - p.Len).toNat
  by_cases c1:0 ≤ p.Len ∧ p.Len ≤ 32
  · refine drawP (tabEnv [] _) [⟨[.op 0 0 0],allD 20,true⟩,⟨[.op 0 0 0],allD 20,true⟩,⟨[],allD 20,false⟩,⟨[],allD 20,true⟩,⟨[.op 0 0 0],allD 20,true⟩,⟨[.op 0 0 0],allD 20,true⟩,⟨[],allD 20,false⟩,⟨[],allD 20,true⟩,⟨[],allD 20,true⟩,⟨[.op 0 0 0],allD 20,true⟩,⟨[.op 0 0 0],allD 20,true⟩,⟨[.op 0 0 0],allD 20,true⟩,⟨[.op 0 0 0],allD 20,true⟩,⟨[],allD 20,false⟩,⟨[],allD 20,true⟩,⟨[],allD 20,true⟩,⟨[],allD 20,true⟩,⟨[],allD 20,true⟩] h0 hm (tabEnv_ok (tab_cons (ok_within p.Len 0 32) (tab_cons (ok_isAddr p.Addr) (tab_cons (ok_sizeOf p.Len c1.1 c1.2) tab_nil)))) (by kernel_rfl) (by kernel_rfl) ?_
    cases c2:inR p.Addr 0 4294967295 with
    | false => simp [c1,c2,goodPx,inR_t c1]
    | true =>
      simp [c1,c2,goodPx,inR_t c1,szP,hz]
      try exact decide_eq_decide.2 Iff.rfl
  · refine drawP (tabEnv [] _) [⟨[.op 0 0 0],allD 20,true⟩,⟨[.op 0 0 0],allD 20,true⟩,⟨[],allD 20,false⟩,⟨[],allD 20,true⟩,⟨[.op 0 0 0],allD 20,true⟩,⟨[.op 0 0 0],allD 20,true⟩,⟨[],allD 20,false⟩,⟨[],allD 20,true⟩,⟨[],allD 20,true⟩,⟨[.op 0 0 0],allD 20,true⟩,⟨[.op 0 0 0],allD 20,true⟩,⟨[.op 0 0 0],allD 20,true⟩,⟨[.op 0 0 0],allD 20,true⟩,⟨[],allD 20,false⟩,⟨[],allD 20,true⟩,⟨[],allD 20,true⟩,⟨[],allD 20,true⟩,⟨[],allD 20,true⟩] h0 hm (tabEnv_ok (tab_cons (ok_within p.Len 0 32) tab_nil)) (by kernel_rfl) (by kernel_rfl) ?_
    simp [c1,goodPx,inR]
theorem ok_sGoodPrefix (p:GPrefix):CallOK Tryz.prog 99 [.agg p.c] (.c (pb (goodPx p))) [.agg p.c]:=by
  refine okS (fn:=Tryz.f99) [] h0 Tryz.func99 (by kernel_rfl) rfl Tryz.ntmps99 Tryz.results99 (by simp) ?_
  simp
  have hz:=pow_ne (32 - p.Len).toNat
  by_cases c1:0 ≤ p.Len ∧ p.Len ≤ 32
  · refine drawP (tabEnv [] _) [⟨[.op 0 0 0],allD 19,true⟩,⟨[.op 0 0 0],allD 19,true⟩,⟨[],allD 19,false⟩,⟨[],allD 19,true⟩,⟨[.op 0 0 0],allD 19,true⟩,⟨[.op 0 0 0],allD 19,true⟩,⟨[],allD 19,false⟩,⟨[],allD 19,true⟩,⟨[],allD 19,true⟩,⟨[.op 0 0 0],allD 19,true⟩,⟨[.op 0 0 0],allD 19,true⟩,⟨[.op 0 0 0],allD 19,true⟩,⟨[],allD 19,false⟩,⟨[],allD 19,true⟩,⟨[],allD 19,true⟩,⟨[],allD 19,true⟩,⟨[],allD 19,true⟩] h0 hm (tabEnv_ok (tab_cons (ok_l1In p.Len 0 32) (tab_cons (ok_l1Addr p.Addr) (tab_cons (ok_l1Size p c1.1 c1.2) tab_nil)))) (by kernel_rfl) (by kernel_rfl) ?_
    cases c2:inR p.Addr 0 4294967295 with
    | false => simp [c1,c2,goodPx,inR_t c1]
    | true =>
      simp [c1,c2,goodPx,inR_t c1,szP,hz]
      try exact decide_eq_decide.2 Iff.rfl
  · refine drawP (tabEnv [] _) [⟨[.op 0 0 0],allD 19,true⟩,⟨[.op 0 0 0],allD 19,true⟩,⟨[],allD 19,false⟩,⟨[],allD 19,true⟩,⟨[.op 0 0 0],allD 19,true⟩,⟨[.op 0 0 0],allD 19,true⟩,⟨[],allD 19,false⟩,⟨[],allD 19,true⟩,⟨[],allD 19,true⟩,⟨[.op 0 0 0],allD 19,true⟩,⟨[.op 0 0 0],allD 19,true⟩,⟨[.op 0 0 0],allD 19,true⟩,⟨[],allD 19,false⟩,⟨[],allD 19,true⟩,⟨[],allD 19,true⟩,⟨[],allD 19,true⟩,⟨[],allD 19,true⟩] h0 hm (tabEnv_ok (tab_cons (ok_l1In p.Len 0 32) tab_nil)) (by kernel_rfl) (by kernel_rfl) ?_
    simp [c1,goodPx,inR]
theorem ok_isNaNI (s:Int):CallOK Tryz.prog 184 [.c (pi s)] (.c (pb false)) [.c (pi s)]:=by
  refine okS (fn:=Tryz.f184) [] h0 Tryz.func184 (by kernel_rfl) rfl Tryz.ntmps184 Tryz.results184 (by simp) ?_
  simp
theorem ok_cmpI (u v:Int):CallOK Tryz.prog 153 [.c (pi u),.c (pi v)] (.c (pi (cmpI u v))) [.c (pi u),.c (pi v)]:=by
  refine okS (fn:=Tryz.f153) [] h0 Tryz.func153 (by kernel_rfl) rfl Tryz.ntmps153 Tryz.results153 (by simp) ?_
  simp
  refine Inv_intro (ok_isNaNI u) ?_
  simp
  refine Inv_intro (ok_isNaNI v) ?_
  simp
  refine brn_app (fun a => ?_) (fun a => ?_)
  · simp at a
    simp [cmpI,a]
  · simp at a
    have a':¬ u < v:=by omega
    simp
    refine brn_app (fun b => ?_) (fun b => ?_)
    · simp at b
      simp [cmpI,a',b]
    · simp at b
      have b':¬ v < u:=by omega
      simp [cmpI,a',b']
theorem ok_orI (k:Nat) (xs:List Int) (hx:xs.length ≤ 140737488351232):CallOK Tryz.prog 152 [.c (rd k xs.length (xs.map pi))] (.c (pi (orI xs))) [.c (rd k xs.length (xs.map pi))]:=by
  refine okS (fn:=Tryz.f152) [] h0 Tryz.func152 (by kernel_rfl) rfl Tryz.ntmps152 Tryz.results152 (by simp) ?_
  simp
  refine loopS [3,6,7,8] [] (fun n st => ∃ (i:Nat),i + n = xs.length ∧ orI (xs.drop i) = orI xs ∧ st = ⟨slOf 18 [(3,.t (pi 0)),(6,.t (rd k xs.length (xs.map pi))),(7,.t (pi xs.length)),(8,.t (pi i))],ofL []⟩) xs.length ?_ ?_
  · rintro Inv hI
    simp
    subst hI
    exact ⟨0,by omega,rfl,rfl⟩
  · rintro Inv hI n st ⟨i,hi,hf,rfl⟩
    refine ewr_sound (M:=[]) h0 ?_
    simp
    refine brn_app (fun a => ?_) (fun a => ?_)
    · simp at a
      rw [drop_step _ i a,orI] at hf
      simp [a]
      refine brn_app (fun b => ?_) (fun b => ?_)
      · simp at b
        rw [if_neg b] at hf
        simp [hf]
      · simp at b
        rw [if_pos b] at hf
        simp
        subst hI
        exact Less_mk (n - 1) (by omega) ⟨i + 1,by omega,hf,by rw [wrNext i (by omega)]⟩
    · simp at a
      rw [List.drop_of_length_le (by omega),orI] at hf
      simp [← hf]
theorem ok_compare (p q:GPrefix):CallOK Tryz.prog 97 [.agg p.c,.agg q.c] (.c (pi (cmpPx p q))) [.agg p.c,.agg q.c]:=by
  refine okS (fn:=Tryz.f97) [] h0 Tryz.func97 (by kernel_rfl) rfl Tryz.ntmps97 Tryz.results97 (by simp) ?_
  simp
  have ho:=ok_orI 0 [cmpI p.Addr q.Addr,cmpI p.Len q.Len] (by simp)
  simp at ho
  refine drawP (fnEnv 153 (fI2 fun a b => pi (cmpI a b)) (tabEnv [] _)) [⟨[.op 0 0 0],allD 17,true⟩,⟨[.op 0 0 0],allD 17,true⟩,⟨[.op 0 1 0],allD 17,true⟩,⟨[.op 0 1 0],allD 17,true⟩,⟨[],allD 17,false⟩,⟨[.op 0 0 0],allD 17,true⟩,⟨[.op 0 0 0],allD 17,true⟩,⟨[.op 0 1 0],allD 17,true⟩,⟨[.op 0 1 0],allD 17,true⟩,⟨[],allD 17,false⟩,⟨[],allD 17,false⟩,⟨[.op 1 10 0],[5,6,7,8,9,10,11,12,13,14,15,16,4],false⟩,⟨[],allD 17,true⟩] h0 hm (fnEnv_ok (tabEnv_ok (tab_cons ho tab_nil)) (fI2_ok ok_cmpI)) (by kernel_rfl) (by kernel_rfl) ?_
  simp
  by_cases c:cmpI p.Addr q.Addr = 0
  · by_cases d:cmpI p.Len q.Len = 0 <;> simp [orI,cmpPx,c,d]
  · simp [orI,cmpPx,c]
theorem ok_l1Compare (p q:GPrefix):CallOK Tryz.prog 101 [.agg p.c,.agg q.c] (.c (pi (cmpPx p q))) [.agg p.c,.agg q.c]:=by
  refine okS (fn:=Tryz.f101) [] h0 Tryz.func101 (by kernel_rfl) rfl Tryz.ntmps101 Tryz.results101 (by simp) ?_
  by_cases a1:p.Addr < q.Addr
  · simp [a1,cmpPx,cmpI]
  · by_cases a2:p.Addr = q.Addr
    · by_cases b1:p.Len < q.Len
      · simp [a1,a2,b1,cmpPx,cmpI]
      · by_cases b2:p.Len = q.Len
        · simp [a2,b2,cmpPx,cmpI]
        · have b3:q.Len < p.Len:=by omega
          simp [a2,b1,b2,b3,cmpPx,cmpI]
    · have a3:q.Addr < p.Addr:=by omega
      simp [a1,a2,a3,cmpPx,cmpI]
end Go.V
