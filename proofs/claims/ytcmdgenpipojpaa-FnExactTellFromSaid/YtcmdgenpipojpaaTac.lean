/- What functions of the seat's program do, each proved of its code, under the bounds that its theorem names. -/
import Derived.Test.YtcmdgenpipojpaaTab
set_option linter.all false
namespace Go.V
open Go.Proofs
set_option maxHeartbeats 1000000
set_option maxRecDepth 10000
set_option linter.unusedSimpArgs false
set_option linter.unusedVariables false
theorem ok_szIntS (k:Nat) (xs:List Int) (left:Int) (h1:0 ≤ left) (h2:left ≤ 1048576) (hf:fits_IntS xs):CallOK Try.prog 57 [.c (rd k xs.length (xs.map pi)),.c (pi left)] (.c (pi (szr left (wt_IntS xs)))) [.c (rd k xs.length (xs.map pi)),.c (pi left)]:=by
  obtain ⟨hl,hx⟩:=hf
  refine okS (fn:=Try.f57) [] h0 Try.func57 (by kernel_rfl) rfl Try.ntmps57 Try.results57 (by simp) ?_
  have hw:IntKind.wrap .i64 (left - xs.length) = left - xs.length:=wrap64 (by omega) (by omega)
  have hwl:=len_wt_IntS xs
  simp [hw]
  refine brn_app (fun h => ?_) (fun h => ?_)
  · simp at h
    have e1:szr left (wt_IntS xs) = -1:=szr_neg (by omega)
    simp [e1]
  · simp at h
    have e1:szr left (wt_IntS xs) = left - xs.length:=by unfold wt_IntS; exact szr_ge (by omega)
    simp [e1]
theorem ok_szAttrs (k:Nat) (x:GAttrs) (left:Int) (h1:0 ≤ left) (h2:left ≤ 1048576) (hf:GAttrs.fits x):CallOK Try.prog 34 [.agg (GAttrs.ci k x),.c (pi left)] (.c (pi (szr left (GAttrs.wt x)))) [.agg (GAttrs.ci k x),.c (pi left)]:=by
  simp only [GAttrs.fits] at hf
  obtain ⟨hf0,hf1⟩:=hf
  refine okS (fn:=Try.f34) [] h0 Try.func34 (by kernel_rfl) rfl Try.ntmps34 Try.results34 (by simp) ?_
  simp
  refine Inv_intro (ok_szIntS k x.Path (left) (by omega) (by omega) hf0) ?_
  simp
  refine brn_app (fun a0 => ?_) (fun a0 => ?_)
  · simp at a0
    have b0:=szr_lt0 a0 (by omega)
    have e:szr left (GAttrs.wt x) = -1:=szr_neg (by unfold GAttrs.wt; omega)
    simp [e]
  · simp at a0
    have b0:=szr_ge0 a0
    have e0:=szr_ge b0
    simp only [e0]
    simp
    refine Inv_intro (ok_szIntS k x.Comms (left - (wt_IntS x.Path:Nat)) (by omega) (by omega) hf1) ?_
    simp
    refine brn_app (fun a1 => ?_) (fun a1 => ?_)
    · simp at a1
      have b1:=szr_lt0 a1 (by omega)
      have e:szr left (GAttrs.wt x) = -1:=szr_neg (by unfold GAttrs.wt; omega)
      simp [e]
    · simp at a1
      have b1:=szr_ge0 a1
      have e1:=szr_ge b1
      simp only [e1]
      have e:szr left (GAttrs.wt x) = left - (wt_IntS x.Path:Nat) - (wt_IntS x.Comms:Nat):=by
        rw [szr_ge (by unfold GAttrs.wt; omega)]
        unfold GAttrs.wt
        omega
      simp [e]
theorem ok_szRoute (k:Nat) (x:GRoute) (left:Int) (h1:0 ≤ left) (h2:left ≤ 1048576) (hf:GRoute.fits x):CallOK Try.prog 13 [.agg (GRoute.ci k x),.c (pi left)] (.c (pi (szr left (GRoute.wt x)))) [.agg (GRoute.ci k x),.c (pi left)]:=by
  simp only [GRoute.fits] at hf
  have hf0:=hf
  refine okS (fn:=Try.f13) [] h0 Try.func13 (by kernel_rfl) rfl Try.ntmps13 Try.results13 (by simp) ?_
  simp
  refine Inv_intro (ok_szAttrs k x.Attrs (left) (by omega) (by omega) hf0) ?_
  simp
  refine brn_app (fun a0 => ?_) (fun a0 => ?_)
  · simp at a0
    have b0:=szr_lt0 a0 (by omega)
    have e:szr left (GRoute.wt x) = -1:=szr_neg (by unfold GRoute.wt; omega)
    simp [e]
  · simp at a0
    have b0:=szr_ge0 a0
    have e0:=szr_ge b0
    simp only [e0]
    have e:szr left (GRoute.wt x) = left - (GAttrs.wt x.Attrs:Nat):=by
      rw [szr_ge (by unfold GRoute.wt; omega)]
      unfold GRoute.wt
      omega
    simp [e]
theorem ok_szRouteS (k:Nat) (xs:List GRoute) (left:Int) (h1:0 ≤ left) (h2:left ≤ 1048576) (hf:fits_RouteS xs):CallOK Try.prog 4 [.c (rd k xs.length (xs.flatMap (GRoute.ci k))),.c (pi left)] (.c (pi (szr left (wt_RouteS xs)))) [.c (rd k xs.length (xs.flatMap (GRoute.ci k))),.c (pi left)]:=by
  obtain ⟨hl,hx⟩:=hf
  refine okS (fn:=Try.f4) [] h0 Try.func4 (by kernel_rfl) rfl Try.ntmps4 Try.results4 (by simp) ?_
  have hw:IntKind.wrap .i64 (left - xs.length) = left - xs.length:=wrap64 (by omega) (by omega)
  have hwl:=len_wt_RouteS xs
  simp [hw]
  refine brn_app (fun h => ?_) (fun h => ?_)
  · simp at h
    have e1:szr left (wt_RouteS xs) = -1:=szr_neg (by omega)
    simp [e1]
  · simp at h
    simp
    refine loopS [0,1,5] [] (fun n st => ∃ (i:Nat) (m:Int),i + n = xs.length ∧ 0 ≤ m ∧ m ≤ 1048576 ∧ szr m (((xs.drop i).map GRoute.wt).sum) = szr left (wt_RouteS xs) ∧ st = ⟨slOf 27 [(0,.t (rd k xs.length (xs.flatMap (GRoute.ci k)))),(1,.t (pi m)),(5,.t (pi i))],ofL []⟩) xs.length ?_ ?_
    · rintro Inv hI
      simp
      subst hI
      exact ⟨0,left - xs.length,by omega,by omega,by omega,by rw [List.drop_zero,wt_RouteS,wtR,szr_add (by omega)],rfl⟩
    · rintro Inv hI n st ⟨i,m,hi,hm1,hm2,hg,rfl⟩
      refine ewr_sound (M:=[]) h0 ?_
      simp
      refine brn_app (fun h3 => ?_) (fun h3 => ?_)
      · simp at h3
        have hxi:=hx xs[i] (List.getElem_mem h3)
        rw [drop_step xs i h3,List.map_cons,List.sum_cons] at hg
        have hd:=fm_drop (GRoute.ci k) 8 (fun _ => rfl) xs i h3
        have hlen:=fm_len (GRoute.ci k) 8 (fun _ => rfl) xs
        have hlt:i * 8 < xs.length * 8:=by omega
        simp [h3,hd,hlen,hlt]
        refine Inv_intro (ok_szRoute k xs[i] m hm1 hm2 hxi) ?_
        simp
        refine brn_app (fun h4 => ?_) (fun h4 => ?_)
        · simp at h4
          have h5:=szr_lt0 h4 hm1
          rw [szr_add_neg h5] at hg
          simp [← hg]
        · simp at h4
          have h5:=szr_ge0 h4
          have e5:=szr_ge h5
          rw [szr_add h5,← e5] at hg
          simp
          subst hI
          exact Less_mk (n - 1) (by omega) ⟨i + 1,szr m (GRoute.wt xs[i]),by omega,by omega,by omega,hg,by rw [wrNext i (by omega)]⟩
      · simp at h3
        rw [List.drop_of_length_le (by omega),List.map_nil,List.sum_nil,szr_zero hm1] at hg
        simp [hg]
theorem ok_toIntS (k:Nat) (xs:List Int) (hwt:wt_IntS xs ≤ 1048576):CallOK Try.prog 61 [.c (rd k xs.length (xs.map pi))] (.c (.sl 0 3 xs.length (xs.map pi))) [.c (rd k xs.length (xs.map pi))]:=by
  have hl:=len_wt_IntS xs
  refine okS (fn:=Try.f61) [] h0 Try.func61 (by kernel_rfl) rfl Try.ntmps61 Try.results61 (by simp) ?_
  have hb1:(xs.length:Int) ≤ 281474976710656:=by omega
  have hb2:8 * (xs.length:Int) ≤ 281474976710656:=by omega
  simp [hb1,hb2]
  refine loopS [0,3,4] [.op 1 2 0] (fun n st => ∃ (i:Nat),i + n = xs.length ∧ st = ⟨slOf 22 [(0,.t (rd k xs.length (xs.map pi))),(3,.ref ⟨.op 1 2 0,[]⟩ 0 xs.length),(4,.t (pi i))],ofL [(.op 1 2 0,.sl 0 3 xs.length (((xs.take i).map pi) ++ List.replicate n (.raw (.int .i64 0))))]⟩) xs.length ?_ ?_
  · rintro Inv hI
    simp
    subst hI
    exact ⟨0,by omega,by simp⟩
  · rintro Inv hI n st ⟨i,hi,rfl⟩
    have hA:=map_take_len pi xs i (by omega)
    generalize hAe:((xs.take i).map pi) = A at hA ⊢
    refine ewr_sound (M:=[]) h0 ?_
    simp
    refine brn_app (fun h => ?_) (fun h => ?_)
    · simp at h
      obtain ⟨m,rfl⟩:∃ m,n = m + 1:=⟨n - 1,by omega⟩
      simp [h,hA,List.replicate_succ]
      have e3:((xs.take (i + 1)).map pi) = A ++ [pi xs[i]]:=by rw [take_step xs i h,List.map_append,hAe]; rfl
      subst hI
      refine Less_mk m (by omega) ⟨i + 1,by omega,?_⟩
      rw [wrNext i (by omega),e3,List.append_assoc]
      all_goals rfl
    · simp at h
      have hn:n = 0:=by omega
      subst hn
      have ht:List.take i xs = xs:=List.take_of_length_le (by omega)
      have ht2:List.take (xs.length) (xs.map pi) = (xs.map pi):=List.take_of_length_le (by simp)
      rw [← hAe,ht]
      simp [ht2]
theorem ok_toAttrs (k:Nat) (x:GAttrs) (hwt:GAttrs.wt x ≤ 1048576):CallOK Try.prog 42 [.agg (GAttrs.ci k x)] (.agg (GAttrs.co x)) [.agg (GAttrs.ci k x)]:=by
  unfold GAttrs.wt at hwt
  refine okS (fn:=Try.f42) [] h0 Try.func42 (by kernel_rfl) rfl Try.ntmps42 Try.results42 (by simp) ?_
  simp
  refine Inv_intro (ok_toIntS k x.Path (by omega)) ?_
  simp
  refine Inv_intro (ok_toIntS k x.Comms (by omega)) ?_
  simp
theorem ok_toPrefix (x:GPrefix):CallOK Try.prog 41 [.agg (GPrefix.c x)] (.agg (GPrefix.c x)) [.agg (GPrefix.c x)]:=by
  refine okS (fn:=Try.f41) [] h0 Try.func41 (by kernel_rfl) rfl Try.ntmps41 Try.results41 (by simp) ?_
  simp
theorem ok_toRoute (k:Nat) (x:GRoute) (hwt:GRoute.wt x ≤ 1048576):CallOK Try.prog 16 [.agg (GRoute.ci k x)] (.agg (GRoute.co x)) [.agg (GRoute.ci k x)]:=by
  unfold GRoute.wt at hwt
  refine okS (fn:=Try.f16) [] h0 Try.func16 (by kernel_rfl) rfl Try.ntmps16 Try.results16 (by simp) ?_
  simp
  refine Inv_intro (ok_toPrefix x.Prefix) ?_
  simp
  refine Inv_intro (ok_toAttrs k x.Attrs (by omega)) ?_
  simp
theorem ok_toRouteS (k:Nat) (xs:List GRoute) (hwt:wt_RouteS xs ≤ 1048576):CallOK Try.prog 6 [.c (rd k xs.length (xs.flatMap (GRoute.ci k)))] (.c (.sl 0 47 xs.length (xs.flatMap GRoute.co))) [.c (rd k xs.length (xs.flatMap (GRoute.ci k)))]:=by
  have hl:=len_wt_RouteS xs
  refine okS (fn:=Try.f6) [] h0 Try.func6 (by kernel_rfl) rfl Try.ntmps6 Try.results6 (by simp) ?_
  have hb1:(xs.length:Int) ≤ 281474976710656:=by omega
  have hb2:96 * (xs.length:Int) ≤ 281474976710656:=by omega
  simp [hb1,hb2]
  refine loopS [0,3,4] [.op 1 2 0] (fun n st => ∃ (i:Nat),i + n = xs.length ∧ st = ⟨slOf 23 [(0,.t (rd k xs.length (xs.flatMap (GRoute.ci k)))),(3,.ref ⟨.op 1 2 0,[]⟩ 0 xs.length),(4,.t (pi i))],ofL [(.op 1 2 0,.sl 0 47 xs.length (((xs.take i).flatMap GRoute.co) ++ (List.replicate n [.raw (.int .i64 0),.raw (.int .i64 0),.raw (.int .i64 0),.sl 0 nilE 0 [],.raw (.int .i64 0),.raw (.int .i64 0),.raw (.int .i64 0),.sl 0 nilE 0 []]).flatten))]⟩) xs.length ?_ ?_
  · rintro Inv hI
    simp
    subst hI
    exact ⟨0,by omega,by simp⟩
  · rintro Inv hI n st ⟨i,hi,rfl⟩
    have hA:=fm_take_len GRoute.co 8 (fun _ => rfl) xs i (by omega)
    generalize hAe:((xs.take i).flatMap GRoute.co) = A at hA ⊢
    refine ewr_sound (M:=[]) h0 ?_
    simp
    refine brn_app (fun h => ?_) (fun h => ?_)
    · simp at h
      obtain ⟨m,rfl⟩:∃ m,n = m + 1:=⟨n - 1,by omega⟩
      have hd:=fm_drop (GRoute.ci k) 8 (fun _ => rfl) xs i h
      have hlen:=fm_len (GRoute.ci k) 8 (fun _ => rfl) xs
      have hlt:i * 8 < xs.length * 8:=by omega
      simp [h,hd,hlen,hlt]
      refine Inv_intro (ok_toRoute k xs[i] (by have:=mem_wt_RouteS (List.getElem_mem h); omega)) ?_
      simp [h,hA,List.replicate_succ]
      have e3:((xs.take (i + 1)).flatMap GRoute.co) = A ++ GRoute.co xs[i]:=by rw [take_step xs i h,List.flatMap_append,hAe,List.flatMap_cons,List.flatMap_nil,List.append_nil]
      subst hI
      refine Less_mk m (by omega) ⟨i + 1,by omega,?_⟩
      rw [wrNext i (by omega),e3,List.append_assoc]
      all_goals rfl
    · simp at h
      have hn:n = 0:=by omega
      subst hn
      have ht:List.take i xs = xs:=List.take_of_length_le (by omega)
      have ht2:List.take (xs.length * 8) (xs.flatMap GRoute.co) = (xs.flatMap GRoute.co):=List.take_of_length_le (by rw [fm_len GRoute.co 8 (fun _ => rfl)]; exact Nat.le_refl _)
      have hlo:=fm_len GRoute.co 8 (fun _ => rfl) xs
      rw [← hAe,ht]
      simp [ht2,hlo,-List.length_flatMap]
def muC (n:Nat) (a:Act):Nat:=match (a.tmps[4]?:Option Value) with
  | some (Value.int _ i) => n - i.toNat
  | _ => 0
def minN (n i:Nat):Nat:=min 10 (n - i * 10)
def inR (n lo hi:Int):Bool:=decide (lo ≤ n ∧ n ≤ hi)
def szP (n:Int):Int:=2 ^ (32 - n).toNat
theorem shl_pow (m:Nat) (h:m ≤ 32):IntKind.wrap .i64 (1 * 2 ^ min m IntKind.i64.bits) = 2 ^ m:=by
  have:∀ m:Fin 33,IntKind.wrap .i64 (1 * 2 ^ min m.1 IntKind.i64.bits) = 2 ^ m.1:=by decide
  exact this ⟨m,by omega⟩
theorem pow_ne (m:Nat):¬ (2:Int) ^ m = 0:=by
  have:(0:Int) < 2 ^ m:=Int.pow_pos (by decide)
  omega
def goodPx (p:GPrefix):Bool:=inR p.Len 0 32 && (inR p.Addr 0 4294967295 && decide (p.Addr.tmod (szP p.Len) = 0))
def cmpI (a b:Int):Int:=if a < b then -1 else if b < a then 1 else 0
def cmpPx (p q:GPrefix):Int:=if cmpI p.Addr q.Addr = 0 then cmpI p.Len q.Len else cmpI p.Addr q.Addr
def orI:List Int → Int
  | [] => 0
  | x :: xs => if x = 0 then orI xs else x
def isAsnB (n:Int):Bool:=inR n 1 65535
def isValB (n:Int):Bool:=inR n 0 1000000
def adjI (q:Option Int) (x:Int):Bool:=match q with
  | none => true
  | some q => decide (q < x)
def commsG:Option Int → List Int → Bool
  | _,[] => true
  | q,x :: xs => isValB x && adjI q x && commsG (some x) xs
def goodCm (l:List Int):Bool:=commsG none l && decide (l.length ≤ 6)
def goodPa (l:List Int):Bool:=decide (l.length ≤ 10) && l.all isAsnB
def goodA (a:GAttrs):Bool:=inR a.Origin 0 2 && (goodPa a.Path && (inR a.Next 0 4294967295 && (isValB a.Med && (isValB a.Pref && goodCm a.Comms))))
def prevI (l:List Int) (i:Nat):Option Int:=if i = 0 then none else l[i - 1]?
theorem prevI_next (l:List Int) (i:Nat) (h:i < l.length):prevI l (i + 1) = some l[i]:=by simp [prevI,h]
def attrOK (a:GAttrs):Prop:=a.Path.length ≤ 140737488351232 ∧ a.Comms.length ≤ 140737488351232
def goodR (r:GRoute):Bool:=goodPx r.Prefix && goodA r.Attrs
def adjR (q:Option GRoute) (x:GRoute):Bool:=match q with
  | none => true
  | some q => decide (cmpPx q.Prefix x.Prefix < 0)
def routesG:Option GRoute → List GRoute → Bool
  | _,[] => true
  | q,x :: xs => goodR x && adjR q x && routesG (some x) xs
def goodRs (l:List GRoute):Bool:=routesG none l && decide (l.length ≤ 20)
def prevR (l:List GRoute) (i:Nat):Option GRoute:=if i = 0 then none else l[i - 1]?
theorem prevR_next (l:List GRoute) (i:Nat) (h:i < l.length):prevR l (i + 1) = some l[i]:=by simp [prevR,h]
def routesOK (l:List GRoute):Prop:=l.length ≤ 140737488351232 ∧ ∀ r ∈ l,attrOK r.Attrs
theorem ok_EqualI (k k':Nat) (xs ys:List Int) (ha:xs.length ≤ 140737488351232) (hb:ys.length ≤ 140737488351232):CallOK Try.prog 66 [.c (rd k xs.length (xs.map pi)),.c (rd k' ys.length (ys.map pi))] (.c (pb (decide (xs = ys)))) [.c (rd k xs.length (xs.map pi)),.c (rd k' ys.length (ys.map pi))]:=by
  refine okS (fn:=Try.f66) [] h0 Try.func66 (by kernel_rfl) rfl Try.ntmps66 Try.results66 (by simp) ?_
  simp
  refine brn_app (fun h => ?_) (fun h => ?_)
  · simp at h
    simp
    rintro rfl
    exact h rfl
  · simp at h
    have hl:ys.length = xs.length:=by omega
    simp
    refine loopS [0,1,12,13] [] (fun n st => ∃ (i:Nat),i + n = xs.length ∧ (xs.drop i = ys.drop i ↔ xs = ys) ∧ st = ⟨slOf 26 [(0,.t (rd k xs.length (xs.map pi))),(1,.t (rd k' ys.length (ys.map pi))),(12,.t (pi xs.length)),(13,.t (pi i))],ofL []⟩) xs.length ?_ ?_
    · rintro Inv hI
      simp
      subst hI
      exact ⟨0,by omega,by simp,rfl⟩
    · rintro Inv hI n st ⟨i,hi,htk,rfl⟩
      refine ewr_sound (M:=[]) h0 ?_
      simp
      refine brn_app (fun h => ?_) (fun h => ?_)
      · simp at h
        have hib:i < ys.length:=by omega
        rw [drop_step xs i h,drop_step ys i hib,List.cons.injEq] at htk
        simp
        refine drawP E0 [⟨[],allD 26,true⟩,⟨[],allD 26,true⟩,⟨[],allD 26,true⟩,⟨[],allD 26,true⟩,⟨[],allD 26,true⟩,⟨[],allD 26,true⟩,⟨[],allD 26,true⟩,⟨[],allD 26,true⟩,⟨[],allD 26,true⟩] h0 hm (E0_ok _) (by kernel_rfl) (by kernel_rfl) ?_
        simp [h,hib]
        refine brn_app (fun h2 => ?_) (fun h2 => ?_)
        · simp at h2
          simp
          intro he
          exact h2 (htk.2 he).1
        · simp at h2
          simp
          subst hI
          exact Less_mk (n - 1) (by omega) ⟨i + 1,by omega,⟨fun h4 => htk.1 ⟨h2,h4⟩,fun h4 => (htk.2 h4).2⟩,by rw [wrNext i (by omega)]⟩
      · simp at h
        rw [List.drop_of_length_le (by omega),List.drop_of_length_le (by omega)] at htk
        simp
        exact htk.1 rfl
theorem attrs_ext (a b:GAttrs):decide (a = b) = (decide (a.Origin = b.Origin) && (decide (a.Path = b.Path) && (decide (a.Next = b.Next) && (decide (a.Med = b.Med) && (decide (a.Pref = b.Pref) && decide (a.Comms = b.Comms)))))):=by
  cases a
  cases b
  simp
theorem ok_sameAttrs (k k':Nat) (a b:GAttrs) (ha:attrOK a) (hb:attrOK b):CallOK Try.prog 48 [.agg (GAttrs.ci k a),.agg (GAttrs.ci k' b)] (.c (pb (decide (a = b)))) [.agg (GAttrs.ci k a),.agg (GAttrs.ci k' b)]:=by
  refine okS (fn:=Try.f48) [] h0 Try.func48 (by kernel_rfl) rfl Try.ntmps48 Try.results48 (by simp) ?_
  rw [attrs_ext]
  by_cases c1:a.Origin = b.Origin
  · simp [c1]
    refine Inv_intro (ok_EqualI k k' a.Path b.Path ha.1 hb.1) ?_
    by_cases c2:a.Path = b.Path
    · by_cases c3:a.Next = b.Next
      · by_cases c4:a.Med = b.Med
        · by_cases c5:a.Pref = b.Pref
          · simp [c2,c3,c4,c5]
            refine Inv_intro (ok_EqualI k k' a.Comms b.Comms ha.2 hb.2) ?_
            simp
          · simp [c2,c3,c4,c5]
        · simp [c2,c3,c4]
      · simp [c2,c3]
    · simp [c2]
  · simp [c1]
def pG (l:List GRoute) (x:GAttrs) (g:List Int):Bool:=match g with
  | h :: _ => match l[h.toNat]? with
    | some r => decide (r.Attrs = x)
    | none => false
  | [] => false
def stepG (l:List GRoute) (gs:List (List Int)) (i:Nat) (x:GAttrs):List (List Int):=match gs.findIdx? (pG l x) with
  | some k => gs.set k ((gs[k]?.getD []) ++ [(i:Int)])
  | none => gs ++ [[(i:Int)]]
def groupsN (l:List GRoute):Nat → List (List Int)
  | 0 => []
  | i + 1 => match l[i]? with
    | some r => stepG l (groupsN l i) i r.Attrs
    | none => groupsN l i
def groupsL (l:List GRoute):List (List Int):=groupsN l l.length
def gOK (n:Nat) (gs:List (List Int)):Prop:=gs.length ≤ n ∧ ∀ g ∈ gs,(∃ h t,g = h :: t) ∧ g.length ≤ n ∧ ∀ h ∈ g,0 ≤ h ∧ h < n
theorem stepG_ok (l:List GRoute) (gs:List (List Int)) (i:Nat) (x:GAttrs) (h:gOK i gs):gOK (i + 1) (stepG l gs i x):=by
  obtain ⟨h1,h2⟩:=h
  unfold stepG
  split
  · rename_i k hk
    rw [List.findIdx?_eq_some_iff_getElem] at hk
    obtain ⟨hkl,_,_⟩:=hk
    refine ⟨by simp; omega,fun g hg => ?_⟩
    rcases List.mem_or_eq_of_mem_set hg with hg | hg
    · obtain ⟨a,b,c⟩:=h2 g hg
      exact ⟨a,by omega,fun h hh => by have:=c h hh; omega⟩
    · subst hg
      rw [List.getElem?_eq_getElem hkl,Option.getD_some]
      obtain ⟨⟨u,t,e⟩,b,c⟩:=h2 _ (List.getElem_mem hkl)
      refine ⟨⟨u,t ++ [(i:Int)],by rw [e]; rfl⟩,by simp; omega,fun h hh => ?_⟩
      rcases List.mem_append.1 hh with hh | hh
      · have:=c h hh; omega
      · simp only [List.mem_singleton] at hh; omega
  · refine ⟨by simp; omega,fun g hg => ?_⟩
    rcases List.mem_append.1 hg with hg | hg
    · obtain ⟨a,b,c⟩:=h2 g hg
      exact ⟨a,by omega,fun h hh => by have:=c h hh; omega⟩
    · simp only [List.mem_singleton] at hg
      subst hg
      exact ⟨⟨_,_,rfl⟩,by simp,fun h hh => by simp only [List.mem_singleton] at hh; omega⟩
theorem groupsN_ok (l:List GRoute):∀ i,gOK i (groupsN l i)
  | 0 => ⟨by simp [groupsN],by simp [groupsN]⟩
  | i + 1 => by
    unfold groupsN
    split
    · exact stepG_ok l _ i _ (groupsN_ok l i)
    · obtain ⟨h1,h2⟩:=groupsN_ok l i
      exact ⟨by omega,fun g hg => let ⟨a,b,c⟩:=h2 g hg; ⟨a,by omega,fun h hh => by have:=c h hh; omega⟩⟩
theorem groupsN_succ (l:List GRoute) (i:Nat) (h:i < l.length):groupsN l (i + 1) = stepG l (groupsN l i) i l[i].Attrs:=by
  simp [groupsN,List.getElem?_eq_getElem h]
theorem ok_groupsOf1 (q k k2:Nat) (l:List GRoute) (hl:routesOK l) (r:GRoute) (hr:attrOK r.Attrs) (g:List Int) (hg:∃ h t,g = h :: t ∧ 0 ≤ h ∧ h < l.length):CallOK Try.prog 50 [.c (rd k g.length (g.map pi)),.ip q [rd k2 l.length (l.flatMap (GRoute.ci k2))],.ip q (GRoute.ci k2 r)] (.c (pb (pG l r.Attrs g))) [.c (rd k g.length (g.map pi)),.ip q [rd k2 l.length (l.flatMap (GRoute.ci k2))],.ip q (GRoute.ci k2 r)]:=by
  obtain ⟨h,t,rfl,hh0,hhl⟩:=hg
  have hn:h.toNat < l.length:=by omega
  have e:pG l r.Attrs (h :: t) = decide (l[h.toNat].Attrs = r.Attrs):=by simp only [pG,List.getElem?_eq_getElem hn]
  have hd:=fm_drop (GRoute.ci k2) 8 (fun _ => rfl) l h.toNat hn
  have hlen:=fm_len (GRoute.ci k2) 8 (fun _ => rfl) l
  have hlt:h.toNat * 8 < l.length * 8:=by omega
  refine okS (fn:=Try.f50) [] h0 Try.func50 (by kernel_rfl) rfl Try.ntmps50 Try.results50 (by simp) ?_
  simp
  refine drawP (tabEnv [] _) [⟨[],allD 15,true⟩,⟨[],allD 15,true⟩,⟨[],allD 15,true⟩,⟨[],allD 15,true⟩,⟨[],allD 15,true⟩,⟨[],allD 15,true⟩,⟨[],allD 15,true⟩,⟨[],allD 15,true⟩,⟨[],allD 15,true⟩,⟨[],allD 15,false⟩,⟨[],allD 15,true⟩] h0 hm (tabEnv_ok (tab_cons (ok_sameAttrs k2 k2 l[h.toNat].Attrs r.Attrs (hl.2 _ (List.getElem_mem hn)) hr) tab_nil)) (by kernel_rfl) (by kernel_rfl) ?_
  simp [hh0,hhl,hn,hd,hlen,hlt,e]
theorem cmpPx_lt (p q:GPrefix):cmpPx p q < 0 ↔ (p.Addr < q.Addr ∨ (p.Addr = q.Addr ∧ p.Len < q.Len)):=by
  unfold cmpPx cmpI
  by_cases h1:p.Addr < q.Addr
  · simp [h1]
  · by_cases h2:q.Addr < p.Addr
    · simp [h1,h2]; omega
    · have h3:p.Addr = q.Addr:=by omega
      by_cases h4:p.Len < q.Len
      · simp [h3,h4]
      · by_cases h5:q.Len < p.Len <;> simp [h3,h4,h5]
theorem px_ext (p q:GPrefix):p = q ↔ p.Addr = q.Addr ∧ p.Len = q.Len:=by
  obtain ⟨pa,pl⟩:=p
  obtain ⟨qa,ql⟩:=q
  simp
theorem cmpPx_eq (p q:GPrefix):cmpPx p q = 0 ↔ p = q:=by
  rw [px_ext]
  unfold cmpPx cmpI
  by_cases h1:p.Addr < q.Addr
  · simp [h1]; omega
  · by_cases h2:q.Addr < p.Addr
    · simp [h1,h2]; omega
    · have h3:p.Addr = q.Addr:=by omega
      by_cases h4:p.Len < q.Len
      · simp [h3,h4]; omega
      · by_cases h5:q.Len < p.Len
        · simp [h3,h4,h5]; omega
        · simp [h3,h4,h5]; omega
theorem ltP_trans {p q r:GPrefix} (h1:cmpPx p q < 0) (h2:cmpPx q r < 0):cmpPx p r < 0:=by
  rw [cmpPx_lt] at *
  omega
def srt (l:List GRoute):Prop:=l.Pairwise (fun a b => cmpPx a.Prefix b.Prefix < 0)
def kAt (p:GPrefix) (l:List GRoute):Nat:=bsI (fun x:GRoute => cmpPx x.Prefix p) l
def fnd (p:GPrefix) (l:List GRoute):Bool:=bsF (fun x:GRoute => cmpPx x.Prefix p) l
theorem srt_mono {p:GPrefix} {l:List GRoute} (h:srt l) (i j:Nat) (hij:i < j) (hj:j < l.length) (hc:cmpPx l[j].Prefix p < 0):cmpPx l[i].Prefix p < 0 :=
  ltP_trans (List.pairwise_iff_getElem.1 h i j (by omega) hj hij) hc
theorem routesG_pw:∀ (q:Option GRoute) (l:List GRoute),routesG q l = true → srt l ∧ ∀ x ∈ l,adjR q x = true ∧ goodR x = true
  | _,[],_ => by simp [srt]
  | q,x :: l,h => by
    simp only [routesG,Bool.and_eq_true] at h
    obtain ⟨⟨h1,h2⟩,h3⟩:=h
    obtain ⟨g1,g2⟩:=routesG_pw (some x) l h3
    refine ⟨List.pairwise_cons.2 ⟨fun y hy => by simpa [adjR] using (g2 y hy).1,g1⟩,fun y hy => ?_⟩
    rcases List.mem_cons.1 hy with rfl | hy
    · exact ⟨h2,h1⟩
    · refine ⟨?_,(g2 y hy).2⟩
      have h4:=(g2 y hy).1
      cases q with
      | none => rfl
      | some q =>
        simp only [adjR,decide_eq_true_eq] at h2 h4 ⊢
        exact ltP_trans h2 h4
def goodL (l:List GRoute):Prop:=srt l ∧ ∀ x ∈ l,goodR x = true
theorem goodRs_L {l:List GRoute} (h:goodRs l = true):goodL l ∧ l.length ≤ 20:=by
  simp only [goodRs,Bool.and_eq_true,decide_eq_true_eq] at h
  obtain ⟨h1,h2⟩:=routesG_pw none l h.1
  exact ⟨⟨h1,fun x hx => (h2 x hx).2⟩,h.2⟩
end Go.V
