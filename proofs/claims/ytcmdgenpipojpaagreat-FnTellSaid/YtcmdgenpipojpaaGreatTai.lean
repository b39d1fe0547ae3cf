/- What functions of the seat's program do, each proved of its code, under the bounds that its theorem names. -/
import Derived.Test.YtcmdgenpipojpaaGreatTah
set_option linter.all false
namespace Go.V
open Go.Proofs
set_option maxHeartbeats 1000000
set_option maxRecDepth 10000
set_option linter.unusedSimpArgs false
set_option linter.unusedVariables false
theorem callOK_of_lent {P:Program} {f:FuncId} {args outs:List PV} {p:PT} (h:CallOKL P f args (.c p) outs) (hp:p.noTmp = true) (ho:∀ q ∈ outs,∃ p,q = .c p ∧ p.noTmp = true):CallOK P f args (.c p) outs:=by
  intro I w las he hh hnd hI
  refine (h I w las he hh hnd hI).mono ?_
  rintro e w' ⟨lr,los,I',rfl,r1,r2,r3,r4,r5,r6,r7,r8,r9,r10,r11,r12⟩
  obtain ⟨t,rfl,e1⟩:=LV.c_of_erase r1
  refine ⟨.c t,los,rfl,r1,r2,r3,LT.noTmp r10 t (by rw [e1]; exact hp) r4,fun l hl => ?_,r6,r7,r8⟩
  obtain ⟨p',h1,h2⟩:=ho l.erase (by rw [← r2]; exact List.mem_map_of_mem hl)
  obtain ⟨t',rfl,e2⟩:=LV.c_of_erase h1
  exact LT.noTmp r10 t' (by rw [e2]; exact h2) (r5 _ hl)
theorem ok_iGoodRoutes (k:Nat) (l:List GRoute) (hl:routesOK l):CallOK Tryz.prog 10 [.c (rd k l.length (l.flatMap (GRoute.ci k)))] (.c (pb (goodRs l))) [.c (rd k l.length (l.flatMap (GRoute.ci k)))]:=by
  obtain ⟨hll,hlx⟩:=hl
  refine okS (fn:=Tryz.f10) [] h0 Tryz.func10 (by kernel_rfl) rfl Tryz.ntmps10 Tryz.results10 (by simp) ?_
  simp
  refine loopS [0,5,6,7] [] (fun n st => ∃ (i:Nat),i + n = l.length ∧ routesG (prevR l i) (l.drop i) = routesG none l ∧ st = ⟨slOf 35 [(0,.t (rd k l.length (l.flatMap (GRoute.ci k)))),(5,.t (rd k l.length (l.flatMap (GRoute.ci k)))),(6,.t (pi l.length)),(7,.t (pi i))],ofL []⟩) l.length ?_ ?_
  · rintro Inv hI
    simp
    subst hI
    exact ⟨0,by omega,rfl,rfl⟩
  · rintro Inv hI n st ⟨i,hi,hg,rfl⟩
    refine ewr_sound (M:=[]) h0 ?_
    simp
    refine brn_app (fun a => ?_) (fun a => ?_)
    · simp at a
      have hx:=hlx l[i] (List.getElem_mem a)
      rw [drop_step _ i a,routesG] at hg
      have hd:=fm_drop (GRoute.ci k) 8 (fun _ => rfl) l i a
      have hlen:=fm_len (GRoute.ci k) 8 (fun _ => rfl) l
      have hlt:i * 8 < l.length * 8:=by omega
      have en:prevR l (i + 1) = some l[i]:=prevR_next l i a
      simp [a,hd,hlen,hlt]
      have hR:=ok_iGoodRoute k l[i] hx
      by_cases c0:i = 0
      · have e0:¬ 0 < i:=by omega
        have ep:prevR l i = none:=by simp [prevR,c0]
        rw [ep,adjR,Bool.and_true] at hg
        refine drawP (tabEnv [] _) [⟨[.op 3 3 0],allD 35,true⟩,⟨[],allD 35,false⟩,⟨[],allD 35,true⟩,⟨[],allD 35,true⟩,⟨[],allD 35,true⟩,⟨[],allD 35,true⟩,⟨[],allD 35,true⟩,⟨[],allD 35,true⟩,⟨[],allD 35,true⟩,⟨[],allD 35,true⟩,⟨[],allD 35,true⟩,⟨[],allD 35,true⟩,⟨[],allD 35,true⟩,⟨[.op 3 3 0],allD 35,true⟩,⟨[.op 3 3 0],allD 35,true⟩,⟨[],allD 35,false⟩,⟨[],allD 35,true⟩,⟨[],allD 35,true⟩,⟨[],allD 35,true⟩] h0 hm (tabEnv_ok (tab_cons hR tab_nil)) (by kernel_rfl) (by kernel_rfl) ?_
        cases c1:goodR l[i] with
        | false =>
          rw [c1,Bool.false_and] at hg
          simp [c1,goodRs,← hg]
        | true =>
          rw [c1,Bool.true_and] at hg
          simp [c1,e0]
          subst hI
          exact Less_mk (n - 1) (by omega) ⟨i + 1,by omega,by rw [en]; exact hg,by rw [wrNext i (by omega)]⟩
      · obtain ⟨j,hj⟩:∃ j,i = j + 1:=⟨i - 1,by omega⟩
        have aj:j < l.length:=by omega
        have ep:prevR l i = some l[j]:=by subst hj; exact prevR_next l j aj
        have hdj:=fm_drop (GRoute.ci k) 8 (fun _ => rfl) l j aj
        have hltj:j * 8 < l.length * 8:=by omega
        have hw:IntKind.wrap .i64 ((i:Int) - 1) = j:=(wrap64 (by omega) (by omega)).trans (by omega)
        have e0:0 < i:=by omega
        rw [ep,adjR] at hg
        refine drawP (tabEnv [] _) [⟨[.op 3 3 0],allD 35,true⟩,⟨[],allD 35,false⟩,⟨[],allD 35,true⟩,⟨[],allD 35,true⟩,⟨[],allD 35,true⟩,⟨[],allD 35,true⟩,⟨[],allD 35,true⟩,⟨[],allD 35,true⟩,⟨[],allD 35,true⟩,⟨[],allD 35,true⟩,⟨[],allD 35,true⟩,⟨[],allD 35,true⟩,⟨[],allD 35,true⟩,⟨[.op 3 3 0],allD 35,true⟩,⟨[.op 3 3 0],allD 35,true⟩,⟨[],allD 35,false⟩,⟨[],allD 35,true⟩,⟨[],allD 35,true⟩,⟨[],allD 35,true⟩] h0 hm (tabEnv_ok (tab_cons hR (tab_cons (ok_compare l[j].Prefix l[i].Prefix) tab_nil))) (by kernel_rfl) (by kernel_rfl) ?_
        cases c1:goodR l[i] with
        | false =>
          rw [c1,Bool.false_and,Bool.false_and] at hg
          simp [c1,goodRs,← hg]
        | true =>
          rw [c1,Bool.true_and] at hg
          by_cases c2:cmpPx l[j].Prefix l[i].Prefix < 0
          · have c3:¬ 0 ≤ cmpPx l[j].Prefix l[i].Prefix:=by omega
            rw [decide_eq_true c2,Bool.true_and] at hg
            simp [c1,e0,hw,aj,hdj,hlen,hltj,c3]
            subst hI
            exact Less_mk (n - 1) (by omega) ⟨i + 1,by omega,by rw [en]; exact hg,by rw [wrNext i (by omega)]⟩
          · have c3:0 ≤ cmpPx l[j].Prefix l[i].Prefix:=by omega
            rw [decide_eq_false c2,Bool.false_and] at hg
            simp [c1,e0,hw,aj,hdj,hlen,hltj,c3,goodRs,← hg]
    · simp at a
      rw [List.drop_of_length_le (by omega),routesG] at hg
      simp [goodRs,← hg]
      omega
theorem ok_sGoodRoutes (k:Nat) (l:List GRoute) (hl:routesOK l):CallOK Tryz.prog 11 [.c (rd k l.length (l.flatMap (GRoute.ci k)))] (.c (pb (goodRs l))) [.c (rd k l.length (l.flatMap (GRoute.ci k)))]:=by
  obtain ⟨hll,hlx⟩:=hl
  refine okS (fn:=Tryz.f11) [] h0 Tryz.func11 (by kernel_rfl) rfl Tryz.ntmps11 Tryz.results11 (by simp) ?_
  simp
  refine loopS [0,5,6,7] [] (fun n st => ∃ (i:Nat),i + n = l.length ∧ routesG (prevR l i) (l.drop i) = routesG none l ∧ st = ⟨slOf 35 [(0,.t (rd k l.length (l.flatMap (GRoute.ci k)))),(5,.t (rd k l.length (l.flatMap (GRoute.ci k)))),(6,.t (pi l.length)),(7,.t (pi i))],ofL []⟩) l.length ?_ ?_
  · rintro Inv hI
    simp
    subst hI
    exact ⟨0,by omega,rfl,rfl⟩
  · rintro Inv hI n st ⟨i,hi,hg,rfl⟩
    refine ewr_sound (M:=[]) h0 ?_
    simp
    refine brn_app (fun a => ?_) (fun a => ?_)
    · simp at a
      have hx:=hlx l[i] (List.getElem_mem a)
      rw [drop_step _ i a,routesG] at hg
      have hd:=fm_drop (GRoute.ci k) 8 (fun _ => rfl) l i a
      have hlen:=fm_len (GRoute.ci k) 8 (fun _ => rfl) l
      have hlt:i * 8 < l.length * 8:=by omega
      have en:prevR l (i + 1) = some l[i]:=prevR_next l i a
      simp [a,hd,hlen,hlt]
      have hR:=ok_sGoodRoute k l[i] hx
      by_cases c0:i = 0
      · have e0:¬ 0 < i:=by omega
        have ep:prevR l i = none:=by simp [prevR,c0]
        rw [ep,adjR,Bool.and_true] at hg
        refine drawP (tabEnv [] _) [⟨[.op 3 3 0],allD 35,true⟩,⟨[],allD 35,false⟩,⟨[],allD 35,true⟩,⟨[],allD 35,true⟩,⟨[],allD 35,true⟩,⟨[],allD 35,true⟩,⟨[],allD 35,true⟩,⟨[],allD 35,true⟩,⟨[],allD 35,true⟩,⟨[],allD 35,true⟩,⟨[],allD 35,true⟩,⟨[],allD 35,true⟩,⟨[],allD 35,true⟩,⟨[.op 3 3 0],allD 35,true⟩,⟨[.op 3 3 0],allD 35,true⟩,⟨[],allD 35,false⟩,⟨[],allD 35,true⟩,⟨[],allD 35,true⟩,⟨[],allD 35,true⟩] h0 hm (tabEnv_ok (tab_cons hR tab_nil)) (by kernel_rfl) (by kernel_rfl) ?_
        cases c1:goodR l[i] with
        | false =>
          rw [c1,Bool.false_and] at hg
          simp [c1,goodRs,← hg]
        | true =>
          rw [c1,Bool.true_and] at hg
          simp [c1,e0]
          subst hI
          exact Less_mk (n - 1) (by omega) ⟨i + 1,by omega,by rw [en]; exact hg,by rw [wrNext i (by omega)]⟩
      · obtain ⟨j,hj⟩:∃ j,i = j + 1:=⟨i - 1,by omega⟩
        have aj:j < l.length:=by omega
        have ep:prevR l i = some l[j]:=by subst hj; exact prevR_next l j aj
        have hdj:=fm_drop (GRoute.ci k) 8 (fun _ => rfl) l j aj
        have hltj:j * 8 < l.length * 8:=by omega
        have hw:IntKind.wrap .i64 ((i:Int) - 1) = j:=(wrap64 (by omega) (by omega)).trans (by omega)
        have e0:0 < i:=by omega
        rw [ep,adjR] at hg
        refine drawP (tabEnv [] _) [⟨[.op 3 3 0],allD 35,true⟩,⟨[],allD 35,false⟩,⟨[],allD 35,true⟩,⟨[],allD 35,true⟩,⟨[],allD 35,true⟩,⟨[],allD 35,true⟩,⟨[],allD 35,true⟩,⟨[],allD 35,true⟩,⟨[],allD 35,true⟩,⟨[],allD 35,true⟩,⟨[],allD 35,true⟩,⟨[],allD 35,true⟩,⟨[],allD 35,true⟩,⟨[.op 3 3 0],allD 35,true⟩,⟨[.op 3 3 0],allD 35,true⟩,⟨[],allD 35,false⟩,⟨[],allD 35,true⟩,⟨[],allD 35,true⟩,⟨[],allD 35,true⟩] h0 hm (tabEnv_ok (tab_cons hR (tab_cons (ok_l1Compare l[j].Prefix l[i].Prefix) tab_nil))) (by kernel_rfl) (by kernel_rfl) ?_
        cases c1:goodR l[i] with
        | false =>
          rw [c1,Bool.false_and,Bool.false_and] at hg
          simp [c1,goodRs,← hg]
        | true =>
          rw [c1,Bool.true_and] at hg
          by_cases c2:cmpPx l[j].Prefix l[i].Prefix < 0
          · have c3:¬ 0 ≤ cmpPx l[j].Prefix l[i].Prefix:=by omega
            rw [decide_eq_true c2,Bool.true_and] at hg
            simp [c1,e0,hw,aj,hdj,hlen,hltj,c3]
            subst hI
            exact Less_mk (n - 1) (by omega) ⟨i + 1,by omega,by rw [en]; exact hg,by rw [wrNext i (by omega)]⟩
          · have c3:0 ≤ cmpPx l[j].Prefix l[i].Prefix:=by omega
            rw [decide_eq_false c2,Bool.false_and] at hg
            simp [c1,e0,hw,aj,hdj,hlen,hltj,c3,goodRs,← hg]
    · simp at a
      rw [List.drop_of_length_le (by omega),routesG] at hg
      simp [goodRs,← hg]
      omega
def wt_RouteS (xs:List GRoute):Nat:=wtR GRoute.wt xs
theorem len_wt_RouteS (xs:List GRoute):xs.length ≤ wt_RouteS xs:=by unfold wt_RouteS wtR; omega
theorem mem_wt_RouteS {xs:List GRoute} {x:GRoute} (h:x ∈ xs):GRoute.wt x ≤ wt_RouteS xs:=by
  have:=wt_mem GRoute.wt h
  unfold wt_RouteS wtR
  omega
def mk_RouteS (xs:List GRoute) (k:Int):List GRoute × Int:=mkR GRoute.mark xs k
theorem mk_RouteS_len (xs:List GRoute) (k:Int):(mk_RouteS xs k).1.length = xs.length:=mkR_len _ xs k
attribute [simp] mk_RouteS_len
theorem attr_ok {a:GAttrs} (h:GAttrs.wt a ≤ 1048576):attrOK a:=by
  unfold GAttrs.wt at h
  have h1:=len_wt_IntS a.Path
  have h2:=len_wt_IntS a.Comms
  exact ⟨by omega,by omega⟩
theorem route_ok {r:GRoute} (h:GRoute.wt r ≤ 1048576):attrOK r.Attrs:=attr_ok (by unfold GRoute.wt at h; omega)
theorem routes_ok {l:List GRoute} (h:wt_RouteS l ≤ 1048576):routesOK l:=by
  have:=len_wt_RouteS l
  refine ⟨by omega,fun x hx => route_ok ?_⟩
  have:=mem_wt_RouteS hx
  omega
theorem ok_Clone_Int (k:Nat) (xs:List Int) (hx:xs.length ≤ 1048576):CallOK Tryz.prog 66 [.c (rd k xs.length (xs.map pi))] (.c (.sl 0 3 xs.length (xs.map pi))) [.c (rd k xs.length (xs.map pi))]:=by
  refine okS (fn:=Tryz.f66) [] h0 Tryz.func66 (by kernel_rfl) rfl Tryz.ntmps66 Tryz.results66 (by simp) ?_
  cases xs with
  | nil => simp
  | cons y ys =>
    simp only [List.length_cons] at hx
    have hb:(ys.length + 1) * 8 ≤ 140737488355328 ∧ ys.length + 1 ≤ 9223372036854775807:=by omega
    have hb2:ys.length + 1 ≤ 9223372036854775807:=by omega
    have hb1:(ys.length + 1) * 8 ≤ 140737488355328:=by omega
    simp [hb1,hb2]
theorem ok_ownAttrs (k:Nat) (a:GAttrs) (h1:a.Path.length ≤ 1048576) (h2:a.Comms.length ≤ 1048576):CallOK Tryz.prog 27 [.agg (GAttrs.ci k a)] (.agg (GAttrs.co a)) [.agg (GAttrs.ci k a)]:=by
  refine okS (fn:=Tryz.f27) [] h0 Tryz.func27 (by kernel_rfl) rfl Tryz.ntmps27 Tryz.results27 (by simp) ?_
  simp
  refine drawP (fnEnv 66 (fL1 1048576 fun xs => .sl 0 3 xs.length (xs.map pi)) (tabEnv [] [])) [⟨[.op 0 0 0],allD 12,true⟩,⟨[.op 0 0 0],allD 12,true⟩,⟨[.op 1 2 0],[3,4,5,6,7,8,9,10],false⟩,⟨[.op 0 0 0],allD 12,true⟩,⟨[.op 0 0 0],allD 12,true⟩,⟨[.op 1 5 0],[3,4,5,6,7,8,9,10],false⟩,⟨[.op 0 0 0],allD 12,true⟩,⟨[.op 0 0 0,.op 1 2 0],[3,4,5,6,7,8,9,10],false⟩,⟨[.op 0 0 0],allD 12,true⟩,⟨[.op 0 0 0,.op 1 5 0],[3,4,5,6,7,8,9,10],false⟩] h0 hm (fnEnv_ok (tabEnv_ok tab_nil) (fL1_ok fun k xs hx => ok_Clone_Int k xs hx)) (by kernel_rfl) (by kernel_rfl) ?_
  simp [h1,h2]
theorem ok_l4Own (k:Nat) (a:GAttrs) (h1:a.Path.length ≤ 1048576) (h2:a.Comms.length ≤ 1048576):CallOK Tryz.prog 70 [.agg (GAttrs.ci k a)] (.agg (GAttrs.co a)) [.agg (GAttrs.ci k a)]:=by
  have b1:a.Path.length * 8 ≤ 140737488355328:=by omega
  have b2:a.Path.length ≤ 9223372036854775807:=by omega
  have b3:a.Comms.length * 8 ≤ 140737488355328:=by omega
  have b4:a.Comms.length ≤ 9223372036854775807:=by omega
  refine okS (fn:=Tryz.f70) [] h0 Tryz.func70 (by kernel_rfl) rfl Tryz.ntmps70 Tryz.results70 (by simp) ?_
  by_cases p:a.Path = []
  · by_cases c:a.Comms = []
    · simp [p,c]
    · simp [p,c,b3,b4]
  · by_cases c:a.Comms = []
    · simp [p,c,b1,b2]
    · simp [p,c,b1,b2,b3,b4]
theorem ok_ownRoute (k:Nat) (r:GRoute) (h1:r.Attrs.Path.length ≤ 1048576) (h2:r.Attrs.Comms.length ≤ 1048576):CallOK Tryz.prog 46 [.agg (GRoute.ci k r)] (.agg (GRoute.co r)) [.agg (GRoute.ci k r)]:=by
  refine okS (fn:=Tryz.f46) [] h0 Tryz.func46 (by kernel_rfl) rfl Tryz.ntmps46 Tryz.results46 (by simp) ?_
  simp
  refine drawP (tabEnv [] _) [⟨[.op 0 0 0],allD 9,true⟩,⟨[.op 0 0 0],allD 9,true⟩,⟨[.op 0 0 0],allD 9,true⟩,⟨[.op 0 0 0],allD 9,true⟩,⟨[],allD 9,false⟩,⟨[.op 1 4 1,.op 1 4 5],allD 9,true⟩,⟨[.op 0 1 0,.op 1 4 1,.op 1 4 5],[3,4,5,6,7,8],false⟩] h0 hm (tabEnv_ok (tab_cons (ok_ownAttrs k r.Attrs h1 h2) tab_nil)) (by kernel_rfl) (by kernel_rfl) ?_
  simp
theorem ok_l7Own (k:Nat) (r:GRoute) (h1:r.Attrs.Path.length ≤ 1048576) (h2:r.Attrs.Comms.length ≤ 1048576):CallOK Tryz.prog 91 [.agg (GRoute.ci k r)] (.agg (GRoute.co r)) [.agg (GRoute.ci k r)]:=by
  refine okS (fn:=Tryz.f91) [] h0 Tryz.func91 (by kernel_rfl) rfl Tryz.ntmps91 Tryz.results91 (by simp) ?_
  simp
  refine drawP (tabEnv [] _) [⟨[.op 0 0 0],allD 9,true⟩,⟨[.op 0 0 0],allD 9,true⟩,⟨[.op 0 0 0],allD 9,true⟩,⟨[.op 0 0 0],allD 9,true⟩,⟨[],allD 9,false⟩,⟨[.op 1 4 1,.op 1 4 5],allD 9,true⟩,⟨[.op 0 1 0,.op 1 4 1,.op 1 4 5],[3,4,5,6,7,8],false⟩] h0 hm (tabEnv_ok (tab_cons (ok_l4Own k r.Attrs h1 h2) tab_nil)) (by kernel_rfl) (by kernel_rfl) ?_
  simp
def updB (u:GUpdate):Prop:=u.Gone.length ≤ 1048576 ∧ u.Come.length ≤ 1048576 ∧ u.Attrs.Path.length ≤ 1048576 ∧ u.Attrs.Comms.length ≤ 1048576
def routesB (l:List GRoute):Prop:=l.length ≤ 1000 ∧ ∀ r ∈ l,r.Attrs.Path.length ≤ 1048576 ∧ r.Attrs.Comms.length ≤ 1048576
def keepF (l:List GRoute) (u:GUpdate) (i:Nat):List GRoute:=(l.take i).filter fun r => !decide (r.Prefix ∈ u.Gone)
theorem keepF_succ (l:List GRoute) (u:GUpdate) (i:Nat) (h:i < l.length):keepF l u (i + 1) = keepF l u i ++ (if l[i].Prefix ∈ u.Gone then [] else [l[i]]):=by
  unfold keepF
  rw [take_step l i h,List.filter_append,List.filter_cons,List.filter_nil]
  by_cases c:l[i].Prefix ∈ u.Gone <;> simp [c]
theorem ok_l14Hear (k k':Nat) (l:List GRoute) (u:GUpdate) (hs:srt l) (hl:routesB l) (hu:updB u) (hc:u.Come.length ≤ 1000):CallOK Tryz.prog 52 [.c (rd k l.length (l.flatMap (GRoute.ci k))),.agg (GUpdate.ci k' u)] (.c (.sl 0 56 (hearL l u).length ((hearL l u).flatMap GRoute.co))) [.c (rd k l.length (l.flatMap (GRoute.ci k))),.agg (GUpdate.ci k' u)]:=by
  obtain ⟨hl1,hl2⟩:=hl
  obtain ⟨hu1,hu2,hu3,hu4⟩:=hu
  refine okS (fn:=Tryz.f52) [(56,[2,2])] h0 Tryz.func52 (by kernel_rfl) rfl Tryz.ntmps52 Tryz.results52 (by simp) ?_
  simp
  refine ewp_nil 5 (.op 6 4 0) 56 (by decide) rfl rfl rfl ?_
  refine loopS [3,5,10,11,12] [.op 6 4 0,.op 0 0 0] (fun n st => ∃ (i:Nat),i + n = l.length ∧ st = ⟨slOf 44 [(3,.ptr ⟨.op 0 0 0,[]⟩ 0),(5,.ref ⟨.op 6 4 0,[]⟩ 0 (keepF l u i).length),(10,.t (rd k l.length (l.flatMap (GRoute.ci k)))),(11,.t (pi l.length)),(12,.t (pi i))],ofL [(.op 6 4 0,.sl 0 56 (keepF l u i).length ((keepF l u i).flatMap GRoute.co)),(.op 0 0 0,.sl 0 38 1 (GUpdate.ci k' u))]⟩) l.length ?_ ?_
  · rintro Inv hI
    simp
    subst hI
    exact ⟨0,by omega,rfl⟩
  · rintro Inv hI n st ⟨i,hi,rfl⟩
    have hS:=keepF_succ l u i
    have hO:(keepF l u i).length ≤ l.length:=Nat.le_trans (List.length_filter_le _ _) (by rw [List.length_take]; omega)
    have hall:i = l.length → keepF l u i = comeL l u 0:=by
      rintro rfl
      unfold keepF comeL
      rw [List.take_length]
      rfl
    generalize hOe:keepF l u i = O at hO hS hall ⊢
    have hA:=fm_len GRoute.co 8 (fun _ => rfl) O
    have hAm:∀ y,(O ++ [y]).flatMap GRoute.co = O.flatMap GRoute.co ++ GRoute.co y:=fun y => by simp
    generalize hAe:O.flatMap GRoute.co = A at hA hAm ⊢
    refine ewr_sound (M:=[(56,[2,2])]) h0 ?_
    simp
    refine brn_app (fun a => ?_) (fun a => ?_)
    · simp at a
      have hd:=fm_drop (GRoute.ci k) 8 (fun _ => rfl) l i a
      have hlen:=fm_len (GRoute.ci k) 8 (fun _ => rfl) l
      have hlt:i * 8 < l.length * 8:=by omega
      have hlt2:i * 8 + 8 ≤ l.length * 8:=by omega
      have hx:=hl2 l[i] (List.getElem_mem a)
      have hS':=hS a
      simp [a,hd,hlen,hlt]
      refine Inv_intro (ok_l4In k' u.Gone l[i].Prefix (by omega)) ?_
      by_cases c:l[i].Prefix ∈ u.Gone
      · rw [if_pos c,List.append_nil] at hS'
        simp [c]
        subst hI
        refine Less_mk (n - 1) (by omega) ⟨i + 1,by omega,?_⟩
        rw [wrNext i (by omega),hS',hAe]
        rfl
      · rw [if_neg c] at hS'
        simp [c]
        refine Inv_intro (ok_l7Own k l[i] hx.1 hx.2) ?_
        have hb1:(O.length + 1) * 96 ≤ 140737488355328:=by omega
        have hb2:O.length ≤ 9223372036854775806:=by omega
        have ht:A.take (O.length * 8) = A:=List.take_of_length_le (by omega)
        simp [hA,hb1,hb2,ht]
        subst hI
        refine Less_mk (n - 1) (by omega) ⟨i + 1,by omega,?_⟩
        rw [wrNext i (by omega),hS']
        simp [hAm,hAe]
    · simp at a
      have hil:i = l.length:=by omega
      have hO0:=hall hil
      simp
      rw [hO0] at hAe
      subst hAe
      have hAl:=fm_len GRoute.co 8 (fun _ => rfl) (comeL l u 0)
      rw [hO0]
      refine ewp_sw (.op 6 4 0) (.op 11 6 0) rfl rfl ?_
      simp
      refine loopS [3,5,29,30,31] [.op 11 6 0,.op 0 0 0] (fun n st => ∃ (j:Nat),j + n = u.Come.length ∧ st = ⟨slOf 44 [(3,.ptr ⟨.op 0 0 0,[]⟩ 0),(5,.ref ⟨.op 11 6 0,[]⟩ 0 (comeL l u j).length),(29,.t (rd k' u.Come.length (u.Come.flatMap GPrefix.c))),(30,.t (pi u.Come.length)),(31,.t (pi j))],ofL [(.op 11 6 0,.sl 0 56 (comeL l u j).length ((comeL l u j).flatMap GRoute.co)),(.op 0 0 0,.sl 0 38 1 (GUpdate.ci k' u))]⟩) u.Come.length ?_ ?_
      · rintro Inv' hI'
        simp
        subst hI'
        exact ⟨0,by omega,rfl⟩
      · rintro Inv' hI' m st ⟨j,hj,rfl⟩
        have hsj:=srt_come hs u j (by omega)
        have hlj:=len_come hs u j (by omega)
        have hcs:=comeL_succ l u j
        have hce:=comeL_all l u
        refine ewr_sound (M:=[(56,[2,2])]) h0 ?_
        simp
        by_cases a2:j < u.Come.length
        · have hd:=fm_drop GPrefix.c 2 (fun _ => rfl) u.Come j a2
          have hlen:=fm_len GPrefix.c 2 (fun _ => rfl) u.Come
          have hlt:j * 2 < u.Come.length * 2:=by omega
          have hcs':=hcs a2
          generalize comeL l u j = B at hsj hlj hcs' ⊢
          have hB:=fm_len GRoute.co 8 (fun _ => rfl) B
          have ht:(B.flatMap GRoute.co).take (B.length * 8) = B.flatMap GRoute.co:=List.take_of_length_le (by omega)
          have hput:=ok_l14Put B ⟨u.Come[j]'a2,u.Attrs⟩ hsj (by omega)
          generalize (u.Come[j]'a2) = p at hput hcs' hd ⊢
          simp [a2,hd,hlen,hlt]
          refine drawP (tabEnv [(56,[2,2])] _) [⟨[.op 11 6 0],allD 44,true⟩,⟨[.op 10 2 0],allD 44,true⟩,⟨[.op 0 0 0],allD 44,true⟩,⟨[.op 0 0 0],allD 44,true⟩,⟨[],allD 44,false⟩,⟨[.op 11 4 1,.op 11 4 5],allD 44,true⟩,⟨[.op 11 6 0,.op 11 4 1,.op 11 4 5],[35,36,37,38,39,40,41,5],false⟩,⟨[.op 11 6 0],allD 44,true⟩] h0 hm (tabEnv_ok (tab_cons (ok_l4Own k' u.Attrs hu3 hu4) (tab_cons hput tab_nil))) (by kernel_rfl) (by kernel_rfl) ?_
          simp [hB,ht]
          subst hI'
          refine Less_mk (m - 1) (by omega) ⟨j + 1,by omega,?_⟩
          rw [wrNext j (by omega),hcs']
          rfl
        · have hjl:j = u.Come.length:=by omega
          subst hjl
          simp [hce]
def wt_UpdateS (xs:List GUpdate):Nat:=wtR GUpdate.wt xs
theorem len_wt_UpdateS (xs:List GUpdate):xs.length ≤ wt_UpdateS xs:=by unfold wt_UpdateS wtR; omega
theorem mem_wt_UpdateS {xs:List GUpdate} {x:GUpdate} (h:x ∈ xs):GUpdate.wt x ≤ wt_UpdateS xs:=by
  have:=wt_mem GUpdate.wt h
  unfold wt_UpdateS wtR
  omega
def mk_UpdateS (xs:List GUpdate) (k:Int):List GUpdate × Int:=mkR GUpdate.mark xs k
theorem mk_UpdateS_len (xs:List GUpdate) (k:Int):(mk_UpdateS xs k).1.length = xs.length:=mkR_len _ xs k
attribute [simp] mk_UpdateS_len
def rB (r:GRoute):Prop:=r.Attrs.Path.length ≤ 1048576 ∧ r.Attrs.Comms.length ≤ 1048576
theorem hear_b {l:List GRoute} {u:GUpdate} (h:∀ r ∈ l,rB r) (hu:updB u):∀ r ∈ hearL l u,rB r:=by
  intro r hr
  rw [← comeL_all] at hr
  rcases mem_come u _ (Nat.le_refl _) hr with hr | ⟨h1,_⟩
  · exact h r hr
  · unfold rB; rw [h1]; exact ⟨hu.2.2.1,hu.2.2.2⟩
theorem hear_srt {l:List GRoute} (h:srt l) (u:GUpdate):srt (hearL l u):=by
  rw [← comeL_all]; exact srt_come h u _ (Nat.le_refl _)
theorem hear_len {l:List GRoute} (h:srt l) (u:GUpdate):(hearL l u).length ≤ l.length + u.Come.length:=by
  rw [← comeL_all]; exact len_come h u _ (Nat.le_refl _)
def zeroU:GUpdate:=⟨[],zeroA,[]⟩
theorem hear_zero (l:List GRoute):hearL l zeroU = l:=by
  unfold hearL zeroU
  simp
theorem attr_len {a:GAttrs} (h:GAttrs.wt a ≤ 1048576):a.Path.length ≤ 1048576 ∧ a.Comms.length ≤ 1048576:=by
  unfold GAttrs.wt at h
  have h1:=len_wt_IntS a.Path
  have h2:=len_wt_IntS a.Comms
  exact ⟨by omega,by omega⟩
theorem wt_updB {u:GUpdate} (h:GUpdate.wt u ≤ 1048576):updB u:=by
  unfold GUpdate.wt at h
  have h1:=len_wt_PrefixS u.Gone
  have h2:=len_wt_PrefixS u.Come
  have h3:=attr_len (a:=u.Attrs) (by omega)
  exact ⟨by omega,by omega,h3.1,h3.2⟩
theorem updB_ok {u:GUpdate} (h:updB u):updOK u:=by
  obtain ⟨h1,h2,h3,h4⟩:=h
  exact ⟨by omega,by omega,by omega,by omega⟩
theorem wt_rB {l:List GRoute} (h:wt_RouteS l ≤ 1048576):∀ r ∈ l,rB r:=fun r hr => attr_len (a:=r.Attrs) (by have:=mem_wt_RouteS hr; unfold GRoute.wt at this; omega)
theorem wt_upds {l:List GUpdate} (h:wt_UpdateS l ≤ 1048576):∀ u ∈ l,updB u:=fun u hu => wt_updB (by have:=mem_wt_UpdateS hu; omega)
def hrB (o:List GRoute):Prop:=srt o ∧ o.length ≤ 20 ∧ ∀ r ∈ o,rB r
theorem hrI_B {l:List GRoute} {us:List GUpdate} (h:hrB l) (hu:∀ u ∈ us,updB u):∀ (i:Nat) (o:List GRoute),hrI l us i = some o → hrB o
  | 0,o,e => by cases e; exact h
  | i + 1,o,e => by
    unfold hrI at e
    split at e
    · cases e
    · rename_i o' ho'
      split at e
      · cases e
      · rename_i u hus
        split at e
        · rename_i hl
          cases e
          obtain ⟨h1,h2,h3⟩:=hrI_B h hu i o' ho'
          exact ⟨hear_srt h1 u,hl,hear_b h3 (hu u (List.mem_of_getElem? hus))⟩
        · cases e
theorem rHear_bad {l:List GRoute} {us:List GUpdate} {i:Nat} (hi:i < us.length) (h:goodU us[i] = false):rHearAll l us = ([],false):=by
  unfold rHearAll
  rw [if_neg]
  rintro ⟨_,_,h3⟩
  rw [List.all_eq_true.1 h3 _ (List.getElem_mem hi)] at h
  cases h
theorem rHear_none {l:List GRoute} {us:List GUpdate} {i:Nat} (hi:i ≤ us.length) (h:hrI l us i = none):rHearAll l us = ([],false):=by
  unfold rHearAll
  rw [hrI_none l us h us.length hi]
  split <;> rfl
theorem hrI_next {l:List GRoute} {us:List GUpdate} {i:Nat} {o:List GRoute} (hi:i < us.length) (h:hrI l us i = some o):hrI l us (i + 1) = if (hearL o us[i]).length ≤ 20 then some (hearL o us[i]) else none:=by
  simp only [hrI,h,List.getElem?_eq_getElem hi]
theorem law_sHearAll (v0:List GRoute) (v1:List GUpdate) (hw0:wt_RouteS v0 ≤ 1048576) (hw1:wt_UpdateS v1 ≤ 1048576):CallOK Tryz.prog 16 [.c (rd 0 v0.length (v0.flatMap (GRoute.ci 0))),.c (rd 0 v1.length (v1.flatMap (GUpdate.ci 0)))] (.tup [.c (.sl 0 56 (rHearAll v0 v1).1.length ((rHearAll v0 v1).1.flatMap GRoute.co)),.c (pb (rHearAll v0 v1).2)]) [.c (rd 0 v0.length (v0.flatMap (GRoute.ci 0))),.c (rd 0 v1.length (v1.flatMap (GUpdate.ci 0)))]:=by
  have hl1:=len_wt_UpdateS v1
  refine okS (fn:=Tryz.f16) [] h0 Tryz.func16 (by kernel_rfl) rfl Tryz.ntmps16 Tryz.results16 (by simp) ?_
  simp
  refine Inv_intro (ok_sGoodRoutes 0 v0 (routes_ok hw0)) ?_
  simp
  cases c1:goodRs v0 with
  | false => simp [rHearAll,c1]
  | true =>
    simp
    refine brn_app (fun a => ?_) (fun a => ?_)
    · simp at a
      have h:¬ v1.length ≤ 60:=by omega
      simp [rHearAll,h]
    · simp at a
      have h60:v1.length ≤ 60:=by omega
      obtain ⟨hg,h20⟩:=goodRs_L c1
      have hb0:hrB v0:=⟨hg.1,h20,wt_rB hw0⟩
      have hus:=wt_upds hw1
      have hz:=ok_l14Hear 0 1 v0 zeroU hg.1 ⟨by omega,wt_rB hw0⟩ ⟨by decide,by decide,by decide,by decide⟩ (by decide)
      rw [hear_zero] at hz
      simp
      refine Inv_intro hz ?_
      simp
      refine loopW [6,20,21,22] [.op 9 2 0,.op 3 2 0] [.op 3 2 0] (fun m st => ∃ (i:Nat) (o:List GRoute),i + m = v1.length ∧ hrI v0 v1 i = some o ∧ (∀ (j:Nat) (hj:j < i) (hl:j < v1.length),goodU v1[j] = true) ∧ st = ⟨slOf 37 [(6,.ref ⟨.op 3 2 0,[]⟩ 0 o.length),(20,.t (rd 0 v1.length (v1.flatMap (GUpdate.ci 0)))),(21,.t (pi v1.length)),(22,.t (pi i))],ofL [(.op 3 2 0,.sl 0 56 o.length (o.flatMap GRoute.co))]⟩) v1.length ?_ ?_
      · rintro Inv hI
        simp
        subst hI
        exact ⟨0,v0,by omega,rfl,fun j hj => absurd hj (by omega),rfl⟩
      · rintro Inv hI m st ⟨i,o,hi,ho,hgs,rfl⟩
        obtain ⟨b1,b2,b3⟩:=hrI_B hb0 hus i o ho
        have ht:(o.flatMap GRoute.co).take (o.length * 8) = o.flatMap GRoute.co:=List.take_of_length_le (by rw [fm_len GRoute.co 8 (fun _ => rfl)]; exact Nat.le_refl _)
        refine ewr_sound (M:=[]) h0 ?_
        simp
        refine brn_app (fun b => ?_) (fun b => ?_)
        · simp at b
          have hd:=fm_drop (GUpdate.ci 0) 8 (fun _ => rfl) v1 i b
          have hlen:=fm_len (GUpdate.ci 0) 8 (fun _ => rfl) v1
          have hlt:i * 8 < v1.length * 8:=by omega
          have hub:=hus _ (List.getElem_mem b)
          have hnext:=hrI_next b ho
          have hbad:=rHear_bad (l:=v0) b
          simp [b,hd,hlen,hlt]
          refine Inv_intro (ok_sGoodUpdate 0 v1[i] (updB_ok hub)) ?_
          cases c2:goodU v1[i] with
          | false =>
            have:=hbad c2
            rw [this]
            simp
          | true =>
            have hcl:=(goodU_spec c2).2.1
            have hhl:=hear_len b1 v1[i]
            simp
            refine Inv_intro (ok_l14Hear 0 0 o v1[i] b1 ⟨by omega,b3⟩ hub (by omega)) ?_
            generalize hearL o v1[i] = O at hnext hhl ⊢
            simp
            by_cases c3:O.length ≤ 20
            · rw [if_pos c3] at hnext
              have d3:¬ (20:Int) < (O.length:Int):=by omega
              simp [d3]
              refine LessW_mk (m - 1) (.op 9 2 0) (.op 3 2 0) (by omega) rfl rfl ?_
              simp
              subst hI
              refine ⟨i + 1,O,by omega,hnext,fun j hj hl => ?_,?_⟩
              · rcases Nat.lt_or_ge j i with h | h
                · exact hgs j h hl
                · have:j = i:=by omega
                  subst this
                  exact c2
              · rw [wrNext i (by omega)]
            · rw [if_neg c3] at hnext
              have d3:(20:Int) < (O.length:Int):=by omega
              have:=rHear_none (i:=i + 1) (by omega) hnext
              rw [this]
              simp [d3]
        · simp at b
          have hin:i = v1.length:=by omega
          subst hin
          have er:rHearAll v0 v1 = (o,true):=by
            unfold rHearAll
            rw [if_pos ⟨c1,h60,List.all_eq_true.2 fun x hx => by obtain ⟨j,hj,rfl⟩:=List.getElem_of_mem hx; exact hgs j hj hj⟩,ho]
          rw [er]
          simp [ht]
end Go.V
