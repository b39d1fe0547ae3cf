/- What functions of the seat's program do, each proved of its code, under the bounds that its theorem names. -/
import Derived.Test.YtdelgkhoahmnfaaGreatTah
set_option linter.all false
namespace Go.V
open Go.Proofs
set_option maxHeartbeats 1000000
set_option maxRecDepth 10000
set_option linter.unusedSimpArgs false
set_option linter.unusedVariables false
theorem ok_isPeer (n:Int):CallOK Tryz.prog 77 [.c (pi n)] (.c (pb (isPeerB n))) [.c (pi n)]:=by
  refine okS (fn:=Tryz.f77) [] h0 Tryz.func77 (by kernel_rfl) rfl Tryz.ntmps77 Tryz.results77 (by simp) ?_
  simp
  refine Inv_intro (ok_within _ _ _) ?_
  simp [isPeerB,inR]
theorem ok_isOffer (k:Nat) (o:GOffer) (hx:attrOK o.Attrs):CallOK Tryz.prog 154 [.agg (GOffer.ci k o)] (.c (pb (goodO o))) [.agg (GOffer.ci k o)]:=by
  refine okS (fn:=Tryz.f154) [] h0 Tryz.func154 (by kernel_rfl) rfl Tryz.ntmps154 Tryz.results154 (by simp) ?_
  simp
  refine Inv_intro (ok_isPeer o.Peer) ?_
  cases c1:isPeerB o.Peer with
  | false => simp [goodO,c1]
  | true =>
    simp
    refine Inv_intro (ok_iGoodAttrs k o.Attrs hx) ?_
    simp [goodO,c1]
theorem ok_iGoodOffers (k:Nat) (l:List GOffer) (hl:offersOK l):CallOK Tryz.prog 98 [.c (rd k l.length (l.flatMap (GOffer.ci k)))] (.c (pb (goodOs l))) [.c (rd k l.length (l.flatMap (GOffer.ci k)))]:=by
  obtain ⟨hll,hlx⟩:=hl
  refine okS (fn:=Tryz.f98) [] h0 Tryz.func98 (by kernel_rfl) rfl Tryz.ntmps98 Tryz.results98 (by simp) ?_
  simp
  refine loopS [0,5,6,7] [] (fun n st => ∃ (i:Nat),i + n = l.length ∧ offersG (prevO l i) (l.drop i) = offersG none l ∧ st = ⟨slOf 31 [(0,.t (rd k l.length (l.flatMap (GOffer.ci k)))),(5,.t (rd k l.length (l.flatMap (GOffer.ci k)))),(6,.t (pi l.length)),(7,.t (pi i))],ofL []⟩) l.length ?_ ?_
  · rintro Inv hI
    simp
    subst hI
    exact ⟨0,by omega,rfl,rfl⟩
  · rintro Inv hI n st ⟨i,hi,hg,rfl⟩
    refine ewr_sound (M:=[]) h0 ?_
    simp
    refine brn_app (fun a => ?_) (fun a => ?_)
    · simp at a
      have hx:=hlx l[i] (List.getElem_mem a)
      rw [drop_step _ i a,offersG] at hg
      have hd:=fm_drop (GOffer.ci k) 7 (fun _ => rfl) l i a
      have hlen:=fm_len (GOffer.ci k) 7 (fun _ => rfl) l
      have hlt:i * 7 < l.length * 7:=by omega
      have en:prevO l (i + 1) = some l[i]:=prevO_next l i a
      simp [a,hd,hlen,hlt]
      have hR:=ok_isOffer k l[i] hx
      by_cases c0:i = 0
      · have e0:¬ 0 < i:=by omega
        have ep:prevO l i = none:=by simp [prevO,c0]
        rw [ep,adjO,Bool.and_true] at hg
        refine drawP (tabEnv [] _) [⟨[.op 3 3 0],allD 31,true⟩,⟨[],allD 31,false⟩,⟨[],allD 31,true⟩,⟨[],allD 31,true⟩,⟨[],allD 31,true⟩,⟨[],allD 31,true⟩,⟨[],allD 31,true⟩,⟨[.op 3 3 0],allD 31,true⟩,⟨[.op 3 3 0],allD 31,true⟩,⟨[],allD 31,true⟩,⟨[],allD 31,true⟩,⟨[],allD 31,true⟩,⟨[],allD 31,true⟩,⟨[],allD 31,true⟩,⟨[],allD 31,true⟩,⟨[],allD 31,true⟩,⟨[],allD 31,true⟩,⟨[],allD 31,true⟩] h0 hm (tabEnv_ok (tab_cons hR tab_nil)) (by kernel_rfl) (by kernel_rfl) ?_
        cases c1:goodO l[i] with
        | false =>
          rw [c1,Bool.false_and] at hg
          simp [c1,goodOs,← hg]
        | true =>
          rw [c1,Bool.true_and] at hg

          simp [c1,e0]
          subst hI
          exact Less_mk (n - 1) (by omega) ⟨i + 1,by omega,by rw [en]; exact hg,by rw [wrNext i (by omega)]⟩
      · obtain ⟨j,hj⟩:∃ j,i = j + 1:=⟨i - 1,by omega⟩
        have aj:j < l.length:=by omega
        have ep:prevO l i = some l[j]:=by subst hj; exact prevO_next l j aj
        have hdj:=fm_drop (GOffer.ci k) 7 (fun _ => rfl) l j aj
        have hltj:j * 7 < l.length * 7:=by omega
        have hw:IntKind.wrap .i64 ((i:Int) - 1) = j:=(wrap64 (by omega) (by omega)).trans (by omega)
        have e0:0 < i:=by omega
        rw [ep,adjO] at hg
        refine drawP (tabEnv [] _) [⟨[.op 3 3 0],allD 31,true⟩,⟨[],allD 31,false⟩,⟨[],allD 31,true⟩,⟨[],allD 31,true⟩,⟨[],allD 31,true⟩,⟨[],allD 31,true⟩,⟨[],allD 31,true⟩,⟨[.op 3 3 0],allD 31,true⟩,⟨[.op 3 3 0],allD 31,true⟩,⟨[],allD 31,true⟩,⟨[],allD 31,true⟩,⟨[],allD 31,true⟩,⟨[],allD 31,true⟩,⟨[],allD 31,true⟩,⟨[],allD 31,true⟩,⟨[],allD 31,true⟩,⟨[],allD 31,true⟩,⟨[],allD 31,true⟩] h0 hm (tabEnv_ok (tab_cons hR tab_nil)) (by kernel_rfl) (by kernel_rfl) ?_
        cases c1:goodO l[i] with
        | false =>
          rw [c1,Bool.false_and,Bool.false_and] at hg
          simp [c1,goodOs,← hg]
        | true =>
          rw [c1,Bool.true_and] at hg

          by_cases c2:l[j].Peer < l[i].Peer
          · have c3:¬ l[i].Peer ≤ l[j].Peer:=by omega
            rw [decide_eq_true c2,Bool.true_and] at hg
            simp [c1,e0,hw,aj,hdj,hlen,hltj,c3]
            subst hI
            exact Less_mk (n - 1) (by omega) ⟨i + 1,by omega,by rw [en]; exact hg,by rw [wrNext i (by omega)]⟩
          · have c3:l[i].Peer ≤ l[j].Peer:=by omega
            rw [decide_eq_false c2,Bool.false_and] at hg
            simp [c1,e0,hw,aj,hdj,hlen,hltj,c3,goodOs,← hg]
    · simp at a
      rw [List.drop_of_length_le (by omega),offersG] at hg
      simp [goodOs,← hg]
def yldV (l:Nat):Value:=.func (.yield l) #[] #[]
def mu7 (n:Nat) (a:Act):Nat:=match (a.tmps[7]?:Option Value) with
  | some (Value.int _ i) => n - i.toNat
  | _ => 0
def vSl (xs:List GOffer) (k' l i:Nat):List (Nat × SV):=[(0,.t (.raw (yldV l))),(5,.t (rd k' xs.length (xs.flatMap (GOffer.ci k')))),(6,.t (pi xs.length)),(7,.t (pi i))]
theorem values1_in (xs:List GOffer) (k k' l n:Nat) (x:Addr) (I:Nat → Nat → Prop) (J:Nat → World → Prop) (W:World) (hn:xs.length ≤ 1000000)
    (hcap:ImL W I k (some x) 0 [rd k' xs.length (xs.flatMap (GOffer.ci k'))]) (hI:∀ k b,I k b → b < W.heap.size)
    (hJb:∀ i W',J i W' → W.heap.size ≤ W'.heap.size ∧ ∀ k b,I k b → W'.heap[b]? = W.heap[b]?)
    (hJg:∀ i W1 W2,J i W1 → RowKit.Below W1.heap.size W1 W2 → W1.drawn ≤ W2.drawn → J i W2)
    (hY:∀ (i:Nat) (hi:i < xs.length) (W1:World) (vs:List Value),J i W1 → SVRL (tsz Tryz.prog) (fun _ => none) W1 I vs ((GOffer.ci k' xs[i]).map SV.t) → (∀ u ∈ vs,one u = true) → YieldAt (wideR none) n Tryz.prog l #[.agg vs.toArray] W1 fun e W' => e = .returned (.bool true) ∧ J (i + 1) W')
    (hJ0:J 0 W) :
    CallsIn (wideR none) (n + 1) Tryz.prog 219 #[yldV l,.pointer (some x)] W fun e W' => (∃ v,e = .returned v) ∧ J xs.length W':=by
  refine callsIn_of_wp Tryz.func219 rfl trivial ?_ rfl
  generalize hA:(⟨#[yldV l,.pointer (some x)] ++ Array.replicate (Tryz.f219.ntmps - (#[yldV l,Value.pointer (some x)]:Array Value).size) undef,[]⟩:Act) = a0
  have hsz:a0.tmps.toList.length = 16:=by subst hA; rfl
  have hd0:a0.defers = []:=by subst hA; rfl
  have h0':a0.tmps.toList[0]? = some (yldV l):=by subst hA; rfl
  have h1':a0.tmps.toList[1]? = some (.pointer (some x)):=by subst hA; rfl
  have hs0:SimI (tsz Tryz.prog) I (slOf 16 [(0,.t (.raw (yldV l))),(1,.ip k [rd k' xs.length (xs.flatMap (GOffer.ci k'))])]) a0 W:=by
    refine SimI.mk hI hd0 (SVRL.of_slOf hsz ?_)
    intro y hy
    simp only [List.mem_cons,List.not_mem_nil,or_false] at hy
    rcases hy with rfl | rfl
    · exact ⟨_,h0',by simp only [SVR,Im]⟩
    · exact ⟨_,h1',by simp only [SVR]; exact ⟨x,rfl,hcap⟩⟩
  refine wpIn_seq ?_
  refine regT [] [0,5,6,7] [] ⟨slOf 16 [(0,.t (.raw (yldV l))),(5,.t (rd k' xs.length (xs.flatMap (GOffer.ci k')))),(6,.t (pi xs.length)),(7,.t (pi 0))],ofL []⟩ h0 hs0 (by kernel_rfl) ?_ ?_
  · intro K hK
    simp
    refine hK _ ?_
    simp
  · intro a1 w1 L1 hs1
    refine wpIn_block ?_
    refine wpIn_loop (fun a w => ∃ i:Nat,i ≤ xs.length ∧ J i w ∧ SimI (tsz Tryz.prog) I (slOf 16 (vSl xs k' l i)) a w) (fun a _ => mu7 xs.length a) ⟨0,Nat.zero_le _,hJg 0 W w1 hJ0 hs1.keeps.below hs1.keeps.drawn,hs1.toI⟩ ?_
    rintro a w ⟨i,hi,hJ,hs2⟩
    have hmu:mu7 xs.length a = xs.length - i:=by
      obtain ⟨u7,q7,r7⟩:=Sim.slot (i:=7) hs2 (by decide)
      have r7':SVR (tsz Tryz.prog) (fun _ => none) w I u7 (.t (pi i)):=r7
      simp only [SVR,Im] at r7'
      unfold mu7
      rw [q7,r7']
      simp
    unfold vSl at hs2
    refine wpIn_seq ?_
    refine regT [] [0,5,6,7,8] [] ⟨slOf 16 [(0,.t (.raw (yldV l))),(5,.t (rd k' xs.length (xs.flatMap (GOffer.ci k')))),(6,.t (pi xs.length)),(7,.t (pi i)),(8,.t (pb (decide (i < xs.length))))],ofL []⟩ h0 hs2 (by kernel_rfl) (by
      intro K hK
      simp
      refine hK _ ?_
      simp) ?_
    intro a3 w3 L3 hs3
    have hJ3:=hJg i w w3 hJ hs3.keeps.below hs3.keeps.drawn
    have hs3':=hs3.toI
    obtain ⟨u8,q8,r8⟩:=Sim.slot (i:=8) hs3' (by decide)
    have r8':SVR (tsz Tryz.prog) (fun _ => none) w3 I u8 (.t (pb (decide (i < xs.length)))):=r8
    simp only [SVR,Im] at r8'
    have hc:a3.eval (.tmp 8) = .bool (decide (i < xs.length)):=by
      simp only [Act.eval,Array.getD_eq_getD_getElem?,q8,r8',Option.getD_some]
    refine wpIn_seq ?_
    by_cases hlt:i < xs.length
    · rw [decide_eq_true hlt] at hc
      refine wpIn_cond_true hc (wpIn_skip ?_)
      refine wpIn_seq ?_
      refine wpIn_block ?_
      refine wpIn_seq ?_
      have hd:=fm_drop (GOffer.ci k') 7 (fun _ => rfl) xs i hlt
      have hlen:=fm_len (GOffer.ci k') 7 (fun _ => rfl) xs
      have hlt7:i * 7 < xs.length * 7:=by omega
      refine regT [] [0,4,5,6,7] [.op 2 2 0] ⟨slOf 16 [(0,.t (.raw (yldV l))),(4,.ptr ⟨.op 2 2 0,[]⟩ 0),(5,.t (rd k' xs.length (xs.flatMap (GOffer.ci k')))),(6,.t (pi xs.length)),(7,.t (pi i))],ofL [(.op 2 2 0,.sl 0 81 1 (GOffer.ci k' xs[i]))]⟩ h0 hs3' (by kernel_rfl) (by
        intro K hK
        simp [hlt,hd,hlen,hlt7]
        refine hK _ ?_
        simp) ?_
      intro a4 w4 L4 hs4
      have hJ4:=hJg i w3 w4 hJ3 hs4.keeps.below hs4.keeps.drawn
      refine wpIn_seq ?_
      refine regP [] 2 [0,5,6,7,11,12] [] ⟨slOf 16 [(0,.t (.raw (yldV l))),(5,.t (rd k' xs.length (xs.flatMap (GOffer.ci k')))),(6,.t (pi xs.length)),(7,.t (pi i)),(11,.t (.raw (yldV l))),(12,.agg ((GOffer.ci k' xs[i]).map SV.t))],ofL []⟩ h0 hs4 (by decide) (by kernel_rfl) (by
        intro K hK
        simp
        refine hK _ ?_
        simp) ?_
      intro a5 w5 L5 hs5
      have hJ5:=hJg i w3 w5 hJ3 hs5.keeps.below hs5.keeps.drawn
      have hs5':=hs5.toI
      obtain ⟨u11,q11,r11⟩:=Sim.slot (i:=11) hs5' (by decide)
      have r11':SVR (tsz Tryz.prog) (fun _ => none) w5 I u11 (.t (.raw (yldV l))):=r11
      simp only [SVR,Im] at r11'
      obtain ⟨u12,q12,r12⟩:=Sim.slot (i:=12) hs5' (by decide)
      have r12':SVR (tsz Tryz.prog) (fun _ => none) w5 I u12 (.agg ((GOffer.ci k' xs[i]).map SV.t)):=r12
      simp only [SVR] at r12'
      obtain ⟨vs,hvs,hsv,hone⟩:=r12'
      have e11:a5.eval (.tmp 11) = .func (.yield l) #[] #[]:=by
        simp only [Act.eval,Array.getD_eq_getD_getElem?,q11,r11',Option.getD_some,yldV]
      have e12:a5.eval (.tmp 12) = .agg vs.toArray:=by
        simp only [Act.eval,Array.getD_eq_getD_getElem?,q12,hvs,Option.getD_some]
      obtain ⟨fn,tm,asg,bdy,hy,hR⟩:=hY i hlt w5 vs hJ5 hsv hone
      refine wpOpsIn_one (i:=2) (rest:=[3]) rfl rfl (yieldOp rfl rfl rfl e11 ⟨fn,tm,asg,bdy,by rw [e12]; exact hy,hR.mono ?_⟩)
      rintro e w6 ⟨rfl,hJ6⟩
      refine ⟨rfl,?_⟩
      obtain ⟨g1,g2⟩:=hJb i w5 hJ5
      obtain ⟨g3,g4⟩:=hJb (i + 1) w6 hJ6
      have hs6:=SimI.later hs5' (w':=w6) (fun k b hb => (g4 k b hb).trans (g2 k b hb).symm) (fun k b hb => Nat.lt_of_lt_of_le (hI k b hb) g3)
      have hs7:=Sim.put hs6 (some 13) (v:=.bool true) (s:=.t (pb true)) (by simp only [SVR,Im])
      have hs8:SimI (tsz Tryz.prog) I (slOf 16 [(0,.t (.raw (yldV l))),(5,.t (rd k' xs.length (xs.flatMap (GOffer.ci k')))),(6,.t (pi xs.length)),(7,.t (pi i)),(13,.t (pb true))]) (a5.put (some 13) (.bool true)) w6:=by
        obtain ⟨L8,h8⟩:=hs7.lose [0,5,6,7,13] []
        have e8:St.drop ⟨(slOf 16 [(0,.t (.raw (yldV l))),(5,.t (rd k' xs.length (xs.flatMap (GOffer.ci k')))),(6,.t (pi xs.length)),(7,.t (pi i)),(11,.t (.raw (yldV l))),(12,.agg ((GOffer.ci k' xs[i]).map SV.t))]).set 13 (.t (pb true)),ofL []⟩ [0,5,6,7,13] [] = ⟨slOf 16 [(0,.t (.raw (yldV l))),(5,.t (rd k' xs.length (xs.flatMap (GOffer.ci k')))),(6,.t (pi xs.length)),(7,.t (pi i)),(13,.t (pb true))],ofL []⟩:=by
          simp
        simp only at h8
        rw [e8] at h8
        exact h8.toI
      refine opsT (id:=3) [] 3 [0,5,6,7,14] [] ⟨slOf 16 [(0,.t (.raw (yldV l))),(5,.t (rd k' xs.length (xs.flatMap (GOffer.ci k')))),(6,.t (pi xs.length)),(7,.t (pi i)),(14,.t (pb false))],ofL []⟩ h0 hs8 (by kernel_rfl) (by
        intro K hK
        simp
        refine hK _ ?_
        simp) ?_
      intro a9 w9 L9 hs9
      have hJ9:=hJg (i + 1) w6 w9 hJ6 hs9.keeps.below hs9.keeps.drawn
      have hs9':=hs9.toI
      obtain ⟨u14,q14,r14⟩:=Sim.slot (i:=14) hs9' (by decide)
      have r14':SVR (tsz Tryz.prog) (fun _ => none) w9 I u14 (.t (pb false)):=r14
      simp only [SVR,Im] at r14'
      have hc9:a9.eval (.tmp 14) = .bool false:=by
        simp only [Act.eval,Array.getD_eq_getD_getElem?,q14,r14',Option.getD_some]
      refine wpIn_cond_false hc9 (wpIn_skip ?_)
      have wi:IntKind.i64.wrap ((i:Int) + 1) = ((i + 1:Nat):Int):=wrNext i (by omega)
      refine regT [] [0,5,6,7] [] ⟨slOf 16 (vSl xs k' l (i + 1)),ofL []⟩ h0 hs9' (by kernel_rfl) (by
        intro K hK
        simp [wi]
        refine hK _ ?_
        simp [vSl]) ?_
      intro aA wA LA hsA
      have hsA':=hsA.toI
      refine ⟨⟨i + 1,by omega,hJg (i + 1) w9 wA hJ9 hsA.keeps.below hsA.keeps.drawn,hsA'⟩,?_⟩
      obtain ⟨u7,q7,r7⟩:=Sim.slot (i:=7) hsA' (by decide)
      have r7':SVR (tsz Tryz.prog) (fun _ => none) wA I u7 (.t (pi ((i + 1:Nat):Int))):=r7
      simp only [SVR,Im] at r7'
      rw [hmu]
      unfold mu7
      rw [q7,r7']
      simp only [Int.toNat_natCast]
      omega
    · rw [decide_eq_false hlt] at hc
      refine wpIn_cond_false hc (wpIn_exit ?_)
      have hi':i = xs.length:=by omega
      subst hi'
      simp only [Exit.then,Exit.inBlock,if_true]
      exact ⟨hs3'.nodef,_,results_none rfl _ _ _,⟨_,rfl⟩,hJ3⟩
def bxO (k':Nat) (xs:List GOffer) (i:Nat):PT:=if i = 0 then .sl 0 nilE 0 [] else .sl 0 81 i ((xs.take i).flatMap (GOffer.ci k'))
theorem bxO_zero (k':Nat) (xs:List GOffer):bxO k' xs 0 = .sl 0 nilE 0 []:=rfl
theorem bxO_pos (k':Nat) (xs:List GOffer) {i:Nat} (h:i ≠ 0):bxO k' xs i = .sl 0 81 i ((xs.take i).flatMap (GOffer.ci k')):=if_neg h
theorem bxO_step (k':Nat) (xs:List GOffer) (i:Nat) (hi:i < xs.length):bxO k' xs (i + 1) = .sl 0 81 (i + 1) ((xs.take i).flatMap (GOffer.ci k') ++ GOffer.ci k' xs[i]):=by
  rw [bxO_pos k' xs (by omega),List.take_succ_eq_append_getElem hi,List.flatMap_append]
  simp
theorem ok_AppendSeq0 (q k':Nat) (xs:List GOffer) (hn:xs.length ≤ 1000000) :
    CallOK Tryz.prog 222 [.c (.sl 0 nilE 0 []),.c (.fn q 219 [[rd k' xs.length (xs.flatMap (GOffer.ci k'))]])] (.c (bxO k' xs xs.length)) [.c .hole,.c (.fn q 219 [[rd k' xs.length (xs.flatMap (GOffer.ci k'))]])]:=by
  intro I w las he hh hnd hI
  show CallsF Tryz.prog _ _ w (CallPost Tryz.prog I w las _ _)
  generalize hR:CallPost Tryz.prog I w las _ _ = R
  refine CallsF.of_calls Tryz.func222 (by kernel_rfl) rfl (callsIn_toR (l:=none) (n:=2) ?_)
  refine callsIn_of_wp_marks Tryz.func222 rfl trivial ?_ rfl
  have hs:=Sim.entry las hh hnd hI Tryz.f222.ntmps
  rw [he] at hs
  have hse:=Sim.entL (show 2 ≤ 13 by decide) hs
  obtain ⟨v0,v1,rfl⟩:∃ v0 v1,las = [.c (.leaf v0 (.sl 0 nilE 0 [])),.c (.leaf v1 (.fn q 219 [[rd k' xs.length (xs.flatMap (GOffer.ci k'))]]))]:=by
    obtain ⟨l0,r,rfl⟩:∃ l0 r,las = l0 :: r:=by cases las with
      | nil => simp at he
      | cons l0 r => exact ⟨l0,r,rfl⟩
    obtain ⟨l1,r,rfl⟩:∃ l1 r',r = l1 :: r':=by cases r with
      | nil => simp at he
      | cons l0 r => exact ⟨l0,r,rfl⟩
    simp only [List.map_cons,List.cons.injEq,List.map_eq_nil_iff] at he
    obtain ⟨e0,e1,rfl⟩:=he
    obtain ⟨t0,rfl,e0'⟩:=LV.c_of_erase e0
    obtain ⟨t1,rfl,e1'⟩:=LV.c_of_erase e1
    obtain ⟨v0,rfl⟩:=nil_leaf h0 (hh (.c t0) (by simp)) e0'
    obtain ⟨v1,rfl⟩:=leaf_of_erase e1' rfl
    exact ⟨v0,v1,rfl⟩
  have hlb:([.c (.leaf v0 (.sl 0 nilE 0 [])),.c (.leaf v1 (.fn q 219 [[rd k' xs.length (xs.flatMap (GOffer.ci k'))]]))]:List LV).flatMap LV.blocks = []:=by simp [LV.blocks,LT.blocks]
  rw [hlb] at hse
  simp only [LV.val,LT.val,List.map_cons,List.map_nil] at hse ⊢
  simp at hse
  refine wpIn_seq ?_
  refine regT [] [2,1] [.op 0 0 0] ⟨slOf 13 [(2,.ptr ⟨.op 0 0 0,[]⟩ 0),(1,.t (.fn q 219 [[rd k' xs.length (xs.flatMap (GOffer.ci k'))]]))],ofL [(.arg 0 0,.hole),(.op 0 0 0,.sl 0 26 1 [.sl 0 nilE 0 []])]⟩ h0 hse (by kernel_rfl) (by
    intro K hK
    simp
    refine hK _ ?_
    simp) ?_
  intro a1 w1 L1 hs1
  refine wpIn_seq (wpIn_seq ?_)
  refine regT [] [2,6] [.op 0 0 0] ⟨slOf 13 [(2,.ptr ⟨.op 0 0 0,[]⟩ 0),(6,.t (.fn q 219 [[rd k' xs.length (xs.flatMap (GOffer.ci k'))]]))],ofL [(.arg 0 0,.hole),(.op 0 0 0,.sl 0 26 1 [.sl 0 nilE 0 []])]⟩ h0 hs1 (by kernel_rfl) (by
    intro K hK
    simp
    refine hK _ ?_
    simp) ?_
  intro a2 w2 L2 hs2
  refine wpIn_block ?_
  refine boxLoop (e:=26) (m:=xs.length) (B:=bxO k' xs) (sv:=fun i => .agg ((xs[i]?.map (GOffer.ci k')).getD [] |>.map SV.t)) (st1:=fun i => slOf 13 [(5,.ptr ⟨.op 2 0 0,[]⟩ 0),(2,.ptr ⟨.arg 9 0,[]⟩ 0)]) (l1:=fun i => [(.arg 9 0,.sl 0 26 1 [bxO k' xs i]),(.op 2 0 0,.sl 0 81 1 ((xs[i]?.map (GOffer.ci k')).getD []))]) (sl2:=fun i => slOf 13 [(2,.ptr ⟨.arg 9 0,[]⟩ 0)]) hs2 (by simp [ofL,bxO]) (by decide) (by decide) (by decide) ?_ ?_ ?_ ?_ ?_
  · intro args w
    have h1 : Tryz.f219.name ≠ "runtime.NumGoroutine" := by
      have : (Tryz.f219.name == "runtime.NumGoroutine") = false := by kernel_rfl
      simpa using this
    simp only [callFunc,Tryz.func219]
    simp [h1]
    intro hb
    cases hb
  · intro l vs J W hvs hIW hJb hJg hY hJ0
    simp only [ImC] at hvs
    obtain ⟨x,vs',rfl,hx,rfl⟩:=hvs
    refine values1_in xs q k' l 0 x I J W hn hx hIW hJb hJg ?_ hJ0
    intro i hi W1 vs hJi hsv hone
    refine hY i hi W1 (.agg vs.toArray) hJi ?_
    intro L
    simp only [SVR,List.getElem?_eq_getElem hi,Option.map_some,Option.getD_some]
    exact ⟨vs,rfl,svrl_any hsv,hone⟩
  · intro l i hi bs A w0 a w L Q hs hQ
    refine regT (l:=some l) [] [5,2] [.arg 9 0,.op 2 0 0] _ h0 hs (by kernel_rfl) (by
      intro K hK
      simp [List.getElem?_eq_getElem hi]
      refine hK _ ?_
      simp [List.getElem?_eq_getElem hi]) hQ
  · intro l i hi bs A w0 a w L Q hs hQ
    refine wpIn_block ?_
    refine regT (l:=some l) [] [2] [.arg 9 0] ⟨slOf 13 [(2,.ptr ⟨.arg 9 0,[]⟩ 0)],ofL [(.arg 9 0,.sl 0 26 1 [bxO k' xs (i + 1)])]⟩ h0 hs (by kernel_rfl) (by
      intro K hK
      have hlen:=fm_len (GOffer.ci k') 7 (fun _ => rfl) (xs.take i)
      rw [List.length_take,Nat.min_eq_left (by omega)] at hlen
      rw [bxO_step k' xs i hi] at hK
      by_cases hi0:i = 0
      · subst hi0
        simp [List.getElem?_eq_getElem hi,bxO_zero]
        refine hK _ ?_
        simp
      · rw [bxO_pos _ _ hi0]
        generalize (xs.take i).flatMap (GOffer.ci k') = A at hlen hK ⊢
        have ht:A.take (i * 7) = A:=List.take_of_length_le (by omega)
        have hb1:(i + 1) * 88 ≤ 140737488355328:=by omega
        have hb2:i ≤ 9223372036854775806:=by omega
        simp [List.getElem?_eq_getElem hi,hlen,ht,hb1,hb2]
        refine hK _ ?_
        simp [List.getElem?_eq_getElem hi]) hQ
  · intro D b cap w' L' hs hsb hK hD
    simp only [Exit.inBlock,Exit.then]
    rw [← hR]
    refine boxFin (fn:=Tryz.f222) (d:=12) (d2:=4) (las:=[.c (.leaf v0 (.sl 0 nilE 0 [])),.c (.leaf v1 (.fn q 219 [[rd k' xs.length (xs.flatMap (GOffer.ci k'))]]))]) (los:=[.c (.leaf v0 .hole),.c (.leaf v1 (.fn q 219 [[rd k' xs.length (xs.flatMap (GOffer.ci k'))]]))]) hs hsb hK hD ?_ ?_ ?_ ?_ ?_ ?_ (t:=26) (by kernel_rfl) (by decide) (by decide) ?_ (by simp [LV.erase,LT.erase]) (by simp [LV.blocks,LT.blocks]) (by simp [LV.blocks,LT.blocks]) rfl ?_
    all_goals first | rfl | skip
    intro w' hk l hl
    simp only [List.mem_cons,List.not_mem_nil,or_false] at hl
    have hh0:=hh (.c (.leaf v0 (.sl 0 nilE 0 []))) (by simp)
    have hh1:=hh (.c (.leaf v1 (.fn q 219 [[rd k' xs.length (xs.flatMap (GOffer.ci k'))]]))) (by simp)
    simp only [LV.holds,LT.holds] at hh0 hh1
    rcases hl with rfl | rfl
    · simp only [LV.holds,LT.holds]
      exact ⟨by simp only [Im],hh0.2⟩
    · simp only [LV.holds,LT.holds]
      exact ⟨(Im.all (fun _ _ hb => hb) (fun k b hb => hk.block b (hI k b hb).1 (by simp))).1 _ _ hh1.1,hh1.2⟩
theorem ok_AppendSeq (q k':Nat) (xs:List GOffer) (hn:xs.length ≤ 1000000) :
    CallOK Tryz.prog 222 [.c (.sl 0 nilE 0 []),.c (.fn q 219 [[rd k' xs.length (xs.flatMap (GOffer.ci k'))]])] (.c (.sl 0 81 xs.length (xs.flatMap (GOffer.ci k')))) [.c .hole,.c (.fn q 219 [[rd k' xs.length (xs.flatMap (GOffer.ci k'))]])]:=by
  refine CallOK.nle h0 (ok_AppendSeq0 q k' xs hn) ?_
  by_cases h:xs = []
  · subst h
    simp [bxO,PV.nle]
  · rw [bxO_pos _ _ (by simpa using h),List.take_length]
    simp
theorem ok_Values (k:Nat) (xs:List GOffer):CallOK Tryz.prog 207 [.c (rd k xs.length (xs.flatMap (GOffer.ci k)))] (.clo 219 [.sl 0 26 1 [rd k xs.length (xs.flatMap (GOffer.ci k))]]) [.c (rd k xs.length (xs.flatMap (GOffer.ci k)))]:=by
  refine okC (fn:=Tryz.f207) 219 h0 Tryz.func207 (by kernel_rfl) rfl Tryz.ntmps207 Tryz.results207 (by simp) ?_
  refine ewr_sound (M:=[]) h0 ?_
  simp
  rfl
theorem ok_Collect (q k':Nat) (xs:List GOffer) (hn:xs.length ≤ 1000000) :
    CallOK Tryz.prog 217 [.c (.fn q 219 [[rd k' xs.length (xs.flatMap (GOffer.ci k'))]])] (.c (.sl 0 81 xs.length (xs.flatMap (GOffer.ci k')))) [.c (.fn q 219 [[rd k' xs.length (xs.flatMap (GOffer.ci k'))]])]:=by
  refine okS (fn:=Tryz.f217) [(222,[2,0])] h0 Tryz.func217 (by kernel_rfl) rfl Tryz.ntmps217 Tryz.results217 (by simp) ?_
  simp
  refine Inv_intro (ok_AppendSeq q k' xs hn) ?_
  simp
def lenT (n:Nat):Int:=([0,1,2,2,3,3,3,3,4,4,4,4,4]:List Int).getD n 0
theorem ok_Len64 (n:Nat) (hn:n ≤ 12):CallOK Tryz.prog 200 [.c (.raw (.int .u64 n))] (.c (pi (lenT n))) [.c (.raw (.int .u64 n))]:=by
  have hc:n = 0 ∨ n = 1 ∨ n = 2 ∨ n = 3 ∨ n = 4 ∨ n = 5 ∨ n = 6 ∨ n = 7 ∨ n = 8 ∨ n = 9 ∨ n = 10 ∨ n = 11 ∨ n = 12:=by omega
  refine okS (fn:=Tryz.f200) [] h0 Tryz.func200 (by kernel_rfl) rfl Tryz.ntmps200 Tryz.results200 (by simp) ?_
  rcases hc with rfl | rfl | rfl | rfl | rfl | rfl | rfl | rfl | rfl | rfl | rfl | rfl | rfl
  all_goals
    simp
    rw [pr_index]
    rotate_left
    · kernel_rfl
    · decide
    · decide
    generalize hbv:byteAt _ _ = bv
    simp
    subst hbv
    kernel_rfl
theorem ok_Len (n:Nat) (hn:n ≤ 12):CallOK Tryz.prog 173 [.c (.raw (.int .u64 n))] (.c (pi (lenT n))) [.c (.raw (.int .u64 n))]:=by
  refine okS (fn:=Tryz.f173) [] h0 Tryz.func173 (by kernel_rfl) rfl Tryz.ntmps173 Tryz.results173 (by simp) ?_
  simp
  refine Inv_intro (ok_Len64 n hn) ?_
  simp
theorem ok_pdq (k:Nat) (xs:List GOffer) (l:Int) (hn:xs.length ≤ 12) :
    CallOK Tryz.prog 223 [.c (.sl 0 81 xs.length (xs.flatMap (GOffer.ci k))),.c (pi 0),.c (pi xs.length),.c (pi l),.c (.fn 0 208 [])] (.tup []) [.c (.sl 0 81 xs.length ((sortRv xs).reverse.flatMap (GOffer.ci k))),.c (pi 0),.c (pi xs.length),.c (pi l),.c (.fn 0 208 [])]:=by
  refine okS (fn:=Tryz.f223) [(224,[1,0,0,0])] h0 Tryz.func223 (by kernel_rfl) rfl Tryz.ntmps223 Tryz.results223 (by simp) ?_
  simp
  refine loopS [0,1,2,3,4,10,11] [.arg 0 0] (fun m st => st = ⟨slOf 148 [(0,.ref ⟨.arg 0 0,[]⟩ 0 xs.length),(1,.t (pi 0)),(2,.t (pi xs.length)),(3,.t (pi l)),(4,.t (.fn 0 208 [])),(10,.t (pb true)),(11,.t (pb true))],ofL [(.arg 0 0,.sl 0 81 xs.length (xs.flatMap (GOffer.ci k)))]⟩) 0 ?_ ?_
  · rintro Inv hI
    simp
    subst hI
    rfl
  · rintro Inv hI m st rfl
    refine ewr_sound (M:=[(224,[1,0,0,0])]) h0 ?_
    have hw:IntKind.wrap .i64 (xs.length:Int) = xs.length:=wrap64 (by omega) (by omega)
    have hle:(xs.length:Int) ≤ 12:=by omega
    simp [hw,hle,hn]
    refine Inv_intro (ok_isort k xs (by omega)) ?_
    simp
theorem ok_SortFunc (k:Nat) (xs:List GOffer) (hn:xs.length ≤ 12) :
    CallOK Tryz.prog 218 [.c (.sl 0 81 xs.length (xs.flatMap (GOffer.ci k))),.c (.fn 0 208 [])] (.tup []) [.c (.sl 0 81 xs.length ((sortRv xs).reverse.flatMap (GOffer.ci k))),.c (.fn 0 208 [])]:=by
  refine okS (fn:=Tryz.f218) [(223,[1,0,0,0,0])] h0 Tryz.func218 (by kernel_rfl) rfl Tryz.ntmps218 Tryz.results218 (by simp) ?_
  have hw:IntKind.wrap .u64 (xs.length:Int) = xs.length:=by
    show (xs.length:Int) % 18446744073709551616 = _
    omega
  simp [hw]
  refine Inv_intro (ok_Len xs.length hn) ?_
  simp
  refine Inv_intro (ok_pdq k xs _ hn) ?_
  simp
theorem ok_SortedFunc (q k:Nat) (xs:List GOffer) (hn:xs.length ≤ 12) :
    CallOK Tryz.prog 206 [.c (.fn q 219 [[rd k xs.length (xs.flatMap (GOffer.ci k))]]),.c (.fn 0 208 [])] (.c (.sl 0 81 xs.length ((sortRv xs).reverse.flatMap (GOffer.ci k)))) [.c (.fn q 219 [[rd k xs.length (xs.flatMap (GOffer.ci k))]]),.c (.fn 0 208 [])]:=by
  refine okS (fn:=Tryz.f206) [(218,[1,0])] h0 Tryz.func206 (by kernel_rfl) rfl Tryz.ntmps206 Tryz.results206 (by simp) ?_
  simp
  refine Inv_intro (ok_Collect q k xs (by omega)) ?_
  simp
  refine Inv_intro (ok_SortFunc k xs hn) ?_
  have hl:=sortRv_len' xs
  have hT:List.take (xs.length * 7) ((sortRv xs).reverse.flatMap (GOffer.ci k)) = (sortRv xs).reverse.flatMap (GOffer.ci k):=List.take_of_length_le (by rw [fm_len (GOffer.ci k) 7 (fun _ => rfl),List.length_reverse,hl]; omega)
  simp [hl,hT]
theorem ok_ranked1 (k:Nat) (xs:List GOffer) (hn:xs.length ≤ 12):CallOK Tryz.prog 188 [.c (rd (k + 1) xs.length (xs.flatMap (GOffer.ci (k + 1))))] (.c (.sl 0 3 xs.length ((sortRv xs).reverse.map fun o => pi o.Peer))) [.c (rd (k + 1) xs.length (xs.flatMap (GOffer.ci (k + 1))))]:=by
  obtain ⟨D,hD⟩:∃ D,D = (sortRv xs).reverse:=⟨_,rfl⟩
  have hDl:D.length = xs.length:=by rw [hD,List.length_reverse,sortRv_len']
  have hsf:=ok_SortedFunc 1 (k + 1) xs hn
  rw [← hD] at hsf ⊢
  refine okS (fn:=Tryz.f188) [] h0 Tryz.func188 (by kernel_rfl) rfl Tryz.ntmps188 Tryz.results188 (by simp) ?_
  simp
  refine Inv_intro (ok_Values (k + 1) xs) ?_
  simp
  refine Inv_intro hsf ?_
  simp
  refine ewp_sw (.op 1 0 0) (.op 5 4 0) rfl rfl ?_
  simp
  refine loopS [3,9,10,11] [.op 5 4 0,.op 2 2 0] (fun m st => ∃ (i:Nat),i + m = xs.length ∧ st = ⟨slOf 22 [(3,.ref ⟨.op 5 4 0,[]⟩ 0 i),(9,.ref ⟨.op 2 2 0,[]⟩ 0 xs.length),(10,.t (pi xs.length)),(11,.t (pi i))],ofL [(.op 5 4 0,.sl 0 3 i ((D.take i).map fun o => pi o.Peer)),(.op 2 2 0,.sl 0 81 xs.length (D.flatMap (GOffer.ci (k + 1))))]⟩) xs.length ?_ ?_
  · rintro Inv hI
    simp
    subst hI
    refine ⟨0,by omega,?_⟩
    simp
  · rintro Inv hI m st ⟨i,hi,rfl⟩
    have hA:((D.take i).map fun o => pi o.Peer).length = i:=by rw [List.length_map,List.length_take]; omega
    generalize hAe:((D.take i).map fun o => pi o.Peer) = A at hA ⊢
    refine ewr_sound (M:=[]) h0 ?_
    simp
    refine brn_app (fun a => ?_) (fun a => ?_)
    · simp at a
      have aD:i < D.length:=by omega
      have hd:=fm_drop (GOffer.ci (k + 1)) 7 (fun _ => rfl) D i aD
      have hlen:(D.flatMap (GOffer.ci (k + 1))).length = xs.length * 7:=by rw [fm_len (GOffer.ci (k + 1)) 7 (fun _ => rfl) D,hDl]
      have hlt:i * 7 < xs.length * 7:=by omega
      have hb1:(i + 1) * 8 ≤ 140737488355328:=by omega
      have hb2:i ≤ 9223372036854775806:=by omega
      have ht:A.take i = A:=List.take_of_length_le (by omega)
      have hlt7:i * 7 + 7 ≤ xs.length * 7:=by omega
      have e3:((D.take (i + 1)).map fun o => pi o.Peer) = A ++ [pi D[i].Peer]:=by rw [take_step D i aD,List.map_append,hAe]; rfl
      simp [a,hd,hDl,hlt,hlt7,hA,hb1,hb2,ht]
      subst hI
      refine Less_mk (m - 1) (by omega) ⟨i + 1,by omega,?_⟩
      rw [wrNext i (by omega),e3]
      all_goals simp
    · simp at a
      have hm:m = 0:=by omega
      subst hm
      have ht:List.take i D = D:=List.take_of_length_le (by omega)
      have hil:i = xs.length:=by omega
      rw [← hAe,ht,hil]
      have hT:List.take xs.length (D.map fun o => pi o.Peer) = D.map fun o => pi o.Peer:=List.take_of_length_le (by rw [List.length_map]; omega)
      simp [hDl,hT]
theorem ok_ranked (k:Nat) (xs:List GOffer) (hn:xs.length ≤ 12):CallOK Tryz.prog 188 [.c (rd k xs.length (xs.flatMap (GOffer.ci k)))] (.c (.sl 0 3 xs.length ((sortRv xs).reverse.map fun o => pi o.Peer))) [.c (rd k xs.length (xs.flatMap (GOffer.ci k)))]:=by
  have h:=ok_ranked1 0 xs hn
  refine CallOK.relabel ?_ rfl ?_
  · have e:PV.up (.c (rd k xs.length (xs.flatMap (GOffer.ci k)))) = .c (rd 1 xs.length (xs.flatMap (GOffer.ci 1))):=by
      simp only [PV.up,PT.up,PT.upL_eq,List.map_flatMap]
      congr 3
      funext o
      simp [PT.up,PT.upL_eq,Function.comp_def]
    simpa only [List.map_cons,List.map_nil,e] using h
  · intro w I I' lr he hh
    refine free_c ?_ he hh
    simp only [PT.free]
    rw [PT.freeL_iff]
    intro c hc
    obtain ⟨o,_,rfl⟩:=List.mem_map.1 hc
    rfl
end Go.V
