/- What functions of the seat's program do, each proved of its code, under the bounds that its theorem names. -/
import Derived.Test.YtcmdgenpipojpaaTae
set_option linter.all false
namespace Go.V
open Go.Proofs
set_option maxHeartbeats 1000000
set_option maxRecDepth 10000
set_option linter.unusedSimpArgs false
set_option linter.unusedVariables false
theorem chunk_px_in (C:List PT) (N k' l n:Nat) (x y:Addr) (I:Nat → Nat → Prop) (J:Nat → World → Prop) (W:World) (hn:N ≤ 1000000) (hC:C.length = N * 2)
    (hcx:ImL W I 1 (some x) 0 [rd k' N C]) (hcy:ImL W I 1 (some y) 0 [pi 10]) (hI:∀ k b,I k b → b < W.heap.size)
    (hJb:∀ i W',J i W' → W.heap.size ≤ W'.heap.size ∧ ∀ k b,I k b → W'.heap[b]? = W.heap[b]?)
    (hJg:∀ i W1 W2,J i W1 → RowKit.Below W1.heap.size W1 W2 → W1.drawn ≤ W2.drawn → J i W2)
    (hY:∀ (i:Nat) (hi:i < (N + 9) / 10) (W1:World) (va:Value),J i W1 → (∀ L,SVR (tsz Try.prog) L W1 I va (.t (rd k' (minN N i) ((C.drop (i * 10 * 2)).take (minN N i * 2))))) → YieldAt (wideR none) n Try.prog l #[va] W1 fun e W' => e = .returned (.bool true) ∧ J (i + 1) W')
    (hJ0:J 0 W) :
    CallsIn (wideR none) (n + 1) Try.prog 53 #[yldV l,.pointer (some x),.pointer (some y)] W fun e W' => (∃ v,e = .returned v) ∧ J ((N + 9) / 10) W':=by
  refine callsIn_of_wp Try.func53 rfl trivial ?_ rfl
  generalize hA:(⟨#[yldV l,.pointer (some x),.pointer (some y)] ++ Array.replicate (Try.f53.ntmps - (#[yldV l,Value.pointer (some x),Value.pointer (some y)]:Array Value).size) undef,[]⟩:Act) = a0
  have hsz:a0.tmps.toList.length = 31:=by subst hA; simp [Try.ntmps53]
  have hd0:a0.defers = []:=by subst hA; rfl
  have h0':a0.tmps.toList[0]? = some (yldV l):=by subst hA; simp
  have h1':a0.tmps.toList[1]? = some (.pointer (some x)):=by subst hA; simp
  have h2':a0.tmps.toList[2]? = some (.pointer (some y)):=by subst hA; simp
  have hs0:SimI (tsz Try.prog) I (slOf 31 [(0,.t (.raw (yldV l))),(1,.ip 1 [rd k' N C]),(2,.ip 1 [pi 10])]) a0 W:=by
    refine SimI.mk hI hd0 (SVRL.of_slOf hsz ?_)
    intro z hz
    simp only [List.mem_cons,List.not_mem_nil,or_false] at hz
    rcases hz with rfl | rfl | rfl
    · exact ⟨_,h0',by simp only [SVR,Im]⟩
    · exact ⟨_,h1',by simp only [SVR]; exact ⟨x,rfl,hcx⟩⟩
    · exact ⟨_,h2',by simp only [SVR]; exact ⟨y,rfl,hcy⟩⟩
  refine wpIn_seq ?_
  refine regT [] [0,1,2,4] [] ⟨slOf 31 [(0,.t (.raw (yldV l))),(1,.ip 1 [rd k' N C]),(2,.ip 1 [pi 10]),(4,.t (pi 0))],ofL []⟩ h0 hs0 (by kernel_rfl) ?_ ?_
  · intro K hK
    simp
    refine hK _ ?_
    simp
  · intro a1 w1 L1 hs1
    refine wpIn_block ?_
    refine wpIn_loop (fun a w => ∃ i p:Nat,i ≤ (N + 9) / 10 ∧ p = i * 10 ∧ J i w ∧ SimI (tsz Try.prog) I (slOf 31 [(0,.t (.raw (yldV l))),(1,.ip 1 [rd k' N C]),(2,.ip 1 [pi 10]),(4,.t (pi p))]) a w) (fun a _ => muC ((N + 9) / 10 * 10) a) ⟨0,0,Nat.zero_le _,rfl,hJg 0 W w1 hJ0 hs1.keeps.below hs1.keeps.drawn,hs1.toI⟩ ?_
    rintro a w ⟨i,p,hi,hpi,hJ,hs2⟩
    have hmu:∀ (a:Act) (w:World) (p:Nat),SimI (tsz Try.prog) I (slOf 31 [(0,.t (.raw (yldV l))),(1,.ip 1 [rd k' N C]),(2,.ip 1 [pi 10]),(4,.t (pi p))]) a w → muC ((N + 9) / 10 * 10) a = (N + 9) / 10 * 10 - p:=by
      intro a w p hs2
      obtain ⟨u4,q4,r4⟩:=Sim.slot (i:=4) hs2 (by decide)
      have r4':SVR (tsz Try.prog) (fun _ => none) w I u4 (.t (pi p)):=r4
      simp only [SVR,Im] at r4'
      unfold muC
      rw [q4,r4']
      simp only [Int.toNat_natCast]
    rw [hmu a w p hs2]
    refine wpIn_seq (wpIn_seq ?_)
    refine regT [] [0,1,2,4,9] [] ⟨slOf 31 [(0,.t (.raw (yldV l))),(1,.ip 1 [rd k' N C]),(2,.ip 1 [pi 10]),(4,.t (pi p)),(9,.t (pb (decide (p < N))))],ofL []⟩ h0 hs2 (by kernel_rfl) (by
      intro K hK
      simp
      refine hK _ ?_
      simp) ?_
    intro a3 w3 L3 hs3
    have hJ3:=hJg i w w3 hJ hs3.keeps.below hs3.keeps.drawn
    have hs3':=hs3.toI
    obtain ⟨u9,q9,r9⟩:=Sim.slot (i:=9) hs3' (by decide)
    have r9':SVR (tsz Try.prog) (fun _ => none) w3 I u9 (.t (pb (decide (p < N)))):=r9
    simp only [SVR,Im] at r9'
    have hc:a3.eval (.tmp 9) = .bool (decide (p < N)):=by
      simp only [Act.eval,Array.getD_eq_getD_getElem?,q9,r9',Option.getD_some]
    by_cases hlt:p < N
    · rw [decide_eq_true hlt] at hc
      refine wpIn_cond_true hc (wpIn_skip ?_)
      have hi2:i < (N + 9) / 10:=by omega
      refine wpIn_seq ?_
      refine wpIn_block ?_
      refine wpIn_seq ?_
      have hple:p ≤ N:=by omega
      have hmle:p + minN N i ≤ N:=by unfold minN; omega
      have hmn:(if ((N - p:Nat):Int) < 10 then ((N - p:Nat):Int) else 10) = (minN N i:Nat):=by unfold minN; split <;> omega
      refine codeT [0,1,2,4,5] [] ⟨slOf 31 [(0,.t (.raw (yldV l))),(1,.ip 1 [rd k' N C]),(2,.ip 1 [pi 10]),(4,.t (pi p)),(5,.t (pi (minN N i)))],ofL []⟩ hs3' (by
        intro K hK
        refine drawP (tabEnv [] []) [⟨[],allD 31,true⟩,⟨[],allD 31,true⟩,⟨[],allD 31,true⟩,⟨[],allD 31,true⟩,⟨[],allD 31,true⟩,⟨[],allD 31,true⟩,⟨[],allD 31,true⟩] h0 hm (tabEnv_ok tab_nil) (by kernel_rfl) (by kernel_rfl) ?_
        simp [hlt,hple]
        refine hK _ ?_
        simp [hmn]) ?_
      intro a4 w4 L4 hs4
      have hs4':=hs4.toI
      have hJ4:=hJg i w3 w4 hJ3 hs4.keeps.below hs4.keeps.drawn
      refine wpIn_seq ?_
      obtain ⟨m,hme⟩:∃ m,m = minN N i:=⟨_,rfl⟩
      rw [← hme] at hs4' hmle
      have hw:IntKind.i64.wrap ((p:Int) + m) = ((p + m:Nat):Int):=wrap64 (by omega) (by omega)
      refine regP [] 10 [0,1,2,4,19,28] [] ⟨slOf 31 [(0,.t (.raw (yldV l))),(1,.ip 1 [rd k' N C]),(2,.ip 1 [pi 10]),(4,.t (pi p)),(19,.t (.raw (yldV l))),(28,.t (rd k' m ((C.drop (p * 2)).take (m * 2))))],ofL []⟩ h0 hs4' (by decide) (by kernel_rfl) (by
        intro K hK
        obtain ⟨q,hq⟩:∃ q,q = p + m:=⟨_,rfl⟩
        rw [← hq] at hw hmle
        have hpq:p ≤ q:=by omega
        have hqm:q - p = m:=by omega
        simp [hw,hmle,hpq,hple,stCut3]
        refine hK _ ?_
        simp [hqm]) ?_
      intro a5 w5 L5 hs5
      have hJ5:=hJg i w3 w5 hJ3 (hs4.keeps.below.trans (hs5.keeps.below.mono hs4.keeps.size)) (Nat.le_trans hs4.keeps.drawn hs5.keeps.drawn)
      have hs5':=hs5.toI
      obtain ⟨u19,q19,r19⟩:=Sim.slot (i:=19) hs5' (by decide)
      have r19':SVR (tsz Try.prog) (fun _ => none) w5 I u19 (.t (.raw (yldV l))):=r19
      simp only [SVR,Im] at r19'
      obtain ⟨u28,q28,r28⟩:=Sim.slot (i:=28) hs5' (by decide)
      have r28':SVR (tsz Try.prog) (fun _ => none) w5 I u28 (.t (rd k' m ((C.drop (p * 2)).take (m * 2)))):=r28
      have e19:a5.eval (.tmp 19) = .func (.yield l) #[] #[]:=by
        simp only [Act.eval,Array.getD_eq_getD_getElem?,q19,r19',Option.getD_some,yldV]
      have e28:a5.eval (.tmp 28) = u28:=by
        simp only [Act.eval,Array.getD_eq_getD_getElem?,q28,Option.getD_some]
      obtain ⟨fn,tm,asg,bdy,hy,hR⟩:=hY i hi2 w5 u28 hJ5 (fun L => by rw [← hme,← hpi]; simpa only [SVR] using r28')
      refine wpOpsIn_one (i:=10) (rest:=[11]) rfl rfl (yieldOp rfl rfl rfl e19 ⟨fn,tm,asg,bdy,by rw [e28]; exact hy,hR.mono ?_⟩)
      rintro e w6 ⟨rfl,hJ6⟩
      refine ⟨rfl,?_⟩
      obtain ⟨g1,g2⟩:=hJb i w5 hJ5
      obtain ⟨g3,g4⟩:=hJb (i + 1) w6 hJ6
      have hs6:=SimI.later hs5' (w':=w6) (fun k b hb => (g4 k b hb).trans (g2 k b hb).symm) (fun k b hb => Nat.lt_of_lt_of_le (hI k b hb) g3)
      have hs7:=Sim.put hs6 (some 29) (v:=.bool true) (s:=.t (pb true)) (by simp only [SVR,Im])
      have hs8:SimI (tsz Try.prog) I (slOf 31 [(0,.t (.raw (yldV l))),(1,.ip 1 [rd k' N C]),(2,.ip 1 [pi 10]),(4,.t (pi p)),(29,.t (pb true))]) (a5.put (some 29) (.bool true)) w6:=by
        obtain ⟨L8,h8⟩:=hs7.lose [0,1,2,4,29] []
        have e8:St.drop ⟨(slOf 31 [(0,.t (.raw (yldV l))),(1,.ip 1 [rd k' N C]),(2,.ip 1 [pi 10]),(4,.t (pi p)),(19,.t (.raw (yldV l))),(28,.t (rd k' m ((C.drop (p * 2)).take (m * 2))))]).set 29 (.t (pb true)),ofL []⟩ [0,1,2,4,29] [] = ⟨slOf 31 [(0,.t (.raw (yldV l))),(1,.ip 1 [rd k' N C]),(2,.ip 1 [pi 10]),(4,.t (pi p)),(29,.t (pb true))],ofL []⟩:=by
          simp
        simp only at h8
        rw [e8] at h8
        exact h8.toI
      refine opsT (id:=4) [] 11 [0,1,2,4,30] [] ⟨slOf 31 [(0,.t (.raw (yldV l))),(1,.ip 1 [rd k' N C]),(2,.ip 1 [pi 10]),(4,.t (pi p)),(30,.t (pb false))],ofL []⟩ h0 hs8 (by kernel_rfl) (by
        intro K hK
        simp
        refine hK _ ?_
        simp) ?_
      intro a9 w9 L9 hs9
      have hJ9:=hJg (i + 1) w6 w9 hJ6 hs9.keeps.below hs9.keeps.drawn
      have hs9':=hs9.toI
      obtain ⟨u30,q30,r30⟩:=Sim.slot (i:=30) hs9' (by decide)
      have r30':SVR (tsz Try.prog) (fun _ => none) w9 I u30 (.t (pb false)):=r30
      simp only [SVR,Im] at r30'
      have hc9:a9.eval (.tmp 30) = .bool false:=by
        simp only [Act.eval,Array.getD_eq_getD_getElem?,q30,r30',Option.getD_some]
      refine wpIn_cond_false hc9 (wpIn_skip ?_)
      have wi:IntKind.i64.wrap ((p:Int) + 10) = ((p + 10:Nat):Int):=wrap64 (by omega) (by omega)
      refine regT [] [0,1,2,4] [] ⟨slOf 31 [(0,.t (.raw (yldV l))),(1,.ip 1 [rd k' N C]),(2,.ip 1 [pi 10]),(4,.t (pi ((p + 10:Nat):Int)))],ofL []⟩ h0 hs9' (by kernel_rfl) (by
        intro K hK
        simp [wi]
        refine hK _ ?_
        simp) ?_
      intro aA wA LA hsA
      have hsA':=hsA.toI
      refine ⟨⟨i + 1,p + 10,by omega,by omega,hJg (i + 1) w9 wA hJ9 hsA.keeps.below hsA.keeps.drawn,hsA'⟩,?_⟩
      rw [hmu aA wA (p + 10) hsA']
      omega
    · rw [decide_eq_false hlt] at hc
      refine wpIn_cond_false hc (wpIn_exit ?_)
      have hi':i = (N + 9) / 10:=by omega
      subst hi'
      simp only [Exit.then,Exit.inBlock,if_true]
      exact ⟨hs3'.nodef,_,results_none rfl _ _ _,⟨_,rfl⟩,hJ3⟩
theorem ok_Chunk_px (k N:Nat) (C:List PT):CallOK Try.prog 26 [.c (rd k N C),.c (pi 10)] (.clo 53 [.sl 0 49 1 [rd k N C],.sl 0 3 1 [pi 10]]) [.c (rd k N C),.c (pi 10)]:=by
  refine okC (fn:=Try.f26) 53 h0 Try.func26 (by kernel_rfl) rfl Try.ntmps26 Try.results26 (by simp) ?_
  refine ewr_sound (M:=[]) h0 ?_
  simp
  rfl
theorem chunk_px_cf (args:Array Value) (w:World):(callFunc 53 args).run Try.prog w = .ok (.enter 53 args) w:=by
  have h1 : Try.f53.name ≠ "runtime.NumGoroutine" := by
    have : (Try.f53.name == "runtime.NumGoroutine") = false := by kernel_rfl
    simpa using this
  simp only [callFunc,Try.func53]
  simp [h1]
  intro hb
  cases hb
theorem ofL_mv (n:Nat) (l:List (Id × PT)) (i:Id) (t:PT) (h:((l.take n).all fun p => !decide (p.1 = i)) = true):ofL ((i,t) :: l) = ofL (l.take n ++ (i,t) :: l.drop n):=by
  induction n generalizing l with
  | zero => rfl
  | succ n ih => cases l with
    | nil => rfl
    | cons p l =>
      obtain ⟨j,y⟩:=p
      simp at h
      have ih:=ih l (by simpa using h.2)
      show ofL ((i,t) :: (j,y) :: l) = ofL ((j,y) :: (l.take n ++ (i,t) :: l.drop n))
      have e:ofL ((j,y) :: (l.take n ++ (i,t) :: l.drop n)) = ofL ((j,y) :: (i,t) :: l):=by
        funext q
        simp only [ofL]
        rw [← ih]
        rfl
      rw [e]
      funext q
      by_cases c:q = i
      · subst c
        have h1:=h.1
        simp [ofL,Ne.symm h1]
      · simp [ofL,c]
theorem ofL_two {a b:Id} {x y:PT} (h:a ≠ b):ofL [(a,x),(b,y)] = ofL [(b,y),(a,x)]:=by
  funext q
  by_cases e:q = a
  · subst e
    simp [ofL,h]
  · by_cases e2:q = b
    · subst e2
      simp [ofL,e]
    · simp [ofL,e,e2]
theorem ok_findRoute1 (k:Nat) (o:GRoute) (n:GPrefix):CallOK Try.prog 46 [.agg (GRoute.ci k o),.agg n.c] (.c (pi (cmpPx o.Prefix n))) [.agg (GRoute.ci k o),.agg n.c]:=by
  refine okS (fn:=Try.f46) [] h0 Try.func46 (by kernel_rfl) rfl Try.ntmps46 Try.results46 (by simp) ?_
  simp
  refine Inv_intro (ok_compare o.Prefix n) ?_
  simp
theorem ok_BS_Route (k:Nat) (xs:List GRoute) (n:GPrefix) (hl:xs.length ≤ 140737488351232) (hmono:∀ (i j:Nat) (hij:i < j) (hj:j < xs.length),cmpPx xs[j].Prefix n < 0 → cmpPx xs[i].Prefix n < 0) :
    CallOK Try.prog 45 [.c (rd k xs.length (xs.flatMap (GRoute.ci k))),.agg n.c,.c (.fn 0 46 [])] (.tup [.c (pi (bsI (fun o:GRoute => cmpPx o.Prefix n) xs)),.c (pb (bsF (fun o:GRoute => cmpPx o.Prefix n) xs))]) [.c (rd k xs.length (xs.flatMap (GRoute.ci k))),.agg n.c,.c (.fn 0 46 [])]:=by
  refine okS (fn:=Try.f45) [] h0 Try.func45 (by kernel_rfl) rfl Try.ntmps45 Try.results45 (by simp) ?_
  simp
  refine loopS [0,2,4,8,9,10] [.op 0 0 0] (fun m st => ∃ (i j:Nat),i + m = j ∧ j ≤ xs.length ∧ (∀ (q:Nat) (hq:q < i) (hl:q < xs.length),cmpPx xs[q].Prefix n < 0) ∧ (∀ (q:Nat) (hq:j ≤ q) (hl:q < xs.length),0 ≤ cmpPx xs[q].Prefix n) ∧ st = ⟨slOf 49 [(0,.t (rd k xs.length (xs.flatMap (GRoute.ci k)))),(2,.t (.fn 0 46 [])),(4,.ptr ⟨.op 0 0 0,[]⟩ 0),(8,.t (pi xs.length)),(9,.t (pi i)),(10,.t (pi j))],ofL [(.op 0 0 0,.sl 0 44 1 n.c)]⟩) xs.length ?_ ?_
  · rintro Inv hI
    simp
    subst hI
    exact ⟨0,xs.length,by omega,by omega,by intro q hq; omega,by intro q hq h; omega,rfl⟩
  · rintro Inv hI m st ⟨i,j,hm',hj,hlo,hhi,rfl⟩
    refine ewr_sound (M:=[]) h0 ?_
    simp
    refine brn_app (fun a => ?_) (fun a => ?_)
    · simp at a
      have hw0:IntKind.wrap .i64 ((i:Int) + j) = (i:Int) + j:=wrap64 (by omega) (by omega)
      have hw:=half_u64 i j (by omega)
      obtain ⟨h,hh⟩:∃ h,h = (i + j) / 2:=⟨_,rfl⟩
      rw [← hh] at hw
      have hb:h < xs.length:=by omega
      have hd:=fm_drop (GRoute.ci k) 8 (fun _ => rfl) xs h hb
      have hlen:=fm_len (GRoute.ci k) 8 (fun _ => rfl) xs
      have hlt:h * 8 < xs.length * 8:=by omega
      simp [hw0,hw]
      refine drawP (tabEnv [] _) [⟨[],allD 49,true⟩,⟨[],allD 49,true⟩,⟨[],allD 49,true⟩,⟨[],allD 49,true⟩,⟨[],allD 49,true⟩,⟨[.op 0 0 0],allD 49,true⟩,⟨[],allD 49,false⟩,⟨[],allD 49,true⟩] h0 hm (tabEnv_ok (tab_cons (ok_findRoute1 k xs[h] n) tab_nil)) (by kernel_rfl) (by kernel_rfl) ?_
      simp [hb,hd,hlen,hlt]
      refine brn_app (fun b => ?_) (fun b => ?_)
      · simp at b
        have hn1:IntKind.wrap .i64 ((h:Int) + 1) = ((h + 1:Nat):Int):=wrNext h (by omega)
        simp
        subst hI
        refine Less_mk (j - (h + 1)) (by omega) ⟨h + 1,j,by omega,hj,?_,hhi,by rw [hn1]; rfl⟩
        intro q hq hql
        rcases Nat.lt_or_ge q h with h' | h'
        · exact hmono q h h' hb b
        · have:q = h:=by omega
          subst this
          exact b
      · simp at b
        simp
        subst hI
        refine Less_mk (h - i) (by omega) ⟨i,h,by omega,by omega,hlo,?_,rfl⟩
        intro q hq hql
        rcases Nat.eq_or_lt_of_le hq with h' | h'
        · subst h'
          exact b
        · exact Int.not_lt.1 fun hc => by have:=hmono h q h' hql hc; omega
    · simp at a
      have hij:i = j:=by omega
      subst hij
      have e1:bsI (fun o:GRoute => cmpPx o.Prefix n) xs = i:=bsI_eq _ xs i hj hlo fun h => hhi i (Nat.le_refl _) h
      simp
      by_cases hb:i < xs.length
      · have hd:=fm_drop (GRoute.ci k) 8 (fun _ => rfl) xs i hb
        have hlen:=fm_len (GRoute.ci k) 8 (fun _ => rfl) xs
        have hlt:i * 8 < xs.length * 8:=by omega
        have e2:bsF (fun o:GRoute => cmpPx o.Prefix n) xs = decide (cmpPx xs[i].Prefix n = 0):=by simp only [bsF,e1,List.getElem?_eq_getElem hb]
        refine drawP (tabEnv [] _) [⟨[],allD 49,true⟩,⟨[],allD 49,true⟩,⟨[],allD 49,true⟩,⟨[],allD 49,true⟩,⟨[],allD 49,true⟩,⟨[],allD 49,true⟩,⟨[],allD 49,true⟩,⟨[],allD 49,true⟩,⟨[],allD 49,true⟩,⟨[],allD 49,true⟩,⟨[.op 0 0 0],allD 49,true⟩,⟨[],allD 49,false⟩,⟨[],allD 49,true⟩,⟨[],allD 49,true⟩,⟨[],allD 49,true⟩,⟨[],allD 49,true⟩] h0 hm (tabEnv_ok (tab_cons (ok_findRoute1 k xs[i] n) tab_nil)) (by kernel_rfl) (by kernel_rfl) ?_
        simp [hb,hd,hlen,hlt,e1,e2]
      · have e2:bsF (fun o:GRoute => cmpPx o.Prefix n) xs = false:=by simp only [bsF,e1,List.getElem?_eq_none (Nat.le_of_not_lt hb)]
        refine drawP E0 [⟨[],allD 49,true⟩,⟨[],allD 49,true⟩,⟨[],allD 49,true⟩,⟨[],allD 49,true⟩,⟨[],allD 49,true⟩,⟨[],allD 49,true⟩,⟨[],allD 49,true⟩,⟨[],allD 49,true⟩,⟨[],allD 49,true⟩,⟨[],allD 49,true⟩,⟨[.op 0 0 0],allD 49,true⟩,⟨[],allD 49,false⟩,⟨[],allD 49,true⟩,⟨[],allD 49,true⟩,⟨[],allD 49,true⟩,⟨[],allD 49,true⟩] h0 hm (E0_ok _) (by kernel_rfl) (by kernel_rfl) ?_
        simp [hb,e1,e2]
theorem ok_findRoute (k:Nat) (l:List GRoute) (p:GPrefix) (hl:l.length ≤ 140737488351232) (hs:srt l):CallOK Try.prog 18 [.c (rd k l.length (l.flatMap (GRoute.ci k))),.agg p.c] (.tup [.c (pi (kAt p l)),.c (pb (fnd p l))]) [.c (rd k l.length (l.flatMap (GRoute.ci k))),.agg p.c]:=by
  refine okS (fn:=Try.f18) [] h0 Try.func18 (by kernel_rfl) rfl Try.ntmps18 Try.results18 (by simp) ?_
  simp
  refine Inv_intro (ok_BS_Route k l p hl (srt_mono hs)) ?_
  simp [kAt,fnd]
theorem ok_IndexFunc_IntS (k q g:Nat) (caps:List (List PT)) (p:(List Int) → Bool) (xs:List (List Int)) (ha:xs.length ≤ 140737488351232)
    (hg:∀ x ∈ xs,CallOK Try.prog g (.c (rd k x.length (x.map pi)) :: caps.map (PV.ip q)) (.c (pb (p x))) (.c (rd k x.length (x.map pi)) :: caps.map (PV.ip q))) :
    CallOK Try.prog 49 [.c (rd k xs.length (xs.map (cIntSi k))),.c (.fn q g caps)] (.c (pi (idxOf p xs))) [.c (rd k xs.length (xs.map (cIntSi k))),.c (.fn q g caps)]:=by
  refine okS (fn:=Try.f49) [] h0 Try.func49 (by kernel_rfl) rfl Try.ntmps49 Try.results49 (by simp) ?_
  simp
  refine loopS [0,1,7,8] [] (fun n st => ∃ (i:Nat),i + n = xs.length ∧ (∀ (j:Nat) (hj:j < i) (hj':j < xs.length),p xs[j] = false) ∧ st = ⟨slOf 19 [(0,.t (rd k xs.length (xs.map (cIntSi k)))),(1,.t (.fn q g caps)),(7,.t (pi xs.length)),(8,.t (pi i))],ofL []⟩) xs.length ?_ ?_
  · rintro Inv hI
    simp
    subst hI
    exact ⟨0,by omega,by intro j hj; omega,rfl⟩
  · rintro Inv hI n st ⟨i,hi,hall,rfl⟩
    refine ewr_sound (M:=[]) h0 ?_
    simp
    refine brn_app (fun h => ?_) (fun h => ?_)
    · simp at h
      simp [h]
      refine Inv_intro (hg _ (List.getElem_mem h)) ?_
      simp
      refine brn_app (fun h2 => ?_) (fun h2 => ?_)
      · simp
        exact (idxOf_hit p xs i h h2 fun j hj => hall j hj (by omega)).symm
      · simp
        subst hI
        refine Less_mk (n - 1) (by omega) ⟨i + 1,by omega,?_,by rw [wrNext i (by omega)]⟩
        intro j hj hj'
        by_cases hji:j = i
        · subst hji; exact h2
        · exact hall j (by omega) hj'
    · simp at h
      simp
      exact (idxOf_no p xs fun j hj => hall j (by omega) hj).symm
theorem idxOf_find {α:Type} (p:α → Bool) (xs:List α):(idxOf p xs = -1 ∧ xs.findIdx? p = none) ∨ ∃ (i:Nat) (h:i < xs.length),idxOf p xs = i ∧ xs.findIdx? p = some i:=by
  unfold idxOf
  cases h:xs.findIdx? p with
  | none => exact .inl ⟨rfl,rfl⟩
  | some i =>
    have h':=h
    rw [List.findIdx?_eq_some_iff_getElem] at h'
    exact .inr ⟨i,h'.1,rfl,rfl⟩
theorem un_IntSS (xs:List (List Int)):PT.unownL (xs.map (cIntSo)) = (xs.map (cIntSi 0)):=by
  rw [unownL_map]
  congr 1
  funext r
  simp [cIntSo,cIntSi,rd]
theorem uni_IntSS (k:Nat) (xs:List (List Int)):PT.unownL (xs.map (cIntSi k)) = (xs.map (cIntSi 0)):=by
  rw [unownL_map]
  congr 1
  funext r
  simp [cIntSo,cIntSi,rd]
theorem nt_IntSS (xs:List (List Int)):PT.noTmpL (xs.map (cIntSo)) = true:=noTmpL_map _ xs fun r => by simp [cIntSo]
theorem nti_IntSS (k:Nat) (xs:List (List Int)):PT.noTmpL (xs.map (cIntSi (k + 1))) = true:=noTmpL_map _ xs fun r => by simp [cIntSi,rd]
attribute [simp] un_IntSS uni_IntSS nt_IntSS nti_IntSS
def mk_IntSS (xs:List (List Int)) (k:Int):List (List Int) × Int:=mkR mk_IntS xs k
theorem mk_IntSS_len (xs:List (List Int)) (k:Int):(mk_IntSS xs k).1.length = xs.length:=mkR_len _ xs k
attribute [simp] mk_IntSS_len
theorem ok_groupsOf (k:Nat) (l:List GRoute) (hl:routesOK l) (h20:l.length ≤ 20):CallOK Try.prog 23 [.c (rd k l.length (l.flatMap (GRoute.ci k)))] (.c (.sl 0 37 (groupsL l).length ((groupsL l).map cIntSo))) [.c (rd k l.length (l.flatMap (GRoute.ci k)))]:=by
  refine okS (fn:=Try.f23) [] h0 Try.func23 (by kernel_rfl) rfl Try.ntmps23 Try.results23 (by simp) ?_
  simp
  refine ewp_sw (.op 1 0 0) (.op 7 4 0) rfl rfl ?_
  simp
  refine loopS [1,3,8,9,10] [.op 7 4 0,.op 0 0 0] (fun m st => ∃ (i:Nat),i + m = l.length ∧ st = ⟨slOf 37 [(1,.ptr ⟨.op 0 0 0,[]⟩ 0),(3,.ref ⟨.op 7 4 0,[]⟩ 0 (groupsN l i).length),(8,.t (rd k l.length (l.flatMap (GRoute.ci k)))),(9,.t (pi l.length)),(10,.t (pi i))],ofL [(.op 0 0 0,.sl 0 27 1 [rd k l.length (l.flatMap (GRoute.ci k))]),(.op 7 4 0,.sl 0 37 (groupsN l i).length ((groupsN l i).map cIntSo))]⟩) l.length ?_ ?_
  · rintro Inv hI
    simp
    subst hI
    exact ⟨0,by omega,rfl⟩
  · rintro Inv hI m st ⟨i,hi,rfl⟩
    have hG:=groupsN_ok l i
    have hS:=groupsN_succ l i
    generalize hGe:groupsN l i = G at hG hS ⊢
    obtain ⟨hGl,hGx⟩:=hG
    refine ewr_sound (M:=[]) h0 ?_
    simp
    refine brn_app (fun a => ?_) (fun a => ?_)
    · simp at a
      have hd:=fm_drop (GRoute.ci k) 8 (fun _ => rfl) l i a
      have hlen:=fm_len (GRoute.ci k) 8 (fun _ => rfl) l
      have hlt:i * 8 < l.length * 8:=by omega
      have hr:=hl.2 _ (List.getElem_mem a)
      have hS':=hS a
      simp [a,hd,hlen,hlt,un_IntSS]
      have hcc:=ok_IndexFunc_IntS 0 1 50 [[rd k l.length (l.flatMap (GRoute.ci k))],GRoute.ci k l[i]] (pG l l[i].Attrs) G (by omega) (fun g hg => by
        obtain ⟨⟨h,t,e⟩,_,hb⟩:=hGx g hg
        have:=hb h (by rw [e]; simp)
        exact ok_groupsOf1 1 0 k l hl l[i] hr g ⟨h,t,e,by omega,by omega⟩)
      simp at hcc
      refine Inv_intro hcc ?_
      simp
      have hxs:∀ x ∈ G,x.length ≤ i:=fun g hg => (hGx g hg).2.1
      rcases idxOf_find (pG l l[i].Attrs) G with ⟨e1,e2⟩ | ⟨q,hq,e1,e2⟩
      · have hb1:(G.length + 1) * 24 ≤ 140737488355328:=by omega
        have hb2:G.length ≤ 9223372036854775806:=by omega
        simp [e1,hb1,hb2]
        have hst:stepG l G i l[i].Attrs = G ++ [[(i:Int)]]:=by simp only [stepG,e2]
        subst hI
        refine Less_mk (m - 1) (by omega) ⟨i + 1,by omega,?_⟩
        rw [wrNext i (by omega),hS',hst]
        simp [cIntSo]
      · have hn:¬ (q:Int) < 0:=by omega
        have hxq:=hxs _ (List.getElem_mem hq)
        have hst:stepG l G i l[i].Attrs = G.set q (G[q] ++ [(i:Int)]):=by simp only [stepG,e2,List.getElem?_eq_getElem hq,Option.getD_some]
        have hsp:G.map cIntSo = (G.take q).map cIntSo ++ cIntSo G[q] :: (G.drop (q + 1)).map cIntSo:=by
          rw [← List.map_cons,← List.drop_eq_getElem_cons hq,← List.map_append,List.take_append_drop]
        have hsp2:(G.set q (G[q] ++ [(i:Int)])).map cIntSo = (G.take q).map cIntSo ++ cIntSo (G[q] ++ [(i:Int)]) :: (G.drop (q + 1)).map cIntSo:=by
          rw [List.set_eq_take_append_cons_drop,if_pos hq,List.map_append,List.map_cons]
        have hAl:((G.take q).map cIntSo).length = q:=by simp; omega
        have hll:G.length = ((G.take q).map cIntSo).length + ((G.drop (q + 1)).map cIntSo).length + 1:=by simp; omega
        rw [hsp]
        generalize (G.take q).map cIntSo = A at hsp2 hAl hll ⊢
        generalize (G.drop (q + 1)).map cIntSo = D at hsp2 hll ⊢
        have hb1:(G[q].length + 1) * 8 ≤ 140737488355328:=by omega
        have hb2:G[q].length ≤ 9223372036854775806:=by omega
        simp [e1,hn,hq,hAl,hb1,hb2]
        subst hI
        refine Less_mk (m - 1) (by omega) ⟨i + 1,by omega,?_⟩
        rw [wrNext i (by omega),hS',hst,hsp2,List.length_set]
        simp [cIntSo]
    · simp at a
      have hil:i = l.length:=by omega
      subst hil
      have hGe':groupsL l = G:=hGe
      rw [hGe']
      simp
theorem ok_Clone_Int (k:Nat) (xs:List Int) (hx:xs.length ≤ 1048576):CallOK Try.prog 52 [.c (rd k xs.length (xs.map pi))] (.c (.sl 0 3 xs.length (xs.map pi))) [.c (rd k xs.length (xs.map pi))]:=by
  refine okS (fn:=Try.f52) [] h0 Try.func52 (by kernel_rfl) rfl Try.ntmps52 Try.results52 (by simp) ?_
  cases xs with
  | nil => simp
  | cons y ys =>
    simp only [List.length_cons] at hx
    have hb:(ys.length + 1) * 8 ≤ 140737488355328 ∧ ys.length + 1 ≤ 9223372036854775807:=by omega
    have hb2:ys.length + 1 ≤ 9223372036854775807:=by omega
    have hb1:(ys.length + 1) * 8 ≤ 140737488355328:=by omega
    simp [hb1,hb2]
theorem ok_ownAttrs (k:Nat) (a:GAttrs) (h1:a.Path.length ≤ 1048576) (h2:a.Comms.length ≤ 1048576):CallOK Try.prog 25 [.agg (GAttrs.ci k a)] (.agg (GAttrs.co a)) [.agg (GAttrs.ci k a)]:=by
  refine okS (fn:=Try.f25) [] h0 Try.func25 (by kernel_rfl) rfl Try.ntmps25 Try.results25 (by simp) ?_
  simp
  refine drawP (fnEnv 52 (fL1 1048576 fun xs => .sl 0 3 xs.length (xs.map pi)) (tabEnv [] [])) [⟨[.op 0 0 0],allD 12,true⟩,⟨[.op 0 0 0],allD 12,true⟩,⟨[.op 1 2 0],[3,4,5,6,7,8,9,10],false⟩,⟨[.op 0 0 0],allD 12,true⟩,⟨[.op 0 0 0],allD 12,true⟩,⟨[.op 1 5 0],[3,4,5,6,7,8,9,10],false⟩,⟨[.op 0 0 0],allD 12,true⟩,⟨[.op 0 0 0,.op 1 2 0],[3,4,5,6,7,8,9,10],false⟩,⟨[.op 0 0 0],allD 12,true⟩,⟨[.op 0 0 0,.op 1 5 0],[3,4,5,6,7,8,9,10],false⟩] h0 hm (fnEnv_ok (tabEnv_ok tab_nil) (fL1_ok fun k xs hx => ok_Clone_Int k xs hx)) (by kernel_rfl) (by kernel_rfl) ?_
  simp [h1,h2]
theorem ok_l4Own (k:Nat) (a:GAttrs) (h1:a.Path.length ≤ 1048576) (h2:a.Comms.length ≤ 1048576):CallOK Try.prog 40 [.agg (GAttrs.ci k a)] (.agg (GAttrs.co a)) [.agg (GAttrs.ci k a)]:=by
  have b1:a.Path.length * 8 ≤ 140737488355328:=by omega
  have b2:a.Path.length ≤ 9223372036854775807:=by omega
  have b3:a.Comms.length * 8 ≤ 140737488355328:=by omega
  have b4:a.Comms.length ≤ 9223372036854775807:=by omega
  refine okS (fn:=Try.f40) [] h0 Try.func40 (by kernel_rfl) rfl Try.ntmps40 Try.results40 (by simp) ?_
  by_cases p:a.Path = []
  · by_cases c:a.Comms = []
    · simp [p,c]
    · simp [p,c,b3,b4]
  · by_cases c:a.Comms = []
    · simp [p,c,b1,b2]
    · simp [p,c,b1,b2,b3,b4]
def goneK (p:List GPrefix):PT:=.sl 0 44 p.length (p.flatMap GPrefix.c)
def zeroC:List PT:=[pi 0,.sl 0 nilE 0 [],pi 0,pi 0,pi 0,.sl 0 nilE 0 [],.sl 0 nilE 0 []]
def zeroE:List PT:=[pi 0,.sl 0 3 0 [],pi 0,pi 0,pi 0,.sl 0 3 0 [],.sl 0 44 0 []]
def putC (Z C:List PT) (k:Nat) (p:List GPrefix):List PT:=if k * 8 < C.length then C.take (k * 8) ++ goneK p :: C.drop (k * 8 + 1) else C ++ goneK p :: Z
def putCs (D:List GPrefix) (C:List PT):Nat → List PT
  | 0 => C
  | i + 1 => putC zeroC (putCs D C i) i (partC D i)
theorem putC_len (Z C:List PT) (k n:Nat) (p:List GPrefix) (hZ:Z.length = 7) (hC:C.length = n * 8):(putC Z C k p).length = (if k < n then n else n + 1) * 8:=by
  unfold putC
  by_cases h:k < n
  · rw [if_pos (by omega),if_pos h,List.length_append,List.length_cons,List.length_take,List.length_drop]
    omega
  · rw [if_neg (by omega),if_neg h,List.length_append,List.length_cons]
    omega
theorem putCs_len (D:List GPrefix) (C:List PT) (U:List GUpdate) (hC:C.length = U.length * 8):∀ i,(putCs D C i).length = (putGs D U i).length * 8
  | 0 => hC
  | i + 1 => by
    simp only [putCs,putGs,putG_len]
    rw [putC_len _ _ _ _ _ rfl (putCs_len D C U hC i)]
theorem putG_cells (o:List GUpdate) (k:Nat) (p:List GPrefix):(putG o k p).flatMap GUpdate.co = putC zeroE (o.flatMap GUpdate.co) k p:=by
  have hl:=fm_len GUpdate.co 8 (fun _ => rfl) o
  unfold putG putC
  split
  · rename_i u hu
    obtain ⟨hk,he⟩:=List.getElem?_eq_some_iff.1 hu
    rw [if_pos (by omega),List.set_eq_take_append_cons_drop,if_pos hk,List.flatMap_append,List.flatMap_cons]
    have h1:=fm_take GUpdate.co 8 (fun _ => rfl) o k
    have h2:=fm_drop GUpdate.co 8 (fun _ => rfl) o k hk
    have h3:(o.flatMap GUpdate.co).drop (k * 8 + 1) = (GUpdate.co u).drop 1 ++ (o.drop (k + 1)).flatMap GUpdate.co:=by
      rw [← List.drop_drop,h2,he,List.drop_append_of_le_length (by simp [GUpdate.co]),fm_dropAll GUpdate.co 8 (fun _ => rfl)]
    rw [h1,h3]
    rfl
  · rename_i hn
    rw [List.getElem?_eq_none_iff] at hn
    rw [if_neg (by omega),List.flatMap_append]
    rfl
theorem nleL_append:∀ {a b c d:List PT},PT.nleL a b → PT.nleL c d → PT.nleL (a ++ c) (b ++ d)
  | [],b,c,d,h1,h2 => by
    rw [nleL_nil] at h1
    subst h1
    exact h2
  | x :: a,[],c,d,h1,h2 => by simp [PT.nleL] at h1
  | x :: a,y :: b,c,d,h1,h2 => by
    rw [nleL_cons] at h1
    rw [List.cons_append,List.cons_append,nleL_cons]
    exact ⟨h1.1,nleL_append h1.2 h2⟩
theorem nleL_len:∀ {a b:List PT},PT.nleL a b → a.length = b.length
  | [],b,h => by rw [nleL_nil] at h; subst h; rfl
  | x :: a,[],h => by simp [PT.nleL] at h
  | x :: a,y :: b,h => by
    rw [nleL_cons] at h
    rw [List.length_cons,List.length_cons,nleL_len h.2]
theorem nleL_cut:∀ (n:Nat) {a b:List PT},PT.nleL a b → PT.nleL (a.take n) (b.take n) ∧ PT.nleL (a.drop n) (b.drop n)
  | 0,a,b,h => ⟨by simp [PT.nleL],h⟩
  | n + 1,[],b,h => by rw [nleL_nil] at h; subst h; simp [PT.nleL]
  | n + 1,x :: a,[],h => by simp [PT.nleL] at h
  | n + 1,x :: a,y :: b,h => by
    rw [nleL_cons] at h
    have ih:=nleL_cut n h.2
    rw [List.take_succ_cons,List.take_succ_cons,List.drop_succ_cons,List.drop_succ_cons,nleL_cons]
    exact ⟨⟨h.1,ih.1⟩,ih.2⟩
theorem nleL_put {C E:List PT} (h:PT.nleL C E) (k:Nat) (p:List GPrefix):PT.nleL (putC zeroC C k p) (putC zeroE E k p):=by
  have hl:=nleL_len h
  unfold putC
  by_cases hk:k * 8 < C.length
  · rw [if_pos hk,if_pos (by omega)]
    refine nleL_append (nleL_cut _ h).1 ?_
    rw [nleL_cons]
    exact ⟨nle_refl_all.1 _,(nleL_cut _ h).2⟩
  · rw [if_neg hk,if_neg (by omega)]
    refine nleL_append h ?_
    rw [nleL_cons]
    exact ⟨nle_refl_all.1 _,by simp [zeroC,zeroE,nleL_cons,nle_own,nle_raw,nleL_nil]⟩
theorem nleL_cz:∀ (U:List GUpdate),(∀ u ∈ U,u.Gone = []) → PT.nleL (U.flatMap GUpdate.cz) (U.flatMap GUpdate.co)
  | [],_ => by simp [PT.nleL]
  | u :: U,h => by
    rw [List.flatMap_cons,List.flatMap_cons]
    refine nleL_append ?_ (nleL_cz U fun x hx => h x (List.mem_cons_of_mem _ hx))
    have hu:=h u (by simp)
    have e:GUpdate.co u = .sl 0 44 0 [] :: (GUpdate.co u).drop 1:=by simp [GUpdate.co,hu]
    rw [e]
    unfold GUpdate.cz
    rw [nleL_cons]
    refine ⟨?_,nle_refl_all.2 _⟩
    rw [nle_own]
    exact .inl ⟨rfl,rfl,rfl,rfl,rfl⟩
theorem nleL_puts (D:List GPrefix) (U:List GUpdate) (h:∀ u ∈ U,u.Gone = []):∀ i,PT.nleL (putCs D (U.flatMap GUpdate.cz) i) ((putGs D U i).flatMap GUpdate.co)
  | 0 => nleL_cz U h
  | i + 1 => by
    simp only [putCs,putGs]
    rw [putG_cells]
    exact nleL_put (nleL_puts D U h i) _ _
theorem noTmp_put {C:List PT} (h:PT.noTmpL C = true) (k:Nat) (p:List GPrefix):PT.noTmpL (putC zeroC C k p) = true:=by
  rw [PT.noTmpL_iff] at h ⊢
  have hg:(goneK p).noTmp = true:=by simp [goneK,PT.noTmp]
  unfold putC
  intro c hc
  split at hc
  · rcases List.mem_append.1 hc with hc | hc
    · exact h c (List.mem_of_mem_take hc)
    · rcases List.mem_cons.1 hc with rfl | hc
      · exact hg
      · exact h c (List.mem_of_mem_drop hc)
  · rcases List.mem_append.1 hc with hc | hc
    · exact h c hc
    · rcases List.mem_cons.1 hc with rfl | hc
      · exact hg
      · exact (PT.noTmpL_iff zeroC).1 (by simp [zeroC,PT.noTmpL,PT.noTmp]) c hc
theorem noTmp_puts (D:List GPrefix) (U:List GUpdate):∀ i,PT.noTmpL (putCs D (U.flatMap GUpdate.cz) i) = true
  | 0 => noTmpL_fm _ U fun x => by simp [GUpdate.cz,GUpdate.co,PT.noTmpL,PT.noTmp]
  | i + 1 => by
    simp only [putCs]
    exact noTmp_put (noTmp_puts D U i) _ _
theorem part_cellsP (g:List GPrefix) (q:Nat):((g.flatMap GPrefix.c).drop (q * 10 * 2)).take (minN g.length q * 2) = (partC g q).flatMap GPrefix.c ∧ minN g.length q = (partC g q).length:=by
  refine ⟨?_,(partC_len g q).symm⟩
  unfold partC minN
  rw [fm_dropAll GPrefix.c 2 (fun _ => rfl),fm_take GPrefix.c 2 (fun _ => rfl)]
  congr 1
  rcases Nat.lt_or_ge (g.length - q * 10) 10 with h | h
  · rw [Nat.min_eq_right (by omega),List.take_of_length_le (by rw [List.length_drop]; exact Nat.le_refl _),List.take_of_length_le (by rw [List.length_drop]; omega)]
  · rw [Nat.min_eq_left (by omega)]
end Go.V
