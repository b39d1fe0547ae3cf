/- What functions of the seat's program do, each proved of its code, under the bounds that its theorem names. -/
import Derived.Test.YtcmdgenpipojpaaGreatTal
set_option linter.all false
namespace Go.V
open Go.Proofs
set_option maxHeartbeats 1000000
set_option maxRecDepth 10000
set_option linter.unusedSimpArgs false
set_option linter.unusedVariables false
def yldV (l:Nat):Value:=.func (.yield l) #[] #[]
theorem chunk_int_in (C:List PT) (N k' l n:Nat) (x y:Addr) (I:Nat → Nat → Prop) (J:Nat → World → Prop) (W:World) (hn:N ≤ 1000000) (hC:C.length = N * 1)
    (hcx:ImL W I 1 (some x) 0 [rd k' N C]) (hcy:ImL W I 1 (some y) 0 [pi 10]) (hI:∀ k b,I k b → b < W.heap.size)
    (hJb:∀ i W',J i W' → W.heap.size ≤ W'.heap.size ∧ ∀ k b,I k b → W'.heap[b]? = W.heap[b]?)
    (hJg:∀ i W1 W2,J i W1 → RowKit.Below W1.heap.size W1 W2 → W1.drawn ≤ W2.drawn → J i W2)
    (hY:∀ (i:Nat) (hi:i < (N + 9) / 10) (W1:World) (va:Value),J i W1 → (∀ L,SVR (tsz Tryz.prog) L W1 I va (.t (rd k' (minN N i) ((C.drop (i * 10 * 1)).take (minN N i * 1))))) → YieldAt (wideR none) n Tryz.prog l #[va] W1 fun e W' => e = .returned (.bool true) ∧ J (i + 1) W')
    (hJ0:J 0 W) :
    CallsIn (wideR none) (n + 1) Tryz.prog 65 #[yldV l,.pointer (some x),.pointer (some y)] W fun e W' => (∃ v,e = .returned v) ∧ J ((N + 9) / 10) W':=by
  refine callsIn_of_wp Tryz.func65 rfl trivial ?_ rfl
  generalize hA:(⟨#[yldV l,.pointer (some x),.pointer (some y)] ++ Array.replicate (Tryz.f65.ntmps - (#[yldV l,Value.pointer (some x),Value.pointer (some y)]:Array Value).size) undef,[]⟩:Act) = a0
  have hsz:a0.tmps.toList.length = 31:=by subst hA; simp [Tryz.ntmps65]
  have hd0:a0.defers = []:=by subst hA; rfl
  have h0':a0.tmps.toList[0]? = some (yldV l):=by subst hA; simp
  have h1':a0.tmps.toList[1]? = some (.pointer (some x)):=by subst hA; simp
  have h2':a0.tmps.toList[2]? = some (.pointer (some y)):=by subst hA; simp
  have hs0:SimI (tsz Tryz.prog) I (slOf 31 [(0,.t (.raw (yldV l))),(1,.ip 1 [rd k' N C]),(2,.ip 1 [pi 10])]) a0 W:=by
    refine SimI.mk hI hd0 (SVRL.of_slOf hsz ?_)
    intro z hz
    simp only [List.mem_cons,List.not_mem_nil,or_false] at hz
    rcases hz with rfl | rfl | rfl
    · exact ⟨_,h0',by simp only [SVR,Im]⟩
    · exact ⟨_,h1',by simp only [SVR]; exact ⟨x,rfl,hcx⟩⟩
    · exact ⟨_,h2',by simp only [SVR]; exact ⟨y,rfl,hcy⟩⟩
  refine wpIn_seq ?_
  refine regT [] [0,1,2,4] [] ⟨slOf 31 [(0,.t (.raw (yldV l))),(1,.ip 1 [rd k' N C]),(2,.ip 1 [pi 10]),(4,.t (pi 0))],ofL []⟩ h0 hs0 (by kernel_rfl) ?_ ?_
  · intro K hK
    simp
    refine hK _ ?_
    simp
  · intro a1 w1 L1 hs1
    refine wpIn_block ?_
    refine wpIn_loop (fun a w => ∃ i p:Nat,i ≤ (N + 9) / 10 ∧ p = i * 10 ∧ J i w ∧ SimI (tsz Tryz.prog) I (slOf 31 [(0,.t (.raw (yldV l))),(1,.ip 1 [rd k' N C]),(2,.ip 1 [pi 10]),(4,.t (pi p))]) a w) (fun a _ => muC ((N + 9) / 10 * 10) a) ⟨0,0,Nat.zero_le _,rfl,hJg 0 W w1 hJ0 hs1.keeps.below hs1.keeps.drawn,hs1.toI⟩ ?_
    rintro a w ⟨i,p,hi,hpi,hJ,hs2⟩
    have hmu:∀ (a:Act) (w:World) (p:Nat),SimI (tsz Tryz.prog) I (slOf 31 [(0,.t (.raw (yldV l))),(1,.ip 1 [rd k' N C]),(2,.ip 1 [pi 10]),(4,.t (pi p))]) a w → muC ((N + 9) / 10 * 10) a = (N + 9) / 10 * 10 - p:=by
      intro a w p hs2
      obtain ⟨u4,q4,r4⟩:=Sim.slot (i:=4) hs2 (by decide)
      have r4':SVR (tsz Tryz.prog) (fun _ => none) w I u4 (.t (pi p)):=r4
      simp only [SVR,Im] at r4'
      unfold muC
      rw [q4,r4']
      simp only [Int.toNat_natCast]
    rw [hmu a w p hs2]
    refine wpIn_seq (wpIn_seq ?_)
    refine regT [] [0,1,2,4,9] [] ⟨slOf 31 [(0,.t (.raw (yldV l))),(1,.ip 1 [rd k' N C]),(2,.ip 1 [pi 10]),(4,.t (pi p)),(9,.t (pb (decide (p < N))))],ofL []⟩ h0 hs2 (by kernel_rfl) (by
      intro K hK
      simp
      refine hK _ ?_
      simp) ?_
    intro a3 w3 L3 hs3
    have hJ3:=hJg i w w3 hJ hs3.keeps.below hs3.keeps.drawn
    have hs3':=hs3.toI
    obtain ⟨u9,q9,r9⟩:=Sim.slot (i:=9) hs3' (by decide)
    have r9':SVR (tsz Tryz.prog) (fun _ => none) w3 I u9 (.t (pb (decide (p < N)))):=r9
    simp only [SVR,Im] at r9'
    have hc:a3.eval (.tmp 9) = .bool (decide (p < N)):=by
      simp only [Act.eval,Array.getD_eq_getD_getElem?,q9,r9',Option.getD_some]
    by_cases hlt:p < N
    · rw [decide_eq_true hlt] at hc
      refine wpIn_cond_true hc (wpIn_skip ?_)
      have hi2:i < (N + 9) / 10:=by omega
      refine wpIn_seq ?_
      refine wpIn_block ?_
      refine wpIn_seq ?_
      have hple:p ≤ N:=by omega
      have hmle:p + minN N i ≤ N:=by unfold minN; omega
      have hmn:(if ((N - p:Nat):Int) < 10 then ((N - p:Nat):Int) else 10) = (minN N i:Nat):=by unfold minN; split <;> omega
      refine codeT [0,1,2,4,5] [] ⟨slOf 31 [(0,.t (.raw (yldV l))),(1,.ip 1 [rd k' N C]),(2,.ip 1 [pi 10]),(4,.t (pi p)),(5,.t (pi (minN N i)))],ofL []⟩ hs3' (by
        intro K hK
        refine drawP (tabEnv [] []) [⟨[],allD 31,true⟩,⟨[],allD 31,true⟩,⟨[],allD 31,true⟩,⟨[],allD 31,true⟩,⟨[],allD 31,true⟩,⟨[],allD 31,true⟩,⟨[],allD 31,true⟩] h0 hm (tabEnv_ok tab_nil) (by kernel_rfl) (by kernel_rfl) ?_
        simp [hlt,hple]
        refine hK _ ?_
        simp [hmn]) ?_
      intro a4 w4 L4 hs4
      have hs4':=hs4.toI
      have hJ4:=hJg i w3 w4 hJ3 hs4.keeps.below hs4.keeps.drawn
      refine wpIn_seq ?_
      obtain ⟨m,hme⟩:∃ m,m = minN N i:=⟨_,rfl⟩
      rw [← hme] at hs4' hmle
      have hw:IntKind.i64.wrap ((p:Int) + m) = ((p + m:Nat):Int):=wrap64 (by omega) (by omega)
      refine regP [] 10 [0,1,2,4,19,28] [] ⟨slOf 31 [(0,.t (.raw (yldV l))),(1,.ip 1 [rd k' N C]),(2,.ip 1 [pi 10]),(4,.t (pi p)),(19,.t (.raw (yldV l))),(28,.t (rd k' m ((C.drop (p * 1)).take (m * 1))))],ofL []⟩ h0 hs4' (by decide) (by kernel_rfl) (by
        intro K hK
        obtain ⟨q,hq⟩:∃ q,q = p + m:=⟨_,rfl⟩
        rw [← hq] at hw hmle
        have hpq:p ≤ q:=by omega
        have hqm:q - p = m:=by omega
        simp [hw,hmle,hpq,hple,stCut3]
        refine hK _ ?_
        simp [hqm]) ?_
      intro a5 w5 L5 hs5
      have hJ5:=hJg i w3 w5 hJ3 (hs4.keeps.below.trans (hs5.keeps.below.mono hs4.keeps.size)) (Nat.le_trans hs4.keeps.drawn hs5.keeps.drawn)
      have hs5':=hs5.toI
      obtain ⟨u19,q19,r19⟩:=Sim.slot (i:=19) hs5' (by decide)
      have r19':SVR (tsz Tryz.prog) (fun _ => none) w5 I u19 (.t (.raw (yldV l))):=r19
      simp only [SVR,Im] at r19'
      obtain ⟨u28,q28,r28⟩:=Sim.slot (i:=28) hs5' (by decide)
      have r28':SVR (tsz Tryz.prog) (fun _ => none) w5 I u28 (.t (rd k' m ((C.drop (p * 1)).take (m * 1)))):=r28
      have e19:a5.eval (.tmp 19) = .func (.yield l) #[] #[]:=by
        simp only [Act.eval,Array.getD_eq_getD_getElem?,q19,r19',Option.getD_some,yldV]
      have e28:a5.eval (.tmp 28) = u28:=by
        simp only [Act.eval,Array.getD_eq_getD_getElem?,q28,Option.getD_some]
      obtain ⟨fn,tm,asg,bdy,hy,hR⟩:=hY i hi2 w5 u28 hJ5 (fun L => by rw [← hme,← hpi]; simpa only [SVR] using r28')
      refine wpOpsIn_one (i:=10) (rest:=[11]) rfl rfl (yieldOp rfl rfl rfl e19 ⟨fn,tm,asg,bdy,by rw [e28]; exact hy,hR.mono ?_⟩)
      rintro e w6 ⟨rfl,hJ6⟩
      refine ⟨rfl,?_⟩
      obtain ⟨g1,g2⟩:=hJb i w5 hJ5
      obtain ⟨g3,g4⟩:=hJb (i + 1) w6 hJ6
      have hs6:=SimI.later hs5' (w':=w6) (fun k b hb => (g4 k b hb).trans (g2 k b hb).symm) (fun k b hb => Nat.lt_of_lt_of_le (hI k b hb) g3)
      have hs7:=Sim.put hs6 (some 29) (v:=.bool true) (s:=.t (pb true)) (by simp only [SVR,Im])
      have hs8:SimI (tsz Tryz.prog) I (slOf 31 [(0,.t (.raw (yldV l))),(1,.ip 1 [rd k' N C]),(2,.ip 1 [pi 10]),(4,.t (pi p)),(29,.t (pb true))]) (a5.put (some 29) (.bool true)) w6:=by
        obtain ⟨L8,h8⟩:=hs7.lose [0,1,2,4,29] []
        have e8:St.drop ⟨(slOf 31 [(0,.t (.raw (yldV l))),(1,.ip 1 [rd k' N C]),(2,.ip 1 [pi 10]),(4,.t (pi p)),(19,.t (.raw (yldV l))),(28,.t (rd k' m ((C.drop (p * 1)).take (m * 1))))]).set 29 (.t (pb true)),ofL []⟩ [0,1,2,4,29] [] = ⟨slOf 31 [(0,.t (.raw (yldV l))),(1,.ip 1 [rd k' N C]),(2,.ip 1 [pi 10]),(4,.t (pi p)),(29,.t (pb true))],ofL []⟩:=by
          simp
        simp only at h8
        rw [e8] at h8
        exact h8.toI
      refine opsT (id:=4) [] 11 [0,1,2,4,30] [] ⟨slOf 31 [(0,.t (.raw (yldV l))),(1,.ip 1 [rd k' N C]),(2,.ip 1 [pi 10]),(4,.t (pi p)),(30,.t (pb false))],ofL []⟩ h0 hs8 (by kernel_rfl) (by
        intro K hK
        simp
        refine hK _ ?_
        simp) ?_
      intro a9 w9 L9 hs9
      have hJ9:=hJg (i + 1) w6 w9 hJ6 hs9.keeps.below hs9.keeps.drawn
      have hs9':=hs9.toI
      obtain ⟨u30,q30,r30⟩:=Sim.slot (i:=30) hs9' (by decide)
      have r30':SVR (tsz Tryz.prog) (fun _ => none) w9 I u30 (.t (pb false)):=r30
      simp only [SVR,Im] at r30'
      have hc9:a9.eval (.tmp 30) = .bool false:=by
        simp only [Act.eval,Array.getD_eq_getD_getElem?,q30,r30',Option.getD_some]
      refine wpIn_cond_false hc9 (wpIn_skip ?_)
      have wi:IntKind.i64.wrap ((p:Int) + 10) = ((p + 10:Nat):Int):=wrap64 (by omega) (by omega)
      refine regT [] [0,1,2,4] [] ⟨slOf 31 [(0,.t (.raw (yldV l))),(1,.ip 1 [rd k' N C]),(2,.ip 1 [pi 10]),(4,.t (pi ((p + 10:Nat):Int)))],ofL []⟩ h0 hs9' (by kernel_rfl) (by
        intro K hK
        simp [wi]
        refine hK _ ?_
        simp) ?_
      intro aA wA LA hsA
      have hsA':=hsA.toI
      refine ⟨⟨i + 1,p + 10,by omega,by omega,hJg (i + 1) w9 wA hJ9 hsA.keeps.below hsA.keeps.drawn,hsA'⟩,?_⟩
      rw [hmu aA wA (p + 10) hsA']
      omega
    · rw [decide_eq_false hlt] at hc
      refine wpIn_cond_false hc (wpIn_exit ?_)
      have hi':i = (N + 9) / 10:=by omega
      subst hi'
      simp only [Exit.then,Exit.inBlock,if_true]
      exact ⟨hs3'.nodef,_,results_none rfl _ _ _,⟨_,rfl⟩,hJ3⟩
theorem ok_Chunk_int (k N:Nat) (C:List PT):CallOK Tryz.prog 26 [.c (rd k N C),.c (pi 10)] (.clo 65 [.sl 0 34 1 [rd k N C],.sl 0 3 1 [pi 10]]) [.c (rd k N C),.c (pi 10)]:=by
  refine okC (fn:=Tryz.f26) 65 h0 Tryz.func26 (by kernel_rfl) rfl Tryz.ntmps26 Tryz.results26 (by simp) ?_
  refine ewr_sound (M:=[]) h0 ?_
  simp
  rfl
theorem chunk_int_cf (args:Array Value) (w:World):(callFunc 65 args).run Tryz.prog w = .ok (.enter 65 args) w:=by
  have h1 : Tryz.f65.name ≠ "runtime.NumGoroutine" := by
    have : (Tryz.f65.name == "runtime.NumGoroutine") = false := by kernel_rfl
    simpa using this
  simp only [callFunc,Tryz.func65]
  simp [h1]
  intro hb
  cases hb
theorem chunk_px_in (C:List PT) (N k' l n:Nat) (x y:Addr) (I:Nat → Nat → Prop) (J:Nat → World → Prop) (W:World) (hn:N ≤ 1000000) (hC:C.length = N * 2)
    (hcx:ImL W I 1 (some x) 0 [rd k' N C]) (hcy:ImL W I 1 (some y) 0 [pi 10]) (hI:∀ k b,I k b → b < W.heap.size)
    (hJb:∀ i W',J i W' → W.heap.size ≤ W'.heap.size ∧ ∀ k b,I k b → W'.heap[b]? = W.heap[b]?)
    (hJg:∀ i W1 W2,J i W1 → RowKit.Below W1.heap.size W1 W2 → W1.drawn ≤ W2.drawn → J i W2)
    (hY:∀ (i:Nat) (hi:i < (N + 9) / 10) (W1:World) (va:Value),J i W1 → (∀ L,SVR (tsz Tryz.prog) L W1 I va (.t (rd k' (minN N i) ((C.drop (i * 10 * 2)).take (minN N i * 2))))) → YieldAt (wideR none) n Tryz.prog l #[va] W1 fun e W' => e = .returned (.bool true) ∧ J (i + 1) W')
    (hJ0:J 0 W) :
    CallsIn (wideR none) (n + 1) Tryz.prog 67 #[yldV l,.pointer (some x),.pointer (some y)] W fun e W' => (∃ v,e = .returned v) ∧ J ((N + 9) / 10) W':=by
  refine callsIn_of_wp Tryz.func67 rfl trivial ?_ rfl
  generalize hA:(⟨#[yldV l,.pointer (some x),.pointer (some y)] ++ Array.replicate (Tryz.f67.ntmps - (#[yldV l,Value.pointer (some x),Value.pointer (some y)]:Array Value).size) undef,[]⟩:Act) = a0
  have hsz:a0.tmps.toList.length = 31:=by subst hA; simp [Tryz.ntmps67]
  have hd0:a0.defers = []:=by subst hA; rfl
  have h0':a0.tmps.toList[0]? = some (yldV l):=by subst hA; simp
  have h1':a0.tmps.toList[1]? = some (.pointer (some x)):=by subst hA; simp
  have h2':a0.tmps.toList[2]? = some (.pointer (some y)):=by subst hA; simp
  have hs0:SimI (tsz Tryz.prog) I (slOf 31 [(0,.t (.raw (yldV l))),(1,.ip 1 [rd k' N C]),(2,.ip 1 [pi 10])]) a0 W:=by
    refine SimI.mk hI hd0 (SVRL.of_slOf hsz ?_)
    intro z hz
    simp only [List.mem_cons,List.not_mem_nil,or_false] at hz
    rcases hz with rfl | rfl | rfl
    · exact ⟨_,h0',by simp only [SVR,Im]⟩
    · exact ⟨_,h1',by simp only [SVR]; exact ⟨x,rfl,hcx⟩⟩
    · exact ⟨_,h2',by simp only [SVR]; exact ⟨y,rfl,hcy⟩⟩
  refine wpIn_seq ?_
  refine regT [] [0,1,2,4] [] ⟨slOf 31 [(0,.t (.raw (yldV l))),(1,.ip 1 [rd k' N C]),(2,.ip 1 [pi 10]),(4,.t (pi 0))],ofL []⟩ h0 hs0 (by kernel_rfl) ?_ ?_
  · intro K hK
    simp
    refine hK _ ?_
    simp
  · intro a1 w1 L1 hs1
    refine wpIn_block ?_
    refine wpIn_loop (fun a w => ∃ i p:Nat,i ≤ (N + 9) / 10 ∧ p = i * 10 ∧ J i w ∧ SimI (tsz Tryz.prog) I (slOf 31 [(0,.t (.raw (yldV l))),(1,.ip 1 [rd k' N C]),(2,.ip 1 [pi 10]),(4,.t (pi p))]) a w) (fun a _ => muC ((N + 9) / 10 * 10) a) ⟨0,0,Nat.zero_le _,rfl,hJg 0 W w1 hJ0 hs1.keeps.below hs1.keeps.drawn,hs1.toI⟩ ?_
    rintro a w ⟨i,p,hi,hpi,hJ,hs2⟩
    have hmu:∀ (a:Act) (w:World) (p:Nat),SimI (tsz Tryz.prog) I (slOf 31 [(0,.t (.raw (yldV l))),(1,.ip 1 [rd k' N C]),(2,.ip 1 [pi 10]),(4,.t (pi p))]) a w → muC ((N + 9) / 10 * 10) a = (N + 9) / 10 * 10 - p:=by
      intro a w p hs2
      obtain ⟨u4,q4,r4⟩:=Sim.slot (i:=4) hs2 (by decide)
      have r4':SVR (tsz Tryz.prog) (fun _ => none) w I u4 (.t (pi p)):=r4
      simp only [SVR,Im] at r4'
      unfold muC
      rw [q4,r4']
      simp only [Int.toNat_natCast]
    rw [hmu a w p hs2]
    refine wpIn_seq (wpIn_seq ?_)
    refine regT [] [0,1,2,4,9] [] ⟨slOf 31 [(0,.t (.raw (yldV l))),(1,.ip 1 [rd k' N C]),(2,.ip 1 [pi 10]),(4,.t (pi p)),(9,.t (pb (decide (p < N))))],ofL []⟩ h0 hs2 (by kernel_rfl) (by
      intro K hK
      simp
      refine hK _ ?_
      simp) ?_
    intro a3 w3 L3 hs3
    have hJ3:=hJg i w w3 hJ hs3.keeps.below hs3.keeps.drawn
    have hs3':=hs3.toI
    obtain ⟨u9,q9,r9⟩:=Sim.slot (i:=9) hs3' (by decide)
    have r9':SVR (tsz Tryz.prog) (fun _ => none) w3 I u9 (.t (pb (decide (p < N)))):=r9
    simp only [SVR,Im] at r9'
    have hc:a3.eval (.tmp 9) = .bool (decide (p < N)):=by
      simp only [Act.eval,Array.getD_eq_getD_getElem?,q9,r9',Option.getD_some]
    by_cases hlt:p < N
    · rw [decide_eq_true hlt] at hc
      refine wpIn_cond_true hc (wpIn_skip ?_)
      have hi2:i < (N + 9) / 10:=by omega
      refine wpIn_seq ?_
      refine wpIn_block ?_
      refine wpIn_seq ?_
      have hple:p ≤ N:=by omega
      have hmle:p + minN N i ≤ N:=by unfold minN; omega
      have hmn:(if ((N - p:Nat):Int) < 10 then ((N - p:Nat):Int) else 10) = (minN N i:Nat):=by unfold minN; split <;> omega
      refine codeT [0,1,2,4,5] [] ⟨slOf 31 [(0,.t (.raw (yldV l))),(1,.ip 1 [rd k' N C]),(2,.ip 1 [pi 10]),(4,.t (pi p)),(5,.t (pi (minN N i)))],ofL []⟩ hs3' (by
        intro K hK
        refine drawP (tabEnv [] []) [⟨[],allD 31,true⟩,⟨[],allD 31,true⟩,⟨[],allD 31,true⟩,⟨[],allD 31,true⟩,⟨[],allD 31,true⟩,⟨[],allD 31,true⟩,⟨[],allD 31,true⟩] h0 hm (tabEnv_ok tab_nil) (by kernel_rfl) (by kernel_rfl) ?_
        simp [hlt,hple]
        refine hK _ ?_
        simp [hmn]) ?_
      intro a4 w4 L4 hs4
      have hs4':=hs4.toI
      have hJ4:=hJg i w3 w4 hJ3 hs4.keeps.below hs4.keeps.drawn
      refine wpIn_seq ?_
      obtain ⟨m,hme⟩:∃ m,m = minN N i:=⟨_,rfl⟩
      rw [← hme] at hs4' hmle
      have hw:IntKind.i64.wrap ((p:Int) + m) = ((p + m:Nat):Int):=wrap64 (by omega) (by omega)
      refine regP [] 10 [0,1,2,4,19,28] [] ⟨slOf 31 [(0,.t (.raw (yldV l))),(1,.ip 1 [rd k' N C]),(2,.ip 1 [pi 10]),(4,.t (pi p)),(19,.t (.raw (yldV l))),(28,.t (rd k' m ((C.drop (p * 2)).take (m * 2))))],ofL []⟩ h0 hs4' (by decide) (by kernel_rfl) (by
        intro K hK
        obtain ⟨q,hq⟩:∃ q,q = p + m:=⟨_,rfl⟩
        rw [← hq] at hw hmle
        have hpq:p ≤ q:=by omega
        have hqm:q - p = m:=by omega
        simp [hw,hmle,hpq,hple,stCut3]
        refine hK _ ?_
        simp [hqm]) ?_
      intro a5 w5 L5 hs5
      have hJ5:=hJg i w3 w5 hJ3 (hs4.keeps.below.trans (hs5.keeps.below.mono hs4.keeps.size)) (Nat.le_trans hs4.keeps.drawn hs5.keeps.drawn)
      have hs5':=hs5.toI
      obtain ⟨u19,q19,r19⟩:=Sim.slot (i:=19) hs5' (by decide)
      have r19':SVR (tsz Tryz.prog) (fun _ => none) w5 I u19 (.t (.raw (yldV l))):=r19
      simp only [SVR,Im] at r19'
      obtain ⟨u28,q28,r28⟩:=Sim.slot (i:=28) hs5' (by decide)
      have r28':SVR (tsz Tryz.prog) (fun _ => none) w5 I u28 (.t (rd k' m ((C.drop (p * 2)).take (m * 2)))):=r28
      have e19:a5.eval (.tmp 19) = .func (.yield l) #[] #[]:=by
        simp only [Act.eval,Array.getD_eq_getD_getElem?,q19,r19',Option.getD_some,yldV]
      have e28:a5.eval (.tmp 28) = u28:=by
        simp only [Act.eval,Array.getD_eq_getD_getElem?,q28,Option.getD_some]
      obtain ⟨fn,tm,asg,bdy,hy,hR⟩:=hY i hi2 w5 u28 hJ5 (fun L => by rw [← hme,← hpi]; simpa only [SVR] using r28')
      refine wpOpsIn_one (i:=10) (rest:=[11]) rfl rfl (yieldOp rfl rfl rfl e19 ⟨fn,tm,asg,bdy,by rw [e28]; exact hy,hR.mono ?_⟩)
      rintro e w6 ⟨rfl,hJ6⟩
      refine ⟨rfl,?_⟩
      obtain ⟨g1,g2⟩:=hJb i w5 hJ5
      obtain ⟨g3,g4⟩:=hJb (i + 1) w6 hJ6
      have hs6:=SimI.later hs5' (w':=w6) (fun k b hb => (g4 k b hb).trans (g2 k b hb).symm) (fun k b hb => Nat.lt_of_lt_of_le (hI k b hb) g3)
      have hs7:=Sim.put hs6 (some 29) (v:=.bool true) (s:=.t (pb true)) (by simp only [SVR,Im])
      have hs8:SimI (tsz Tryz.prog) I (slOf 31 [(0,.t (.raw (yldV l))),(1,.ip 1 [rd k' N C]),(2,.ip 1 [pi 10]),(4,.t (pi p)),(29,.t (pb true))]) (a5.put (some 29) (.bool true)) w6:=by
        obtain ⟨L8,h8⟩:=hs7.lose [0,1,2,4,29] []
        have e8:St.drop ⟨(slOf 31 [(0,.t (.raw (yldV l))),(1,.ip 1 [rd k' N C]),(2,.ip 1 [pi 10]),(4,.t (pi p)),(19,.t (.raw (yldV l))),(28,.t (rd k' m ((C.drop (p * 2)).take (m * 2))))]).set 29 (.t (pb true)),ofL []⟩ [0,1,2,4,29] [] = ⟨slOf 31 [(0,.t (.raw (yldV l))),(1,.ip 1 [rd k' N C]),(2,.ip 1 [pi 10]),(4,.t (pi p)),(29,.t (pb true))],ofL []⟩:=by
          simp
        simp only at h8
        rw [e8] at h8
        exact h8.toI
      refine opsT (id:=4) [] 11 [0,1,2,4,30] [] ⟨slOf 31 [(0,.t (.raw (yldV l))),(1,.ip 1 [rd k' N C]),(2,.ip 1 [pi 10]),(4,.t (pi p)),(30,.t (pb false))],ofL []⟩ h0 hs8 (by kernel_rfl) (by
        intro K hK
        simp
        refine hK _ ?_
        simp) ?_
      intro a9 w9 L9 hs9
      have hJ9:=hJg (i + 1) w6 w9 hJ6 hs9.keeps.below hs9.keeps.drawn
      have hs9':=hs9.toI
      obtain ⟨u30,q30,r30⟩:=Sim.slot (i:=30) hs9' (by decide)
      have r30':SVR (tsz Tryz.prog) (fun _ => none) w9 I u30 (.t (pb false)):=r30
      simp only [SVR,Im] at r30'
      have hc9:a9.eval (.tmp 30) = .bool false:=by
        simp only [Act.eval,Array.getD_eq_getD_getElem?,q30,r30',Option.getD_some]
      refine wpIn_cond_false hc9 (wpIn_skip ?_)
      have wi:IntKind.i64.wrap ((p:Int) + 10) = ((p + 10:Nat):Int):=wrap64 (by omega) (by omega)
      refine regT [] [0,1,2,4] [] ⟨slOf 31 [(0,.t (.raw (yldV l))),(1,.ip 1 [rd k' N C]),(2,.ip 1 [pi 10]),(4,.t (pi ((p + 10:Nat):Int)))],ofL []⟩ h0 hs9' (by kernel_rfl) (by
        intro K hK
        simp [wi]
        refine hK _ ?_
        simp) ?_
      intro aA wA LA hsA
      have hsA':=hsA.toI
      refine ⟨⟨i + 1,p + 10,by omega,by omega,hJg (i + 1) w9 wA hJ9 hsA.keeps.below hsA.keeps.drawn,hsA'⟩,?_⟩
      rw [hmu aA wA (p + 10) hsA']
      omega
    · rw [decide_eq_false hlt] at hc
      refine wpIn_cond_false hc (wpIn_exit ?_)
      have hi':i = (N + 9) / 10:=by omega
      subst hi'
      simp only [Exit.then,Exit.inBlock,if_true]
      exact ⟨hs3'.nodef,_,results_none rfl _ _ _,⟨_,rfl⟩,hJ3⟩
theorem ok_Chunk_px (k N:Nat) (C:List PT):CallOK Tryz.prog 28 [.c (rd k N C),.c (pi 10)] (.clo 67 [.sl 0 33 1 [rd k N C],.sl 0 3 1 [pi 10]]) [.c (rd k N C),.c (pi 10)]:=by
  refine okC (fn:=Tryz.f28) 67 h0 Tryz.func28 (by kernel_rfl) rfl Tryz.ntmps28 Tryz.results28 (by simp) ?_
  refine ewr_sound (M:=[]) h0 ?_
  simp
  rfl
theorem chunk_px_cf (args:Array Value) (w:World):(callFunc 67 args).run Tryz.prog w = .ok (.enter 67 args) w:=by
  have h1 : Tryz.f67.name ≠ "runtime.NumGoroutine" := by
    have : (Tryz.f67.name == "runtime.NumGoroutine") = false := by kernel_rfl
    simpa using this
  simp only [callFunc,Tryz.func67]
  simp [h1]
  intro hb
  cases hb
theorem ok_IndexFunc_IntS (k q g:Nat) (caps:List (List PT)) (p:(List Int) → Bool) (xs:List (List Int)) (ha:xs.length ≤ 140737488351232)
    (hg:∀ x ∈ xs,CallOK Tryz.prog g (.c (rd k x.length (x.map pi)) :: caps.map (PV.ip q)) (.c (pb (p x))) (.c (rd k x.length (x.map pi)) :: caps.map (PV.ip q))) :
    CallOK Tryz.prog 63 [.c (rd k xs.length (xs.map (cIntSi k))),.c (.fn q g caps)] (.c (pi (idxOf p xs))) [.c (rd k xs.length (xs.map (cIntSi k))),.c (.fn q g caps)]:=by
  refine okS (fn:=Tryz.f63) [] h0 Tryz.func63 (by kernel_rfl) rfl Tryz.ntmps63 Tryz.results63 (by simp) ?_
  simp
  refine loopS [0,1,7,8] [] (fun n st => ∃ (i:Nat),i + n = xs.length ∧ (∀ (j:Nat) (hj:j < i) (hj':j < xs.length),p xs[j] = false) ∧ st = ⟨slOf 19 [(0,.t (rd k xs.length (xs.map (cIntSi k)))),(1,.t (.fn q g caps)),(7,.t (pi xs.length)),(8,.t (pi i))],ofL []⟩) xs.length ?_ ?_
  · rintro Inv hI
    simp
    subst hI
    exact ⟨0,by omega,by intro j hj; omega,rfl⟩
  · rintro Inv hI n st ⟨i,hi,hall,rfl⟩
    refine ewr_sound (M:=[]) h0 ?_
    simp
    refine brn_app (fun h => ?_) (fun h => ?_)
    · simp at h
      simp [h]
      refine Inv_intro (hg _ (List.getElem_mem h)) ?_
      simp
      refine brn_app (fun h2 => ?_) (fun h2 => ?_)
      · simp
        exact (idxOf_hit p xs i h h2 fun j hj => hall j hj (by omega)).symm
      · simp
        subst hI
        refine Less_mk (n - 1) (by omega) ⟨i + 1,by omega,?_,by rw [wrNext i (by omega)]⟩
        intro j hj hj'
        by_cases hji:j = i
        · subst hji; exact h2
        · exact hall j (by omega) hj'
    · simp at h
      simp
      exact (idxOf_no p xs fun j hj => hall j (by omega) hj).symm
theorem idxOf_find {α:Type} (p:α → Bool) (xs:List α):(idxOf p xs = -1 ∧ xs.findIdx? p = none) ∨ ∃ (i:Nat) (h:i < xs.length),idxOf p xs = i ∧ xs.findIdx? p = some i:=by
  unfold idxOf
  cases h:xs.findIdx? p with
  | none => exact .inl ⟨rfl,rfl⟩
  | some i =>
    have h':=h
    rw [List.findIdx?_eq_some_iff_getElem] at h'
    exact .inr ⟨i,h'.1,rfl,rfl⟩
theorem un_IntSS (xs:List (List Int)):PT.unownL (xs.map (cIntSo)) = (xs.map (cIntSi 0)):=by
  rw [unownL_map]
  congr 1
  funext r
  simp [cIntSo,cIntSi,rd]
theorem uni_IntSS (k:Nat) (xs:List (List Int)):PT.unownL (xs.map (cIntSi k)) = (xs.map (cIntSi 0)):=by
  rw [unownL_map]
  congr 1
  funext r
  simp [cIntSo,cIntSi,rd]
theorem nt_IntSS (xs:List (List Int)):PT.noTmpL (xs.map (cIntSo)) = true:=noTmpL_map _ xs fun r => by simp [cIntSo]
theorem nti_IntSS (k:Nat) (xs:List (List Int)):PT.noTmpL (xs.map (cIntSi (k + 1))) = true:=noTmpL_map _ xs fun r => by simp [cIntSi,rd]
attribute [simp] un_IntSS uni_IntSS nt_IntSS nti_IntSS
def mk_IntSS (xs:List (List Int)) (k:Int):List (List Int) × Int:=mkR mk_IntS xs k
theorem mk_IntSS_len (xs:List (List Int)) (k:Int):(mk_IntSS xs k).1.length = xs.length:=mkR_len _ xs k
attribute [simp] mk_IntSS_len
theorem ok_groupsOf (k:Nat) (l:List GRoute) (hl:routesOK l) (h20:l.length ≤ 20):CallOK Tryz.prog 25 [.c (rd k l.length (l.flatMap (GRoute.ci k)))] (.c (.sl 0 34 (groupsL l).length ((groupsL l).map cIntSo))) [.c (rd k l.length (l.flatMap (GRoute.ci k)))]:=by
  refine okS (fn:=Tryz.f25) [] h0 Tryz.func25 (by kernel_rfl) rfl Tryz.ntmps25 Tryz.results25 (by simp) ?_
  simp
  refine ewp_sw (.op 1 0 0) (.op 7 4 0) rfl rfl ?_
  simp
  refine loopS [1,3,8,9,10] [.op 7 4 0,.op 0 0 0] (fun m st => ∃ (i:Nat),i + m = l.length ∧ st = ⟨slOf 37 [(1,.ptr ⟨.op 0 0 0,[]⟩ 0),(3,.ref ⟨.op 7 4 0,[]⟩ 0 (groupsN l i).length),(8,.t (rd k l.length (l.flatMap (GRoute.ci k)))),(9,.t (pi l.length)),(10,.t (pi i))],ofL [(.op 0 0 0,.sl 0 23 1 [rd k l.length (l.flatMap (GRoute.ci k))]),(.op 7 4 0,.sl 0 34 (groupsN l i).length ((groupsN l i).map cIntSo))]⟩) l.length ?_ ?_
  · rintro Inv hI
    simp
    subst hI
    exact ⟨0,by omega,rfl⟩
  · rintro Inv hI m st ⟨i,hi,rfl⟩
    have hG:=groupsN_ok l i
    have hS:=groupsN_succ l i
    generalize hGe:groupsN l i = G at hG hS ⊢
    obtain ⟨hGl,hGx⟩:=hG
    refine ewr_sound (M:=[]) h0 ?_
    simp
    refine brn_app (fun a => ?_) (fun a => ?_)
    · simp at a
      have hd:=fm_drop (GRoute.ci k) 8 (fun _ => rfl) l i a
      have hlen:=fm_len (GRoute.ci k) 8 (fun _ => rfl) l
      have hlt:i * 8 < l.length * 8:=by omega
      have hr:=hl.2 _ (List.getElem_mem a)
      have hS':=hS a
      simp [a,hd,hlen,hlt,un_IntSS]
      have hcc:=ok_IndexFunc_IntS 0 1 64 [[rd k l.length (l.flatMap (GRoute.ci k))],GRoute.ci k l[i]] (pG l l[i].Attrs) G (by omega) (fun g hg => by
        obtain ⟨⟨h,t,e⟩,_,hb⟩:=hGx g hg
        have:=hb h (by rw [e]; simp)
        exact ok_groupsOf1 1 0 k l hl l[i] hr g ⟨h,t,e,by omega,by omega⟩)
      simp at hcc
      refine Inv_intro hcc ?_
      simp
      have hxs:∀ x ∈ G,x.length ≤ i:=fun g hg => (hGx g hg).2.1
      rcases idxOf_find (pG l l[i].Attrs) G with ⟨e1,e2⟩ | ⟨q,hq,e1,e2⟩
      · have hb1:(G.length + 1) * 24 ≤ 140737488355328:=by omega
        have hb2:G.length ≤ 9223372036854775806:=by omega
        simp [e1,hb1,hb2]
        have hst:stepG l G i l[i].Attrs = G ++ [[(i:Int)]]:=by simp only [stepG,e2]
        subst hI
        refine Less_mk (m - 1) (by omega) ⟨i + 1,by omega,?_⟩
        rw [wrNext i (by omega),hS',hst]
        simp [cIntSo]
      · have hn:¬ (q:Int) < 0:=by omega
        have hxq:=hxs _ (List.getElem_mem hq)
        have hst:stepG l G i l[i].Attrs = G.set q (G[q] ++ [(i:Int)]):=by simp only [stepG,e2,List.getElem?_eq_getElem hq,Option.getD_some]
        have hsp:G.map cIntSo = (G.take q).map cIntSo ++ cIntSo G[q] :: (G.drop (q + 1)).map cIntSo:=by
          rw [← List.map_cons,← List.drop_eq_getElem_cons hq,← List.map_append,List.take_append_drop]
        have hsp2:(G.set q (G[q] ++ [(i:Int)])).map cIntSo = (G.take q).map cIntSo ++ cIntSo (G[q] ++ [(i:Int)]) :: (G.drop (q + 1)).map cIntSo:=by
          rw [List.set_eq_take_append_cons_drop,if_pos hq,List.map_append,List.map_cons]
        have hAl:((G.take q).map cIntSo).length = q:=by simp; omega
        have hll:G.length = ((G.take q).map cIntSo).length + ((G.drop (q + 1)).map cIntSo).length + 1:=by simp; omega
        rw [hsp]
        generalize (G.take q).map cIntSo = A at hsp2 hAl hll ⊢
        generalize (G.drop (q + 1)).map cIntSo = D at hsp2 hll ⊢
        have hb1:(G[q].length + 1) * 8 ≤ 140737488355328:=by omega
        have hb2:G[q].length ≤ 9223372036854775806:=by omega
        simp [e1,hn,hq,hAl,hb1,hb2]
        subst hI
        refine Less_mk (m - 1) (by omega) ⟨i + 1,by omega,?_⟩
        rw [wrNext i (by omega),hS',hst,hsp2,List.length_set]
        simp [cIntSo]
    · simp at a
      have hil:i = l.length:=by omega
      subst hil
      have hGe':groupsL l = G:=hGe
      rw [hGe']
      simp
end Go.V
