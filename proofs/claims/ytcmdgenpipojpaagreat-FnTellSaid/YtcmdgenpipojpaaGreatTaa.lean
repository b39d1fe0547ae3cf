/- What functions of the seat's program do, each proved of its code, under the bounds that its theorem names. -/
import Derived.Test.YtcmdgenpipojpaaGreatFacts
set_option linter.all false
namespace Go.V
open Go.Proofs
set_option maxHeartbeats 1000000
set_option maxRecDepth 10000
set_option linter.unusedSimpArgs false
set_option linter.unusedVariables false
def wb (c:Int):Bool:=decide (97 ≤ c ∧ c ≤ 122) || decide (48 ≤ c ∧ c ≤ 57) || decide (c = 45)
def curP (code:List Int) (a s:Int):PT:=.sl 0 49 1 [rd 1 code.length (code.map pu),pi a,.raw (.int .u64 s)]
theorem nt_pu:∀ l:List Int,PT.noTmpL (l.map pu) = true
  | [] => by simp [PT.noTmpL]
  | x :: l => by simp [PT.noTmpL,PT.noTmp,nt_pu l]
attribute [simp] nt_pu
def codeOK (code:List Int):Prop:=code.length ≤ 140737488351232 ∧ ∀ c ∈ code,0 ≤ c ∧ c ≤ 255
def seedN (s b:Int):Int:=IntKind.wrap .u64 (IntKind.wrap .u64 (IntKind.wrap .u64 (s * 6364136223846793005) + IntKind.wrap .u64 b) + 1442695040888963407)
def codeN (x:Int):Int:=IntKind.i64.wrap (bitAnd IntKind.u64 (x.fdiv (2 ^ min 40 IntKind.u64.bits)) 255)
theorem and_range (y:Int):0 ≤ IntKind.i64.wrap (bitAnd IntKind.u64 y 255) ∧ IntKind.i64.wrap (bitAnd IntKind.u64 y 255) ≤ 255:=by
  have h1:(BitVec.ofInt IntKind.u64.bits y &&& BitVec.ofInt IntKind.u64.bits 255).toNat ≤ 255:=by
    rw [BitVec.toNat_and]
    exact Nat.and_le_right
  have h2:∀ n:Fin 256,IntKind.i64.wrap (IntKind.u64.wrap (n.1:Int)) = (n.1:Int):=by decide
  unfold bitAnd
  generalize (BitVec.ofInt IntKind.u64.bits y &&& BitVec.ofInt IntKind.u64.bits 255).toNat = n at h1
  have h3:=h2 ⟨n,by omega⟩
  simp only at h3
  rw [h3]
  omega
theorem ok_next (code:List Int) (hc:codeOK code) (a s:Int) (ha:0 ≤ a) (ha2:a ≤ 4000000):∃ r s',(0 ≤ r ∧ r ≤ 255) ∧ CallOK Tryz.prog 59 [.bp (curP code a s)] (.c (pi r)) [.bp (curP code (a + 1) s')]:=by
  obtain ⟨hl,hc⟩:=hc
  have w1:IntKind.i64.wrap (a + 1) = a + 1:=wrap64 (by omega) (by omega)
  unfold curP
  by_cases c1:a < code.length
  · have hat:a.toNat < code.length:=by omega
    have hb:=hc _ (List.getElem_mem hat)
    have hd:List.drop a.toNat (code.map pu) = pu code[a.toNat] :: List.drop (a.toNat + 1) (code.map pu):=by
      rw [List.drop_eq_getElem_cons (by rw [List.length_map]; exact hat),List.getElem_map]
    generalize code[a.toNat] = b at hb hd
    have wb:IntKind.i64.wrap b = b:=wrap64 (by omega) (by omega)
    have c2:a + 1 ≤ (code.length:Int):=by omega
    refine ⟨b,seedN s b,hb,?_⟩
    refine okS (fn:=Tryz.f59) [] h0 Tryz.func59 (by kernel_rfl) rfl Tryz.ntmps59 Tryz.results59 (by simp) ?_
    simp
    refine drawP (tabEnv [] []) [⟨[.arg 0 0],allD 62,true⟩,⟨[.arg 0 0],allD 62,true⟩,⟨[.arg 0 0],allD 62,true⟩,⟨[.arg 0 0],allD 62,true⟩,⟨[.arg 0 0],allD 62,true⟩,⟨[.arg 0 0],allD 62,true⟩,⟨[.arg 0 0],allD 62,true⟩,⟨[.arg 0 0],allD 62,true⟩,⟨[],allD 62,true⟩,⟨[],allD 62,true⟩] h0 hm (tabEnv_ok tab_nil) (by kernel_rfl) (by kernel_rfl) ?_
    simp [c1]
    refine drawP (tabEnv [] []) [⟨[.arg 0 0],allD 62,true⟩,⟨[.arg 0 0],allD 62,true⟩,⟨[.arg 0 0],allD 62,true⟩,⟨[.arg 0 0],allD 62,true⟩,⟨[.arg 0 0],allD 62,true⟩,⟨[.arg 0 0],allD 62,true⟩,⟨[.arg 0 0],allD 62,true⟩,⟨[.arg 0 0],allD 62,true⟩,⟨[],allD 62,true⟩,⟨[],allD 62,true⟩,⟨[],allD 62,true⟩,⟨[],allD 62,true⟩] h0 hm (tabEnv_ok tab_nil) (by kernel_rfl) (by kernel_rfl) ?_
    simp [c1,ha,hat,hd,wb,w1]
    refine drawP (tabEnv [] []) [⟨[.arg 0 0],allD 62,true⟩,⟨[.arg 0 0],allD 62,true⟩,⟨[.arg 0 0],allD 62,true⟩,⟨[.arg 0 0],allD 62,true⟩,⟨[.arg 0 0],allD 62,true⟩,⟨[.arg 0 0],allD 62,true⟩,⟨[.arg 0 0],allD 62,true⟩,⟨[.arg 0 0],allD 62,true⟩,⟨[],allD 62,true⟩,⟨[],allD 62,true⟩] h0 hm (tabEnv_ok tab_nil) (by kernel_rfl) (by kernel_rfl) ?_
    simp [c2,seedN]
  · refine ⟨codeN (seedN s 0),seedN s 0,and_range _,?_⟩
    have c2:¬ a + 1 ≤ (code.length:Int):=by omega
    refine okS (fn:=Tryz.f59) [] h0 Tryz.func59 (by kernel_rfl) rfl Tryz.ntmps59 Tryz.results59 (by simp) ?_
    simp
    refine drawP (tabEnv [] []) [⟨[.arg 0 0],allD 62,true⟩,⟨[.arg 0 0],allD 62,true⟩,⟨[.arg 0 0],allD 62,true⟩,⟨[.arg 0 0],allD 62,true⟩,⟨[.arg 0 0],allD 62,true⟩,⟨[.arg 0 0],allD 62,true⟩,⟨[.arg 0 0],allD 62,true⟩,⟨[.arg 0 0],allD 62,true⟩,⟨[],allD 62,true⟩,⟨[],allD 62,true⟩] h0 hm (tabEnv_ok tab_nil) (by kernel_rfl) (by kernel_rfl) ?_
    simp [c1,w1]
    refine drawP (tabEnv [] []) [⟨[.arg 0 0],allD 62,true⟩,⟨[.arg 0 0],allD 62,true⟩,⟨[.arg 0 0],allD 62,true⟩,⟨[.arg 0 0],allD 62,true⟩,⟨[.arg 0 0],allD 62,true⟩,⟨[.arg 0 0],allD 62,true⟩,⟨[.arg 0 0],allD 62,true⟩,⟨[.arg 0 0],allD 62,true⟩,⟨[],allD 62,true⟩,⟨[],allD 62,true⟩] h0 hm (tabEnv_ok tab_nil) (by kernel_rfl) (by kernel_rfl) ?_
    simp [c2,seedN,codeN]
theorem ok_pick (code:List Int) (hc:codeOK code) (n:Int) (hn:n ≤ 200) (hn0:1 ≤ n) (a s:Int) (ha:0 ≤ a) (ha2:a ≤ 4000000):∃ r a' s',(0 ≤ r ∧ r ≤ n - 1) ∧ (a ≤ a' ∧ a' ≤ a + 1) ∧ CallOK Tryz.prog 18 [.bp (curP code a s),.c (pi n)] (.c (pi r)) [.bp (curP code a' s'),.c (pi n)]:=by
  by_cases c1:n ≤ 1
  · refine ⟨0,a,s,by omega,by omega,?_⟩
    refine okS (fn:=Tryz.f18) [(59,[1])] h0 Tryz.func18 (by kernel_rfl) rfl Tryz.ntmps18 Tryz.results18 (by simp) ?_
    simp [c1,curP]
  · obtain ⟨x,s',hx,hcall⟩:=ok_next code hc a s ha ha2
    have c2:¬ 200 < n:=by omega
    have c3:¬ n = 0:=by omega
    have h1:0 ≤ x.tmod n:=Int.tmod_nonneg n hx.1
    have h2:x.tmod n < n:=Int.tmod_lt_of_pos x (by omega)
    have w1:IntKind.i64.wrap (x.tmod n) = x.tmod n:=wrap64 (by omega) (by omega)
    refine ⟨x.tmod n,a + 1,s',by omega,by omega,?_⟩
    refine okS (fn:=Tryz.f18) [(59,[1])] h0 Tryz.func18 (by kernel_rfl) rfl Tryz.ntmps18 Tryz.results18 (by simp) ?_
    unfold curP at hcall ⊢
    simp [c1]
    refine Inv_intro hcall ?_
    simp [c2,c3,w1]
theorem ok_one (code:List Int) (hc:codeOK code) (n:Int) (hn:n ≤ 200) (hn0:1 ≤ n) (a s:Int) (ha:0 ≤ a) (ha2:a ≤ 4000000):∃ r a' s',(a ≤ a' ∧ a' ≤ a + 1) ∧ CallOK Tryz.prog 50 [.bp (curP code a s),.c (pi n)] (.c (pb r)) [.bp (curP code a' s'),.c (pi n)]:=by
  obtain ⟨x,a',s',hx,ha',hcall⟩:=ok_pick code hc n hn hn0 a s ha ha2
  refine ⟨decide (x = 0),a',s',ha',?_⟩
  refine okS (fn:=Tryz.f50) [(18,[1])] h0 Tryz.func50 (by kernel_rfl) rfl Tryz.ntmps50 Tryz.results50 (by simp) ?_
  unfold curP at hcall ⊢
  simp
  refine Inv_intro hcall ?_
  simp
theorem ok_among (q:Nat) (code:List Int) (hc:codeOK code) (l:List Int) (hl:l.length ≤ 200) (hl0:1 ≤ l.length) (a s:Int) (ha:0 ≤ a) (ha2:a ≤ 4000000):∃ r a' s',r ∈ l ∧ (a ≤ a' ∧ a' ≤ a + 1) ∧ CallOK Tryz.prog 94 [.bp (curP code a s),.c (rd q l.length (l.map pi))] (.c (pi r)) [.bp (curP code a' s'),.c (rd q l.length (l.map pi))]:=by
  obtain ⟨x,a',s',hx,ha',hcall⟩:=ok_pick code hc (l.length:Int) (by omega) (by omega) a s ha ha2
  have hat:x.toNat < l.length:=by omega
  have hd:List.drop x.toNat (l.map pi) = pi l[x.toNat] :: List.drop (x.toNat + 1) (l.map pi):=by
    rw [List.drop_eq_getElem_cons (by rw [List.length_map]; exact hat),List.getElem_map]
  have hm':=List.getElem_mem hat
  have hx2:x < l.length:=by omega
  generalize l[x.toNat] = r at hd hm'
  refine ⟨r,a',s',hm',ha',?_⟩
  refine okS (fn:=Tryz.f94) [(18,[1])] h0 Tryz.func94 (by kernel_rfl) rfl Tryz.ntmps94 Tryz.results94 (by simp) ?_
  unfold curP at hcall ⊢
  simp
  refine Inv_intro hcall ?_
  simp [hx.1,hx2,hat,hd]
theorem open_U8 {n:Nat} {qs:List PT} (h:TyC Tryz.prog (n + 1) 5 qs):∃ x:Int,qs = [pu x] ∧ (0 ≤ x ∧ x ≤ 255):=by
  unfold TyC at h
  rw [Tryz.underlying5] at h
  simp only at h
  obtain ⟨m,rfl,hm⟩:=h
  refine ⟨m,rfl,?_⟩
  simp [Lit.wf] at hm
  have e1:IntKind.u8.min = 0:=by decide
  have e2:IntKind.u8.max = 255:=by decide
  rw [e1,e2] at hm
  exact hm
theorem open_each {α:Type} {f:α → List PT} {q:α → Prop}:∀ {cells:List (List PT)},(∀ c ∈ cells,∃ x,c = f x ∧ q x) → ∃ xs:List α,cells = xs.map f ∧ ∀ x ∈ xs,q x
  | [],_ => ⟨[],rfl,by simp⟩
  | c :: cs,h => by
    obtain ⟨x,hx,hq⟩:=h c (by simp)
    obtain ⟨xs,hxs,hqs⟩:=open_each (cells:=cs) fun d hd => h d (by simp [hd])
    refine ⟨x :: xs,by rw [hx,hxs]; rfl,fun y hy => ?_⟩
    rcases List.mem_cons.1 hy with rfl | hy
    · exact hq
    · exact hqs y hy
theorem open_flat {α:Type} (f:α → PT):∀ xs:List α,(xs.map fun x => [f x]).flatten = xs.map f
  | [] => rfl
  | x :: xs => by simp [open_flat f xs]
theorem open_ByteS {n:Nat} {qs:List PT} (h:TyC Tryz.prog (n + 2) 22 qs):∃ x:(List Int),qs = [rd 1 x.length (x.map pu)] ∧ codeOK x:=by
  unfold TyC at h
  rw [Tryz.underlying22] at h
  simp only at h
  obtain ⟨cells,rfl,hl,hc⟩:=h
  obtain ⟨xs,rfl,hx⟩:=open_each (f:=fun x:Int => [pu x]) (q:=fun x => 0 ≤ x ∧ x ≤ 255) (fun c hcc => open_U8 (hc c hcc))
  refine ⟨xs,?_,?_⟩
  · simp only [List.length_map,open_flat]
  · have e1:Tryz.prog.bytesOf 5 = 1:=by kernel_rfl
    rw [e1,List.length_map] at hl
    have e2:reachBytes = 140737488351232:=rfl
    rw [e2] at hl
    exact ⟨by omega,hx⟩
theorem exists_run {α:Type} (N:Nat) (x0:α) (I:Nat → α → Prop) (R:α → α → Prop) (h0:I 0 x0) (hs:∀ i x,i < N → I i x → ∃ y,R x y ∧ I (i + 1) y):∃ run:Nat → α,run 0 = x0 ∧ (∀ i,i ≤ N → I i (run i)) ∧ ∀ i,i < N → R (run i) (run (i + 1)):=by
  classical
  obtain ⟨run,hr⟩:∃ run:Nat → α,run = fun n => Nat.rec x0 (fun i x => if h:∃ y,R x y ∧ I (i + 1) y then Classical.choose h else x) n:=⟨_,rfl⟩
  have hz:run 0 = x0:=by subst hr; rfl
  have hst:∀ i,run (i + 1) = if h:∃ y,R (run i) y ∧ I (i + 1) y then Classical.choose h else run i:=fun i => by subst hr; rfl
  have hI:∀ i,i ≤ N → I i (run i):=by
    intro i
    induction i with
    | zero => intro _; rw [hz]; exact h0
    | succ i ih =>
      intro hi
      have h1:=hs i (run i) (by omega) (ih (by omega))
      rw [hst,dif_pos h1]
      exact (Classical.choose_spec h1).2
  refine ⟨run,hz,hI,fun i hi => ?_⟩
  have h1:=hs i (run i) hi (hI i (by omega))
  rw [hst,dif_pos h1]
  exact (Classical.choose_spec h1).1
/-! ### a drawn region with one pair that does not change places: both orders are reckoned -/
section
open Go Go.RowKit
variable {P:Program} {ops:Array Oper} {Q:Exit → Act → World → Prop} {E:Env} {r:Nat}
def runI (E:Env) (P:Program) (r:Nat) (ops:Array Oper) (xs:List OI):List Nat → St → Option St
  | [],st => some st
  | k :: l,st => nxt (stMi E P r ops xs k st) (runI E P r ops xs l)
/-! plain moves, checks for nil and fields' addresses, taken ahead of all else -/
def preA (P:Program) (ms:List Nat):Nat → List Oper → St → Option St
  | _,[],st => some st
  | k,o :: l,st => if ms.contains k = true then (match o.op,o.guard with
      | .move x,none => match opv st x with
        | some s => preA P ms (k + 1) l (st.set o.dst s)
        | none => none
      | .nilCheck x,none => match opv st x with
        | some (.ptr pl off) => preA P ms (k + 1) l (st.set o.dst (.ptr pl off))
        | _ => none
      | .fieldAddr t x j,none => match opv st x,tfield P t j with
        | some (.ptr pl off),some (fo,ft) => if 0 < tsz P ft then preA P ms (k + 1) l (st.set o.dst (.ptr pl (off + fo))) else none
        | _,_ => none
      | _,_ => none) else preA P ms (k + 1) l st
/-! the two orders told as runs through the list -/
def lexRunB (ms:List Nat) (a b:Nat) (E:Env) (P:Program) (r:Nat) (ops:Array Oper):Option (OI × Oper) → List OI → List Oper → Nat → St → Option St
  | _,_,[],_,st => some st
  | _,[],_ :: _,_,_ => none
  | pd,x :: xs,o :: rest,k,st => if ms.contains k = true then lexRunB ms a b E P r ops pd xs rest (k + 1) st else if k = a then lexRunB ms a b E P r ops (some (x,o)) xs rest (k + 1) st else if k = b then (match pd with
      | some (y,q) => nxt (stM E P r ops x b o st) fun st1 => nxt (stM E P r ops y a q st1) (lexRunB ms a b E P r ops none xs rest (k + 1))
      | none => none) else nxt (stM E P r ops x k o st) (lexRunB ms a b E P r ops pd xs rest (k + 1))
theorem lexRunB_nil {ms:List Nat} {a b:Nat} {pd:Option (OI × Oper)} {xs:List OI} {k:Nat} {st:St}:lexRunB ms a b E P r ops pd xs [] k st = some st:=by cases xs <;> rfl
theorem lexRunB_skip {ms:List Nat} {a b:Nat} {pd:Option (OI × Oper)} {x:OI} {xs:List OI} {o:Oper} {rest:List Oper} {k:Nat} {st:St} (h:ms.contains k = true):lexRunB ms a b E P r ops pd (x :: xs) (o :: rest) k st = lexRunB ms a b E P r ops pd xs rest (k + 1) st:=by
  simp only [lexRunB]
  rw [if_pos h]
theorem lexRunB_hold {ms:List Nat} {a b:Nat} {pd:Option (OI × Oper)} {x:OI} {xs:List OI} {o:Oper} {rest:List Oper} {st:St} (h:ms.contains a = false):lexRunB ms a b E P r ops pd (x :: xs) (o :: rest) a st = lexRunB ms a b E P r ops (some (x,o)) xs rest (a + 1) st:=by
  simp only [lexRunB,h,Bool.false_eq_true,if_false,if_true]
theorem lexRunB_give {ms:List Nat} {a b:Nat} {x y:OI} {xs:List OI} {o q:Oper} {rest:List Oper} {st:St} (h:ms.contains b = false) (hab:decide (b = a) = false):lexRunB ms a b E P r ops (some (y,q)) (x :: xs) (o :: rest) b st = nxt (stM E P r ops x b o st) fun st1 => nxt (stM E P r ops y a q st1) (lexRunB ms a b E P r ops none xs rest (b + 1)):=by
  have hab':¬ b = a:=by simpa using hab
  simp only [lexRunB,h,hab',Bool.false_eq_true,if_false,if_true]
theorem lexRunB_take {ms:List Nat} {a b:Nat} {pd:Option (OI × Oper)} {x:OI} {xs:List OI} {o:Oper} {rest:List Oper} {k:Nat} {st:St} (h:(ms.contains k || (decide (k = a) || decide (k = b))) = false):lexRunB ms a b E P r ops pd (x :: xs) (o :: rest) k st = nxt (stM E P r ops x k o st) (lexRunB ms a b E P r ops pd xs rest (k + 1)):=by
  simp only [Bool.or_eq_false_iff,decide_eq_false_iff_not] at h
  simp only [lexRunB]
  rw [if_neg (by simp only [h.1,Bool.false_eq_true,not_false_eq_true]),if_neg h.2.1,if_neg h.2.2]
end
attribute [simp] preA lexRunB_nil lexRunB_skip lexRunB_hold lexRunB_give lexRunB_take
end Go.V
