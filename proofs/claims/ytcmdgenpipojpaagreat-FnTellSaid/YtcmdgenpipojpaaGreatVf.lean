/- The road V: code reckoned over trees of values, proved sound against the model once. No conditions. -/
import Derived.Test.YtcmdgenpipojpaaGreatVe
import Derived.Lib.Join
set_option linter.all false
namespace Go.V
open Go.RowKit
set_option linter.unusedSimpArgs false
set_option linter.unusedVariables false

/-! ### loops over what is told one by one -/
section
variable {P:Program} {Q:Exit → St → Prop} {c:Code} {n:Nat}
theorem drop_slOf (sl:List (Nat × SV)) (l:List (Id × PT)) (keep:List Nat) (ids:List Id):(St.mk (slOf n sl) (ofL l)).drop keep ids = ⟨slOf n (killL (fun q => match q.id with | .arg _ _ => false | id => !ids.contains id) (slPick sl keep)),ofL (dropL ids l)⟩:=by
  rw [St.drop_ofL,slOf_keep,slOf_kill]
  all_goals rfl
/-- What stands at a loop's head, and behind a round: not looked into by the reckoning. -/
def Head (Inv:Nat → St → Prop) (m:Nat) (st:St):Prop:=Inv m st
def Less (Inv:Nat → St → Prop) (m:Nat) (st:St):Prop:=∃ m',m' < m ∧ Inv m' st
def Rnd (Inv:Nat → St → Prop) (m:Nat) (keep:List Nat) (ids:List Id) (st:St):Prop:=Less Inv m (st.drop keep ids)
theorem Less_mk {Inv:Nat → St → Prop} {m:Nat} {st:St} (m':Nat) (h:m' < m) (hi:Inv m' st):Less Inv m st:=⟨m',h,hi⟩
theorem Rnd_eq {Inv:Nat → St → Prop} {m:Nat} {keep:List Nat} {ids:List Id} {st:St}:Rnd Inv m keep ids st = Less Inv m (st.drop keep ids):=rfl
/-- A loop: of the slots and names these are kept. -/
theorem loopS (keep:List Nat) (ids:List Id) (J:Nat → St → Prop) (m:Nat) {st:St} (h:∀ Inv,Inv = J → Head Inv m (st.drop keep ids)) (round:∀ Inv,Inv = J → ∀ m st,J m st → ewp P c (eThen (Rnd Inv m keep ids) Q) st):ewp P (.loop c) Q st :=
  ewp_loopk keep ids J m (h J rfl) fun m st hj => round J rfl m st hj
end
theorem sw_eq (a b i:Id):Id.sw a b i = if i = a then b else if i = b then a else i:=rfl
theorem pl_sw (a b i:Id) (p:List Nat):Pl.sw a b ⟨i,p⟩ = ⟨Id.sw a b i,p⟩:=rfl
attribute [congr] Inv_congr onPrep_congr grd_congr stepR_congr runR_congr ewr_congr ewp_congr resOK_congr
attribute [simp ↓] onPrep_some grd_tt grd_ff grd_tf grd_ft
attribute [simp] slGet_nil slGet_cons slOf_at slOf_set slOf_kill slOf_keep slOf_restr slOf_merge slOf_mergeQ touchR mergeQ killL slPick restrL mergeN mergeR mergeL entL
attribute [simp] stClear stAppendR Pl.below PT.hollow isSliceV zRef
attribute [simp] nilOp nilCmp nilK isSlT stConv bytesOf gcond gslot_b gslot_u onPrep_some grd_tt grd_ff grd_tf grd_ft nxt_some onSome_some brn_t brn_f runR_nil runR_cons stepR isCall prepCall mdGet finCall
attribute [simp] ewr_skip ewr_seq ewr_cond ewr_block ewr_exit ewr_ret ewr_region ewr_draw ewr_loop
attribute [simp] resOK_some PostS_normal PostS_ret stRetS nle_refl nleL_refl nle_own nle_raw nle_imm nle_fn nle_hole nleL_nil nleL_cons pnle_c pnle_agg pnle_tup pnle_bp pnle_ip pnleL_nil pnleL_cons
attribute [simp] Call.operands lexRunL_nil lexRunL_cons tabEnv_call tabEnv_mode tabCall_hit tabCall_miss sw_eq pl_sw SV.sw SV.swL swN swS
attribute [simp] Rnd_eq St.drop_ofL drop_slOf
end Go.V

namespace Go.V
set_option linter.unusedSimpArgs false
set_option linter.unusedVariables false

/-! ### cells -/
abbrev pi (n:Int):PT:=.raw (.int .i64 n)
abbrev pu (n:Int):PT:=.raw (.int .u8 n)
abbrev ps (s:ByteArray):PT:=.raw (.string s)
abbrev pb (b:Bool):PT:=.raw (.bool b)
/-- A row that is only read. -/
abbrev rd (k:Nat) (n:Nat) (cs:List PT):PT:=.sl (k + 1) 0 n cs
theorem fm_len {α:Type} (f:α → List PT) (m:Nat) (hf:∀ a,(f a).length = m):∀ xs:List α,(xs.flatMap f).length = xs.length * m
  | [] => by simp
  | x :: xs => by simp only [List.flatMap_cons,List.length_append,hf,fm_len f m hf xs,List.length_cons,Nat.add_mul]; omega
theorem fm_drop {α:Type} (f:α → List PT) (m:Nat) (hf:∀ a,(f a).length = m):∀ (xs:List α) (i:Nat) (h:i < xs.length),(xs.flatMap f).drop (i * m) = f xs[i] ++ (xs.flatMap f).drop ((i + 1) * m)
  | [],i,h => by simp at h
  | x :: xs,0,_ => by simp [List.flatMap_cons,List.drop_append,hf]
  | x :: xs,i + 1,h => by
    have:=fm_drop f m hf xs i (by simpa using h)
    have e1:(i + 1) * m = m + i * m:=by rw [Nat.add_mul]; omega
    have e2:(i + 1 + 1) * m = m + (i + 1) * m:=by rw [Nat.add_mul (i + 1)]; omega
    rw [e2,e1,List.flatMap_cons,← List.drop_drop,← List.drop_drop,List.drop_left' (hf x),this,e1]
    rfl
theorem fm_take {α:Type} (f:α → List PT) (m:Nat) (hf:∀ a,(f a).length = m):∀ (xs:List α) (i:Nat),(xs.flatMap f).take (i * m) = (xs.take i).flatMap f
  | [],i => by simp
  | x :: xs,0 => by simp
  | x :: xs,i + 1 => by
    have e1:(i + 1) * m = m + i * m:=by rw [Nat.add_mul]; omega
    rw [e1,List.flatMap_cons,List.take_append,hf,List.take_of_length_le (by rw [hf]; omega),show m + i * m - m = i * m by omega,fm_take f m hf xs i]
    simp
theorem fm_dropAll {α:Type} (f:α → List PT) (m:Nat) (hf:∀ a,(f a).length = m):∀ (xs:List α) (i:Nat),(xs.flatMap f).drop (i * m) = (xs.drop i).flatMap f
  | [],i => by simp
  | x :: xs,0 => by simp
  | x :: xs,i + 1 => by
    have e1:(i + 1) * m = m + i * m:=by rw [Nat.add_mul]; omega
    rw [e1,List.flatMap_cons,← List.drop_drop,List.drop_left' (hf x),fm_dropAll f m hf xs i]
    simp
theorem unownL_map {α:Type} (f:α → PT):∀ xs:List α,PT.unownL (xs.map f) = xs.map fun a => (f a).unown
  | [] => rfl
  | x :: xs => by simp [PT.unownL,unownL_map f xs]
theorem unownL_app:∀ xs ys:List PT,PT.unownL (xs ++ ys) = PT.unownL xs ++ PT.unownL ys
  | [],ys => rfl
  | x :: xs,ys => by simp [PT.unownL,unownL_app xs ys]
theorem unownL_fm {α:Type} (f:α → List PT):∀ xs:List α,PT.unownL (xs.flatMap f) = xs.flatMap fun a => PT.unownL (f a)
  | [] => rfl
  | x :: xs => by simp [PT.unownL_eq,List.map_flatMap]
theorem noTmpL_map {α:Type} (f:α → PT):∀ xs:List α,(∀ a,(f a).noTmp = true) → PT.noTmpL (xs.map f) = true
  | [],_ => rfl
  | x :: xs,h => by simp [PT.noTmpL,h x,noTmpL_map f xs h]
theorem noTmpL_fm {α:Type} (f:α → List PT):∀ xs:List α,(∀ a,PT.noTmpL (f a) = true) → PT.noTmpL (xs.flatMap f) = true
  | [],_ => rfl
  | x :: xs,h => by
    rw [PT.noTmpL_iff]
    intro c hc
    obtain ⟨a,ha,hca⟩:=List.mem_flatMap.1 hc
    exact (PT.noTmpL_iff _).1 (h a) c hca
theorem noTmp_ps (xs:List ByteArray):PT.noTmpL (xs.map ps) = true:=noTmpL_map _ xs fun _ => rfl
theorem noTmp_pi (xs:List Int):PT.noTmpL (xs.map pi) = true:=noTmpL_map _ xs fun _ => rfl
theorem noTmp_pb (xs:List Bool):PT.noTmpL (xs.map pb) = true:=noTmpL_map _ xs fun _ => rfl
theorem unown_ps (xs:List ByteArray):PT.unownL (xs.map ps) = xs.map ps:=by rw [unownL_map]; rfl
theorem unown_pi (xs:List Int):PT.unownL (xs.map pi) = xs.map pi:=by rw [unownL_map]; rfl
theorem unown_pb (xs:List Bool):PT.unownL (xs.map pb) = xs.map pb:=by rw [unownL_map]; rfl
theorem wrNext (i:Nat) (h:i < 9223372036854775807):IntKind.wrap .i64 ((i:Int) + 1) = ((i + 1:Nat):Int):=wrap64 (by omega) (by omega)
/-! ### what a closure has captured, lent as it is -/
theorem zip_caps (q:Nat):∀ caps:List (List PT),zipModes (caps.map (SV.ip q)) [] = caps.map fun c => (SV.ip q c,0)
  | [] => rfl
  | c :: cs => by simp [zipModes,zip_caps q cs]
theorem take_caps {sz:Nat → Nat} {st:St} {ks:List Pl} (q:Nat):∀ caps:List (List PT),takeArgs sz st ks (caps.map fun c => (SV.ip q c,0)) = some (caps.map fun c => AT.lent (SV.ip q c),ks,st)
  | [] => rfl
  | c :: cs => by simp [takeArgs,takeArg,take_caps q cs]
theorem lend_caps {sz:Nat → Nat} {st:St} {ks:List Pl} (q:Nat):∀ caps:List (List PT),lendArgs sz st ks (caps.map fun c => AT.lent (SV.ip q c)) = some (caps.map (PV.ip q))
  | [] => rfl
  | c :: cs => by simp [lendArgs,lend_caps q cs,lendV,SV.uses]
theorem lendy_caps (q:Nat):∀ caps:List (List PT),(caps.map fun c => AT.lent (SV.ip q c)).any AT.lendy = false
  | [] => rfl
  | c :: cs => by simp [AT.lendy,SV.lendy]
theorem backs_caps (q:Nat):∀ caps:List (List PT),backsOf (caps.map fun c => AT.lent (SV.ip q c)) (caps.map (PV.ip q)) = some []
  | [] => rfl
  | c :: cs => by simp [backsOf,backArg,backs_caps q cs]
theorem own_caps (q:Nat):∀ caps:List (List PT),ownCells (caps.map fun c => AT.lent (SV.ip q c)) (caps.map (PV.ip q)) = []
  | [] => rfl
  | c :: cs => by simp [ownCells,own_caps q cs]
attribute [simp] zip_caps take_caps lend_caps lendy_caps backs_caps own_caps
theorem noTmpL_app:∀ xs ys:List PT,PT.noTmpL (xs ++ ys) = (PT.noTmpL xs && PT.noTmpL ys)
  | [],ys => by simp [PT.noTmpL]
  | x :: xs,ys => by simp [PT.noTmpL,noTmpL_app xs ys,Bool.and_assoc]
attribute [simp] unownL_app noTmpL_app
@[simp] theorem lendC_raw (u:Value):(PT.raw u).lendC = .raw u:=rfl
@[simp] theorem lendC_hole:PT.hole.lendC = .hole:=rfl
@[simp] theorem lendC_own (e n:Nat) (cs:List PT):(PT.sl 0 e n cs).lendC = .sl 1 0 n (PT.unownL cs):=rfl
@[simp] theorem lendC_sl (k e n:Nat) (cs:List PT):(PT.sl (k + 1) e n cs).lendC = .sl (k + 1) e n cs:=rfl
@[simp] theorem lendC_fn (k g:Nat) (cs:List (List PT)):(PT.fn k g cs).lendC = .fn k g cs:=rfl
attribute [simp] unown_ps unown_pi unown_pb noTmp_ps noTmp_pi noTmp_pb
end Go.V

namespace Go.V
open Go.RowKit
set_option linter.unusedSimpArgs false
set_option linter.unusedVariables false

/-! ### more operators -/
def bitAnd (k:IntKind) (a b:Int):Int:=k.wrap (BitVec.ofInt k.bits a &&& BitVec.ofInt k.bits b).toNat
def bitOr (k:IntKind) (a b:Int):Int:=k.wrap (BitVec.ofInt k.bits a ||| BitVec.ofInt k.bits b).toNat
def bitXor (k:IntKind) (a b:Int):Int:=k.wrap (BitVec.ofInt k.bits a ^^^ BitVec.ofInt k.bits b).toNat
section
variable {P:Program} {t:TypeId} {x y:Operand} {k:IntKind} {a b:Int} {u v:ByteArray} {c d:Bool}
theorem pr_concat (h:u.size + v.size ≤ 9223372036854775807):pureRun P (do eqGuard .add t x y (.string u) (.string v); binOp .add t (.string u) (.string v)) = some (.string (u ++ v)):=by
  have h':¬ ((9223372036854775807:Int) < (u.size:Int) + v.size):=by omega
  simp [pureRun_bind,pureRun_pure,eqGuard,binOp,Op.stringOp,h']
theorem pr_lssS:pureRun P (do eqGuard .lss t x y (.string u) (.string v); binOp .lss t (.string u) (.string v)) = some (.bool (Op.bytesLess u.toList v.toList)):=by
  simp [pureRun_bind,pureRun_pure,eqGuard,binOp,Op.stringOp]
theorem pr_gtrS:pureRun P (do eqGuard .gtr t x y (.string u) (.string v); binOp .gtr t (.string u) (.string v)) = some (.bool (!(Op.bytesLess u.toList v.toList || u.toList == v.toList))):=by
  simp [pureRun_bind,pureRun_pure,eqGuard,binOp,Op.stringOp]
theorem pr_quo (h:b ≠ 0):pureRun P (do eqGuard .quo t x y (.int k a) (.int k b); binOp .quo t (.int k a) (.int k b)) = some (.int k (k.wrap (a.tdiv b))):=by
  simp [pureRun_bind,pureRun_pure,eqGuard,binOp,Op.intDiv,h]
theorem pr_rem (h:b ≠ 0):pureRun P (do eqGuard .rem t x y (.int k a) (.int k b); binOp .rem t (.int k a) (.int k b)) = some (.int k (a.tmod b)):=by
  simp [pureRun_bind,pureRun_pure,eqGuard,binOp,Op.intDiv,h]
theorem pr_and:pureRun P (do eqGuard .and t x y (.int k a) (.int k b); binOp .and t (.int k a) (.int k b)) = some (.int k (bitAnd k a b)):=by
  simp [pureRun_bind,pureRun_pure,eqGuard,binOp,Op.intBits,bitAnd]
theorem pr_or:pureRun P (do eqGuard .or t x y (.int k a) (.int k b); binOp .or t (.int k a) (.int k b)) = some (.int k (bitOr k a b)):=by
  simp [pureRun_bind,pureRun_pure,eqGuard,binOp,Op.intBits,bitOr]
theorem pr_xor:pureRun P (do eqGuard .xor t x y (.int k a) (.int k b); binOp .xor t (.int k a) (.int k b)) = some (.int k (bitXor k a b)):=by
  simp [pureRun_bind,pureRun_pure,eqGuard,binOp,Op.intBits,bitXor]
theorem pr_shl {k':IntKind} (h:0 ≤ b):pureRun P (do eqGuard .shl t x y (.int k a) (.int k' b); binOp .shl t (.int k a) (.int k' b)) = some (.int k (k.wrap (a * 2 ^ min b.toNat k.bits))):=by
  have:¬ b < 0:=by omega
  simp [pureRun_bind,pureRun_pure,eqGuard,binOp,Op.shift,this]
theorem pr_shr {k':IntKind} (h:0 ≤ b):pureRun P (do eqGuard .shr t x y (.int k a) (.int k' b); binOp .shr t (.int k a) (.int k' b)) = some (.int k (a.fdiv (2 ^ min b.toNat k.bits))):=by
  have:¬ b < 0:=by omega
  simp [pureRun_bind,pureRun_pure,eqGuard,binOp,Op.shift,this]
theorem pr_und {d:TypeDesc} (h:P.underlying t = some d):pureRun P (underlying t) = some d:=by
  unfold underlying
  show pureRun P (match P.underlying t with | some d => pure d | none => stuck "no such type") = _
  rw [h]; rfl
theorem pr_equalB {n:Nat} (h:P.underlying t = some .bool):pureRun P (Op.equalIn (n + 1) t (.bool c) (.bool d)) = some (c == d):=by
  unfold Op.equalIn
  rw [pureRun_bind,pr_und h]
  rfl
theorem pr_eqlB (ht:P.underlying t = some .bool):pureRun P (do eqGuard .eql t x y (.bool c) (.bool d); binOp .eql t (.bool c) (.bool d)) = some (.bool (c == d)):=by
  show pureRun P (do let z ← Op.equalIn (9999 + 1) t (.bool c) (.bool d); pure (Value.bool z)) = _
  rw [pureRun_bind,pr_equalB ht]
  rfl
theorem pr_neqB (ht:P.underlying t = some .bool):pureRun P (do eqGuard .neq t x y (.bool c) (.bool d); binOp .neq t (.bool c) (.bool d)) = some (.bool (!(c == d))):=by
  show pureRun P (do let z ← Op.equalIn (9999 + 1) t (.bool c) (.bool d); pure (Value.bool !z)) = _
  rw [pureRun_bind,pr_equalB ht]
  rfl
def intK (P:Program) (t:TypeId):IntKind:=match P.underlying t with
  | some (.int k) => k
  | _ => .i64
def isIntT (P:Program) (t:TypeId):Bool:=match P.underlying t with
  | some (.int _) => true
  | _ => false
theorem pr_conv {s:TypeId} (h1:(P.underlying s).isSome = true) (h2:isIntT P t = true):pureRun P (convert s t (.int k a)) = some (.int (intK P t) ((intK P t).wrap a)):=by
  obtain ⟨d,hd⟩:=Option.isSome_iff_exists.1 h1
  unfold isIntT at h2
  split at h2
  · rename_i k' hk
    simp only [intK,hk]
    unfold convert
    rw [pureRun_bind,pr_und hd]
    show pureRun P (do let z ← underlying t; _) = _
    rw [pureRun_bind,pr_und hk]
    rfl
  · cases h2
end
attribute [simp] pr_concat pr_lssS pr_gtrS pr_quo pr_rem pr_and pr_or pr_xor pr_shl pr_shr pr_eqlB pr_neqB pr_conv intK isIntT isU8 isStr
end Go.V

namespace Go.V
set_option linter.unusedSimpArgs false
set_option linter.unusedVariables false

/-! ### cells behind some others -/
section
variable {A L:List PT} {a k:Nat} {p:PT}
theorem app_get (h:A.length = a):(A ++ L)[a]? = L[0]?:=by subst h; rw [List.getElem?_append_right (Nat.le_refl _),Nat.sub_self]
theorem app_get_add (h:A.length = a):(A ++ L)[a + k]? = L[k]?:=by subst h; simp [List.getElem?_append_right]
theorem app_set (h:A.length = a):(A ++ L).set a p = A ++ L.set 0 p:=by subst h; simp [List.set_append]
theorem app_set_add (h:A.length = a):(A ++ L).set (a + k) p = A ++ L.set k p:=by subst h; simp [List.set_append]
theorem app_take (h:A.length = a):(A ++ L).take a = A:=by subst h; simp
theorem app_take_add (h:A.length = a):(A ++ L).take (a + k) = A ++ L.take k:=by subst h; rw [List.take_append,List.take_of_length_le (by omega),Nat.add_sub_cancel_left]
theorem app_drop (h:A.length = a):(A ++ L).drop a = L:=by subst h; simp
theorem app_get_add2 {j:Nat} (h:A.length = a):(A ++ L)[a + j + k]? = L[j + k]?:=by rw [Nat.add_assoc]; exact app_get_add h
theorem app_set_add2 {j:Nat} (h:A.length = a):(A ++ L).set (a + j + k) p = A ++ L.set (j + k) p:=by rw [Nat.add_assoc]; exact app_set_add h
theorem app_take_add2 {j:Nat} (h:A.length = a):(A ++ L).take (a + j + k) = A ++ L.take (j + k):=by subst h; rw [Nat.add_assoc,List.take_append,List.take_of_length_le (by omega),Nat.add_sub_cancel_left]
theorem app_drop_add2 {j:Nat} (h:A.length = a):(A ++ L).drop (a + j + k) = L.drop (j + k):=by subst h; rw [Nat.add_assoc]; simp [List.drop_append]
theorem le_add2 {j n:Nat}:(a + j + k ≤ a + n) = (j + k ≤ n):=by rw [Nat.add_assoc]; exact propext (Nat.add_le_add_iff_left)
theorem app_drop_add (h:A.length = a):(A ++ L).drop (a + k) = L.drop k:=by subst h; simp [List.drop_append]
end

theorem ipre_cons (a b:Nat) (as bs:List Nat):(a :: as).isPrefixOf (b :: bs) = (a == b && as.isPrefixOf bs):=rfl
theorem ipre_nil (bs:List Nat):([]:List Nat).isPrefixOf bs = true:=by cases bs <;> rfl
theorem ipre_cons_nil (a:Nat) (as:List Nat):(a :: as).isPrefixOf ([]:List Nat) = false:=rfl
attribute [simp] ipre_cons ipre_nil ipre_cons_nil
theorem take_snoc {A L:List PT} {n m:Nat} (h:A.length = n * m) (h2:L.length = m):(A ++ L).take ((n + 1) * m) = A ++ L:=List.take_of_length_le (by rw [List.length_append,h,h2,Nat.add_mul]; omega)
theorem take_snoc1 {A:List PT} {p:PT} {n:Nat} (h:A.length = n):(A ++ [p]).take (n + 1) = A ++ [p]:=List.take_of_length_le (by rw [List.length_append,h]; simp)
theorem le_snoc {n m k:Nat}:((n + 1) * m ≤ n * m + k) = (m ≤ k):=by rw [Nat.add_mul,Nat.one_mul]; exact propext Nat.add_le_add_iff_left
attribute [simp] take_snoc take_snoc1 le_snoc
/-! ### calls, each told -/
theorem tab_nil {P:Program}:∀ x ∈ ([]:List (FuncId × List PV × PV × List PV)),CallOK P x.1 x.2.1 x.2.2.1 x.2.2.2:=by simp
theorem tab_cons {P:Program} {f:FuncId} {as os:List PV} {r:PV} {T:List (FuncId × List PV × PV × List PV)} (h:CallOK P f as r os) (hT:∀ x ∈ T,CallOK P x.1 x.2.1 x.2.2.1 x.2.2.2):∀ x ∈ (f,as,r,os) :: T,CallOK P x.1 x.2.1 x.2.2.1 x.2.2.2:=by
  intro x hx
  rcases List.mem_cons.1 hx with rfl | hx
  · exact h
  · exact hT x hx

/-! ### sizes -/
def wtR {α:Type} (f:α → Nat) (xs:List α):Nat:=xs.length + (xs.map f).sum
theorem wt_mem {α:Type} (f:α → Nat):∀ {xs:List α} {x:α},x ∈ xs → f x ≤ (xs.map f).sum
  | y :: ys,x,h => by
    simp only [List.map_cons,List.sum_cons]
    rcases List.mem_cons.1 h with rfl | h
    · omega
    · have:=wt_mem f h; omega

/-! ### marks -/
section
variable {α:Type} (f:α → Int → α × Int) (g:α → Nat)
def mkR:List α → Int → List α × Int
  | [],k => ([],k)
  | x :: xs,k => ((f x k).1 :: (mkR xs (f x k).2).1,(mkR xs (f x k).2).2)
def cnR (xs:List α):Nat:=(xs.map g).sum
theorem mkR_len:∀ (xs:List α) (k:Int),(mkR f xs k).1.length = xs.length
  | [],_ => rfl
  | x :: xs,k => by simp [mkR,mkR_len xs]
end
/-- Elements of a row, the first i of them as they will be. -/
theorem drop_step {α:Type} (xs:List α) (i:Nat) (h:i < xs.length):xs.drop i = xs[i] :: xs.drop (i + 1):=List.drop_eq_getElem_cons h
theorem take_step {α:Type} (xs:List α) (i:Nat) (h:i < xs.length):xs.take (i + 1) = xs.take i ++ [xs[i]]:=(List.take_append_getElem h).symm
theorem len_take {α:Type} (xs:List α) (i:Nat) (h:i ≤ xs.length):(xs.take i).length = i:=by simp; omega
theorem fm_take_len {α:Type} (f:α → List PT) (m:Nat) (hf:∀ a,(f a).length = m) (xs:List α) (i:Nat) (h:i ≤ xs.length):((xs.take i).flatMap f).length = i * m:=by rw [fm_len f m hf,len_take xs i h]
theorem takeM {α β:Type} (f:α → β) (xs:List α):(xs.map f).take xs.length = xs.map f:=List.take_of_length_le (by simp)
attribute [simp high] takeM
attribute [simp] app_get_add2 app_set_add2 app_take_add2 app_drop_add2 le_add2 app_get app_get_add app_set app_set_add app_take app_take_add app_drop app_drop_add
end Go.V

namespace Go.V
open Go.RowKit
set_option linter.unusedSimpArgs false
set_option linter.unusedVariables false

/-! ### strings, byte by byte -/
def byteAt (s:ByteArray) (i:Nat):Int:=match s[i]? with
  | some b => b.toNat
  | none => 0
section
variable {P:Program} {t:TypeId} {k k':IntKind} {a b i:Int} {s:ByteArray}
theorem pr_index (ht:P.underlying t = some .string) (h0:0 ≤ i) (h:i < s.size):pureRun P (Instr.index t (.string s) (.int k i)) = some (.int .u8 (byteAt s i.toNat)):=by
  have h1:i.toNat < s.size:=by omega
  unfold Instr.index
  show pureRun P (do let d ← underlying t; _) = _
  rw [pureRun_bind,pr_und ht]
  simp only [Option.bind_some,if_pos h0,byteAt]
  have:s[i.toNat]? = some s[i.toNat]:=by
    simp [h1]
  rw [this]
  rfl
theorem pr_sliceN (ht:P.underlying t = some .string):pureRun P (Instr.slice t (.string s) none none none) = some (.string (s.extract 0 s.size)):=by
  unfold Instr.slice
  rw [pureRun_bind,pr_und ht]
  rfl
theorem pr_sliceH (ht:P.underlying t = some .string) (h0:0 ≤ b) (h:b ≤ s.size):pureRun P (Instr.slice t (.string s) none (some (.int k b)) none) = some (.string (s.extract 0 b.toNat)):=by
  unfold Instr.slice
  rw [pureRun_bind,pr_und ht]
  simp [pureRun_bind,pureRun_pure,Instr.sliceBounds,Instr.sliceBound,asIntOf,h0,h]
theorem pr_sliceL (ht:P.underlying t = some .string) (h0:0 ≤ a) (h:a ≤ s.size):pureRun P (Instr.slice t (.string s) (some (.int k a)) none none) = some (.string (s.extract a.toNat s.size)):=by
  unfold Instr.slice
  rw [pureRun_bind,pr_und ht]
  simp [pureRun_bind,pureRun_pure,Instr.sliceBounds,Instr.sliceBound,asIntOf,h0,h]
theorem pr_sliceLH (ht:P.underlying t = some .string) (h0:0 ≤ a) (h1:a ≤ b) (h:b ≤ s.size):pureRun P (Instr.slice t (.string s) (some (.int k a)) (some (.int k' b)) none) = some (.string (s.extract a.toNat b.toNat)):=by
  have h2:0 ≤ b:=by omega
  have h3:a ≤ max b 0:=by omega
  unfold Instr.slice
  rw [pureRun_bind,pr_und ht]
  simp [pureRun_bind,pureRun_pure,Instr.sliceBounds,Instr.sliceBound,asIntOf,h0,h2,h3,h]
end
theorem ext_all (s:ByteArray):s.extract 0 s.size = s:=by
  apply bytes_toList_inj
  simp [ByteArray.toList_eq]
/-- A run of numbers. -/
def rng (a n:Nat):List Nat:=List.range' a n
theorem rng_has (a n t:Nat):(rng a n).contains t = (Nat.ble a t && Nat.blt t (a + n)):=by
  rw [Bool.eq_iff_iff]
  simp [rng,Nat.blt]
  omega
attribute [simp] rng_has
/-! ### bounds of cuts -/
def bnd (lo hi:Option (Option Value)) (len:Nat):Option (Nat × Nat):=match lo,hi with
  | none,none => some (0,len)
  | none,some (some (.int _ h)) => if 0 ≤ h ∧ h ≤ len then some (0,h.toNat) else none
  | some (some (.int _ l)),none => if 0 ≤ l ∧ l ≤ len then some (l.toNat,len) else none
  | some (some (.int _ l)),some (some (.int _ h)) => if 0 ≤ l ∧ l ≤ h ∧ h ≤ len then some (l.toNat,h.toNat) else none
  | _,_ => none
theorem boundsOf_bnd (st:St) (lo hi:Option Operand) (len:Nat):boundsOf st lo hi len = bnd (lo.map (valv st)) (hi.map (valv st)) len:=by
  unfold boundsOf bnd
  cases lo with
  | none =>
    cases hi with
    | none => rfl
    | some o =>
      simp only [Option.mapM,Option.map_some,Option.map_none]
      cases valv st o with
      | none => rfl
      | some v => cases v <;> rfl
  | some p =>
    cases hi with
    | none =>
      simp only [Option.mapM,Option.map_some,Option.map_none]
      cases valv st p with
      | none => rfl
      | some v => cases v <;> rfl
    | some o =>
      simp only [Option.mapM,Option.map_some,Option.map_none]
      cases valv st p with
      | none => rfl
      | some u =>
        cases valv st o with
        | none => cases u <;> rfl
        | some v => cases u <;> cases v <;> rfl
theorem bnd_nn {len:Nat}:bnd none none len = some (0,len):=rfl
theorem bnd_ns {k:IntKind} {b:Int} {len:Nat} (h0:0 ≤ b) (h:b ≤ len):bnd none (some (some (.int k b))) len = some (0,b.toNat):=if_pos ⟨h0,h⟩
theorem bnd_sn {k:IntKind} {b:Int} {len:Nat} (h0:0 ≤ b) (h:b ≤ len):bnd (some (some (.int k b))) none len = some (b.toNat,len):=if_pos ⟨h0,h⟩
theorem bnd_ss {k k':IntKind} {a b:Int} {len:Nat} (h0:0 ≤ a) (h1:a ≤ b) (h:b ≤ len):bnd (some (some (.int k a))) (some (some (.int k' b))) len = some (a.toNat,b.toNat):=if_pos ⟨h0,h1,h⟩
attribute [simp] boundsOf_bnd bnd_nn bnd_ns bnd_sn bnd_ss
attribute [simp] pr_index pr_sliceN pr_sliceH pr_sliceL pr_sliceLH ext_all
end Go.V

namespace Go.V
open Go.RowKit
set_option linter.unusedSimpArgs false
set_option linter.unusedVariables false

/-! ### a quicker look at a drawn region's pairs -/
section
variable {E:Env} {P:Program} {r:Nat} {ops:Array Oper}
theorem waitsFor_mono (ops:Array Oper) (i:Nat):∀ (m n j:Nat),m ≤ n → waitsFor ops m i j = true → waitsFor ops n i j = true
  | 0,n,j,_,h => by simp [waitsFor] at h
  | m + 1,0,j,hle,h => by omega
  | m + 1,n + 1,j,hle,h => by
    unfold waitsFor at h ⊢
    split at h
    · rename_i o ho
      rw [Array.any_eq_true] at h ⊢
      obtain ⟨k,hk,hx⟩:=h
      refine ⟨k,hk,?_⟩
      simp only [Bool.and_eq_true,Bool.or_eq_true] at hx ⊢
      exact ⟨hx.1,hx.2.imp id (waitsFor_mono ops i m n _ (by omega))⟩
    · simp at h
def waitB (ops:Array Oper) (i j:Nat):Bool:=waitsFor ops 1 i j || (waitsFor ops 2 i j || (waitsFor ops 3 i j || (waitsFor ops 5 i j || waitsFor ops 60 i j)))
theorem waitB_sound {i j:Nat} (h:waitB ops i j = true):waitsFor ops 60 i j = true:=by
  simp only [waitB,Bool.or_eq_true] at h
  rcases h with h | h | h | h | h
  all_goals exact waitsFor_mono ops i _ _ j (by omega) h
def pairAt (r:Nat) (ops:Array Oper) (xs:List OI) (i j:Nat):Bool:=match ops[i]?,ops[j]?,xs[i]?,xs[j]? with
  | some oi,some oj,some xi,some xj => sepB r ops i j oi oj xi xj
  | _,_,_,_ => false
def pairs2 (r:Nat) (ops:Array Oper) (xs:List OI):Bool:=(List.range ops.size).all fun j => (List.range j).all fun i => pairAt r ops xs i j || waitB ops i j
theorem anyV_pairs2 {id:Nat} {Q:Exit → St → Prop} {st st':St} (xs:List OI) (hB:Region.lexB .any ops = true) (hp:pairs2 id ops xs = true)
    (hr:lexRun E P id ops xs 0 ops.toList st = some st') (h:Q .normal st'):anyV E P id ops xs (Q .normal) ops.size (Array.replicate ops.size false) st:=by
  simp only [Region.lexB,Bool.and_eq_true] at hB
  have:=anyV_lex (E:=E) (P:=P) (r:=id) (ops:=ops) (xs:=xs) (K:=Q .normal) (n:=60) h (by
    intro i j hij hw1 hw2 st st1 st2 h1 h2
    unfold stMi at h1 h2
    split at h1
    · rename_i oi xi hoi hxi
      split at h2
      · rename_i oj xj hoj hxj
        have hi:=(Array.getElem?_eq_some_iff.1 hoi).1
        have hj:=(Array.getElem?_eq_some_iff.1 hoj).1
        have hsep:Sep id ops i j oi oj xi xj:=by
          rcases Nat.lt_or_ge i j with hlt | hge
          · have hb:=List.all_eq_true.1 (List.all_eq_true.1 hp j (by simpa using hj)) i (by simpa using hlt)
            simp only [Bool.or_eq_true,pairAt,hoi,hoj,hxi,hxj] at hb
            rcases hb with hb | hb
            · exact sepB_sound hij hb
            · rw [waitB_sound hb] at hw1; cases hw1
          · have hlt:j < i:=by omega
            have hb:=List.all_eq_true.1 (List.all_eq_true.1 hp i (by simpa using hi)) j (by simpa using hlt)
            simp only [Bool.or_eq_true,pairAt,hoi,hoj,hxi,hxj] at hb
            rcases hb with hb | hb
            · exact (sepB_sound (Ne.symm hij) hb).symm
            · rw [waitB_sound hb] at hw2; cases hw2
        obtain ⟨st',h3,h4⟩:=stM_comm hsep h1 h2
        exact ⟨st',by unfold stMi; rw [hoj,hxj]; exact h3,by unfold stMi; rw [hoi,hxi]; exact h4⟩
      · simp at h2
    · simp at h1) ops.toList 0 (Array.replicate ops.size false) st (fun j => by simp) (by simpa using hB.2) (by
    intro m hm
    exfalso
    rcases Nat.lt_or_ge m ops.size with h' | h' <;> simp [h'] at hm) hr
  simpa using this
theorem ewp_draw2 {id:Nat} {Q:Exit → St → Prop} {st st':St} (xs:List OI) (h0:tsz P nilE = 0) (hE:EnvOK P E) (hm:P.follows .mixedOrders = true) (hB:Region.lexB .any ops = true) (hp:pairs2 id ops xs = true)
    (hr:lexRun E P id ops xs 0 ops.toList st = some st') (h:Q .normal st'):ewp P (.region id ops true) Q st:=by
  intro I bs A w0 a w L hs
  refine wp_region_any hm ?_
  have hd:Below w.heap.size w { w with drawn:=w.drawn + 1 }:=drew_below w
  have hs':=hs.grow hd (Nat.le_succ _)
  exact anyV_sound (r:=id) (xs:=xs) (K:=Q .normal) h0 hE (fun st a w L h1 h2 => ⟨st,L,h1,h2⟩) _ _ st a _ L hs' (anyV_pairs2 xs hB hp hr h)
end
/-! ### what an operation looks at, and no other slot -/
def allD (n:Nat):List Nat:=List.range n
def SV.rst (F:Id → Bool):SV → SV
  | .tup l => .tup (l.map (SV.clean F))
  | s => s.clean F
def pickR (l:List (Nat × SV)) (F:Id → Bool):List Nat → List (Nat × SV)
  | [] => []
  | k :: ks => (k,(slGet l k).rst F) :: pickR l F ks
theorem slGet_pickR (l:List (Nat × SV)) (F:Id → Bool):∀ (ks:List Nat) (j:Nat),slGet (pickR l F ks) j = if ks.contains j = true then (slGet l j).rst F else .junk
  | [],j => by simp [pickR,slGet]
  | k :: ks,j => by
    simp only [pickR,slGet,slGet_pickR l F ks j,List.contains_cons,Bool.or_eq_true,beq_iff_eq]
    by_cases h:j = k
    · subst h; simp
    · simp [h]
theorem slOf_restr_all (n:Nat) (looks:List Nat) (F:Id → Bool) (l:List (Nat × SV)):restrSl looks (allD n) F 0 (slOf n l) = slOf n (pickR l F looks):=by
  apply slOf_ext (by simp [slOf_len,restrSl_len])
  intro k hk
  rw [restrSl_at,slOf_at,if_pos hk,slGet_pickR,Nat.zero_add]
  have hD:(allD n).contains k = true:=by simp [allD,hk]
  simp only [Option.map_some,Option.some.injEq]
  generalize slGet l k = s
  cases hs:s.isTup with
  | true =>
    cases s <;> simp only [SV.isTup,reduceCtorEq] at hs
    simp only [restrOne,SV.rst]
  | false =>
    have hr:s.rst F = s.clean F:=by cases s <;> first | rfl | simp [SV.isTup] at hs
    rw [restrOne_nt hs,hr]
    simp only [keepB,hs,hD,Bool.not_true,Bool.not_false,Bool.true_and,Bool.false_and,Bool.or_false,SV.clean]
    cases looks.contains k <;> simp
attribute [simp high] slOf_restr_all
attribute [simp] pickR SV.rst
theorem drawP {P:Program} {ops:Array Oper} {id:Nat} {Q:Exit → St → Prop} {st:St} (E:Env) (xs:List OI) (h0:tsz P nilE = 0) (hm:P.follows .mixedOrders = true) (hE:EnvOK P E) (hB:Region.lexB .any ops = true) (hp:pairs2 id ops xs = true)
    (h:onSome (lexRunL E P id ops xs ops.toList 0 st) (Q .normal)):ewp P (.region id ops true) Q st:=by
  rw [lexRunL_eq xs ops.toList 0 xs st (fun j => by rw [Nat.zero_add])] at h
  unfold onSome at h
  split at h
  · rename_i st' hr
    exact ewp_draw2 xs h0 hE hm hB hp hr h
  · exact h.elim
end Go.V

namespace Go.V
open Go.RowKit
set_option linter.unusedSimpArgs false
set_option linter.unusedVariables false

/-! ### a call on what is only read, of which a contract is known -/
theorem erase_cs:∀ (las:List LV) (qs:List PT),las.map LV.erase = qs.map PV.c → ∃ ts:List LT,las = ts.map LV.c ∧ ts.map LT.erase = qs
  | [],[],_ => ⟨[],rfl,rfl⟩
  | [],_ :: _,h => by simp at h
  | _ :: _,[],h => by simp at h
  | la :: las,q :: qs,h => by
    simp only [List.map_cons,List.cons.injEq] at h
    obtain ⟨ts,h1,h2⟩:=erase_cs las qs h.2
    cases la with
    | c t => exact ⟨t :: ts,by simp [h1],by have:=h.1; simp only [LV.erase,PV.c.injEq] at this; simp [h2,this]⟩
    | agg ts => have:=h.1; simp [LV.erase] at this
    | tup vs => have:=h.1; simp [LV.erase] at this
    | dup t v1 v2 => have:=h.1; simp [LV.erase] at this
    | clo g t => have:=h.1; simp [LV.erase] at this
    | bp t => have:=h.1; simp [LV.erase] at this
    | ip k x ps => have:=h.1; simp [LV.erase] at this
end Go.V

namespace Go.V
open Go.RowKit
set_option linter.unusedSimpArgs false
set_option linter.unusedVariables false

/-! ### a struct of two numbers against another one -/
def isPairT (P:Program) (t:TypeId):Bool:=!P.stoodInHeld t && !P.eqGuardType P.depth t && (match P.underlying t with
  | some (.struct fs) => match fs.toList with
    | [f, g] => f.offset == 0 && g.offset == 1 && (f.name != "_" && g.name != "_") && (isIntT P f.type && isIntT P g.type)
    | _ => false
  | _ => false)
section
variable {P:Program} {t:TypeId} {x y:Operand} {k k1 k2:IntKind} {a b c d:Int}
theorem isIntT_und (h:isIntT P t = true):∃ k,P.underlying t = some (.int k):=by
  unfold isIntT at h
  split at h
  · exact ⟨_,by assumption⟩
  · cases h
theorem pr_equalI {n:Nat} (h:isIntT P t = true):pureRun P (Op.equalIn (n + 1) t (.int k a) (.int k b)) = some (a == b):=by
  obtain ⟨k',hu⟩:=isIntT_und h
  unfold Op.equalIn
  rw [pureRun_bind,pr_und hu]
  simp [pureRun_pure]
theorem pr_partI {cs:Array Value} {off:Nat} {v:Value} (h:isIntT P t = true) (hv:cs[off]? = some v):pureRun P (part t cs off) = some v:=by
  obtain ⟨k',hu⟩:=isIntT_und h
  unfold part isAgg
  simp [pureRun_bind,pr_und hu,pureRun_pure,hv]
theorem pr_equalP {n:Nat} (h:isPairT P t = true):pureRun P (Op.equalIn (n + 2) t (.agg #[.int k1 a,.int k2 b]) (.agg #[.int k1 c,.int k2 d])) = some (a == c && b == d):=by
  unfold isPairT at h
  simp only [Bool.and_eq_true,Bool.not_eq_true'] at h
  obtain ⟨⟨h1,h2⟩,h3⟩:=h
  split at h3
  · rename_i fs hu
    split at h3
    · rename_i f g hfs
      simp only [Bool.and_eq_true,beq_iff_eq,bne_iff_ne] at h3
      obtain ⟨⟨⟨e1,e2⟩,n1,n2⟩,i1,i2⟩:=h3
      have e:fs = #[f,g]:=by rw [← Array.toArray_toList (xs:=fs),hfs]
      subst e
      unfold Op.equalIn
      rw [pureRun_bind,pr_und hu]
      have p1:∀ (u v:Value),pureRun P (part f.type #[u,v] f.offset) = some u:=fun u v => pr_partI i1 (by rw [e1]; rfl)
      have p2:∀ (u v:Value),pureRun P (part g.type #[u,v] g.offset) = some v:=fun u v => pr_partI i2 (by rw [e2]; rfl)
      have hp:pureRun P program = some P:=rfl
      simp only [Option.bind_some,pureRun_bind,hp,h1,Bool.false_eq_true,if_false]
      rw [← Array.forIn_toList]
      simp only [List.forIn_cons,List.forIn_nil,pureRun_bind]
      have q1:pureRun P (Op.equalIn (n + 1) f.type (.int k1 a) (.int k1 c)) = some (a == c):=pr_equalI i1
      have q2:pureRun P (Op.equalIn (n + 1) g.type (.int k2 b) (.int k2 d)) = some (b == d):=pr_equalI i2
      clear i1 i2
      generalize (a == c) = u at q1 ⊢
      generalize (b == d) = v at q2 ⊢
      cases u <;> cases v <;> simp [n1,n2,pureRun_bind,pureRun_pure,p1,p2,q1,q2]
    · cases h3
  · cases h3
theorem pr_guardP {op:BinOp} {xs ys:Array Value} (h:isPairT P t = true):pureRun P (eqGuard op t x y (.agg xs) (.agg ys)) = some ():=by
  unfold isPairT at h
  simp only [Bool.and_eq_true,Bool.not_eq_true'] at h
  have hp:pureRun P program = some P:=rfl
  cases op <;> simp [eqGuard,pureRun_bind,pureRun_pure,hp,h.1.2]
theorem pr_eqlP (h:isPairT P t = true):pureRun P (do eqGuard .eql t x y (.agg #[.int k1 a,.int k2 b]) (.agg #[.int k1 c,.int k2 d]); binOp .eql t (.agg #[.int k1 a,.int k2 b]) (.agg #[.int k1 c,.int k2 d])) = some (.bool (decide (a = c) && decide (b = d))):=by
  rw [pureRun_bind,pr_guardP h]
  show pureRun P (do let z ← Op.equalIn (9998 + 2) t (.agg #[.int k1 a,.int k2 b]) (.agg #[.int k1 c,.int k2 d]); pure (Value.bool z)) = _
  rw [pureRun_bind,pr_equalP h]
  rfl
theorem pr_neqP (h:isPairT P t = true):pureRun P (do eqGuard .neq t x y (.agg #[.int k1 a,.int k2 b]) (.agg #[.int k1 c,.int k2 d]); binOp .neq t (.agg #[.int k1 a,.int k2 b]) (.agg #[.int k1 c,.int k2 d])) = some (.bool (!(decide (a = c) && decide (b = d)))):=by
  rw [pureRun_bind,pr_guardP h]
  show pureRun P (do let z ← Op.equalIn (9998 + 2) t (.agg #[.int k1 a,.int k2 b]) (.agg #[.int k1 c,.int k2 d]); pure (Value.bool !z)) = _
  rw [pureRun_bind,pr_equalP h]
  rfl
end
attribute [simp] pr_eqlP pr_neqP
end Go.V

namespace Go.V
open Go.RowKit
set_option linter.unusedSimpArgs false
set_option linter.unusedVariables false

/-! ### a drawn region that calls one function more than once -/
def fnEnv (f:FuncId) (F:List PV → Option (PV × List PV)) (E:Env):Env:=⟨E.mode,fun g as => if g = f then F as else E.call g as⟩
section
variable {P:Program} {f g:FuncId} {F:List PV → Option (PV × List PV)} {E:Env} {as:List PV}
theorem fnEnv_mode:(fnEnv f F E).mode = E.mode:=by unfold fnEnv; rfl
theorem fnEnv_hit:(fnEnv f F E).call f as = F as:=by simp [fnEnv]
theorem fnEnv_miss (h:g ≠ f):(fnEnv f F E).call g as = E.call g as:=by simp [fnEnv,h]
theorem fnEnv_ok (hE:EnvOK P E) (hF:∀ as r os,F as = some (r,os) → CallOK P f as r os):EnvOK P (fnEnv f F E):=by
  intro g as r os h
  by_cases hg:g = f
  · subst hg
    rw [fnEnv_hit] at h
    exact hF as r os h
  · rw [fnEnv_miss hg] at h
    exact hE g as r os h
def fI1 (G:Int → PT):List PV → Option (PV × List PV)
  | [.c (.raw (.int .i64 a))] => some (.c (G a),[.c (pi a)])
  | _ => none
def fI2 (G:Int → Int → PT):List PV → Option (PV × List PV)
  | [.c (.raw (.int .i64 a)),.c (.raw (.int .i64 b))] => some (.c (G a b),[.c (pi a),.c (pi b)])
  | _ => none
def fI3 (G:Int → Int → Int → PT):List PV → Option (PV × List PV)
  | [.c (.raw (.int .i64 a)),.c (.raw (.int .i64 b)),.c (.raw (.int .i64 c))] => some (.c (G a b c),[.c (pi a),.c (pi b),.c (pi c)])
  | _ => none
theorem fI1_at {G:Int → PT} {a:Int}:fI1 G [.c (pi a)] = some (.c (G a),[.c (pi a)]):=by unfold fI1; rfl
theorem fI2_at {G:Int → Int → PT} {a b:Int}:fI2 G [.c (pi a),.c (pi b)] = some (.c (G a b),[.c (pi a),.c (pi b)]):=by unfold fI2; rfl
theorem fI3_at {G:Int → Int → Int → PT} {a b c:Int}:fI3 G [.c (pi a),.c (pi b),.c (pi c)] = some (.c (G a b c),[.c (pi a),.c (pi b),.c (pi c)]):=by unfold fI3; rfl
theorem fI2_ok {G:Int → Int → PT} (h:∀ a b,CallOK P f [.c (pi a),.c (pi b)] (.c (G a b)) [.c (pi a),.c (pi b)]):∀ as r os,fI2 G as = some (r,os) → CallOK P f as r os:=by
  intro as r os he
  unfold fI2 at he
  split at he
  · cases he; exact h _ _
  · simp at he
end
theorem range1:List.range 1 = [0]:=by decide
theorem range2:List.range 2 = [0,1]:=by decide
theorem range3:List.range 3 = [0,1,2]:=by decide
theorem range4:List.range 4 = [0,1,2,3]:=by decide
theorem range5:List.range 5 = [0,1,2,3,4]:=by decide
theorem range6:List.range 6 = [0,1,2,3,4,5]:=by decide
attribute [simp] range1 range2 range3 range4 range5 range6
attribute [simp] fnEnv_mode fnEnv_hit fnEnv_miss fI1_at fI2_at fI3_at
end Go.V

namespace Go.V
open Go.RowKit
set_option linter.unusedSimpArgs false
set_option linter.unusedVariables false

/-! ### a function of a row of numbers, called more than once in a drawn region -/
def intsOf:List PT → Option (List Int)
  | [] => some []
  | .raw (.int .i64 n) :: cs => (intsOf cs).map (n :: ·)
  | _ => none
theorem intsOf_pi:∀ xs:List Int,intsOf (xs.map pi) = some xs
  | [] => rfl
  | x :: xs => by simp [intsOf,intsOf_pi xs]
theorem intsOf_eq:∀ {cs:List PT} {xs:List Int},intsOf cs = some xs → cs = xs.map pi
  | [],xs,h => by simp only [intsOf,Option.some.injEq] at h; subst h; rfl
  | c :: cs,xs,h => by
    unfold intsOf at h
    split at h
    · simp at *
    · rename_i n cs' heq
      simp only [List.cons.injEq] at heq
      obtain ⟨rfl,rfl⟩:=heq
      simp only [Option.map_eq_some_iff] at h
      obtain ⟨ys,h1,rfl⟩:=h
      rw [intsOf_eq h1]
      rfl
    · simp at h
def fL1 (B:Nat) (G:List Int → PT):List PV → Option (PV × List PV)
  | [.c (.sl (k + 1) 0 n cs)] => match intsOf cs with
    | some xs => if n = xs.length ∧ xs.length ≤ B then some (.c (G xs),[.c (.sl (k + 1) 0 n cs)]) else none
    | none => none
  | _ => none
theorem fL1_at {B:Nat} {G:List Int → PT} {k:Nat} {xs:List Int} (h:xs.length ≤ B):fL1 B G [.c (.sl (k + 1) 0 xs.length (xs.map pi))] = some (.c (G xs),[.c (.sl (k + 1) 0 xs.length (xs.map pi))]):=by
  unfold fL1
  simp [intsOf_pi,h]
theorem fL1_ok {P:Program} {f:FuncId} {B:Nat} {G:List Int → PT} (h:∀ k (xs:List Int),xs.length ≤ B → CallOK P f [.c (rd k xs.length (xs.map pi))] (.c (G xs)) [.c (rd k xs.length (xs.map pi))]):∀ as r os,fL1 B G as = some (r,os) → CallOK P f as r os:=by
  intro as r os he
  unfold fL1 at he
  split at he
  · rename_i k n cs
    split at he
    · rename_i xs hxs
      split at he
      · rename_i hc
        cases he
        obtain ⟨rfl,hb⟩:=hc
        have:=intsOf_eq hxs
        subst this
        exact h k xs hb
      · simp at he
    · simp at he
  · simp at he
attribute [simp] fL1_at
/-! ### where a search by halves ends -/
def bsI {α:Type} (c:α → Int) (xs:List α):Nat:=(xs.takeWhile fun x => decide (c x < 0)).length
def bsF {α:Type} (c:α → Int) (xs:List α):Bool:=match xs[bsI c xs]? with
  | some x => decide (c x = 0)
  | none => false
theorem bsI_eq {α:Type} (c:α → Int):∀ (xs:List α) (i:Nat),i ≤ xs.length → (∀ (m:Nat) (hm:m < i) (hl:m < xs.length),c xs[m] < 0) → (∀ (h:i < xs.length),0 ≤ c xs[i]) → bsI c xs = i
  | [],i,hi,_,_ => by simp at hi; subst hi; rfl
  | x :: xs,0,_,_,h => by
    have:=h (by simp)
    simp only [List.getElem_cons_zero] at this
    have h2:¬ c x < 0:=by omega
    simp [bsI,List.takeWhile_cons,h2]
  | x :: xs,i + 1,hi,h1,h2 => by
    have h0:=h1 0 (by omega) (by simp)
    simp only [List.getElem_cons_zero] at h0
    have ih:=bsI_eq c xs i (by simpa using hi) (fun m hm hl => h1 (m + 1) (by omega) (by simpa using hl)) (fun h => h2 (by simpa using h))
    unfold bsI at ih ⊢
    simp [List.takeWhile_cons,h0,ih]
theorem half_u64 (i j:Nat) (h:i + j ≤ 9223372036854775807):IntKind.wrap .i64 ((IntKind.wrap .u64 ((i:Int) + j)).fdiv (2 ^ min 1 IntKind.u64.bits)) = (((i + j) / 2:Nat):Int):=by
  have h0:(2:Int) ^ min 1 IntKind.u64.bits = 2:=rfl
  have h1:IntKind.wrap .u64 ((i:Int) + j) = (i:Int) + j:=by
    show ((i:Int) + j) % 18446744073709551616 = _
    omega
  have h2:((i:Int) + j).fdiv 2 = (((i + j) / 2:Nat):Int):=by
    rw [Int.fdiv_eq_ediv_of_nonneg _ (by omega)]
    omega
  rw [h0,h1,h2]
  exact wrap64 (by omega) (by omega)
end Go.V

namespace Go.V
open Go.RowKit
set_option linter.unusedSimpArgs false
set_option linter.unusedVariables false
section
variable {P:Program} {tys:Array TypeId} {ty:TypeId} {k k':IntKind} {a b:Int}
theorem pr_min2:pureRun P (Builtin.min_ tys ty #[.int k a,.int k' b]) = some (.int k (if b < a then b else a)):=by
  simp [Builtin.min_,Builtin.min2,pureRun_bind,pureRun_pure]
theorem pr_max2:pureRun P (Builtin.max_ tys ty #[.int k a,.int k' b]) = some (.int k (if a < b then b else a)):=by
  simp [Builtin.max_,Builtin.max2,pureRun_bind,pureRun_pure]
end
attribute [simp] pr_min2 pr_max2
end Go.V

namespace Go.V
open Go.RowKit
set_option linter.unusedSimpArgs false
set_option linter.unusedVariables false

/-! ### loops whose rounds leave a row under another name -/
def swSt (x y:Id) (st:St):St:=⟨SV.swL x y st.sl,fun id => st.hp (Id.sw x y id)⟩
def LessW (J:Nat → St → Prop) (m:Nat) (keep:List Nat) (ids:List Id) (st:St):Prop:=∃ m',m' < m ∧ ∃ x y:Id,x.isOp = true ∧ y.isOp = true ∧ J m' ((swSt x y st).drop keep ids)
def RndW (J:Nat → St → Prop) (m:Nat) (keep:List Nat) (big ids:List Id) (st:St):Prop:=LessW J m keep ids (st.drop keep big)
theorem RndW_eq {J:Nat → St → Prop} {m:Nat} {keep:List Nat} {big ids:List Id} {st:St}:RndW J m keep big ids st = LessW J m keep ids (st.drop keep big):=rfl
section
variable {P:Program} {Q:Exit → St → Prop} {c:Code} {n:Nat}
theorem ewp_swG {st:St} (x y:Id) (hx:x.isOp = true) (hy:y.isOp = true) (h:ewp P c Q (swSt x y st)):ewp P c Q st:=by
  intro I bs A w0 a w L hs
  exact h I bs A w0 a w _ (hs.sw (Id.isOp_ne hx) (Id.isOp_ne hy))
theorem loopW (keep:List Nat) (big ids:List Id) (J:Nat → St → Prop) (m:Nat) {st:St} (h:∀ Inv,Inv = J → Head Inv m (st.drop keep ids)) (round:∀ Inv,Inv = J → ∀ m st,J m st → ewp P c (eThen (RndW Inv m keep big ids) Q) st):ewp P (.loop c) Q st:=by
  refine ewp_loop (fun n st => J n (st.drop keep ids) ∨ ∃ x y:Id,x.isOp = true ∧ y.isOp = true ∧ J n ((swSt x y (st.drop keep big)).drop keep ids)) m (.inl (h J rfl)) fun n st hi => ?_
  have key:∀ st,J n st → ewp P c (eThen (fun st' => ∃ m,m < n ∧ (J m (st'.drop keep ids) ∨ ∃ x y:Id,x.isOp = true ∧ y.isOp = true ∧ J m ((swSt x y (st'.drop keep big)).drop keep ids))) Q) st:=fun st hj =>
    ewp_mono (round J rfl n st hj) fun e st' h => by
      cases e <;> simp only [eThen] at h ⊢ <;> first
        | exact h
        | (obtain ⟨m',hm,x,y,hx,hy,hJ⟩:=h; exact ⟨m',hm,.inr ⟨x,y,hx,hy,hJ⟩⟩)
  rcases hi with hi | ⟨x,y,hx,hy,hi⟩
  · exact ewp_drop keep ids (key _ hi)
  · exact ewp_drop keep big (ewp_swG x y hx hy (ewp_drop keep ids (key _ hi)))
theorem LessW_mk {J:Nat → St → Prop} {m:Nat} {keep:List Nat} {ids:List Id} {l:List (Nat × SV)} {hp:List (Id × PT)} (m':Nat) (x y:Id) (hm:m' < m) (hx:x.isOp = true) (hy:y.isOp = true) (h:Head J m' (St.drop ⟨slOf n (swS x y l),ofL (swN x y hp)⟩ keep ids)):LessW J m keep ids ⟨slOf n l,ofL hp⟩:=by
  refine ⟨m',hm,x,y,hx,hy,?_⟩
  have e:swSt x y ⟨slOf n l,ofL hp⟩ = ⟨slOf n (swS x y l),ofL (swN x y hp)⟩:=by
    unfold swSt
    rw [slOf_sw]
    congr 1
    funext id
    exact swN_ofL x y hp id
  rw [e]
  exact h
end
attribute [simp] RndW_eq
end Go.V

namespace Go.V
open Go.RowKit
set_option linter.unusedSimpArgs false
set_option linter.unusedVariables false

/-! ### rows of one's own, lent for a while -/
def frzC:PT → PT
  | .sl 0 e m ds => if ds.all PT.flat = true then .sl 1 0 m ds else .sl 0 e m ds
  | p => p
def frzT:PT → PT
  | .sl 0 e n cs => .sl 0 e n (cs.map frzC)
  | p => p
def frzL:LT → LT
  | .own b cap e m ds => if (ds.map LT.erase).all PT.flat = true then .leaf (.slice (some ⟨b,0,none⟩) m cap) (.sl 1 0 m (ds.map LT.erase)) else .own b cap e m ds
  | .leaf v p => .leaf v (frzC p)
def frzB:LT → List Nat
  | .own b _ _ _ ds => if (ds.map LT.erase).all PT.flat = true then [b] else []
  | .leaf _ _ => []
theorem frzL_erase:∀ t:LT,(frzL t).erase = frzC t.erase
  | .leaf v p => by simp only [frzL,LT.erase]
  | .own b cap e m ds => by
    simp only [frzL,LT.erase,frzC]
    split <;> simp only [LT.erase]
theorem frzL_val:∀ t:LT,(frzL t).val = t.val
  | .leaf v p => by simp only [frzL,LT.val]
  | .own b cap e m ds => by
    simp only [frzL]
    split <;> simp only [LT.val]
theorem frzB_sub:∀ t:LT,∀ y ∈ frzB t,y ∈ t.blocks
  | .leaf v p,y,h => by simp [frzB] at h
  | .own b cap e m ds,y,h => by
    simp only [frzB] at h
    split at h
    · simp only [List.mem_singleton] at h
      subst h
      simp [LT.blocks]
    · simp at h
theorem frzL_sub:∀ t:LT,(frzL t).blocks.Sublist t.blocks
  | .leaf v p => by simp [frzL,LT.blocks]
  | .own b cap e m ds => by
    simp only [frzL]
    split
    · simp [LT.blocks]
    · exact List.Sublist.refl _
theorem frzB_not:∀ t:LT,∀ y ∈ frzB t,y ∉ (frzL t).blocks
  | .leaf v p,y,h => by simp [frzB] at h
  | .own b cap e m ds,y,h => by
    simp only [frzB] at h
    split at h
    · rename_i hc
      simp only [frzL,hc,if_true,LT.blocks]
      simp
    · simp at h
section
variable {sz:Nat → Nat} {I I':Nat → Nat → Prop} {bs:List Nat} {A:AD} {w0 w w':World} {st st':St} {a:Act} {L:Loc} {P:Program}
theorem imL_flat {b:Nat} {arr:Array Value} {e:Nat} {f:Nat × Nat} (hb:w.heap[b]? = some (.cells arr e f)) (hI:I' 1 b):∀ (ds:List LT) (j:Nat),(∀ d ∈ ds,d.erase.flat = true ∧ d.holds sz w I) → (∀ (i:Nat) d,ds[i]? = some d → arr[j + i]? = some d.val) → ImL w I' 1 (some ⟨b,0,none⟩) j (ds.map LT.erase)
  | [],j,_,_ => by simp [ImL]
  | d :: ds,j,h1,h2 => by
    simp only [List.map_cons,ImL]
    obtain ⟨hf,hh⟩:=h1 d (List.mem_cons_self ..)
    refine ⟨⟨⟨b,0,none⟩,d.val,rfl,hI,?_,LT.holds_one hh,?_⟩,imL_flat hb hI ds (j + 1) (fun d' hd => h1 d' (List.mem_cons_of_mem _ hd)) fun i d' hd => ?_⟩
    · rw [Addr.add_lit,Nat.zero_add,cell_at hb]
      simpa using h2 0 d rfl
    · cases d with
      | leaf v p =>
        cases p with
        | raw u => simp only [LT.holds,Im,LT.val,LT.erase] at hh ⊢; exact hh.1
        | _ => simp [LT.erase,PT.flat] at hf
      | own _ _ _ _ _ => simp [LT.erase,PT.flat] at hf
    · have:=h2 (i + 1) d' (by simpa using hd)
      rw [show j + 1 + i = j + (i + 1) by omega]
      exact this
theorem frzL_holds (hI:∀ k b,I k b → I' k b):∀ t:LT,t.holds sz w I → (∀ y ∈ frzB t,I' 1 y) → (frzL t).holds sz w I'
  | .leaf v p,h,_ => by
    have h2:=LT.holds_frame hI (fun _ _ _ => rfl) (.leaf v p) h (fun _ _ => rfl)
    simp only [frzL,LT.holds] at h2 ⊢
    refine ⟨?_,h2.2⟩
    have h3:=h2.1
    unfold frzC
    split
    · rename_i e m ds
      split
      · simp only [Im] at h3 ⊢
        obtain ⟨rfl,rfl,ad,rfl⟩:=h3
        exact ⟨ad,0,rfl,Nat.le_refl _,trivial⟩
      · exact h3
    · exact h3
  | .own b cap e m ds,h,hB => by
    simp only [frzL]
    split
    · rename_i hc
      have hb:I' 1 b:=hB b (by simp [frzB,hc])
      simp only [LT.holds] at h ⊢
      obtain ⟨⟨arr,q1,q2,q3⟩,q4,q5,q6,q7⟩:=h
      refine ⟨?_,rfl⟩
      simp only [Im]
      refine ⟨_,_,rfl,q5,imL_flat q1 hb ds 0 (fun d hd => ⟨?_,q7 d hd⟩) fun i d hd => by rw [Nat.zero_add]; exact q3 i d hd⟩
      exact List.all_eq_true.1 hc _ (List.mem_map_of_mem hd)
    · exact LT.holds_frame hI (fun _ _ _ => rfl) _ h (fun _ _ => rfl)
def inCell (x:Id) (pl:Pl):Bool:=decide (pl.id = x) && !pl.path.isEmpty
def frzSt (x:Id) (t:PT) (st:St):St:=⟨st.sl.map (SV.kill (inCell x)),updF st.hp x (some (frzT t))⟩
def SV.quiet:SV → Bool
  | .junk => true
  | .ptr _ _ => true
  | .ref _ _ _ => true
  | .t p => p.noTmp
  | _ => false
theorem quiet_sound {w:World} {I I':Nat → Nat → Prop} (hI:∀ k b,k ≠ 1 → I' k b → I k b) {v:Value}:∀ {s:SV},s.quiet = true → SVR sz L w I' v s → SVR sz L w I v s
  | .junk,_,h => h
  | .ptr _ _,_,h => by simpa only [SVR] using h
  | .ref _ _ _,_,h => by simpa only [SVR] using h
  | .t p,hq,h => by
    simp only [SVR] at h ⊢
    exact (Im.noTmp hI).1 _ _ hq h
  | .ip _ _,hq,_ => by simp [SV.quiet] at hq
  | .fnc _ _,hq,_ => by simp [SV.quiet] at hq
  | .agg _,hq,_ => by simp [SV.quiet] at hq
  | .tup _,hq,_ => by simp [SV.quiet] at hq
/-- Rows in a cell of one's own are lent from here on. -/
theorem Sim.freeze (h:Sim sz I bs A w0 st a w L []) {x:Id} (hx:x.isOp = true) {e n:Nat} {cs:List PT} (ht:st.hp x = some (.sl 0 e n cs)) (hn:0 < n):∃ (I':Nat → Nat → Prop) (bs':List Nat) (L':Loc),Sim sz I' bs' A w (frzSt x (.sl 0 e n cs) st) a w L' [] ∧ (∀ k b,k ≠ 1 → I' k b → I k b) ∧ ∀ y ∈ bs',y ∈ bs ∨ w0.heap.size ≤ y:=by
  classical
  have her:=h.er x
  rw [ht,Option.map_eq_some_iff] at her
  obtain ⟨T,hT,hTe⟩:=her
  cases T with
  | leaf v p =>
    simp only [LT.erase] at hTe
    subst hTe
    have:=h.holds x _ hT
    simp only [LT.holds,Im] at this
    omega
  | own b cap e' n' ls =>
    simp only [LT.erase,PT.sl.injEq,true_and] at hTe
    obtain ⟨rfl,rfl,rfl⟩:=hTe
    have hTh:=h.holds x _ hT
    have hTn:=h.nodup x _ hT
    obtain ⟨T',hT'⟩:∃ T',T' = LT.own b cap e' n' (ls.map frzL):=⟨_,rfl⟩
    have hsub:T'.blocks.Sublist (LT.own b cap e' n' ls).blocks:=by
      rw [hT']
      simp only [LT.blocks]
      refine List.Sublist.cons_cons _ ?_
      clear hTh hTn hT hT' h ht
      induction ls with
      | nil => exact List.Sublist.refl _
      | cons c ls ih =>
        simp only [List.map_cons,List.flatMap_cons]
        exact List.Sublist.append (frzL_sub c) ih
    have hFz:∀ c ∈ ls,∀ y ∈ frzB c,y ∈ (LT.own b cap e' n' ls).blocks ∧ y ∉ T'.blocks:=by
      intro c hc y hy
      have hyc:=frzB_sub c y hy
      have hmem:y ∈ ls.flatMap LT.blocks:=List.mem_flatMap.2 ⟨c,hc,hyc⟩
      refine ⟨by simp only [LT.blocks]; exact List.mem_cons_of_mem _ hmem,?_⟩
      rw [hT']
      simp only [LT.blocks] at hTn ⊢
      have hn1:=List.nodup_cons.1 hTn
      intro hy2
      rcases List.mem_cons.1 hy2 with rfl | hy2
      · exact hn1.1 hmem
      · obtain ⟨c',hc',hy3⟩:=List.mem_flatMap.1 hy2
        obtain ⟨c2,hc2,rfl⟩:=List.mem_map.1 hc'
        by_cases hcc:c = c2
        · subst hcc
          exact frzB_not c y hy hy3
        · have hy4:=(frzL_sub c2).subset hy3
          -- two elements that share a block
          obtain ⟨i,hi,rfl⟩:=List.mem_iff_getElem.1 hc
          obtain ⟨j,hj,rfl⟩:=List.mem_iff_getElem.1 hc2
          have hij:i ≠ j:=by rintro rfl; exact hcc rfl
          have hnp:(ls.flatMap LT.blocks).Nodup:=hn1.2
          unfold List.Nodup at hnp
          rw [List.pairwise_flatMap] at hnp
          have hpw:=List.pairwise_iff_getElem.1 hnp.2
          rcases Nat.lt_or_ge i j with hlt | hge
          · exact hpw i j hi hj hlt y hyc y hy4 rfl
          · exact hpw j i hj hi (by omega) y hy4 y hyc rfl
    obtain ⟨I',hI'⟩:∃ I':Nat → Nat → Prop,I' = fun k y => I k y ∨ (k = 1 ∧ ∃ c ∈ ls,y ∈ frzB c):=⟨_,rfl⟩
    have hII:∀ k y,I k y → I' k y:=fun k y hy => by rw [hI']; exact .inl hy
    have hTh':T'.holds sz w I':=by
      rw [hT']
      simp only [LT.holds] at hTh ⊢
      obtain ⟨⟨arr,q1,q2,q3⟩,q4,q5,q6,q7⟩:=hTh
      refine ⟨⟨arr,q1,q2,fun j c hc => ?_⟩,by rw [List.length_map]; exact q4,q5,q6,fun c hc => ?_⟩
      · rw [List.getElem?_map,Option.map_eq_some_iff] at hc
        obtain ⟨d,hd,rfl⟩:=hc
        rw [frzL_val]
        exact q3 j d hd
      · obtain ⟨d,hd,rfl⟩:=List.mem_map.1 hc
        exact frzL_holds hII d (q7 d hd) fun y hy => by rw [hI']; exact .inr ⟨rfl,d,hd,hy⟩
    obtain ⟨L',hL'⟩:∃ L',L' = updF L x (some T'):=⟨_,rfl⟩
    have hcase:∀ id t,L' id = some t → (id = x ∧ t = T') ∨ (id ≠ x ∧ L id = some t):=by
      intro id t hid
      rw [hL'] at hid
      by_cases hxx:id = x
      · subst hxx; rw [updF_same] at hid; cases hid; exact .inl ⟨rfl,rfl⟩
      · rw [updF_ne _ _ hxx] at hid; exact .inr ⟨hxx,hid⟩
    have hown:∀ id t,L' id = some t → ∀ y ∈ t.blocks,y ∈ bs ∨ w0.heap.size ≤ y:=by
      intro id t hid y hy
      rcases hcase id t hid with ⟨rfl,rfl⟩ | ⟨hne,hid⟩
      · exact h.own _ _ hT y (hsub.subset hy)
      · exact h.own _ _ hid y hy
    have hholds:∀ id t,L' id = some t → t.holds sz w I':=by
      intro id t hid
      rcases hcase id t hid with ⟨rfl,rfl⟩ | ⟨hne,hid⟩
      · exact hTh'
      · exact LT.holds_frame hII (fun _ _ _ => rfl) t (h.holds _ _ hid) (fun _ _ => rfl)
    refine ⟨I',(List.range w.heap.size).filter (fun y => decide (∃ id t,L' id = some t ∧ y ∈ t.blocks)),L',?_,?_,?_⟩
    · exact {
        keeps:=Kp.refl _ _
        imm:=by
          intro k y hy
          rw [hI'] at hy
          rcases hy with hy | ⟨rfl,c,hc,hy⟩
          · refine ⟨h.immw k y hy,fun hm => ?_⟩
            have hm:=(List.mem_filter.1 hm).2
            simp only [decide_eq_true_eq] at hm
            obtain ⟨id,t,hid,hyt⟩:=hm
            have hne:=h.imm_ne hy
            rcases hown id t hid y hyt with hq | hq
            · exact hne.1 hq
            · exact hne.2 hq
          · obtain ⟨h1,h2⟩:=hFz c hc y hy
            refine ⟨LT.blocks_lt _ hTh y h1,fun hm => ?_⟩
            have hm:=(List.mem_filter.1 hm).2
            simp only [decide_eq_true_eq] at hm
            obtain ⟨id,t,hid,hyt⟩:=hm
            rcases hcase id t hid with ⟨rfl,rfl⟩ | ⟨hne,hid⟩
            · exact h2 hyt
            · exact h.apart _ _ _ _ (Ne.symm hne) hT hid y h1 hyt
        er:=by
          intro id
          rw [hL']
          simp only [frzSt]
          by_cases hxx:id = x
          · subst hxx
            rw [updF_same,updF_same,hT']
            simp only [Option.map_some,LT.erase,frzT,List.map_map,Function.comp_def,frzL_erase]
          · rw [updF_ne _ _ hxx,updF_ne _ _ hxx]
            exact h.er id
        holds:=hholds
        nodup:=by
          intro id t hid
          rcases hcase id t hid with ⟨rfl,rfl⟩ | ⟨hne,hid⟩
          · exact hTn.sublist hsub
          · exact h.nodup _ _ hid
        own:=by
          intro id t hid y hy
          refine .inl (List.mem_filter.2 ⟨List.mem_range.2 (LT.blocks_lt t (hholds id t hid) y hy),?_⟩)
          simp only [decide_eq_true_eq]
          exact ⟨id,t,hid,hy⟩
        apart:=by
          intro id id' t t' hne hid hid' y hy
          rcases hcase id t hid with ⟨rfl,rfl⟩ | ⟨h1,hid⟩
          · rcases hcase id' t' hid' with ⟨rfl,rfl⟩ | ⟨h2,hid'⟩
            · exact absurd rfl hne
            · exact h.apart _ _ _ _ hne hT hid' y (hsub.subset hy)
          · rcases hcase id' t' hid' with ⟨rfl,rfl⟩ | ⟨h2,hid'⟩
            · intro hy2
              exact h.apart _ _ _ _ hne hid hT y hy (hsub.subset hy2)
            · exact h.apart _ _ _ _ hne hid hid' y hy
        hholds:=by simp
        hnodup:=by simp
        hown:=by simp
        hapart:=by simp
        slots:=by
          refine SVRL.kill (inCell x) ?_ hII (fun _ _ _ => rfl) h.slots
          intro pl node hf hr hl
          by_cases hxx:pl.id = x
          · have hp:pl.path = []:=by
              simp only [inCell,hxx,decide_true,Bool.true_and,Bool.not_eq_false',List.isEmpty_iff] at hf
              exact hf
            unfold look at hl ⊢
            rw [hxx,hT] at hl
            rw [hxx,hL',updF_same]
            rw [hp] at hl ⊢
            simp only [LT.get,Option.some.injEq] at hl ⊢
            subst hl
            refine ⟨T',rfl,?_⟩
            rw [hT']
            exact ⟨_,_,rfl,by rw [List.length_map]; exact Nat.le_refl _⟩
          · refine ⟨node,?_,Shp.refl _⟩
            unfold look at hl ⊢
            rw [hL',updF_ne _ _ hxx]
            exact hl
        nodef:=h.nodef
        args:=by
          intro i j v hv
          obtain ⟨t,ht1,ht2⟩:=h.args i j v hv
          refine ⟨t,?_,ht2⟩
          rw [hL',updF_ne _ _ (Ne.symm (Id.isOp_ne hx i j))]
          exact ht1 }
    · intro k y hk hy
      rw [hI'] at hy
      rcases hy with hy | ⟨rfl,_⟩
      · exact hy
      · exact absurd rfl hk
    · intro y hy
      have hm:=(List.mem_filter.1 hy).2
      simp only [decide_eq_true_eq] at hm
      obtain ⟨id,t,hid,hyt⟩:=hm
      exact hown id t hid y hyt
theorem ofL_all {f:PT → Bool}:∀ {l:List (Id × PT)} {id:Id} {t:PT},(l.all fun p => f p.2) = true → ofL l id = some t → f t = true
  | [],_,_,_,h => by simp [ofL] at h
  | (i,u) :: l,id,t,h,ht => by
    simp only [List.all_cons,Bool.and_eq_true] at h
    simp only [ofL] at ht
    split at ht
    · cases ht; exact h.1
    · exact ofL_all h.2 ht
theorem slGet_all {f:SV → Bool} (hj:f .junk = true):∀ {l:List (Nat × SV)} {k:Nat},(l.all fun p => f p.2) = true → f (slGet l k) = true
  | [],k,_ => by simpa [slGet] using hj
  | (i,s) :: l,k,h => by
    simp only [List.all_cons,Bool.and_eq_true] at h
    simp only [slGet]
    split
    · exact h.1
    · exact slGet_all hj h.2
theorem frzSt_eq {x:Id} {t:PT} {n:Nat} {l:List (Nat × SV)} {hp:List (Id × PT)}:frzSt x t ⟨slOf n l,ofL hp⟩ = ⟨slOf n (killL (inCell x) l),ofL (setL hp x (frzT t))⟩:=by
  unfold frzSt
  rw [slOf_kill,updF_ofL]
  all_goals rfl
end
attribute [simp] frzSt_eq frzT frzC inCell SV.quiet
end Go.V

namespace Go.V
open Go.RowKit
set_option linter.unusedSimpArgs false
set_option linter.unusedVariables false
/-! ### one function called twice in a drawn region, at any arguments -/
open Classical in
noncomputable def f2 (a1 a2:List PV) (r1 r2:PV):List PV → Option (PV × List PV):=fun as => if as = a1 then some (r1,a1) else if as = a2 then some (r2,a2) else none
end Go.V

namespace Go.V
open Go.RowKit
set_option linter.unusedSimpArgs false
set_option linter.unusedVariables false

/-! ### a drawn region that begins with plain moves: these are taken ahead of all else -/
section
variable {P:Program} {ops:Array Oper} {Q Q':Exit → Act → World → Prop} {E:Env} {r:Nat}
def preM:Nat → List Oper → St → Option St
  | 0,_,st => some st
  | _ + 1,[],_ => none
  | m + 1,o :: l,st => match o.op,o.guard with
    | .move x,none => match opv st x with
      | some s => preM m l (st.set o.dst s)
      | none => none
    | _,_ => none

end
attribute [simp] preM
end Go.V

namespace Go.V
open Go.RowKit
set_option linter.unusedSimpArgs false
set_option linter.unusedVariables false

/-! ### rows in a cell of one's own, with all that they lead to, lent from here on -/
def frzDC:PT → PT
  | .sl 0 e m ds => .sl 1 0 m (PT.unownL ds)
  | p => p
def frzDT:PT → PT
  | .sl 0 e n cs => .sl 0 e n (cs.map frzDC)
  | p => p
def frzDL:LT → LT
  | .own b cap e m ds => .leaf (.slice (some ⟨b,0,none⟩) m cap) (.sl 1 0 m (PT.unownL (ds.map LT.erase)))
  | .leaf v p => .leaf v (frzDC p)
def frzDB:LT → List Nat
  | .own b cap e m ds => LT.blocks (.own b cap e m ds)
  | .leaf _ _ => []
theorem frzDL_erase:∀ t:LT,(frzDL t).erase = frzDC t.erase
  | .leaf v p => by simp only [frzDL,LT.erase]
  | .own b cap e m ds => by simp only [frzDL,LT.erase,frzDC]
theorem frzDL_val:∀ t:LT,(frzDL t).val = t.val
  | .leaf v p => by simp only [frzDL,LT.val]
  | .own b cap e m ds => by simp only [frzDL,LT.val]
theorem frzDB_sub:∀ t:LT,∀ y ∈ frzDB t,y ∈ t.blocks
  | .leaf v p,y,h => by simp [frzDB] at h
  | .own b cap e m ds,y,h => h
theorem frzDL_sub:∀ t:LT,(frzDL t).blocks.Sublist t.blocks
  | .leaf v p => by simp [frzDL,LT.blocks]
  | .own b cap e m ds => by simp [frzDL,LT.blocks]
theorem frzDB_not:∀ t:LT,∀ y ∈ frzDB t,y ∉ (frzDL t).blocks
  | .leaf v p,y,h => by simp [frzDB] at h
  | .own b cap e m ds,y,h => by simp [frzDL,LT.blocks]
section
variable {sz:Nat → Nat} {I I':Nat → Nat → Prop} {bs:List Nat} {A:AD} {w0 w w':World} {st st':St} {a:Act} {L:Loc} {P:Program}
theorem frzDL_holds (hI:∀ k b,I k b → I' k b) (h1:∀ k b,I k b → I' 1 b):∀ t:LT,t.holds sz w I → (∀ y ∈ frzDB t,I' 1 y) → (frzDL t).holds sz w I'
  | .leaf v p,h,_ => by
    have h2:=LT.holds_frame hI (fun _ _ _ => rfl) (.leaf v p) h (fun _ _ => rfl)
    simp only [frzDL,LT.holds] at h2 ⊢
    refine ⟨?_,h2.2⟩
    have h3:=h2.1
    unfold frzDC
    split
    · simp only [Im] at h3 ⊢
      obtain ⟨rfl,rfl,ad,rfl⟩:=h3
      simp only [PT.unownL,ImL]
      exact ⟨ad,0,rfl,Nat.le_refl _,trivial⟩
    · exact h3
  | .own b cap e m ds,h,hB => by
    have h2:=own_imm hI h1 _ h hB
    simp only [frzDL,LT.holds]
    refine ⟨?_,rfl⟩
    simp only [LT.val,LT.erase,PT.unown] at h2
    exact h2
def frzDSt (x:Id) (t:PT) (st:St):St:=⟨st.sl.map (SV.kill (inCell x)),updF st.hp x (some (frzDT t))⟩
/-- Rows in a cell of one's own are lent from here on. -/
theorem Sim.freezeD (h:Sim sz I bs A w0 st a w L []) {x:Id} (hx:x.isOp = true) {e n:Nat} {cs:List PT} (ht:st.hp x = some (.sl 0 e n cs)) (hn:0 < n):∃ (I':Nat → Nat → Prop) (bs':List Nat) (L':Loc),Sim sz I' bs' A w (frzDSt x (.sl 0 e n cs) st) a w L' [] ∧ (∀ k b,k ≠ 1 → I' k b → I k b) ∧ (∀ y ∈ bs',y ∈ bs ∨ w0.heap.size ≤ y) ∧ (∀ k b,I k b → I' k b) ∧ ∀ b,I' 1 b → (∃ k,I k b) ∨ b ∈ bs ∨ w0.heap.size ≤ b:=by
  classical
  have her:=h.er x
  rw [ht,Option.map_eq_some_iff] at her
  obtain ⟨T,hT,hTe⟩:=her
  cases T with
  | leaf v p =>
    simp only [LT.erase] at hTe
    subst hTe
    have:=h.holds x _ hT
    simp only [LT.holds,Im] at this
    omega
  | own b cap e' n' ls =>
    simp only [LT.erase,PT.sl.injEq,true_and] at hTe
    obtain ⟨rfl,rfl,rfl⟩:=hTe
    have hTh:=h.holds x _ hT
    have hTn:=h.nodup x _ hT
    obtain ⟨T',hT'⟩:∃ T',T' = LT.own b cap e' n' (ls.map frzDL):=⟨_,rfl⟩
    have hsub:T'.blocks.Sublist (LT.own b cap e' n' ls).blocks:=by
      rw [hT']
      simp only [LT.blocks]
      refine List.Sublist.cons_cons _ ?_
      clear hTh hTn hT hT' h ht
      induction ls with
      | nil => exact List.Sublist.refl _
      | cons c ls ih =>
        simp only [List.map_cons,List.flatMap_cons]
        exact List.Sublist.append (frzDL_sub c) ih
    have hFz:∀ c ∈ ls,∀ y ∈ frzDB c,y ∈ (LT.own b cap e' n' ls).blocks ∧ y ∉ T'.blocks:=by
      intro c hc y hy
      have hyc:=frzDB_sub c y hy
      have hmem:y ∈ ls.flatMap LT.blocks:=List.mem_flatMap.2 ⟨c,hc,hyc⟩
      refine ⟨by simp only [LT.blocks]; exact List.mem_cons_of_mem _ hmem,?_⟩
      rw [hT']
      simp only [LT.blocks] at hTn ⊢
      have hn1:=List.nodup_cons.1 hTn
      intro hy2
      rcases List.mem_cons.1 hy2 with rfl | hy2
      · exact hn1.1 hmem
      · obtain ⟨c',hc',hy3⟩:=List.mem_flatMap.1 hy2
        obtain ⟨c2,hc2,rfl⟩:=List.mem_map.1 hc'
        by_cases hcc:c = c2
        · subst hcc
          exact frzDB_not c y hy hy3
        · have hy4:=(frzDL_sub c2).subset hy3
          -- two elements that share a block
          obtain ⟨i,hi,rfl⟩:=List.mem_iff_getElem.1 hc
          obtain ⟨j,hj,rfl⟩:=List.mem_iff_getElem.1 hc2
          have hij:i ≠ j:=by rintro rfl; exact hcc rfl
          have hnp:(ls.flatMap LT.blocks).Nodup:=hn1.2
          unfold List.Nodup at hnp
          rw [List.pairwise_flatMap] at hnp
          have hpw:=List.pairwise_iff_getElem.1 hnp.2
          rcases Nat.lt_or_ge i j with hlt | hge
          · exact hpw i j hi hj hlt y hyc y hy4 rfl
          · exact hpw j i hj hi (by omega) y hy4 y hyc rfl
    obtain ⟨I',hI'⟩:∃ I':Nat → Nat → Prop,I' = fun k y => I k y ∨ (k = 1 ∧ ((∃ c ∈ ls,y ∈ frzDB c) ∨ ∃ k',I k' y)):=⟨_,rfl⟩
    have hII:∀ k y,I k y → I' k y:=fun k y hy => by rw [hI']; exact .inl hy
    have hI11:∀ k y,I k y → I' 1 y:=fun k y hy => by rw [hI']; exact .inr ⟨rfl,.inr ⟨k,hy⟩⟩
    have hTh':T'.holds sz w I':=by
      rw [hT']
      simp only [LT.holds] at hTh ⊢
      obtain ⟨⟨arr,q1,q2,q3⟩,q4,q5,q6,q7⟩:=hTh
      refine ⟨⟨arr,q1,q2,fun j c hc => ?_⟩,by rw [List.length_map]; exact q4,q5,q6,fun c hc => ?_⟩
      · rw [List.getElem?_map,Option.map_eq_some_iff] at hc
        obtain ⟨d,hd,rfl⟩:=hc
        rw [frzDL_val]
        exact q3 j d hd
      · obtain ⟨d,hd,rfl⟩:=List.mem_map.1 hc
        exact frzDL_holds hII hI11 d (q7 d hd) fun y hy => by rw [hI']; exact .inr ⟨rfl,.inl ⟨d,hd,hy⟩⟩
    obtain ⟨L',hL'⟩:∃ L',L' = updF L x (some T'):=⟨_,rfl⟩
    have hcase:∀ id t,L' id = some t → (id = x ∧ t = T') ∨ (id ≠ x ∧ L id = some t):=by
      intro id t hid
      rw [hL'] at hid
      by_cases hxx:id = x
      · subst hxx; rw [updF_same] at hid; cases hid; exact .inl ⟨rfl,rfl⟩
      · rw [updF_ne _ _ hxx] at hid; exact .inr ⟨hxx,hid⟩
    have hown:∀ id t,L' id = some t → ∀ y ∈ t.blocks,y ∈ bs ∨ w0.heap.size ≤ y:=by
      intro id t hid y hy
      rcases hcase id t hid with ⟨rfl,rfl⟩ | ⟨hne,hid⟩
      · exact h.own _ _ hT y (hsub.subset hy)
      · exact h.own _ _ hid y hy
    have hholds:∀ id t,L' id = some t → t.holds sz w I':=by
      intro id t hid
      rcases hcase id t hid with ⟨rfl,rfl⟩ | ⟨hne,hid⟩
      · exact hTh'
      · exact LT.holds_frame hII (fun _ _ _ => rfl) t (h.holds _ _ hid) (fun _ _ => rfl)
    refine ⟨I',(List.range w.heap.size).filter (fun y => decide (∃ id t,L' id = some t ∧ y ∈ t.blocks)),L',?_,?_,?_,hII,fun y hy => ?_⟩
    · exact {
        keeps:=Kp.refl _ _
        imm:=by
          intro k y hy
          rw [hI'] at hy
          have key:∀ k,I k y → y < w.heap.size ∧ y ∉ (List.range w.heap.size).filter (fun y => decide (∃ id t,L' id = some t ∧ y ∈ t.blocks)):=by
            intro k hy
            refine ⟨h.immw k y hy,fun hm => ?_⟩
            have hm:=(List.mem_filter.1 hm).2
            simp only [decide_eq_true_eq] at hm
            obtain ⟨id,t,hid,hyt⟩:=hm
            have hne:=h.imm_ne hy
            rcases hown id t hid y hyt with hq | hq
            · exact hne.1 hq
            · exact hne.2 hq
          rcases hy with hy | ⟨rfl,⟨c,hc,hy⟩ | ⟨k',hy⟩⟩
          · exact key k hy
          · obtain ⟨h1,h2⟩:=hFz c hc y hy
            refine ⟨LT.blocks_lt _ hTh y h1,fun hm => ?_⟩
            have hm:=(List.mem_filter.1 hm).2
            simp only [decide_eq_true_eq] at hm
            obtain ⟨id,t,hid,hyt⟩:=hm
            rcases hcase id t hid with ⟨rfl,rfl⟩ | ⟨hne,hid⟩
            · exact h2 hyt
            · exact h.apart _ _ _ _ (Ne.symm hne) hT hid y h1 hyt
          · exact key k' hy
        er:=by
          intro id
          rw [hL']
          simp only [frzDSt]
          by_cases hxx:id = x
          · subst hxx
            rw [updF_same,updF_same,hT']
            simp only [Option.map_some,LT.erase,frzDT,List.map_map,Function.comp_def,frzDL_erase]
          · rw [updF_ne _ _ hxx,updF_ne _ _ hxx]
            exact h.er id
        holds:=hholds
        nodup:=by
          intro id t hid
          rcases hcase id t hid with ⟨rfl,rfl⟩ | ⟨hne,hid⟩
          · exact hTn.sublist hsub
          · exact h.nodup _ _ hid
        own:=by
          intro id t hid y hy
          refine .inl (List.mem_filter.2 ⟨List.mem_range.2 (LT.blocks_lt t (hholds id t hid) y hy),?_⟩)
          simp only [decide_eq_true_eq]
          exact ⟨id,t,hid,hy⟩
        apart:=by
          intro id id' t t' hne hid hid' y hy
          rcases hcase id t hid with ⟨rfl,rfl⟩ | ⟨h1,hid⟩
          · rcases hcase id' t' hid' with ⟨rfl,rfl⟩ | ⟨h2,hid'⟩
            · exact absurd rfl hne
            · exact h.apart _ _ _ _ hne hT hid' y (hsub.subset hy)
          · rcases hcase id' t' hid' with ⟨rfl,rfl⟩ | ⟨h2,hid'⟩
            · intro hy2
              exact h.apart _ _ _ _ hne hid hT y hy (hsub.subset hy2)
            · exact h.apart _ _ _ _ hne hid hid' y hy
        hholds:=by simp
        hnodup:=by simp
        hown:=by simp
        hapart:=by simp
        slots:=by
          refine SVRL.kill (inCell x) ?_ hII (fun _ _ _ => rfl) h.slots
          intro pl node hf hr hl
          by_cases hxx:pl.id = x
          · have hp:pl.path = []:=by
              simp only [inCell,hxx,decide_true,Bool.true_and,Bool.not_eq_false',List.isEmpty_iff] at hf
              exact hf
            unfold look at hl ⊢
            rw [hxx,hT] at hl
            rw [hxx,hL',updF_same]
            rw [hp] at hl ⊢
            simp only [LT.get,Option.some.injEq] at hl ⊢
            subst hl
            refine ⟨T',rfl,?_⟩
            rw [hT']
            exact ⟨_,_,rfl,by rw [List.length_map]; exact Nat.le_refl _⟩
          · refine ⟨node,?_,Shp.refl _⟩
            unfold look at hl ⊢
            rw [hL',updF_ne _ _ hxx]
            exact hl
        nodef:=h.nodef
        args:=by
          intro i j v hv
          obtain ⟨t,ht1,ht2⟩:=h.args i j v hv
          refine ⟨t,?_,ht2⟩
          rw [hL',updF_ne _ _ (Ne.symm (Id.isOp_ne hx i j))]
          exact ht1 }
    · intro k y hk hy
      rw [hI'] at hy
      rcases hy with hy | ⟨rfl,_⟩
      · exact hy
      · exact absurd rfl hk
    · intro y hy
      have hm:=(List.mem_filter.1 hy).2
      simp only [decide_eq_true_eq] at hm
      obtain ⟨id,t,hid,hyt⟩:=hm
      exact hown id t hid y hyt
    · rw [hI'] at hy
      rcases hy with hy | ⟨_,⟨c,hc,hy⟩ | ⟨k',hy⟩⟩
      · exact .inl ⟨1,hy⟩
      · exact .inr (h.own _ _ hT y (hFz c hc y hy).1)
      · exact .inl ⟨k',hy⟩

/-- What is left behind a while of lending, at whatever end: nothing that is lent. -/
def ThawedX (K:Exit → St → Prop) (keep:List Nat) (ids:List Id) (e:Exit) (st:St):Prop:=∃ (n:Nat) (l:List (Nat × SV)) (hp:List (Id × PT)),st.drop keep ids = ⟨slOf n l,ofL hp⟩ ∧ (l.all fun p => p.2.quiet) = true ∧ (hp.all fun p => p.2.noTmp) = true ∧ K e ⟨slOf n l,ofL hp⟩
theorem frzDSt_eq {x:Id} {t:PT} {n:Nat} {l:List (Nat × SV)} {hp:List (Id × PT)}:frzDSt x t ⟨slOf n l,ofL hp⟩ = ⟨slOf n (killL (inCell x) l),ofL (setL hp x (frzDT t))⟩:=by
  unfold frzDSt
  rw [slOf_kill,updF_ofL]
  all_goals rfl
theorem ThawedX_mk {K:Exit → St → Prop} {keep:List Nat} {ids:List Id} {n:Nat} {e:Exit} {l:List (Nat × SV)} {hp:List (Id × PT)}
    (h:((killL (fun q => match q.id with | .arg _ _ => false | id => !ids.contains id) (slPick l keep)).all fun p => p.2.quiet) = true ∧ ((dropL ids hp).all fun p => p.2.noTmp) = true ∧ K e ⟨slOf n (killL (fun q => match q.id with | .arg _ _ => false | id => !ids.contains id) (slPick l keep)),ofL (dropL ids hp)⟩):ThawedX K keep ids e ⟨slOf n l,ofL hp⟩ :=
  ⟨n,_,_,drop_slOf _ _ _ _,h.1,h.2.1,h.2.2⟩
end
attribute [simp] frzDSt_eq frzDT frzDC

/-! ### a function's code, cut behind some statements -/
def Code.rest:Nat → Code → Code
  | n + 1,.seq _ b => Code.rest n b
  | _,c => c
def ewrN (P:Program) (M:List (FuncId × List Nat)):Nat → Code → (St → Prop) → (Exit → St → Prop) → St → Prop
  | 0,_,K,_,st => K st
  | n + 1,.seq a b,K,Q,st => ewr P M a (eThen (ewrN P M n b K Q) Q) st
  | _ + 1,_,_,_,_ => False
theorem ewrN_sound {P:Program} {M:List (FuncId × List Nat)} (h0:tsz P nilE = 0) {K:St → Prop} {Q:Exit → St → Prop}:∀ (n:Nat) {c:Code} {st:St},(∀ st,K st → ewp P (Code.rest n c) Q st) → ewrN P M n c K Q st → ewp P c Q st
  | 0,c,st,hK,h => by
    have:=hK st h
    cases c <;> simpa only [Code.rest] using this
  | n + 1,c,st,hK,h => by
    cases c <;> simp only [ewrN] at h
    case seq a b =>
      refine ewp_seq (ewp_mono (ewr_sound h0 h) ?_)
      intro e st' h'
      cases e <;> simp only [eThen] at h' ⊢
      · exact ewrN_sound h0 n (fun st hs => by have:=hK st hs; simpa only [Code.rest] using this) h'
      all_goals exact h'
theorem ewrN_zero {P:Program} {M:List (FuncId × List Nat)} {c:Code} {K:St → Prop} {Q:Exit → St → Prop} {st:St}:ewrN P M 0 c K Q st = K st:=rfl
theorem ewrN_succ {P:Program} {M:List (FuncId × List Nat)} {n:Nat} {a b:Code} {K:St → Prop} {Q:Exit → St → Prop} {st:St}:ewrN P M (n + 1) (.seq a b) K Q st = ewr P M a (eThen (ewrN P M n b K Q) Q) st:=rfl
attribute [simp] ewrN_zero ewrN_succ
end Go.V

namespace Go.V
open Go.RowKit
set_option linter.unusedSimpArgs false
set_option linter.unusedVariables false

/-! ### a struct of a number and a text against another one -/
def isStrT (P:Program) (t:TypeId):Bool:=match P.underlying t with
  | some .string => true
  | _ => false
def isNumStrT (P:Program) (t:TypeId):Bool:=!P.stoodInHeld t && !P.eqGuardType P.depth t && (match P.underlying t with
  | some (.struct fs) => match fs.toList with
    | [f, g] => f.offset == 0 && g.offset == 1 && (f.name != "_" && g.name != "_") && (isIntT P f.type && isStrT P g.type)
    | _ => false
  | _ => false)
section
variable {P:Program} {t:TypeId} {x y:Operand} {k k1 k2:IntKind} {a c:Int} {b d:ByteArray}
theorem isStrT_und (h:isStrT P t = true):P.underlying t = some .string:=by
  unfold isStrT at h
  split at h
  · assumption
  · cases h
theorem pr_equalStr {n:Nat} (h:isStrT P t = true):pureRun P (Op.equalIn (n + 1) t (.string b) (.string d)) = some (b == d):=by
  have hu:=isStrT_und h
  unfold Op.equalIn
  rw [pureRun_bind,pr_und hu]
  simp [pureRun_pure]
theorem pr_partS {cs:Array Value} {off:Nat} {v:Value} (h:isStrT P t = true) (hv:cs[off]? = some v):pureRun P (part t cs off) = some v:=by
  have hu:=isStrT_und h
  unfold part isAgg
  simp [pureRun_bind,pr_und hu,pureRun_pure,hv]
theorem pr_equalNS {n:Nat} (h:isNumStrT P t = true):pureRun P (Op.equalIn (n + 2) t (.agg #[.int k1 a,.string b]) (.agg #[.int k1 c,.string d])) = some (a == c && b == d):=by
  unfold isNumStrT at h
  simp only [Bool.and_eq_true,Bool.not_eq_true'] at h
  obtain ⟨⟨h1,h2⟩,h3⟩:=h
  split at h3
  · rename_i fs hu
    split at h3
    · rename_i f g hfs
      simp only [Bool.and_eq_true,beq_iff_eq,bne_iff_ne] at h3
      obtain ⟨⟨⟨e1,e2⟩,n1,n2⟩,i1,i2⟩:=h3
      have e:fs = #[f,g]:=by rw [← Array.toArray_toList (xs:=fs),hfs]
      subst e
      unfold Op.equalIn
      rw [pureRun_bind,pr_und hu]
      have p1:∀ (u v:Value),pureRun P (part f.type #[u,v] f.offset) = some u:=fun u v => pr_partI i1 (by rw [e1]; rfl)
      have p2:∀ (u v:Value),pureRun P (part g.type #[u,v] g.offset) = some v:=fun u v => pr_partS i2 (by rw [e2]; rfl)
      have hp:pureRun P program = some P:=rfl
      simp only [Option.bind_some,pureRun_bind,hp,h1,Bool.false_eq_true,if_false]
      rw [← Array.forIn_toList]
      simp only [List.forIn_cons,List.forIn_nil,pureRun_bind]
      have q1:pureRun P (Op.equalIn (n + 1) f.type (.int k1 a) (.int k1 c)) = some (a == c):=pr_equalI i1
      have q2:pureRun P (Op.equalIn (n + 1) g.type (.string b) (.string d)) = some (b == d):=pr_equalStr i2
      clear i1 i2
      generalize (a == c) = u at q1 ⊢
      generalize (b == d) = v at q2 ⊢
      cases u <;> cases v <;> simp [n1,n2,pureRun_bind,pureRun_pure,p1,p2,q1,q2]
    · cases h3
  · cases h3
theorem pr_guardNS {op:BinOp} {xs ys:Array Value} (h:isNumStrT P t = true):pureRun P (eqGuard op t x y (.agg xs) (.agg ys)) = some ():=by
  unfold isNumStrT at h
  simp only [Bool.and_eq_true,Bool.not_eq_true'] at h
  have hp:pureRun P program = some P:=rfl
  cases op <;> simp [eqGuard,pureRun_bind,pureRun_pure,hp,h.1.2]
theorem beqB {b d:ByteArray}:(b == d) = decide (b = d):=by
  show (b.data == d.data) = _
  rw [Bool.eq_iff_iff,beq_iff_eq,decide_eq_true_eq]
  exact ⟨fun h => ByteArray.ext h,fun h => by rw [h]⟩
theorem pr_eqlNS (h:isNumStrT P t = true):pureRun P (do eqGuard .eql t x y (.agg #[.int k1 a,.string b]) (.agg #[.int k1 c,.string d]); binOp .eql t (.agg #[.int k1 a,.string b]) (.agg #[.int k1 c,.string d])) = some (.bool (decide (a = c) && decide (b = d))):=by
  rw [pureRun_bind,pr_guardNS h]
  show pureRun P (do let z ← Op.equalIn (9998 + 2) t (.agg #[.int k1 a,.string b]) (.agg #[.int k1 c,.string d]); pure (Value.bool z)) = _
  rw [pureRun_bind,pr_equalNS h,beqB]
  rfl
theorem pr_neqNS (h:isNumStrT P t = true):pureRun P (do eqGuard .neq t x y (.agg #[.int k1 a,.string b]) (.agg #[.int k1 c,.string d]); binOp .neq t (.agg #[.int k1 a,.string b]) (.agg #[.int k1 c,.string d])) = some (.bool (!(decide (a = c) && decide (b = d)))):=by
  rw [pureRun_bind,pr_guardNS h]
  show pureRun P (do let z ← Op.equalIn (9998 + 2) t (.agg #[.int k1 a,.string b]) (.agg #[.int k1 c,.string d]); pure (Value.bool !z)) = _
  rw [pureRun_bind,pr_equalNS h,beqB]
  rfl
end
attribute [simp] pr_eqlNS pr_neqNS
/-- What stands behind a cut, told once. -/
theorem ewrN_cut {P:Program} {M:List (FuncId × List Nat)} (h0:tsz P nilE = 0) (n:Nat) (keep:List Nat) (ids:List Id) (st1:St) {c:Code} {Q:Exit → St → Prop} {st:St} (hrest:ewp P (Code.rest n c) Q st1) (h:∀ K:St → Prop,(∀ st,st.drop keep ids = st1 → K st) → ewrN P M n c K Q st):ewp P c Q st :=
  ewrN_sound h0 n (K:=fun st => ewp P (Code.rest n c) Q st) (fun _ hk => hk) (h _ fun st e => by
    refine ewp_drop keep ids ?_
    rw [e]
    exact hrest)
end Go.V

namespace Go.V
open Go.RowKit
set_option linter.unusedSimpArgs false
set_option linter.unusedVariables false

/-! ### a drawn region whose plain moves, wherever they stand, are taken ahead of all else -/
section
variable {P:Program} {ops:Array Oper} {Q:Exit → Act → World → Prop} {E:Env} {r:Nat}
def preK (ms:List Nat):Nat → List Oper → St → Option St
  | _,[],st => some st
  | k,o :: l,st => if ms.contains k = true then (match o.op,o.guard with
      | .move x,none => (match opv st x with
        | some s => preK ms (k + 1) l (st.set o.dst s)
        | none => none)
      | _,_ => none) else preK ms (k + 1) l st
def lexRunS (ms:List Nat) (E:Env) (P:Program) (r:Nat) (ops:Array Oper):List OI → List Oper → Nat → St → Option St
  | _,[],_,st => some st
  | [],_ :: _,_,_ => none
  | x :: xs,o :: rest,k,st => if ms.contains k = true then lexRunS ms E P r ops xs rest (k + 1) st else nxt (stM E P r ops x k o st) (lexRunS ms E P r ops xs rest (k + 1))
theorem lexRunS_nil {ms:List Nat} {E:Env} {P:Program} {r:Nat} {ops:Array Oper} {xs:List OI} {k:Nat} {st:St}:lexRunS ms E P r ops xs [] k st = some st:=by cases xs <;> rfl
theorem lexRunS_skip {ms:List Nat} {x:OI} {xs:List OI} {o:Oper} {rest:List Oper} {k:Nat} {st:St} (h:ms.contains k = true):lexRunS ms E P r ops (x :: xs) (o :: rest) k st = lexRunS ms E P r ops xs rest (k + 1) st:=by rw [lexRunS,if_pos h]
theorem lexRunS_take {ms:List Nat} {x:OI} {xs:List OI} {o:Oper} {rest:List Oper} {k:Nat} {st:St} (h:ms.contains k = false):lexRunS ms E P r ops (x :: xs) (o :: rest) k st = nxt (stM E P r ops x k o st) (lexRunS ms E P r ops xs rest (k + 1)):=by rw [lexRunS,if_neg (by rw [h]; simp)]
end
attribute [simp] preK lexRunS_nil lexRunS_skip lexRunS_take
end Go.V
