/- What functions of the seat's program do, each proved of its code, under the bounds that its theorem names. -/
import Derived.Test.YtdelgkhoahmnfaaGreatTao
set_option linter.all false
namespace Go.V
open Go.Proofs
set_option maxHeartbeats 1000000
set_option maxRecDepth 10000
set_option linter.unusedSimpArgs false
set_option linter.unusedVariables false
/-! ### a drawn region with two pairs (b, c1), (b, c2) that do not change places: three orders are reckoned -/
section
open Go Go.RowKit
variable {P:Program} {ops:Array Oper} {Q:Exit → Act → World → Prop} {E:Env} {r:Nat}
def rdyX (es:List (Nat × Nat)) (ops:Array Oper) (listed:Array Bool):List Nat:=(Region.ready .any ops listed).filter fun k => es.all fun e => !(k == e.2) || listed.getD e.1 false
def anyX (es:List (Nat × Nat)) (E:Env) (P:Program) (r:Nat) (ops:Array Oper) (xs:List OI) (K:St → Prop):Nat → Array Bool → St → Prop
  | 0,listed,st => rdyX es ops listed = [] ∧ K st
  | f + 1,listed,st => (rdyX es ops listed = [] → K st) ∧ ∀ i ∈ rdyX es ops listed,∃ st',stMi E P r ops xs i st = some st' ∧ anyX es E P r ops xs K f (listed.setIfInBounds i true) st'
theorem mem_rdyX {es:List (Nat × Nat)} {k:Nat} {listed:Array Bool}:k ∈ rdyX es ops listed ↔ k ∈ Region.ready .any ops listed ∧ ∀ e ∈ es,k = e.2 → listed.getD e.1 false = true:=by
  unfold rdyX
  rw [List.mem_filter,List.all_eq_true]
  refine and_congr_right fun _ => forall_congr' fun e => forall_congr' fun he => ?_
  by_cases h:k = e.2
  · simp [h]
  · simp [h]
theorem rdyX_mono {es:List (Nat × Nat)} {i j:Nat} {listed:Array Bool} (hj:j ∈ rdyX es ops listed) (hne:j ≠ i):j ∈ rdyX es ops (listed.setIfInBounds i true):=by
  rw [mem_rdyX] at *
  exact ⟨ready_mono hj.1 hne,fun e he h => getD_set_true (hj.2 e he h)⟩
theorem rdyX_cons {es:List (Nat × Nat)} {a b k:Nat} {listed:Array Bool}:k ∈ rdyX ((a,b) :: es) ops listed ↔ k ∈ rdyX es ops listed ∧ (k = b → listed.getD a false = true):=by
  rw [mem_rdyX,mem_rdyX]
  constructor
  · rintro ⟨h1,h2⟩
    exact ⟨⟨h1,fun e he => h2 e (List.mem_cons_of_mem _ he)⟩,h2 (a,b) List.mem_cons_self⟩
  · rintro ⟨⟨h1,h2⟩,h3⟩
    refine ⟨h1,fun e he => ?_⟩
    rcases List.mem_cons.1 he with rfl | he
    · exact h3
    · exact h2 e he
theorem anyX_drop {es:List (Nat × Nat)} {a b:Nat} {xs:List OI} {K:St → Prop}:∀ (f:Nat) (listed:Array Bool) (st:St),listed.getD a false = true → anyX ((a,b) :: es) E P r ops xs K f listed st → anyX es E P r ops xs K f listed st
  | 0,listed,st,hl,h => by
    refine ⟨?_,h.2⟩
    rw [List.eq_nil_iff_forall_not_mem]
    intro k hk
    have:k ∈ rdyX ((a,b) :: es) ops listed:=rdyX_cons.2 ⟨hk,fun _ => hl⟩
    rw [h.1] at this
    cases this
  | f + 1,listed,st,hl,h => by
    refine ⟨fun hr => h.1 ?_,fun i hi => ?_⟩
    · rw [List.eq_nil_iff_forall_not_mem]
      intro k hk
      have:=(rdyX_cons.1 hk).1
      rw [hr] at this
      cases this
    · obtain ⟨st',h1,h2⟩:=h.2 i (rdyX_cons.2 ⟨hi,fun _ => hl⟩)
      exact ⟨st',h1,anyX_drop f _ st' (getD_set_true hl) h2⟩
theorem listed_set {listed:Array Bool} {i:Nat} (hi:i ∈ Region.ready .any ops listed):(listed.setIfInBounds i true).getD i false = true:=by
  have hlt:i < listed.size:=by
    rcases Nat.lt_or_ge i listed.size with h' | h'
    · exact h'
    · have:=(mem_ready.1 hi).1
      simp [Array.getElem?_eq_none h'] at this
  simp [hlt]
theorem anyX_split {es:List (Nat × Nat)} {a b:Nat} {xs:List OI} {K:St → Prop} (hab:a ≠ b):∀ (f:Nat) (listed:Array Bool) (st:St),listed.getD a false = false → listed.getD b false = false → anyX ((a,b) :: es) E P r ops xs K f listed st → anyX ((b,a) :: es) E P r ops xs K f listed st → anyX es E P r ops xs K f listed st
  | 0,listed,st,ha,hb,h1,h2 => by
    refine ⟨?_,h1.2⟩
    rw [List.eq_nil_iff_forall_not_mem]
    intro k hk
    have g1:k ∉ rdyX ((a,b) :: es) ops listed:=by rw [h1.1]; simp
    have g2:k ∉ rdyX ((b,a) :: es) ops listed:=by rw [h2.1]; simp
    rw [rdyX_cons] at g1 g2
    have e1:k = b:=Classical.byContradiction fun h => g1 ⟨hk,fun e => absurd e h⟩
    have e2:k = a:=Classical.byContradiction fun h => g2 ⟨hk,fun e => absurd e h⟩
    exact hab (e2.symm.trans e1)
  | f + 1,listed,st,ha,hb,h1,h2 => by
    refine ⟨fun hr => h1.1 ?_,fun i hi => ?_⟩
    · rw [List.eq_nil_iff_forall_not_mem]
      intro k hk
      have:=(rdyX_cons.1 hk).1
      rw [hr] at this
      cases this
    · have hrd:=(mem_rdyX.1 hi).1
      by_cases hia:i = a
      · subst hia
        obtain ⟨st',g1,g2⟩:=h1.2 i (rdyX_cons.2 ⟨hi,fun e => absurd e hab⟩)
        exact ⟨st',g1,anyX_drop f _ st' (listed_set hrd) g2⟩
      · by_cases hib:i = b
        · subst hib
          obtain ⟨st',g1,g2⟩:=h2.2 i (rdyX_cons.2 ⟨hi,fun e => absurd e.symm hab⟩)
          exact ⟨st',g1,anyX_drop f _ st' (listed_set hrd) g2⟩
        · obtain ⟨st1,g1,g2⟩:=h1.2 i (rdyX_cons.2 ⟨hi,fun e => absurd e hib⟩)
          obtain ⟨st2,g3,g4⟩:=h2.2 i (rdyX_cons.2 ⟨hi,fun e => absurd e hia⟩)
          rw [g1] at g3
          cases g3
          exact ⟨st1,g1,anyX_split hab f _ st1 (by rw [getD_set_ne false hia]; exact ha) (by rw [getD_set_ne false hib]; exact hb) g2 g4⟩
theorem anyX_nil {xs:List OI} {K:St → Prop}:∀ (f:Nat) (listed:Array Bool) (st:St),anyX [] E P r ops xs K f listed st → anyV E P r ops xs K f listed st
  | 0,listed,st,h => by
    have e:rdyX [] ops listed = Region.ready .any ops listed:=by unfold rdyX; simp
    unfold anyX at h
    rw [e] at h
    exact h
  | f + 1,listed,st,h => by
    have e:rdyX [] ops listed = Region.ready .any ops listed:=by unfold rdyX; simp
    unfold anyX at h
    rw [e] at h
    exact ⟨h.1,fun i hi => let ⟨st',h1,h2⟩:=h.2 i hi; ⟨st',h1,anyX_nil f _ st' h2⟩⟩
/-! waiting, by what the region asks or by the edges -/
def waitsX (es:List (Nat × Nat)) (ops:Array Oper):Nat → Nat → Nat → Bool
  | 0,_,_ => false
  | n + 1,i,j => (match ops[j]? with
    | some o => o.after.any fun e => Region.binds .any e && (e.on == i || waitsX es ops n i e.on)
    | none => false) || es.any fun e => e.2 == j && (e.1 == i || waitsX es ops n i e.1)
def ClosedX (es:List (Nat × Nat)) (ops:Array Oper) (listed:Array Bool):Prop:=Closed ops listed ∧ ∀ e ∈ es,listed.getD e.2 false = true → listed.getD e.1 false = true
theorem not_waitsX {es:List (Nat × Nat)} {listed:Array Bool} (hc:ClosedX es ops listed) {i:Nat} (hi:listed.getD i false = false):∀ (n m:Nat),listed.getD m false = true → waitsX es ops n i m = false
  | 0,m,_ => rfl
  | n + 1,m,hm => by
    unfold waitsX
    rw [Bool.or_eq_false_iff]
    constructor
    · split
      · rename_i o ho
        rw [Array.any_eq_false']
        intro e he hx
        simp only [Bool.and_eq_true,Bool.or_eq_true,beq_iff_eq] at hx
        have hl:=hc.1 m hm o ho e he hx.1
        rcases hx.2 with h1 | h1
        · rw [h1,hi] at hl; cases hl
        · rw [not_waitsX hc hi n e.on hl] at h1; cases h1
      · rfl
    · rw [List.any_eq_false]
      intro e he hx
      simp only [Bool.and_eq_true,Bool.or_eq_true,beq_iff_eq] at hx
      have hl:=hc.2 e he (by rw [hx.1]; exact hm)
      rcases hx.2 with h1 | h1
      · rw [h1,hi] at hl; cases hl
      · rw [not_waitsX hc hi n e.1 hl] at h1; cases h1
theorem ready_waitsX {es:List (Nat × Nat)} {listed:Array Bool} (hc:ClosedX es ops listed) {i j:Nat} (hi:listed.getD i false = false) (hj:j ∈ rdyX es ops listed):∀ n,waitsX es ops n i j = false
  | 0 => rfl
  | n + 1 => by
    obtain ⟨hr,he0⟩:=mem_rdyX.1 hj
    obtain ⟨_,o,ho,hall⟩:=mem_ready.1 hr
    unfold waitsX
    rw [ho,Bool.or_eq_false_iff]
    constructor
    · simp only
      rw [Array.any_eq_false']
      intro e he hx
      simp only [Bool.and_eq_true,Bool.or_eq_true,beq_iff_eq] at hx
      have hl:=hall e he hx.1
      rcases hx.2 with h1 | h1
      · rw [h1,hi] at hl; cases hl
      · rw [not_waitsX hc hi n e.on hl] at h1; cases h1
    · rw [List.any_eq_false]
      intro e he hx
      simp only [Bool.and_eq_true,Bool.or_eq_true,beq_iff_eq] at hx
      have hl:=he0 e he hx.1.symm
      rcases hx.2 with h1 | h1
      · rw [h1,hi] at hl; cases hl
      · rw [not_waitsX hc hi n e.1 hl] at h1; cases h1
theorem ClosedX.add {es:List (Nat × Nat)} {listed:Array Bool} (hc:ClosedX es ops listed) {j:Nat} (hj:j ∈ rdyX es ops listed):ClosedX es ops (listed.setIfInBounds j true):=by
  obtain ⟨hr,he0⟩:=mem_rdyX.1 hj
  refine ⟨hc.1.add hr,fun e he hl => ?_⟩
  refine getD_set_true ?_
  by_cases h:j = e.2
  · exact he0 e he h
  · rw [getD_set_ne false h] at hl
    exact hc.2 e he hl
theorem anyX_first {es:List (Nat × Nat)} {xs:List OI} {K:St → Prop} {i:Nat}:∀ (f:Nat) (listed:Array Bool) (st st1:St),
    (∀ j,j ≠ i → listed.getD j true = false → (∀ n,waitsX es ops n i j = false) → ∀ st st1 st2,stMi E P r ops xs i st = some st1 → stMi E P r ops xs j st1 = some st2 → ∃ st',stMi E P r ops xs j st = some st' ∧ stMi E P r ops xs i st' = some st2) →
    ClosedX es ops listed → i ∈ rdyX es ops listed → stMi E P r ops xs i st = some st1 → anyX es E P r ops xs K f (listed.setIfInBounds i true) st1 → anyX es E P r ops xs K (f + 1) listed st:=by
  intro f
  induction f with
  | zero =>
    intro listed st st1 hcomm hc hr hm H
    refine ⟨fun h => (by rw [h] at hr; cases hr),fun j hj => ?_⟩
    by_cases hji:j = i
    · subst hji; exact ⟨st1,hm,H⟩
    · have:=rdyX_mono hj hji
      rw [H.1] at this
      cases this
  | succ f ih =>
    intro listed st st1 hcomm hc hr hm H
    refine ⟨fun h => (by rw [h] at hr; cases hr),fun j hj => ?_⟩
    by_cases hji:j = i
    · subst hji; exact ⟨st1,hm,H⟩
    · obtain ⟨st2,h2,H2⟩:=H.2 j (rdyX_mono hj hji)
      have hi0:=getD_tf (mem_ready.1 (mem_rdyX.1 hr).1).1
      have hju:=(mem_ready.1 (mem_rdyX.1 hj).1).1
      obtain ⟨st',h3,h4⟩:=hcomm j hji hju (ready_waitsX hc hi0 hj) st st1 st2 hm h2
      refine ⟨st',h3,ih (listed.setIfInBounds j true) st' st2 (fun k hki hun hw => ?_) (hc.add hj) (rdyX_mono hr (Ne.symm hji)) h4 ?_⟩
      · refine hcomm k hki ?_ hw
        by_cases hjk:j = k
        · subst hjk; exact hju
        · rw [getD_set_ne true hjk] at hun; exact hun
      · rw [Array.setIfInBounds_comm _ _ hji]
        exact H2
def ordX (es:List (Nat × Nat)) (ops:Array Oper):List Nat → Array Bool → Bool
  | [],listed => (rdyX es ops listed).isEmpty
  | k :: l,listed => (rdyX es ops listed).contains k && ordX es ops l (listed.setIfInBounds k true)
theorem anyX_run {es:List (Nat × Nat)} {ms:List Nat} {xs:List OI} {K:St → Prop} {st':St} (hK:K st')
    (hcomm:∀ i j,ms.contains i = false → ms.contains j = false → i ≠ j → (∀ n,waitsX es ops n i j = false) → (∀ n,waitsX es ops n j i = false) → ∀ st st1 st2,stMi E P r ops xs i st = some st1 → stMi E P r ops xs j st1 = some st2 → ∃ st',stMi E P r ops xs j st = some st' ∧ stMi E P r ops xs i st' = some st2) :
    ∀ (l:List Nat) (listed:Array Bool) (st:St),(∀ j,ms.contains j = true → listed.getD j true = true) → ordX es ops l listed = true → ClosedX es ops listed → runI E P r ops xs l st = some st' → anyX es E P r ops xs K l.length listed st
  | [],listed,st,_,hB,_,hl => by
    simp only [runI,Option.some.injEq] at hl
    subst hl
    exact ⟨by simpa [ordX] using hB,hK⟩
  | k :: l,listed,st,hL,hB,hc,hl => by
    simp only [ordX,Bool.and_eq_true] at hB
    obtain ⟨hr,hB'⟩:=hB
    have hr':k ∈ rdyX es ops listed:=by simpa using hr
    have hun:listed.getD k true = false:=(mem_ready.1 (mem_rdyX.1 hr').1).1
    have hmk:ms.contains k = false:=by
      cases hj:ms.contains k with
      | false => rfl
      | true => rw [hL k hj] at hun; cases hun
    simp only [runI] at hl
    unfold nxt at hl
    split at hl
    · rename_i st1 hm
      refine anyX_first l.length listed st st1 (fun j hj hunj hw => hcomm k j hmk ?_ (Ne.symm hj) hw (ready_waitsX hc (getD_tf hunj) hr')) hc hr' hm ?_
      · cases hj:ms.contains j with
        | false => rfl
        | true => rw [hL j hj] at hunj; cases hunj
      · refine anyX_run hK hcomm l _ st1 (fun j hj => ?_) hB' (hc.add hr') hl
        rw [getD_set_ne true (by rintro rfl; rw [hj] at hmk; cases hmk)]
        exact hL j hj
    · simp at hl
def waitBX (es:List (Nat × Nat)) (ops:Array Oper) (i j:Nat):Bool:=waitsX es ops 1 i j || (waitsX es ops 2 i j || (waitsX es ops 3 i j || (waitsX es ops 4 i j || waitsX es ops 6 i j)))
theorem waitBX_no {es:List (Nat × Nat)} {i j:Nat} (h:∀ n,waitsX es ops n i j = false):waitBX es ops i j = false:=by simp [waitBX,h]
def pairsX (es:List (Nat × Nat)) (r:Nat) (ops:Array Oper) (xs:List OI) (ms:List Nat):Bool:=(List.range ops.size).all fun j => (List.range j).all fun i => (ms.contains i || (ms.contains j || pairAt r ops xs i j)) || (waitBX es ops i j || waitBX es ops j i)
theorem pairsX_comm {es:List (Nat × Nat)} {id:Nat} {xs:List OI} {ms:List Nat} (hp:pairsX es id ops xs ms = true) (i j:Nat) (hmi:ms.contains i = false) (hmj:ms.contains j = false) (hij:i ≠ j) (hw1:∀ n,waitsX es ops n i j = false) (hw2:∀ n,waitsX es ops n j i = false) (st st1 st2:St) (h1:stMi E P id ops xs i st = some st1) (h2:stMi E P id ops xs j st1 = some st2):∃ st',stMi E P id ops xs j st = some st' ∧ stMi E P id ops xs i st' = some st2:=by
  unfold stMi at h1 h2
  split at h1
  · rename_i oi xi hoi hxi
    split at h2
    · rename_i oj xj hoj hxj
      have hi:=(Array.getElem?_eq_some_iff.1 hoi).1
      have hj:=(Array.getElem?_eq_some_iff.1 hoj).1
      have hsep:Sep id ops i j oi oj xi xj:=by
        rcases Nat.lt_or_ge i j with hlt | hge
        · have hb:=List.all_eq_true.1 (List.all_eq_true.1 hp j (by simpa using hj)) i (by simpa using hlt)
          simp only [Bool.or_eq_true,pairAt,hoi,hoj,hxi,hxj,hmi,hmj,Bool.false_eq_true,false_or,waitBX_no hw1,waitBX_no hw2,or_false] at hb
          exact sepB_sound hij hb
        · have hlt:j < i:=by omega
          have hb:=List.all_eq_true.1 (List.all_eq_true.1 hp i (by simpa using hi)) j (by simpa using hlt)
          simp only [Bool.or_eq_true,pairAt,hoi,hoj,hxi,hxj,hmi,hmj,Bool.false_eq_true,false_or,waitBX_no hw1,waitBX_no hw2,or_false] at hb
          exact (sepB_sound (Ne.symm hij) hb).symm
      obtain ⟨st',h3,h4⟩:=stM_comm hsep h1 h2
      exact ⟨st',by unfold stMi; rw [hoj,hxj]; exact h3,by unfold stMi; rw [hoi,hxi]; exact h4⟩
    · simp at h2
  · simp at h1
def regX (ms:List Nat) (b c d:Nat) (ops:Array Oper):Bool:=Region.noSelect ops && ((idxA ms ops.size 0).length + cntK ms ops.size 0 == ops.size && ((idxB ms b c ops.size 0).length == (idxA ms ops.size 0).length && ((idxB ms b d ops.size 0).length == (idxA ms ops.size 0).length && (b != c && (b != d && match movesK ms ops ops.size 0 (Array.replicate ops.size false) with
  | some l => ordX [(b,c),(b,d)] ops (idxA ms ops.size 0) l && (ordX [(c,b),(b,d)] ops (idxB ms b c ops.size 0) l && (ordX [(d,b)] ops (idxB ms b d ops.size 0) l && (ms.all (fun j => l.getD j true) && (!l.getD b false && (!l.getD c false && !l.getD d false)))))
  | none => false)))))
/-- b stands first; c and d, in this order, look at what b turns. -/
theorem drawX {id:Nat} {Q:Exit → St → Prop} {st:St} (ms:List Nat) (b c d:Nat) (E:Env) (xs:List OI) (h0:tsz P nilE = 0) (hm:P.follows .mixedOrders = true) (hE:EnvOK P E) (hB:regX ms b c d ops = true) (hp1:pairsX [(b,c),(b,d)] id ops xs ms = true) (hp2:pairsX [(c,b),(b,d)] id ops xs ms = true) (hp3:pairsX [(d,b)] id ops xs ms = true)
    (h:onSome (preA P ms 0 ops.toList st) fun st1 => onSome (lexRunS ms E P id ops xs ops.toList 0 st1) fun st2 => Q .normal st2 ∧ (onSome (lexRunB ms b c E P id ops none xs ops.toList 0 st1) fun st3 => st3 = st2) ∧ onSome (lexRunB ms b d E P id ops none xs ops.toList 0 st1) fun st3 => st3 = st2):ewp P (.region id ops true) Q st:=by
  unfold onSome at h
  split at h
  · rename_i st1 hpre
    split at h
    · rename_i st2 hr1
      obtain ⟨hQ2,h,h'⟩:=h
      split at h
      · rename_i st3 hr2
        split at h'
        · rename_i st4 hr3
          subst h
          subst h'
          have hrx:lexRunX ms E P id ops xs 0 ops.toList st1 = some st4:=by
            rcases lexRunS_eq (ms:=ms) (E:=E) (P:=P) (r:=id) (ops:=ops) xs ops.toList 0 xs st1 (fun j => by rw [Nat.zero_add]) with h2 | h2
            · rw [← h2]; exact hr1
            · rw [h2] at hr1; cases hr1
          have ra:=lexRunX_run (ops:=ops) ops.toList 0 st1 (fun j => by simp) hrx
          have rb:=lexRunB_run (ops:=ops) (ys:=xs) ops.toList 0 none xs st1 (fun j => by simp) (fun j => by rw [Nat.zero_add]) (fun _ _ he => by cases he) hr2
          have rc:=lexRunB_run (ops:=ops) (ys:=xs) ops.toList 0 none xs st1 (fun j => by simp) (fun j => by rw [Nat.zero_add]) (fun _ _ he => by cases he) hr3
          have esz:ops.toList.length = ops.size:=by simp
          rw [esz] at ra rb rc
          intro I bs A w0 ac w L hs
          simp only [regX,Bool.and_eq_true,beq_iff_eq,bne_iff_ne,ne_eq] at hB
          obtain ⟨hsel,hfu,hln,hln2,hbc,hbd,hB⟩:=hB
          split at hB
          · rename_i listed1 hmv
            simp only [Bool.and_eq_true,Bool.not_eq_true'] at hB
            obtain ⟨ho1,ho2,ho3,hall,hnb,hnc,hnd⟩:=hB
            refine wp_region_any hm ?_
            have hd:Below w.heap.size w { w with drawn:=w.drawn + 1 }:=drew_below w
            have hs':=hs.grow hd (Nat.le_succ _)
            let Q0:Exit → Act → World → Prop:=fun e a w => e = .normal ∧ ∃ st' L',Sim (tsz P) I bs A w0 st' a w L' [] ∧ Q .normal st'
            refine wpAny_monoQ (Q:=Q0) (fun e a w hh => by obtain ⟨rfl,hh⟩:=hh; exact hh) _ _ _ _ ?_
            have hcl:Closed ops (Array.replicate ops.size false):=by
              intro m hm
              exfalso
              rcases Nat.lt_or_ge m ops.size with h' | h' <;> simp [h'] at hm
            have:=wpAny_movesA (Q:=Q0) (f:=(idxA ms ops.size 0).length) hsel (fun c a w hh => by obtain ⟨hh,_⟩:=hh; cases hh) ops.toList 0 (Array.replicate ops.size false) st st1 ac { w with drawn:=w.drawn + 1 } L (fun j => by simp) (by simpa using hmv) hcl hpre hs' (by
              intro a' L' g1 g3
              refine anyV_sound (r:=id) (xs:=xs) (K:=Q .normal) h0 hE (fun st a w L h1 h2 => ⟨rfl,st,L,h1,h2⟩) _ _ st1 a' _ L' g1 ?_
              have hL:∀ j,ms.contains j = true → listed1.getD j true = true:=fun j hj => List.all_eq_true.1 hall j (by simpa using hj)
              have cl1:ClosedX [(b,c),(b,d)] ops listed1:=⟨g3,fun e he hl => by
                simp only [List.mem_cons,List.not_mem_nil,or_false] at he
                rcases he with rfl | rfl
                · rw [hnc] at hl; cases hl
                · rw [hnd] at hl; cases hl⟩
              have cl2:ClosedX [(c,b),(b,d)] ops listed1:=⟨g3,fun e he hl => by
                simp only [List.mem_cons,List.not_mem_nil,or_false] at he
                rcases he with rfl | rfl
                · rw [hnb] at hl; cases hl
                · rw [hnd] at hl; cases hl⟩
              have cl3:ClosedX [(d,b)] ops listed1:=⟨g3,fun e he hl => by
                simp only [List.mem_cons,List.not_mem_nil,or_false] at he
                subst he
                rw [hnb] at hl; cases hl⟩
              have k1:=anyX_run (es:=[(b,c),(b,d)]) (ms:=ms) (E:=E) (P:=P) (r:=id) (ops:=ops) (xs:=xs) (K:=Q .normal) hQ2 (pairsX_comm hp1) _ listed1 st1 hL ho1 cl1 ra
              have k2:=anyX_run (es:=[(c,b),(b,d)]) (ms:=ms) (E:=E) (P:=P) (r:=id) (ops:=ops) (xs:=xs) (K:=Q .normal) hQ2 (pairsX_comm hp2) _ listed1 st1 hL ho2 cl2 rb
              have k3:=anyX_run (es:=[(d,b)]) (ms:=ms) (E:=E) (P:=P) (r:=id) (ops:=ops) (xs:=xs) (K:=Q .normal) hQ2 (pairsX_comm hp3) _ listed1 st1 hL ho3 cl3 rc
              rw [hln] at k2
              rw [hln2] at k3
              exact anyX_nil _ _ _ (anyX_split (Ne.symm hbd) _ listed1 st1 hnd hnb k3 (anyX_split hbc _ listed1 st1 hnb hnc k1 k2)))
            rw [show (idxA ms ops.size 0).length + cntK ms ops.toList.length 0 = ops.size by simpa using hfu] at this
            exact this
          · cases hB
        · exact h'.elim
      · exact h.elim
    · exact h.elim
  · exact h.elim
end
theorem ewp_keep {P:Program} {c:Code} {Q:Exit → St → Prop} {st:St} (ks:List Nat) (ids:List Id) (h:ewp P c Q (St.drop st ks ids)):ewp P c Q st:=fun I bs A w0 a w L hs =>
  let ⟨L',h'⟩:=hs.lose ks ids
  h I bs A w0 a w L' h'
theorem dropO_snoc (n:Int) (l:List GOffer) (i:Nat) (h:i < l.length):dropO n (l.take (i + 1)) = dropO n (l.take i) ++ (if l[i].Peer = n then [] else [l[i]]):=by
  unfold dropO
  rw [take_step l i h,List.filter_append]
  by_cases hb:l[i].Peer = n <;> simp [hb]
theorem dropO_len (n:Int) (l:List GOffer):(dropO n l).length ≤ l.length:=List.length_filter_le _ _
theorem ok_l8Drop (k:Nat) (l:List GOffer) (n:Int) (hl:l.length ≤ 1048576) (hx:∀ x ∈ l,x.Attrs.Path.length ≤ 1048576 ∧ x.Attrs.Comms.length ≤ 1048576):CallOK Tryz.prog 122 [.c (rd k l.length (l.flatMap (GOffer.ci k))),.c (pi n)] (.tup [.c (.sl 0 81 (dropO n l).length ((dropO n l).flatMap GOffer.co)),.c (pb (decide ((dropO n l).length < l.length)))]) [.c (rd k l.length (l.flatMap (GOffer.ci k))),.c (pi n)]:=by
  refine okS (fn:=Tryz.f122) [] h0 Tryz.func122 (by kernel_rfl) rfl Tryz.ntmps122 Tryz.results122 (by simp) ?_
  simp
  refine Inv_intro (ok_l8Own k l hl hx) ?_
  simp
  refine ewp_nil 6 (.op 6 3 0) 81 (by decide) rfl rfl rfl ?_
  refine loopS [0,1,6,10,11,12] [.op 6 3 0,.op 2 1 0] (fun m st => ∃ (i:Nat) (C:List PT),i + m = l.length ∧ C.length = l.length * 7 ∧ C.drop (i * 7) = (l.drop i).flatMap GOffer.co ∧ st = ⟨slOf 31 [(0,.t (rd k l.length (l.flatMap (GOffer.ci k)))),(1,.t (pi n)),(6,.ref ⟨.op 6 3 0,[]⟩ 0 (dropO n (l.take i)).length),(10,.ref ⟨.op 2 1 0,[]⟩ 0 l.length),(11,.t (pi l.length)),(12,.t (pi i))],ofL [(.op 6 3 0,.sl 0 81 (dropO n (l.take i)).length ((dropO n (l.take i)).flatMap GOffer.co)),(.op 2 1 0,.sl 0 81 l.length C)]⟩) l.length ?_ ?_
  · rintro Inv hI
    simp
    subst hI
    exact ⟨0,l.flatMap GOffer.co,by omega,fm_len GOffer.co 7 (fun _ => rfl) l,rfl,rfl⟩
  · rintro Inv hI m st ⟨i,C,hi,hCl,hCd0,rfl⟩
    have hO:(dropO n (l.take i)).length ≤ i:=Nat.le_trans (dropO_len _ _) (by simp; omega)
    have hS:=dropO_snoc n l i
    have hfin:i = l.length → dropO n (l.take i) = dropO n l:=by rintro rfl; rw [List.take_length]
    generalize hOe:dropO n (l.take i) = O at hO hS hfin ⊢
    have hA:=fm_len GOffer.co 7 (fun _ => rfl) O
    have hAm:∀ y,(O ++ [y]).flatMap GOffer.co = O.flatMap GOffer.co ++ GOffer.co y:=fun y => by simp
    refine ewr_sound (M:=[]) h0 ?_
    simp
    refine brn_app (fun a => ?_) (fun a => ?_)
    · simp at a
      have hS':=hS a
      have hCd:C.drop (i * 7) = GOffer.co l[i] ++ (l.drop (i + 1)).flatMap GOffer.co:=by
        rw [hCd0,drop_step _ i a,List.flatMap_cons]
      have hCg2:∀ h:i * 7 + 2 < C.length,C[i * 7 + 2] = .sl 0 3 l[i].Attrs.Path.length (l[i].Attrs.Path.map pi):=by
        intro h
        have e1:C[i * 7 + 2]? = (C.drop (i * 7))[2]?:=by rw [List.getElem?_drop]
        rw [hCd,List.getElem?_eq_getElem h] at e1
        simpa using e1
      have hCg6:∀ h:i * 7 + 6 < C.length,C[i * 7 + 6] = .sl 0 3 l[i].Attrs.Comms.length (l[i].Attrs.Comms.map pi):=by
        intro h
        have e1:C[i * 7 + 6]? = (C.drop (i * 7))[6]?:=by rw [List.getElem?_drop]
        rw [hCd,List.getElem?_eq_getElem h] at e1
        simpa using e1
      have hCn:C.drop ((i + 1) * 7) = (l.drop (i + 1)).flatMap GOffer.co:=by
        have:(i + 1) * 7 = i * 7 + 7:=by omega
        rw [this,← List.drop_drop,hCd]
        rfl
      have hb:i * 7 + 7 ≤ l.length * 7:=by omega
      have hb2':i * 7 + 2 < l.length * 7:=by omega
      have hb6':i * 7 + 6 < l.length * 7:=by omega
      simp [a,hCl,hCd,hCg2,hCg6,hb,hb2',hb6']
      refine brn_app (fun b => ?_) (fun b => ?_)
      · simp at b
        rw [if_neg b] at hS'
        generalize hAe:O.flatMap GOffer.co = A at hA hAm ⊢
        have ht:A.take (O.length * 7) = A:=List.take_of_length_le (by omega)
        have hb1:(O.length + 1) * 88 ≤ 140737488355328:=by omega
        have hb2:O.length ≤ 9223372036854775806:=by omega
        simp [hA,ht,hb1,hb2]
        trace_state
        subst hI
        refine Less_mk (m - 1) (by omega) ⟨i + 1,(C.set (i * 7 + 2) .hole).set (i * 7 + 6) .hole,by omega,by rw [List.length_set,List.length_set]; exact hCl,by rw [List.drop_set_of_lt (by omega),List.drop_set_of_lt (by omega),hCn],?_⟩
        rw [hS',wrNext i (by omega),hAm,List.length_append]
        simp
      · simp at b
        rw [if_pos b,List.append_nil] at hS'
        simp
        trace_state
        subst hI
        refine Less_mk (m - 1) (by omega) ⟨i + 1,(C.set (i * 7 + 2) .hole).set (i * 7 + 6) .hole,by omega,by rw [List.length_set,List.length_set]; exact hCl,by rw [List.drop_set_of_lt (by omega),List.drop_set_of_lt (by omega),hCn],?_⟩
        rw [hS',wrNext i (by omega)]
        all_goals simp
    · simp at a
      have hin:i = l.length:=by omega
      have hfin:=hfin hin
      subst hfin
      have ht:((dropO n l).flatMap GOffer.co).take ((dropO n l).length * 7) = (dropO n l).flatMap GOffer.co:=List.take_of_length_le (by omega)
      simp [hA,ht]
set_option maxHeartbeats 8000000 in
theorem ok_l13Unset (r:GRib) (p:GPrefix) (n:Int) (hg:gW r.Rows) (hl:r.Rows.length ≤ 1000):CallOK Tryz.prog 75 [.agg (GRib.co r),.agg p.c,.c (pi n)] (.agg (GRib.co ⟨r.Own,dropW p n r.Rows⟩)) [.agg [pi r.Own,.hole],.agg p.c,.c (pi n)]:=by
  refine okS (fn:=Tryz.f75) [] h0 Tryz.func75 (by kernel_rfl) rfl Tryz.ntmps75 Tryz.results75 (by simp) ?_
  simp
  obtain ⟨own,rows⟩:=r
  simp only at hg hl
  refine Inv_intro (ok_l13At 0 ⟨own,rows⟩ p (Nat.le_trans hl (by decide))) ?_
  simp
  cases hi:rowIs p rows with
  | false =>
    have e:dropW p n rows = rows:=by unfold dropW; rw [hi]; rfl
    have hlen:=fm_len GRow.co 3 (fun _ => rfl) rows
    have ht:List.take (rows.length * 3) (rows.flatMap GRow.co) = rows.flatMap GRow.co:=List.take_of_length_le (by omega)
    simp [e,hlen,ht]
  | true =>
    obtain ⟨hk,hp⟩:=rowIs_lt hi
    have ek:rows[rowAt p rows]? = some rows[rowAt p rows]:=List.getElem?_eq_getElem hk
    have e:dropW p n rows = if (dropO n rows[rowAt p rows].Offers).length = 0 then rows.take (rowAt p rows) ++ rows.drop (rowAt p rows + 1) else rows.set (rowAt p rows) ⟨rows[rowAt p rows].Prefix,dropO n rows[rowAt p rows].Offers⟩:=by
      unfold dropW
      rw [hi,ek]
      rfl
    rw [e]
    generalize rowAt p rows = k at hk hp e ⊢
    have hd:=fm_drop GRow.co 3 (fun _ => rfl) rows k hk
    have hlen:=fm_len GRow.co 3 (fun _ => rfl) rows
    have hlt:k * 3 < rows.length * 3:=by omega
    have hlt2:k * 3 + 2 < rows.length * 3:=by omega
    have hx:=goodRow_spec.1 (hg.2 _ (List.getElem_mem hk))
    have hset:=fun ys => set_cells rows k hk ys
    generalize hxe:rows[k] = x at hd hx hp e hset ⊢
    obtain ⟨hpw,hgo⟩:=goodOs_pw hx.2.2
    have h6:=goodOs_len hx.2.2
    have hsm:∀ o ∈ x.Offers,o.Attrs.Path.length ≤ 1048576 ∧ o.Attrs.Comms.length ≤ 1048576:=fun o ho => by
      have:=goodO_small (hgo o ho)
      omega
    have hget:∀ h,(rows.flatMap GRow.co)[k * 3 + 2]'h = .sl 0 81 x.Offers.length (x.Offers.flatMap GOffer.co):=by
      intro h
      have e1:(rows.flatMap GRow.co)[k * 3 + 2]? = ((rows.flatMap GRow.co).drop (k * 3))[2]?:=by rw [List.getElem?_drop]
      rw [hd,List.getElem?_eq_getElem h] at e1
      simpa using e1
    simp [hk,hd,hlen,hlt,hlt2,hget]
    refine Inv_intro (ok_l8Drop 0 x.Offers n (by omega) hsm) ?_
    simp
    generalize hys:dropO n x.Offers = ys at *
    have hyl:=fm_len GOffer.co 7 (fun _ => rfl) ys
    have hty:List.take (ys.length * 7) (ys.flatMap GOffer.co) = ys.flatMap GOffer.co:=List.take_of_length_le (by omega)
    by_cases b:ys = []
    · have d1:¬ 0 < ys.length:=by rw [b]; decide
      have wk:IntKind.i64.wrap ((k:Int) + 1) = (k:Int) + 1:=wrap64 (by omega) (by omega)
      have hk1:(k:Int) + 1 ≤ (rows.length:Int):=by omega
      have hne:rows ≠ []:=List.length_pos_iff.1 (by omega)
      have hkn:¬ k = rows.length:=by omega
      obtain ⟨q,hq⟩:∃ q,rows.length - (k + 1) = q:=⟨_,rfl⟩
      have hql:rows.length = k + 1 + q:=by omega
      have hZc:(rows.take k ++ rows.drop (k + 1)).flatMap GRow.co = (rows.flatMap GRow.co).take (k * 3) ++ (rows.flatMap GRow.co).drop ((k + 1) * 3):=by
        rw [fm_take GRow.co 3 (fun _ => rfl),fm_dropAll GRow.co 3 (fun _ => rfl),List.flatMap_append]
      have hZl:(rows.take k ++ rows.drop (k + 1)).length = k + q:=by
        rw [List.length_append,List.length_take,List.length_drop]
        omega
      rw [decide_eq_false d1,if_pos b,hZc,hZl]
      clear hset hZc hZl hd e
      generalize rows.flatMap GRow.co = C at *
      have hAl:(C.take (k * 3)).length = k * 3:=by rw [List.length_take]; omega
      have hHl:((C.map PT.hollow).take (k * 3)).length = k * 3:=by rw [List.length_take,List.length_map]; omega
      have hBl:(C.drop ((k + 1) * 3)).length = q * 3:=by rw [List.length_drop]; omega
      have hD:List.drop ((k + 1) * 3) (List.take (k * 3) (C.map PT.hollow) ++ List.drop (k * 3) C) = List.drop ((k + 1) * 3) C:=by
        have e1:(k + 1) * 3 = ((C.map PT.hollow).take (k * 3)).length + 3:=by omega
        have e2:(k + 1) * 3 = k * 3 + 3:=by omega
        rw [e1,List.drop_length_add_append,← e1,e2,← List.drop_drop]
      have hT:List.take (q * 3) (List.drop ((k + 1) * 3) C) = List.drop ((k + 1) * 3) C:=List.take_of_length_le (by omega)
      have hAA:List.take (k * 3) (C.take (k * 3)) = C.take (k * 3):=List.take_of_length_le (by omega)
      have hAB:List.take ((k + q) * 3) (C.take (k * 3) ++ C.drop ((k + 1) * 3)) = C.take (k * 3) ++ C.drop ((k + 1) * 3):=List.take_of_length_le (by rw [List.length_append]; omega)
      have hmin:min (q * 3) (rows.length * 3 - (k + 1) * 3) = q * 3:=by omega
      have hb1:k * 40 ≤ 140737488355328:=by omega
      have hb2:k ≤ 9223372036854775807:=by omega
      have hle4:(k + q) * 3 ≤ k * 3 + q * 3:=by omega
      have hle3:(k + 1) * 3 + q * 3 ≤ rows.length * 3:=by omega
      have hb3:(k + q) * 40 ≤ 140737488355328:=by omega
      have hb4:k + q ≤ 9223372036854775807:=by omega
      have h01:(0:Int) ≤ (k:Int) + 1:=by omega
      have h02:((k:Int) + 1).toNat = k + 1:=by omega
      have h03:k + 1 ≤ rows.length:=by omega
      have hkle:k ≤ rows.length:=by omega
      have hk3:k * 3 ≤ rows.length * 3:=by omega
      simp
      refine ewp_keep [3,6,7] [.op 0 0 0,.op 0 2 0,.arg 0 1] ?_
      simp
      by_cases hk0:k = 0
      · have hA0:List.take (k * 3) C = []:=by rw [hk0]; rfl
        have hkq:k + q = q:=by omega
        have hk0':=eq_true hk0
        have hb5:q * 40 ≤ 140737488355328:=by omega
        have hb6:q ≤ 9223372036854775807:=by omega
        have hBt:List.take (q * 3) (List.drop ((k + 1) * 3) C) = List.drop ((k + 1) * 3) C:=hT
        rw [hkq,hA0,List.nil_append]
        clear hAB hD hAA hb1 hb2 hb3 hb4 hHl hAl
        refine drawX [1,3,6,8] 5 7 10 (tabEnv [] []) [⟨[],allD 55,false⟩,⟨[],allD 55,true⟩,⟨[.op 0 0 0],allD 55,true⟩,⟨[],allD 55,true⟩,⟨[.op 0 0 0],allD 55,true⟩,⟨[.op 0 0 0,.op 8 0 0],[41,43,45,46,50,52,53],false⟩,⟨[],allD 55,true⟩,⟨[.op 0 0 0],allD 55,true⟩,⟨[],allD 55,true⟩,⟨[],allD 55,true⟩,⟨[.op 0 0 0],allD 55,true⟩,⟨[.op 0 0 0,.op 8 0 0,.op 8 5 0],[41,43,45,46,50,52,53],false⟩,⟨[.op 0 0 0],allD 55,true⟩,⟨[.op 0 0 0,.op 8 0 0,.op 8 5 0,.op 8 11 0],[41,43,45,46,50,52,53],false⟩] h0 hm (tabEnv_ok tab_nil) (by kernel_rfl) (by kernel_rfl) (by kernel_rfl) (by kernel_rfl) ?_
        by_cases hq0:q = 0
        · have hB0:List.drop ((k + 1) * 3) C = []:=List.drop_of_length_le (by omega)
          simp only [hq0] at *
          simp [hlen,wk,hk1,hne,hkn,hk0',hA0,hkle,hk3,h01,h02,h03,hq,hB0,hmin]
          exact ⟨by kernel_rfl,by kernel_rfl⟩
        · simp [hlen,wk,hk1,hne,hkn,hk0',hA0,hkle,hk3,h01,h02,h03,hq,hq0,hT,hmin,hle3,hb5,hb6,hBl]
          exact ⟨by kernel_rfl,by kernel_rfl⟩
      · refine drawX [1,3,6,8] 5 7 10 (tabEnv [] []) [⟨[],allD 55,false⟩,⟨[],allD 55,true⟩,⟨[.op 0 0 0],allD 55,true⟩,⟨[],allD 55,true⟩,⟨[.op 0 0 0],allD 55,true⟩,⟨[.op 0 0 0,.op 8 0 0],[41,43,45,46,50,52,53],false⟩,⟨[],allD 55,true⟩,⟨[.op 0 0 0],allD 55,true⟩,⟨[],allD 55,true⟩,⟨[],allD 55,true⟩,⟨[.op 0 0 0],allD 55,true⟩,⟨[.op 0 0 0,.op 8 0 0,.op 8 5 0],[41,43,45,46,50,52,53],false⟩,⟨[.op 0 0 0],allD 55,true⟩,⟨[.op 0 0 0,.op 8 0 0,.op 8 5 0,.op 8 11 0],[41,43,45,46,50,52,53],false⟩] h0 hm (tabEnv_ok tab_nil) (by kernel_rfl) (by kernel_rfl) (by kernel_rfl) (by kernel_rfl) ?_
        by_cases hq0:q = 0
        · subst hq0
          have hB0:List.drop ((k + 1) * 3) C = []:=List.drop_of_length_le (by omega)
          simp [hlen,wk,hk1,hne,hkn,hk0,hkle,hk3,hb1,hb2,h01,h02,h03,hq,hD,hB0,hAA,hmin]
          exact ⟨by kernel_rfl,by kernel_rfl⟩
        · simp [hlen,wk,hk1,hne,hkn,hk0,hkle,hk3,hb1,hb2,h01,h02,h03,hq,hq0,hD,hT,hAA,hmin,hb3,hb4,hAB,hle3,hAl,hBl,hle4]
          exact ⟨by kernel_rfl,by kernel_rfl⟩
    · have d1:0 < ys.length:=List.length_pos_iff.2 b
      have hlt3:k * 3 + 2 + 1 ≤ rows.length * 3:=by omega
      have hset':=hset ys
      have hSl:(rows.set k ⟨x.Prefix,ys⟩).length = rows.length:=List.length_set
      have hSc:=fm_len GRow.co 3 (fun _ => rfl) (rows.set k ⟨x.Prefix,ys⟩)
      rw [hSl] at hSc
      have hSt:List.take (rows.length * 3) ((rows.set k ⟨x.Prefix,ys⟩).flatMap GRow.co) = (rows.set k ⟨x.Prefix,ys⟩).flatMap GRow.co:=List.take_of_length_le (by omega)
      rw [decide_eq_true d1,if_neg b]
      generalize rows.set k ⟨x.Prefix,ys⟩ = S at *
      simp [hk,hlen,hlt,hlt2,hlt3,hyl,hty,hset',hSl,hSc,hSt]
end Go.V
