/- The road V: code reckoned over trees of values, proved sound against the model once. No conditions. -/
import Derived.ArgAppend
import Derived.Below
import Derived.Calls
import Derived.Deep.MidRow
import Derived.Orders
set_option linter.all false
/-! Trees for values: what a value leads to, read as a tree; which blocks are one's own. -/
namespace Go.V

inductive PT where
  | raw (v:Value)
  | sl (k:Nat) (e n:Nat) (cs:List PT)   -- k: 0,one's own; else the kind of what is only read
  | fn (k:Nat) (g:FuncId) (caps:List (List PT))
  | hole

/-- A value that fills one cell. -/
def one:Value → Bool
  | .agg _ | .tuple _ => false
  | _ => true

mutual
def Im (w:World) (I:Nat → Nat → Prop):Value → PT → Prop
  | v,.raw u => v = u
  | v,.sl 0 _ n cs => n = 0 ∧ cs = [] ∧ ∃ a,v = .slice a 0 0
  | v,.sl (k + 1) _ n cs => ∃ a cap,v = .slice a n cap ∧ n ≤ cap ∧ ImL w I (k + 1) a 0 cs
  | v,.fn k g caps => ∃ vs:List Value,v = .func (.func g) #[] vs.toArray ∧ ImC w I k vs caps
  | _,.hole => True
def ImL (w:World) (I:Nat → Nat → Prop) (k:Nat):Option Addr → Nat → List PT → Prop
  | _,_,[] => True
  | a,j,c :: cs => (∃ x u,a = some x ∧ I k x.block ∧ w.cell? (x.add j) = some u ∧ one u = true ∧ Im w I u c) ∧ ImL w I k a (j + 1) cs
def ImC (w:World) (I:Nat → Nat → Prop) (k:Nat):List Value → List (List PT) → Prop
  | vs,[] => vs = []
  | vs,c :: cs => ∃ x vs',vs = .pointer (some x) :: vs' ∧ ImL w I k (some x) 0 c ∧ ImC w I k vs' cs
end

theorem add_add (x:Addr) (j k:Nat):(x.add j).add k = x.add (j + k):=by
  unfold Addr.add
  by_cases hj:j = 0
  · subst hj; simp
  · by_cases hk:k = 0
    · subst hk; simp [hj]
    · have:¬ (j + k = 0):=by omega
      simp [hj,hk,Nat.add_assoc]
theorem add_block (x:Addr) (j:Nat):(x.add j).block = x.block:=by unfold Addr.add; split <;> rfl
theorem add_zero (x:Addr):x.add 0 = x:=by simp [Addr.add]
theorem cell_of_block {w w':World} {x:Addr} (h:w'.heap[x.block]? = w.heap[x.block]?):w'.cell? x = w.cell? x:=by
  unfold World.cell?; rw [h]

/-- What is only read stays so wherever its blocks stay. -/
theorem Im.all {w w':World} {I I':Nat → Nat → Prop} (hI:∀ k b,I k b → I' k b) (hw:∀ k b,I k b → w'.heap[b]? = w.heap[b]?) :
    (∀ v p,Im w I v p → Im w' I' v p) ∧ (∀ k (a:Option Addr) j cs,ImL w I k a j cs → ImL w' I' k a j cs) ∧ (∀ k vs cs,ImC w I k vs cs → ImC w' I' k vs cs):=by
  have key:∀ n:Nat,(∀ v p,SizeOf.sizeOf p < n → Im w I v p → Im w' I' v p) ∧ (∀ k (a:Option Addr) j (cs:List PT),SizeOf.sizeOf cs < n → ImL w I k a j cs → ImL w' I' k a j cs) ∧ (∀ k vs (cs:List (List PT)),SizeOf.sizeOf cs < n → ImC w I k vs cs → ImC w' I' k vs cs):=by
    intro n
    induction n with
    | zero => exact ⟨fun _ _ h => by omega,fun _ _ _ _ h => by omega,fun _ _ _ h => by omega⟩
    | succ n ih =>
      refine ⟨?_,?_,?_⟩
      · intro v p hs h
        cases p with
        | raw u => simpa [Im] using h
        | hole => trivial
        | sl o e k cs =>
          cases o with
          | zero => simpa [Im] using h
          | succ o =>
            simp only [Im] at h ⊢
            obtain ⟨a,cap,hv,hn,hl⟩:=h
            exact ⟨a,cap,hv,hn,ih.2.1 _ _ _ _ (by simp at hs; omega) hl⟩
        | fn k g caps =>
          simp only [Im] at h ⊢
          obtain ⟨vs,hv,hc⟩:=h
          exact ⟨vs,hv,ih.2.2 _ _ _ (by simp at hs; omega) hc⟩
      · intro k a j cs hs h
        cases cs with
        | nil => simp [ImL]
        | cons c cs =>
          simp only [ImL] at h ⊢
          obtain ⟨⟨x,u,ha,hx,hcell,ho,hu⟩,hr⟩:=h
          refine ⟨⟨x,u,ha,hI _ _ hx,?_,ho,ih.1 _ _ (by simp at hs; omega) hu⟩,ih.2.1 _ _ _ _ (by simp at hs; omega) hr⟩
          rw [cell_of_block (w:=w)]
          · exact hcell
          · rw [add_block]; exact hw _ _ hx
      · intro k vs cs hs h
        cases cs with
        | nil => simpa [ImC] using h
        | cons c cs =>
          simp only [ImC] at h ⊢
          obtain ⟨x,vs',hv,hl,hr⟩:=h
          exact ⟨x,vs',hv,ih.2.1 _ _ _ _ (by simp at hs; omega) hl,ih.2.2 _ _ _ (by simp at hs; omega) hr⟩
  exact ⟨fun v p => (key (SizeOf.sizeOf p + 1)).1 v p (Nat.lt_succ_self _),fun k a j cs => (key (SizeOf.sizeOf cs + 1)).2.1 k a j cs (Nat.lt_succ_self _),fun k vs cs => (key (SizeOf.sizeOf cs + 1)).2.2 k vs cs (Nat.lt_succ_self _)⟩

theorem ImL.drop {w:World} {I:Nat → Nat → Prop} {q:Nat} {x:Addr}:∀ (k j:Nat) (cs:List PT),ImL w I q (some x) j cs → ImL w I q (some x) (j + k) (cs.drop k)
  | 0,j,cs,h => by simpa using h
  | k + 1,j,[],h => by simp [ImL]
  | k + 1,j,c :: cs,h => by
    simp only [ImL] at h
    have:=ImL.drop k (j + 1) cs h.2
    simpa [Nat.add_assoc,Nat.add_comm 1 k] using this
theorem ImL.shift {w:World} {I:Nat → Nat → Prop} {q:Nat} {x:Addr}:∀ (cs:List PT) (j k:Nat),ImL w I q (some x) (j + k) cs → ImL w I q (some (x.add j)) k cs
  | [],_,_,_ => by simp [ImL]
  | c :: cs,j,k,h => by
    simp only [ImL] at h ⊢
    obtain ⟨⟨y,u,hy,hb,hc,ho,hu⟩,hr⟩:=h
    cases hy
    exact ⟨⟨x.add j,u,rfl,by rw [add_block]; exact hb,by rw [add_add]; exact hc,ho,hu⟩,ImL.shift cs j (k + 1) hr⟩
theorem ImL.take {w:World} {I:Nat → Nat → Prop} {q:Nat} {a:Option Addr}:∀ (k j:Nat) (cs:List PT),ImL w I q a j cs → ImL w I q a j (cs.take k)
  | 0,_,_,_ => by simp [ImL]
  | _ + 1,_,[],_ => by simp [ImL]
  | k + 1,j,c :: cs,h => by
    simp only [ImL,List.take_succ_cons] at h ⊢
    exact ⟨h.1,ImL.take k (j + 1) cs h.2⟩
theorem ImL.at_ {w:World} {I:Nat → Nat → Prop} {q:Nat} {x:Addr}:∀ (cs:List PT) (j i:Nat) (c:PT),ImL w I q (some x) j cs → cs[i]? = some c → ∃ u,I q x.block ∧ w.cell? (x.add (j + i)) = some u ∧ one u = true ∧ Im w I u c
  | [],_,_,_,_,h => by simp at h
  | c :: cs,j,0,c',h,hi => by
    simp only [ImL] at h
    obtain ⟨⟨y,u,hy,hb,hc,ho,hu⟩,_⟩:=h
    cases hy
    simp at hi
    subst hi
    exact ⟨u,hb,hc,ho,hu⟩
  | c :: cs,j,i + 1,c',h,hi => by
    simp only [ImL] at h
    have:=ImL.at_ cs (j + 1) i c' h.2 (by simpa using hi)
    simpa [Nat.add_assoc,Nat.add_comm 1 i] using this

/-! Trees of one's own: each node's block is told. -/
inductive LT where
  | leaf (v:Value) (p:PT)
  | own (b cap e n:Nat) (cs:List LT)

theorem LT.ind {P:LT → Prop} (hl:∀ v p,P (.leaf v p)) (ho:∀ b cap e n cs,(∀ c ∈ cs,P c) → P (.own b cap e n cs)):∀ t,P t
  | .leaf v p => hl v p
  | .own b cap e n cs => ho b cap e n cs fun c _ => LT.ind hl ho c

def LT.val:LT → Value
  | .leaf v _ => v
  | .own b cap _ n _ => .slice (some ⟨b,0,none⟩) n cap
def LT.erase:LT → PT
  | .leaf _ p => p
  | .own _ _ e n cs => .sl 0 e n (cs.map LT.erase)
def LT.blocks:LT → List Nat
  | .leaf _ _ => []
  | .own b _ _ _ cs => b :: cs.flatMap LT.blocks
def LT.holds (sz:Nat → Nat) (w:World) (I:Nat → Nat → Prop):LT → Prop
  | .leaf v p => Im w I v p ∧ one v = true
  | .own b cap e n cs => (∃ arr,w.heap[b]? = some (.cells arr e (0,0)) ∧ cap * sz e ≤ arr.size ∧ ∀ (j:Nat) (c:LT),cs[j]? = some c → arr[j]? = some c.val) ∧ cs.length = n * sz e ∧ n ≤ cap ∧ (0 < sz e ∧ 0 < cap) ∧ ∀ c ∈ cs,c.holds sz w I

theorem LT.holds_frame {sz:Nat → Nat} {w w':World} {I I':Nat → Nat → Prop} (hI:∀ k b,I k b → I' k b) (hw:∀ k b,I k b → w'.heap[b]? = w.heap[b]?) :
    ∀ t:LT,t.holds sz w I → (∀ b ∈ t.blocks,w'.heap[b]? = w.heap[b]?) → t.holds sz w' I':=by
  refine LT.ind ?_ ?_
  · intro v p h _
    simp only [LT.holds] at h ⊢
    exact ⟨(Im.all hI hw).1 _ _ h.1,h.2⟩
  · intro b cap e n cs ih h hb
    simp only [LT.holds,LT.blocks] at h hb ⊢
    obtain ⟨⟨arr,h1,h2,h3⟩,h4,h5,h6,h7⟩:=h
    refine ⟨⟨arr,?_,h2,h3⟩,h4,h5,h6,fun c hc => ih c hc (h7 c hc) fun b' hb' => hb b' ?_⟩
    · rw [hb b (by simp)]; exact h1
    · exact List.mem_cons_of_mem _ (List.mem_flatMap.2 ⟨c,hc,hb'⟩)


/-! Places in a tree. -/
def LT.get:LT → List Nat → Option LT
  | t,[] => some t
  | .leaf _ _,_ :: _ => none
  | .own _ _ _ _ cs,i :: p => match cs[i]? with
    | some c => c.get p
    | none => none
def LT.put (s:LT):LT → List Nat → LT
  | _,[] => s
  | .leaf v p,_ :: _ => .leaf v p
  | .own b cap e n cs,i :: p => match cs[i]? with
    | some c => .own b cap e n (cs.set i (LT.put s c p))
    | none => .own b cap e n cs
def PT.get:PT → List Nat → Option PT
  | t,[] => some t
  | .sl 0 _ _ cs,i :: p => match cs[i]? with
    | some c => c.get p
    | none => none
  | _,_ :: _ => none
def PT.put (s:PT):PT → List Nat → PT
  | _,[] => s
  | .sl 0 e n cs,i :: p => match cs[i]? with
    | some c => .sl 0 e n (cs.set i (PT.put s c p))
    | none => .sl 0 e n cs
  | t,_ :: _ => t
/-- A leaf's tree is none of one's own. -/
def PT.leafy:PT → Prop
  | .sl 0 _ _ cs => cs = []
  | _ => True
theorem Im.leafy {w:World} {I:Nat → Nat → Prop} {v:Value} {p:PT} (h:Im w I v p):p.leafy:=by
  unfold PT.leafy
  split
  · simp only [Im] at h; exact h.2.1
  · trivial
theorem PT.get_leafy {p:PT} (h:p.leafy) (i:Nat) (q:List Nat):p.get (i :: q) = none:=by
  cases p with
  | sl o e n cs => cases o <;> simp_all [PT.get,PT.leafy]
  | _ => simp [PT.get]

theorem LT.get_erase {sz:Nat → Nat} {w:World} {I:Nat → Nat → Prop}:∀ (t:LT) (p:List Nat),t.holds sz w I → t.erase.get p = (t.get p).map LT.erase:=by
  refine LT.ind ?_ ?_
  · intro v p q h
    cases q with
    | nil => simp [LT.get,PT.get]
    | cons i q =>
      simp only [LT.holds] at h
      simp [LT.get,LT.erase,PT.get_leafy h.1.leafy]
  · intro b cap e n cs ih q h
    cases q with
    | nil => simp [LT.get,PT.get]
    | cons i q =>
      simp only [LT.holds] at h
      simp only [LT.get,LT.erase,PT.get,List.getElem?_map]
      cases hc:cs[i]? with
      | none => simp
      | some c => simp [ih c (List.mem_of_getElem? hc) q (h.2.2.2.2 c (List.mem_of_getElem? hc))]
theorem LT.put_erase {sz:Nat → Nat} {w:World} {I:Nat → Nat → Prop} (s:LT):∀ (t:LT) (p:List Nat),t.holds sz w I → (LT.put s t p).erase = PT.put s.erase t.erase p:=by
  refine LT.ind ?_ ?_
  · intro v p q h
    cases q with
    | nil => simp [LT.put,PT.put]
    | cons i q =>
      simp only [LT.holds] at h
      have hl:=h.1.leafy
      simp only [LT.put,LT.erase]
      cases p with
      | sl o e n cs => cases o <;> simp_all [PT.put,PT.leafy]
      | _ => simp [PT.put]
  · intro b cap e n cs ih q h
    cases q with
    | nil => simp [LT.put,PT.put]
    | cons i q =>
      simp only [LT.holds] at h
      simp only [LT.put,LT.erase,PT.put,List.getElem?_map]
      cases hc:cs[i]? with
      | none => simp [LT.erase]
      | some c => simp [LT.erase,ih c (List.mem_of_getElem? hc) q (h.2.2.2.2 c (List.mem_of_getElem? hc)),List.map_set]

theorem flat_split {α β:Type} (f:α → List β):∀ (cs:List α) (i:Nat) (c:α),cs[i]? = some c → ∃ rest,(cs.flatMap f).Perm (f c ++ rest) ∧ (∀ c',((cs.set i c').flatMap f).Perm (f c' ++ rest)) ∧ ∀ j d,j ≠ i → cs[j]? = some d → ∀ x ∈ f d,x ∈ rest
  | [],_,_,h => by simp at h
  | a :: cs,0,c,h => by
    simp at h
    subst h
    refine ⟨cs.flatMap f,by simp,fun c' => by simp,fun j d hj hd x hx => ?_⟩
    cases j with
    | zero => omega
    | succ j => exact List.mem_flatMap.2 ⟨d,List.mem_of_getElem? (by simpa using hd),hx⟩
  | a :: cs,i + 1,c,h => by
    obtain ⟨rest,h1,h2,h3⟩:=flat_split f cs i c (by simpa using h)
    refine ⟨f a ++ rest,?_,fun c' => ?_,fun j d hj hd x hx => ?_⟩
    · simp only [List.flatMap_cons]
      exact (h1.append_left (f a)).trans (by rw [← List.append_assoc,← List.append_assoc]; exact List.perm_append_comm.append_right rest)
    · simp only [List.set_cons_succ,List.flatMap_cons]
      exact ((h2 c').append_left (f a)).trans (by rw [← List.append_assoc,← List.append_assoc]; exact List.perm_append_comm.append_right rest)
    · cases j with
      | zero => simp at hd; subst hd; exact List.mem_append_left _ hx
      | succ j => exact List.mem_append_right _ (h3 j d (by omega) (by simpa using hd) x hx)

/-- The blocks of a subtree, and the others. -/
theorem LT.split (s:LT):∀ (t:LT) (p:List Nat),t.get p = some s → ∃ rest,t.blocks.Perm (s.blocks ++ rest) ∧ ∀ s',(LT.put s' t p).blocks.Perm (s'.blocks ++ rest):=by
  refine LT.ind ?_ ?_
  · intro v p q h
    cases q with
    | nil => simp only [LT.get,Option.some.injEq] at h; subst h; exact ⟨[],by simp,fun s' => by simp [LT.put]⟩
    | cons i q => simp [LT.get] at h
  · intro b cap e n cs ih q h
    cases q with
    | nil => simp only [LT.get,Option.some.injEq] at h; subst h; exact ⟨[],by simp,fun s' => by simp [LT.put]⟩
    | cons i q =>
      simp only [LT.get] at h
      cases hc:cs[i]? with
      | none => simp [hc] at h
      | some c =>
        simp only [hc] at h
        obtain ⟨rest,h1,h2⟩:=ih c (List.mem_of_getElem? hc) q h
        obtain ⟨rest2,h3,h4,_⟩:=flat_split LT.blocks cs i c hc
        refine ⟨b :: (rest ++ rest2),?_,fun s' => ?_⟩
        · simp only [LT.blocks]
          refine (List.Perm.cons b (h3.trans (h1.append_right rest2))).trans ?_
          rw [List.append_assoc]
          exact List.perm_middle.symm
        · simp only [LT.put,hc,LT.blocks]
          refine (List.Perm.cons b ((h4 _).trans ((h2 s').append_right rest2))).trans ?_
          rw [List.append_assoc]
          exact List.perm_middle.symm

theorem LT.put_val (s s':LT) (hv:s'.val = s.val):∀ (t:LT) (p:List Nat),t.get p = some s → (LT.put s' t p).val = t.val:=by
  intro t p h
  cases p with
  | nil => simp only [LT.get,Option.some.injEq] at h; subst h; simpa [LT.put] using hv
  | cons i q =>
    cases t with
    | leaf v p => simp [LT.get] at h
    | own b cap e n cs =>
      simp only [LT.get] at h
      cases hc:cs[i]? with
      | none => simp [hc] at h
      | some c => simp [LT.put,hc,LT.val]

theorem LT.get_holds {sz:Nat → Nat} {w:World} {I:Nat → Nat → Prop}:∀ (t:LT) (p:List Nat) (s:LT),t.holds sz w I → t.get p = some s → s.holds sz w I:=by
  refine LT.ind ?_ ?_
  · intro v p q s h hg
    cases q with
    | nil => simp only [LT.get,Option.some.injEq] at hg; subst hg; exact h
    | cons i q => simp [LT.get] at hg
  · intro b cap e n cs ih q s h hg
    cases q with
    | nil => simp only [LT.get,Option.some.injEq] at hg; subst hg; exact h
    | cons i q =>
      simp only [LT.holds] at h
      simp only [LT.get] at hg
      cases hc:cs[i]? with
      | none => simp [hc] at hg
      | some c => simp only [hc] at hg; exact ih c (List.mem_of_getElem? hc) q s (h.2.2.2.2 c (List.mem_of_getElem? hc)) hg

/-- A subtree is replaced by another one with the same value; the other blocks stay. -/
theorem LT.put_holds {sz:Nat → Nat} {w w':World} {I I':Nat → Nat → Prop} (hI:∀ k b,I k b → I' k b) (hw:∀ k b,I k b → w'.heap[b]? = w.heap[b]?) (s s':LT) (hv:s'.val = s.val) (hs:s'.holds sz w' I') :
    ∀ (t:LT) (p:List Nat),t.holds sz w I → t.get p = some s → t.blocks.Nodup → (∀ b ∈ t.blocks,b ∉ s.blocks → w'.heap[b]? = w.heap[b]?) → (LT.put s' t p).holds sz w' I':=by
  refine LT.ind ?_ ?_
  · intro v p q h hg _ _
    cases q with
    | nil => simpa [LT.put] using hs
    | cons i q => simp [LT.get] at hg
  · intro b cap e n cs ih q h hg hn hb
    cases q with
    | nil => simpa [LT.put] using hs
    | cons i q =>
      simp only [LT.holds] at h
      simp only [LT.get] at hg
      cases hc:cs[i]? with
      | none => simp [hc] at hg
      | some c =>
        simp only [hc] at hg
        obtain ⟨⟨arr,h1,h2,h3⟩,h4,h5,h6,h7⟩:=h
        simp only [LT.blocks,List.nodup_cons] at hn
        have hcm:=List.mem_of_getElem? hc
        obtain ⟨rest,p1,p2,p3⟩:=flat_split LT.blocks cs i c hc
        obtain ⟨rest',q1,q2⟩:=LT.split s c q hg
        have hnc:(c.blocks ++ rest).Nodup:=p1.nodup_iff.1 hn.2
        have hsub:∀ x ∈ s.blocks,x ∈ c.blocks:=fun x hx => q1.mem_iff.2 (List.mem_append_left _ hx)
        have hbs:b ∉ s.blocks:=fun hx => hn.1 (p1.mem_iff.2 (List.mem_append_left _ (hsub b hx)))
        have hci:=ih c hcm q (h7 c hcm) hg (List.nodup_append.1 hnc).1 (fun x hx hxs => hb x (by simp only [LT.blocks]; exact List.mem_cons_of_mem _ (List.mem_flatMap.2 ⟨c,hcm,hx⟩)) hxs)
        simp only [LT.put,hc,LT.holds]
        refine ⟨⟨arr,by rw [hb b (by simp [LT.blocks]) hbs]; exact h1,h2,?_⟩,by simp [h4],h5,h6,?_⟩
        · intro j d hd
          rcases Nat.decEq j i with hj | hj
          · rw [List.getElem?_set_ne (by omega)] at hd; exact h3 j d hd
          · subst hj
            rw [List.getElem?_set_self (List.getElem?_eq_some_iff.1 hc).1] at hd
            cases hd
            rw [LT.put_val s s' hv c q hg]
            exact h3 _ c hc
        · intro d hd
          obtain ⟨j,hj⟩:=List.getElem?_of_mem hd
          by_cases hji:j = i
          · subst hji
            rw [List.getElem?_set_self (List.getElem?_eq_some_iff.1 hc).1] at hj
            cases hj
            exact hci
          · rw [List.getElem?_set_ne (by omega)] at hj
            have hdm:=List.mem_of_getElem? hj
            refine LT.holds_frame hI hw d (h7 d hdm) fun x hx => hb x (by simp only [LT.blocks]; exact List.mem_cons_of_mem _ (List.mem_flatMap.2 ⟨d,hdm,hx⟩)) fun hxs => ?_
            exact (List.nodup_append.1 hnc).2.2 x (hsub x hxs) x (p3 j d hji hj x hx) rfl

end Go.V

namespace Go.V

inductive Id where
  | op (r i j:Nat)
  | arg (i j:Nat)
  deriving DecidableEq
structure Pl where
  id:Id
  path:List Nat
  deriving DecidableEq

inductive SV where
  | t (p:PT)
  | ref (pl:Pl) (off len:Nat)
  | ptr (pl:Pl) (off:Nat)
  | ip (k:Nat) (ps:List PT)
  | fnc (g:FuncId) (caps:List SV)
  | agg (vs:List SV)
  | tup (vs:List SV)
  | junk

structure St where
  sl:List SV
  hp:Id → Option PT

abbrev Loc:=Id → Option LT
def look (L:Loc) (pl:Pl):Option LT:=match L pl.id with
  | some t => t.get pl.path
  | none => none

mutual
def SVR (sz:Nat → Nat) (L:Loc) (w:World) (I:Nat → Nat → Prop):Value → SV → Prop
  | v,.t p => Im w I v p
  | v,.ref pl off len => (∃ b cap0 e n cs o cap,look L pl = some (.own b cap0 e n cs) ∧ v = .slice (some ⟨b,o,none⟩) len cap ∧ (cap = 0 ∨ o = off) ∧ len ≤ cap ∧ off + len * sz e ≤ cs.length ∧ off + cap * sz e = cap0 * sz e) ∨
      (∃ e,look L pl = some (.leaf v (.sl 0 e 0 [])) ∧ off = 0 ∧ len = 0 ∧ ∃ a,v = .slice a 0 0)
  | v,.ptr pl off => ∃ b cap0 e n cs,look L pl = some (.own b cap0 e n cs) ∧ v = .pointer (some ⟨b,off,none⟩)
  | v,.ip k ps => ∃ x,v = .pointer (some x) ∧ ImL w I k (some x) 0 ps
  | v,.fnc g caps => ∃ vs:List Value,v = .func (.func g) #[] vs.toArray ∧ SVRL sz L w I vs caps
  | v,.agg l => ∃ vs:List Value,v = .agg vs.toArray ∧ SVRL sz L w I vs l ∧ ∀ u ∈ vs,one u = true
  | v,.tup l => ∃ vs:List Value,v = .tuple vs.toArray ∧ SVRL sz L w I vs l
  | _,.junk => True
def SVRL (sz:Nat → Nat) (L:Loc) (w:World) (I:Nat → Nat → Prop):List Value → List SV → Prop
  | vs,[] => vs = []
  | vs,s :: ss => ∃ v vs',vs = v :: vs' ∧ SVR sz L w I v s ∧ SVRL sz L w I vs' ss
end

mutual
def SV.uses (f:Pl → Bool):SV → Bool
  | .ref pl _ _ => f pl
  | .ptr pl _ => f pl
  | .fnc _ l => SV.usesL f l
  | .agg l => SV.usesL f l
  | .tup l => SV.usesL f l
  | _ => false
def SV.usesL (f:Pl → Bool):List SV → Bool
  | [] => false
  | s :: ss => s.uses f || SV.usesL f ss
end
/-- What uses a place of f is told no more. -/
def SV.kill (f:Pl → Bool) (s:SV):SV:=if s.uses f then .junk else s

/-- A node that has changed no more than what a reference to it may tell. -/
def Shp:LT → LT → Prop
  | .own b cap e _ cs,t => ∃ n' cs',t = .own b cap e n' cs' ∧ cs.length ≤ cs'.length
  | .leaf v p,t => t = .leaf v p
/-- A node to which a reference may lead. -/
def LT.refable:LT → Prop
  | .own _ _ _ _ _ => True
  | .leaf _ (.sl 0 _ _ _) => True
  | .leaf _ .hole => True
  | _ => False
/-- Where f doesn't hold places lead to what they led to. -/
def Stays (f:Pl → Bool) (L L':Loc):Prop:=∀ pl node,f pl = false → node.refable → look L pl = some node → ∃ node',look L' pl = some node' ∧ Shp node node'
theorem Shp.refl:∀ t:LT,Shp t t
  | .own _ _ _ n cs => ⟨n,cs,rfl,Nat.le_refl _⟩
  | .leaf _ _ => rfl

section
variable {sz:Nat → Nat} {L L':Loc} {w w':World} {I I':Nat → Nat → Prop}
theorem SVR.all (f:Pl → Bool) (hL:Stays f L L') (hI:∀ k b,I k b → I' k b) (hw:∀ k b,I k b → w'.heap[b]? = w.heap[b]?) :
    (∀ v s,s.uses f = false → SVR sz L w I v s → SVR sz L' w' I' v s) ∧ (∀ vs ss,SV.usesL f ss = false → SVRL sz L w I vs ss → SVRL sz L' w' I' vs ss):=by
  have key:∀ n:Nat,(∀ v s,SizeOf.sizeOf s < n → s.uses f = false → SVR sz L w I v s → SVR sz L' w' I' v s) ∧ (∀ vs (ss:List SV),SizeOf.sizeOf ss < n → SV.usesL f ss = false → SVRL sz L w I vs ss → SVRL sz L' w' I' vs ss):=by
    intro n
    induction n with
    | zero => exact ⟨fun _ _ h => by omega,fun _ _ h => by omega⟩
    | succ n ih =>
      refine ⟨?_,?_⟩
      · intro v s hs hu h
        cases s with
        | t p => simp only [SVR] at h ⊢; exact (Im.all hI hw).1 _ _ h
        | ref pl off len =>
          simp only [SV.uses] at hu
          simp only [SVR] at h ⊢
          rcases h with ⟨b,cap0,e,k,cs,o,cap,hl,hv,h1,h2,h3,h4⟩ | ⟨e,hl,h1,h2,h3⟩
          · obtain ⟨node',hl',k',cs',rfl,hle⟩:=hL pl _ hu (by trivial) hl
            exact .inl ⟨b,cap0,e,k',cs',o,cap,hl',hv,h1,h2,by omega,h4⟩
          · obtain ⟨node',hl',hs'⟩:=hL pl _ hu (by trivial) hl
            simp only [Shp] at hs'
            subst hs'
            exact .inr ⟨e,hl',h1,h2,h3⟩
        | ptr pl off =>
          simp only [SV.uses] at hu
          simp only [SVR] at h ⊢
          obtain ⟨b,cap0,e,k,cs,hl,hv⟩:=h
          obtain ⟨node',hl',k',cs',rfl,hle⟩:=hL pl _ hu (by trivial) hl
          exact ⟨b,cap0,e,k',cs',hl',hv⟩
        | ip k ps =>
          simp only [SVR] at h ⊢
          obtain ⟨x,hv,hl⟩:=h
          exact ⟨x,hv,(Im.all hI hw).2.1 _ _ _ _ hl⟩
        | fnc g caps =>
          simp only [SV.uses] at hu
          simp only [SVR] at h ⊢
          obtain ⟨vs,hv,hl⟩:=h
          exact ⟨vs,hv,ih.2 _ _ (by simp at hs; omega) hu hl⟩
        | agg l =>
          simp only [SV.uses] at hu
          simp only [SVR] at h ⊢
          obtain ⟨vs,hv,hl,h1⟩:=h
          exact ⟨vs,hv,ih.2 _ _ (by simp at hs; omega) hu hl,h1⟩
        | tup l =>
          simp only [SV.uses] at hu
          simp only [SVR] at h ⊢
          obtain ⟨vs,hv,hl⟩:=h
          exact ⟨vs,hv,ih.2 _ _ (by simp at hs; omega) hu hl⟩
        | junk => trivial
      · intro vs ss hs hu h
        cases ss with
        | nil => simpa [SVRL] using h
        | cons s ss =>
          simp only [SV.usesL,Bool.or_eq_false_iff] at hu
          simp only [SVRL] at h ⊢
          obtain ⟨v,vs',hv,h1,h2⟩:=h
          exact ⟨v,vs',hv,ih.1 _ _ (by simp at hs; omega) hu.1 h1,ih.2 _ _ (by simp at hs; omega) hu.2 h2⟩
  exact ⟨fun v s => (key (SizeOf.sizeOf s + 1)).1 v s (Nat.lt_succ_self _),fun vs ss => (key (SizeOf.sizeOf ss + 1)).2 vs ss (Nat.lt_succ_self _)⟩

theorem SVR.kill (f:Pl → Bool) (hL:Stays f L L') (hI:∀ k b,I k b → I' k b) (hw:∀ k b,I k b → w'.heap[b]? = w.heap[b]?) {v:Value} {s:SV}
    (h:SVR sz L w I v s):SVR sz L' w' I' v (s.kill f):=by
  unfold SV.kill
  split
  · trivial
  · exact (SVR.all f hL hI hw).1 v s (by simpa using ‹¬ s.uses f = true›) h
theorem SVRL.kill (f:Pl → Bool) (hL:Stays f L L') (hI:∀ k b,I k b → I' k b) (hw:∀ k b,I k b → w'.heap[b]? = w.heap[b]?) :
    ∀ {vs:List Value} {ss:List SV},SVRL sz L w I vs ss → SVRL sz L' w' I' vs (ss.map (SV.kill f))
  | _,[],h => by simpa [SVRL] using h
  | vs,s :: ss,h => by
    simp only [SVRL,List.map_cons] at h ⊢
    obtain ⟨v,vs',hv,h1,h2⟩:=h
    exact ⟨v,vs',hv,SVR.kill f hL hI hw h1,SVRL.kill f hL hI hw h2⟩
theorem SVR.same (hI:∀ k b,I k b → I' k b) (hw:∀ k b,I k b → w'.heap[b]? = w.heap[b]?) {v:Value} {s:SV} (h:SVR sz L w I v s):SVR sz L w' I' v s :=
  (SVR.all (L':=L) (fun _ => false) (fun _ node _ _ hn => ⟨node,hn,Shp.refl _⟩) hI hw).1 v s (by
    have:∀ n:Nat,(∀ s:SV,SizeOf.sizeOf s < n → s.uses (fun _ => false) = false) ∧ (∀ ss:List SV,SizeOf.sizeOf ss < n → SV.usesL (fun _ => false) ss = false):=by
      intro n
      induction n with
      | zero => exact ⟨fun _ h => by omega,fun _ h => by omega⟩
      | succ n ih =>
        refine ⟨fun s hs => ?_,fun ss hs => ?_⟩
        · cases s <;> simp only [SV.uses] <;> exact ih.2 _ (by simp at hs; omega)
        · cases ss with
          | nil => rfl
          | cons s ss => simp only [SV.usesL,Bool.or_eq_false_iff]; exact ⟨ih.1 _ (by simp at hs; omega),ih.2 _ (by simp at hs; omega)⟩
    exact (this (SizeOf.sizeOf s + 1)).1 s (Nat.lt_succ_self _)) h
theorem SVRL.len:∀ {vs:List Value} {ss:List SV},SVRL sz L w I vs ss → vs.length = ss.length
  | _,[],h => by simp only [SVRL] at h; subst h; rfl
  | _,s :: ss,h => by
    simp only [SVRL] at h
    obtain ⟨v,vs',rfl,_,h2⟩:=h
    simp [SVRL.len h2]
theorem SVRL.at_:∀ {vs:List Value} {ss:List SV},SVRL sz L w I vs ss → ∀ (i:Nat) (s:SV),ss[i]? = some s → ∃ v,vs[i]? = some v ∧ SVR sz L w I v s
  | _,[],_,_,_,h => by simp at h
  | _,s :: ss,h,i,s',hi => by
    simp only [SVRL] at h
    obtain ⟨v,vs',rfl,h1,h2⟩:=h
    cases i with
    | zero => simp at hi; subst hi; exact ⟨v,rfl,h1⟩
    | succ i => simpa using SVRL.at_ h2 i s' (by simpa using hi)
theorem SVRL.set:∀ {vs:List Value} {ss:List SV},SVRL sz L w I vs ss → ∀ (i:Nat) {v:Value} {s:SV},SVR sz L w I v s → SVRL sz L w I (vs.set i v) (ss.set i s)
  | _,[],h,i,v,s,_ => by simp only [SVRL] at h; subst h; simp [SVRL]
  | _,s :: ss,h,i,v',s',hs => by
    simp only [SVRL] at h
    obtain ⟨v,vs',rfl,h1,h2⟩:=h
    cases i with
    | zero => simp only [List.set_cons_zero,SVRL]; exact ⟨v',vs',rfl,hs,h2⟩
    | succ i => simp only [List.set_cons_succ,SVRL]; exact ⟨v,vs'.set i v',rfl,h1,SVRL.set h2 i hs⟩
theorem SVRL.append:∀ {vs vs':List Value} {ss ss':List SV},SVRL sz L w I vs ss → SVRL sz L w I vs' ss' → SVRL sz L w I (vs ++ vs') (ss ++ ss')
  | _,_,[],_,h,h' => by simp only [SVRL] at h; subst h; simpa using h'
  | _,_,s :: ss,_,h,h' => by
    simp only [SVRL] at h
    obtain ⟨v,vs',rfl,h1,h2⟩:=h
    simp only [List.cons_append,SVRL]
    exact ⟨v,_,rfl,h1,SVRL.append h2 h'⟩
end

/-! What a place leads to, behind a change at another place. -/
theorem LT.get_put_other (s':LT):∀ (t:LT) (p q:List Nat),p.isPrefixOf q = false → ∀ node,t.get q = some node → ∃ node',(LT.put s' t p).get q = some node' ∧ Shp node node':=by
  refine LT.ind ?_ ?_
  · intro v p q r hp node h
    cases q with
    | nil => simp at hp
    | cons i q => exact ⟨node,by simpa [LT.put] using h,Shp.refl _⟩
  · intro b cap e n cs ih q r hp node h
    cases q with
    | nil => simp at hp
    | cons i q =>
      cases r with
      | nil =>
        simp only [LT.get,Option.some.injEq] at h
        subst h
        refine ⟨_,rfl,?_⟩
        simp only [LT.put]
        cases hc:cs[i]? with
        | none => exact ⟨_,_,rfl,Nat.le_refl _⟩
        | some c => exact ⟨_,_,rfl,by simp⟩
      | cons j r =>
        simp only [LT.put]
        cases hc:cs[i]? with
        | none => exact ⟨node,h,Shp.refl _⟩
        | some c =>
          by_cases hij:i = j
          · subst hij
            simp only [LT.get,hc] at h
            simp only [LT.get,List.getElem?_set_self (List.getElem?_eq_some_iff.1 hc).1]
            refine ih c (List.mem_of_getElem? hc) q r ?_ node h
            simpa using hp
          · simp only [LT.get] at h ⊢
            rw [List.getElem?_set_ne hij]
            exact ⟨node,h,Shp.refl _⟩
theorem LT.get_put_same (s s':LT):∀ (t:LT) (p r:List Nat),t.get p = some s → (LT.put s' t p).get (p ++ r) = s'.get r:=by
  refine LT.ind ?_ ?_
  · intro v p q r h
    cases q with
    | nil => simp [LT.put]
    | cons i q => simp [LT.get] at h
  · intro b cap e n cs ih q r h
    cases q with
    | nil => simp [LT.put]
    | cons i q =>
      simp only [LT.get] at h
      cases hc:cs[i]? with
      | none => simp [hc] at h
      | some c =>
        simp only [hc] at h
        simp only [LT.put,hc,List.cons_append,LT.get,List.getElem?_set_self (List.getElem?_eq_some_iff.1 hc).1]
        exact ih c (List.mem_of_getElem? hc) q r h
theorem LT.get_append:∀ (t:LT) (p r:List Nat),t.get (p ++ r) = (t.get p).bind (·.get r):=by
  refine LT.ind ?_ ?_
  · intro v p q r
    cases q with
    | nil => simp [LT.get]
    | cons i q => simp [LT.get]
  · intro b cap e n cs ih q r
    cases q with
    | nil => simp [LT.get]
    | cons i q =>
      simp only [LT.get,List.cons_append]
      cases hc:cs[i]? with
      | none => simp
      | some c => exact ih c (List.mem_of_getElem? hc) q r

end Go.V

namespace Go.V
open Go.RowKit

/-- Everything but the blocks bs, and what is new, stays. -/
structure Kp (bs:List Nat) (w w':World):Prop where
  os:w'.os = w.os
  tape:w'.tape = w.tape
  output:w'.output = w.output
  size:w.heap.size ≤ w'.heap.size
  block:∀ i,i < w.heap.size → i ∉ bs → w'.heap[i]? = w.heap[i]?
  drawn:w.drawn ≤ w'.drawn
theorem Kp.refl (bs:List Nat) (w:World):Kp bs w w:=⟨rfl,rfl,rfl,Nat.le_refl _,fun _ _ _ => rfl,Nat.le_refl _⟩
theorem Kp.trans {bs bs':List Nat} {w w1 w2:World} (h:Kp bs w w1) (k:Kp bs' w1 w2) (hb:∀ b ∈ bs',b ∈ bs ∨ w.heap.size ≤ b):Kp bs w w2 :=
  ⟨k.os.trans h.os,k.tape.trans h.tape,k.output.trans h.output,Nat.le_trans h.size k.size,fun i hi hn =>
    (k.block i (Nat.lt_of_lt_of_le hi h.size) (fun hx => (hb i hx).elim hn (fun hle => by omega))).trans (h.block i hi hn),Nat.le_trans h.drawn k.drawn⟩
theorem Kp.below {w w':World} (h:Kp [] w w'):Below w.heap.size w w':=⟨h.os,h.tape,h.output,h.size,fun k hk => h.block k hk (by simp)⟩
theorem Kp.of_below {bs:List Nat} {w w':World} (h:Below w.heap.size w w') (hd:w.drawn ≤ w'.drawn):Kp bs w w':=⟨h.os,h.tape,h.output,h.size,fun k hk _ => h.block k hk,hd⟩

/-- What the arguments hold, and the calls that wait for the return. -/
structure AD where
  f:Nat → Nat → Option Value
  d:List Deferred
instance:CoeFun AD (fun _ => Nat → Nat → Option Value):=⟨AD.f⟩
structure Sim (sz:Nat → Nat) (I:Nat → Nat → Prop) (bs:List Nat) (A:AD) (w0:World) (st:St) (a:Act) (w:World) (L:Loc) (hand:List LT):Prop where
  keeps:Kp bs w0 w
  imm:∀ k b,I k b → b < w0.heap.size ∧ b ∉ bs
  er:∀ id,(L id).map LT.erase = st.hp id
  holds:∀ id t,L id = some t → t.holds sz w I
  nodup:∀ id t,L id = some t → t.blocks.Nodup
  own:∀ id t,L id = some t → ∀ b ∈ t.blocks,b ∈ bs ∨ w0.heap.size ≤ b
  apart:∀ id id' t t',id ≠ id' → L id = some t → L id' = some t' → ∀ b ∈ t.blocks,b ∉ t'.blocks
  hholds:∀ t ∈ hand,t.holds sz w I
  hnodup:(hand.flatMap LT.blocks).Nodup
  hown:∀ b ∈ hand.flatMap LT.blocks,b ∈ bs ∨ w0.heap.size ≤ b
  hapart:∀ id t,L id = some t → ∀ b ∈ t.blocks,b ∉ hand.flatMap LT.blocks
  slots:SVRL sz L w I a.tmps.toList st.sl
  nodef:a.defers = A.d
  args:∀ i j v,A i j = some v → ∃ t,L (.arg i j) = some t ∧ t.val = v

theorem LT.blocks_lt {sz:Nat → Nat} {w:World} {I:Nat → Nat → Prop}:∀ t:LT,t.holds sz w I → ∀ b ∈ t.blocks,b < w.heap.size:=by
  refine LT.ind ?_ ?_
  · intro v p _ b hb; simp [LT.blocks] at hb
  · intro b cap e n cs ih h x hx
    simp only [LT.holds] at h
    simp only [LT.blocks,List.mem_cons,List.mem_flatMap] at hx
    rcases hx with rfl | ⟨c,hc,hx⟩
    · obtain ⟨⟨arr,h1,_⟩,_⟩:=h
      exact (Array.getElem?_eq_some_iff.1 h1).1
    · exact ih c hc (h.2.2.2.2 c hc) x hx

section
variable {sz:Nat → Nat} {I:Nat → Nat → Prop} {bs:List Nat} {A:AD} {w0 w w':World} {st:St} {a:Act} {L:Loc} {hand:List LT}

theorem Sim.immw (h:Sim sz I bs A w0 st a w L hand):∀ k b,I k b → b < w.heap.size:=fun k b hb => Nat.lt_of_lt_of_le (h.imm k b hb).1 h.keeps.size
/-- What is only read is none of one's own. -/
theorem Sim.imm_ne (h:Sim sz I bs A w0 st a w L hand) {k b:Nat} (hb:I k b):b ∉ bs ∧ ¬ w0.heap.size ≤ b:=⟨(h.imm k b hb).2,by have:=(h.imm k b hb).1; omega⟩

/-- The world grows; nothing that was there turns. -/
theorem Sim.grow (h:Sim sz I bs A w0 st a w L hand) (hw:Below w.heap.size w w') (hd:w.drawn ≤ w'.drawn):Sim sz I bs A w0 st a w' L hand:=by
  have hI:∀ k b,I k b → w'.heap[b]? = w.heap[b]?:=fun k b hb => hw.block b (h.immw k b hb)
  refine { h with keeps:=h.keeps.trans (Kp.of_below (bs:=[]) hw hd) (by simp),holds:=?_,hholds:=?_,slots:=?_ }
  · exact fun id t ht => LT.holds_frame (fun _ _ hb => hb) hI t (h.holds id t ht) fun b hb => hw.block b (LT.blocks_lt t (h.holds id t ht) b hb)
  · exact fun t ht => LT.holds_frame (fun _ _ hb => hb) hI t (h.hholds t ht) fun b hb => hw.block b (LT.blocks_lt t (h.hholds t ht) b hb)
  · have:=SVRL.kill (L':=L) (fun _ => false) (fun _ node _ _ hn => ⟨node,hn,Shp.refl _⟩) (fun _ _ hb => hb) hI h.slots
    have e:st.sl.map (SV.kill fun _ => false) = st.sl:=by
      have:∀ n:Nat,(∀ s:SV,SizeOf.sizeOf s < n → s.uses (fun _ => false) = false) ∧ (∀ ss:List SV,SizeOf.sizeOf ss < n → SV.usesL (fun _ => false) ss = false):=by
        intro n
        induction n with
        | zero => exact ⟨fun _ h => by omega,fun _ h => by omega⟩
        | succ n ih =>
          refine ⟨fun s hs => ?_,fun ss hs => ?_⟩
          · cases s <;> simp only [SV.uses] <;> exact ih.2 _ (by simp at hs; omega)
          · cases ss with
            | nil => rfl
            | cons s ss => simp only [SV.usesL,Bool.or_eq_false_iff]; exact ⟨ih.1 _ (by simp at hs; omega),ih.2 _ (by simp at hs; omega)⟩
      refine (List.map_congr_left fun s _ => ?_).trans (List.map_id _)
      simp [SV.kill,(this (SizeOf.sizeOf s + 1)).1 s (Nat.lt_succ_self _)]
    rw [e] at this
    exact this

/-- A slot gets a value. -/
theorem Sim.put (h:Sim sz I bs A w0 st a w L hand) (d:Option Nat) {v:Value} {s:SV} (hs:SVR sz L w I v s) :
    Sim sz I bs A w0 { st with sl:=match d with | some d => st.sl.set d s | none => st.sl } (a.put d v) w L hand:=by
  cases d with
  | none => exact h
  | some d =>
    refine { h with slots:=?_,nodef:=h.nodef,er:=h.er }
    simp only [Act.put,Array.toList_setIfInBounds]
    exact h.slots.set d hs

theorem flat_sub {α β:Type} (f:α → List β):∀ {l l':List α},l'.Sublist l → (l'.flatMap f).Sublist (l.flatMap f)
  | _,_,.slnil => .slnil
  | _,_,.cons a h => by rw [List.flatMap_cons]; exact (flat_sub f h).trans (List.sublist_append_right _ _)
  | _,_,.cons_cons a h => by rw [List.flatMap_cons,List.flatMap_cons]; exact (flat_sub f h).append_left _
/-- What the hand holds may be let go. -/
theorem Sim.drop (h:Sim sz I bs A w0 st a w L hand) {hand':List LT} (hh:hand'.Sublist hand):Sim sz I bs A w0 st a w L hand':=by
  have hf:(hand'.flatMap LT.blocks).Sublist (hand.flatMap LT.blocks):=flat_sub _ hh
  exact { h with hholds:=fun t ht => h.hholds t (hh.subset ht),hnodup:=h.hnodup.sublist hf,hown:=fun b hb => h.hown b (hf.subset hb),hapart:=fun id t ht b hb hx => h.hapart id t ht b hb (hf.subset hx) }

def Pl.pre (p q:Pl):Bool:=p.id == q.id && p.path.isPrefixOf q.path
def updF {α:Type} (f:Id → α) (i:Id) (x:α):Id → α:=fun j => if j = i then x else f j
theorem updF_same {α:Type} (f:Id → α) (i:Id) (x:α):updF f i x i = x:=by simp [updF]
theorem updF_ne {α:Type} (f:Id → α) {i j:Id} (x:α) (h:j ≠ i):updF f i x j = f j:=by simp [updF,h]
def hputP (hp:Id → Option PT) (pl:Pl) (s:PT):Id → Option PT:=match hp pl.id with
  | some t => updF hp pl.id (some (PT.put s t pl.path))
  | none => hp
def lookP (hp:Id → Option PT) (pl:Pl):Option PT:=match hp pl.id with
  | some t => t.get pl.path
  | none => none
theorem Sim.lookP (h:Sim sz I bs A w0 st a w L hand) (pl:Pl):V.lookP st.hp pl = (look L pl).map LT.erase:=by
  unfold V.lookP look
  rw [← h.er]
  cases hl:L pl.id with
  | none => rfl
  | some t => exact LT.get_erase t pl.path (h.holds _ _ hl)
theorem Sim.look_holds (h:Sim sz I bs A w0 st a w L hand) {pl:Pl} {t:LT} (hl:look L pl = some t):t.holds sz w I:=by
  unfold look at hl
  cases hi:L pl.id with
  | none => simp [hi] at hl
  | some r => simp only [hi] at hl; exact LT.get_holds r pl.path t (h.holds _ _ hi) hl

/-- A subtree is taken into the hand; a hole stays. -/
theorem Sim.take (h:Sim sz I bs A w0 st a w L hand) {pl:Pl} {t:LT} (hl:look L pl = some t) (ho:one t.val = true) :
    ∃ L',Sim sz I bs A w0 ⟨st.sl.map (SV.kill pl.pre),hputP st.hp pl .hole⟩ a w L' (hand ++ [t]) ∧ look L' pl = some (.leaf t.val .hole) ∧
      Stays pl.pre L L':=by
  have hl0:=hl
  unfold look at hl
  cases hi:L pl.id with
  | none => simp [hi] at hl
  | some r =>
    simp only [hi] at hl
    have hr:=h.holds _ _ hi
    obtain ⟨rest,q1,q2⟩:=LT.split t r pl.path hl
    have hn:=q1.nodup_iff.1 (h.nodup _ _ hi)
    let s':LT:=.leaf t.val .hole
    let r':=LT.put s' r pl.path
    have hb':r'.blocks.Perm rest:=by simpa [LT.blocks,s'] using q2 s'
    have hsub:∀ b ∈ r'.blocks,b ∈ r.blocks ∧ b ∉ t.blocks:=fun b hb => ⟨q1.mem_iff.2 (List.mem_append_right _ (hb'.mem_iff.1 hb)),fun hx => (List.nodup_append.1 hn).2.2 b hx b (hb'.mem_iff.1 hb) rfl⟩
    have hr':r'.holds sz w I:=LT.put_holds (fun _ _ hb => hb) (fun _ _ _ => rfl) t s' rfl (by simp only [LT.holds,s',Im]; exact ⟨trivial,ho⟩) r pl.path hr hl (h.nodup _ _ hi) (fun _ _ _ => rfl)
    have hk:Stays pl.pre L (updF L pl.id (some r')):=by
      intro q node hq _ hn
      by_cases hqi:q.id = pl.id
      · unfold look at hn ⊢
        rw [hqi] at hn ⊢
        simp only [hi] at hn
        simp only [updF_same]
        refine LT.get_put_other s' r pl.path q.path ?_ node hn
        simpa [Pl.pre,hqi] using hq
      · unfold look at hn ⊢
        rw [updF_ne _ _ hqi]
        exact ⟨node,hn,Shp.refl _⟩
    refine ⟨updF L pl.id (some r'),?_,?_,hk⟩
    · have hcase:∀ id x,updF L pl.id (some r') id = some x → (id = pl.id ∧ x = r') ∨ (id ≠ pl.id ∧ L id = some x):=by
        intro id x hx
        by_cases hid:id = pl.id
        · subst hid; rw [updF_same] at hx; cases hx; exact .inl ⟨rfl,rfl⟩
        · rw [updF_ne _ _ hid] at hx; exact .inr ⟨hid,hx⟩
      exact
        { keeps:=h.keeps,imm:=h.imm,nodef:=h.nodef
          args:=by
            intro i j v hv
            obtain ⟨x,hx,hxv⟩:=h.args i j v hv
            by_cases hid:Id.arg i j = pl.id
            · rw [hid] at hx ⊢
              rw [hi] at hx
              cases hx
              exact ⟨r',updF_same _ _ _,(LT.put_val t s' rfl r pl.path hl).trans hxv⟩
            · exact ⟨x,by rw [updF_ne _ _ hid]; exact hx,hxv⟩
          er:=by
            intro id
            by_cases hid:id = pl.id
            · subst hid
              simp only [hputP,← h.er,hi,Option.map_some,updF_same]
              rw [LT.put_erase s' r pl.path hr]
              simp [s',LT.erase]
            · simp only [hputP,← h.er pl.id,hi,Option.map_some]
              rw [updF_ne _ _ hid,updF_ne _ _ hid,h.er]
          holds:=by
            intro id x hx
            rcases hcase id x hx with ⟨_,rfl⟩ | ⟨_,hx⟩
            · exact hr'
            · exact h.holds id x hx
          nodup:=by
            intro id x hx
            rcases hcase id x hx with ⟨_,rfl⟩ | ⟨_,hx⟩
            · exact hb'.nodup_iff.2 (List.nodup_append.1 hn).2.1
            · exact h.nodup id x hx
          own:=by
            intro id x hx b hb
            rcases hcase id x hx with ⟨_,rfl⟩ | ⟨_,hx⟩
            · exact h.own _ _ hi b (hsub b hb).1
            · exact h.own id x hx b hb
          apart:=by
            intro id id' x x' hne hx hx' b hb
            rcases hcase id x hx with ⟨rfl,rfl⟩ | ⟨h1,hx⟩ <;> rcases hcase id' x' hx' with ⟨rfl,rfl⟩ | ⟨h2,hx'⟩
            · exact absurd rfl hne
            · exact h.apart _ _ _ _ hne hi hx' b (hsub b hb).1
            · exact fun hb' => h.apart _ _ _ _ hne hx hi b hb (hsub b hb').1
            · exact h.apart _ _ _ _ hne hx hx' b hb
          hholds:=by
            intro x hx
            rcases List.mem_append.1 hx with hx | hx
            · exact h.hholds x hx
            · simp only [List.mem_singleton] at hx; subst hx; exact LT.get_holds r pl.path x hr hl
          hnodup:=by
            simp only [List.flatMap_append,List.flatMap_cons,List.flatMap_nil,List.append_nil]
            refine List.nodup_append.2 ⟨h.hnodup,(List.nodup_append.1 hn).1,fun x hx y hy hxy => ?_⟩
            subst hxy
            exact h.hapart _ _ hi x (q1.mem_iff.2 (List.mem_append_left _ hy)) hx
          hown:=by
            intro b hb
            simp only [List.flatMap_append,List.flatMap_cons,List.flatMap_nil,List.append_nil,List.mem_append] at hb
            rcases hb with hb | hb
            · exact h.hown b hb
            · exact h.own _ _ hi b (q1.mem_iff.2 (List.mem_append_left _ hb))
          hapart:=by
            intro id x hx b hb
            simp only [List.flatMap_append,List.flatMap_cons,List.flatMap_nil,List.append_nil,List.mem_append,not_or]
            rcases hcase id x hx with ⟨_,rfl⟩ | ⟨h1,hx⟩
            · exact ⟨h.hapart _ _ hi b (hsub b hb).1,(hsub b hb).2⟩
            · exact ⟨h.hapart _ _ hx b hb,fun hy => h.apart _ _ _ _ h1 hx hi b hb (q1.mem_iff.2 (List.mem_append_left _ hy))⟩
          slots:=SVRL.kill pl.pre hk (fun _ _ hb => hb) (fun _ _ _ => rfl) h.slots }
    · unfold look
      simp only [updF_same]
      have:=LT.get_put_same t s' r pl.path [] hl
      rw [List.append_nil] at this
      exact this
end

end Go.V

namespace Go.V
open Go.RowKit
section
variable {sz:Nat → Nat} {I:Nat → Nat → Prop} {bs:List Nat} {A:AD} {w0 w w':World} {st:St} {a:Act} {L:Loc} {hand hand':List LT}

/-- A subtree becomes another one with the same value; the world turns in its blocks and in what the hand holds alone. -/
theorem Sim.update (h:Sim sz I bs A w0 st a w L hand) {pl:Pl} {t t':LT} (hl:look L pl = some t) (ks:List Nat) (hk:Kp ks w w') (hks:∀ b ∈ ks,b ∈ t.blocks ∨ b ∈ hand.flatMap LT.blocks)
    (hv:t'.val = t.val) (ht':t'.holds sz w' I) (hh':∀ x ∈ hand',x.holds sz w' I) (hn:(t'.blocks ++ hand'.flatMap LT.blocks).Nodup)
    (hb:∀ b ∈ t'.blocks ++ hand'.flatMap LT.blocks,b ∈ t.blocks ∨ b ∈ hand.flatMap LT.blocks ∨ w.heap.size ≤ b)
    (f:Pl → Bool) (hf:∀ r node,f ⟨pl.id,pl.path ++ r⟩ = false → node.refable → t.get r = some node → ∃ node',t'.get r = some node' ∧ Shp node node') :
    ∃ L',Sim sz I bs A w0 ⟨st.sl.map (SV.kill f),hputP st.hp pl t'.erase⟩ a w' L' hand' ∧ look L' pl = some t' ∧
      Stays f L L':=by
  unfold look at hl
  cases hi:L pl.id with
  | none => simp [hi] at hl
  | some r =>
    simp only [hi] at hl
    have hr:=h.holds _ _ hi
    have hrlt:=LT.blocks_lt r hr
    have hhlt:∀ b ∈ hand.flatMap LT.blocks,b < w.heap.size:=fun b hb => by
      obtain ⟨x,hx,hbx⟩:=List.mem_flatMap.1 hb
      exact LT.blocks_lt x (h.hholds x hx) b hbx
    obtain ⟨rest,q1,q2⟩:=LT.split t r pl.path hl
    have hnr:=q1.nodup_iff.1 (h.nodup _ _ hi)
    have htr:∀ b ∈ t.blocks,b ∈ r.blocks:=fun b hb => q1.mem_iff.2 (List.mem_append_left _ hb)
    have hrr:∀ b ∈ rest,b ∈ r.blocks:=fun b hb => q1.mem_iff.2 (List.mem_append_right _ hb)
    have htrest:∀ b ∈ t.blocks,b ∉ rest:=fun b hb hx => (List.nodup_append.1 hnr).2.2 b hb b hx rfl
    let r':=LT.put t' r pl.path
    have hb':r'.blocks.Perm (t'.blocks ++ rest):=q2 t'
    -- what is read stays
    have hI:∀ k b,I k b → w'.heap[b]? = w.heap[b]?:=by
      intro k b hbI
      refine hk.block b (h.immw k b hbI) fun hx => ?_
      have hne:=h.imm_ne hbI
      rcases hks b hx with hx | hx
      · rcases h.own _ _ hi b (htr b hx) with h1 | h1
        · exact hne.1 h1
        · exact hne.2 h1
      · rcases h.hown b hx with h1 | h1
        · exact hne.1 h1
        · exact hne.2 h1
    have hkeep:∀ b,b < w.heap.size → b ∉ t.blocks → b ∉ hand.flatMap LT.blocks → w'.heap[b]? = w.heap[b]?:=fun b hlt h1 h2 => hk.block b hlt fun hx => (hks b hx).elim h1 h2
    have hr':r'.holds sz w' I:=LT.put_holds (fun _ _ hb => hb) hI t t' hv ht' r pl.path hr hl (h.nodup _ _ hi) fun b hbr hbt => hkeep b (hrlt b hbr) hbt (h.hapart _ _ hi b hbr)
    have hnew:∀ b ∈ t'.blocks ++ hand'.flatMap LT.blocks,b ∉ rest:=by
      intro b hbm hbr
      rcases hb b hbm with h1 | h1 | h1
      · exact htrest b h1 hbr
      · exact h.hapart _ _ hi b (hrr b hbr) h1
      · have:=hrlt b (hrr b hbr); omega
    have hoth:∀ id x,id ≠ pl.id → L id = some x → ∀ b ∈ x.blocks,b ∉ t'.blocks ++ hand'.flatMap LT.blocks:=by
      intro id x hid hx b hbx hbm
      have hlt:=LT.blocks_lt x (h.holds _ _ hx) b hbx
      rcases hb b hbm with h1 | h1 | h1
      · exact h.apart _ _ _ _ hid hx hi b hbx (htr b h1)
      · exact h.hapart _ _ hx b hbx h1
      · omega
    have hkk:Stays f L (updF L pl.id (some r')):=by
      intro q node hq hrf hnode
      by_cases hqi:q.id = pl.id
      · unfold look at hnode ⊢
        rw [hqi] at hnode ⊢
        simp only [hi] at hnode
        simp only [updF_same]
        cases hp:pl.path.isPrefixOf q.path with
        | false => exact LT.get_put_other t' r pl.path q.path hp node hnode
        | true =>
          obtain ⟨s,hs⟩:=List.isPrefixOf_iff_prefix.1 hp
          have e:q = ⟨pl.id,pl.path ++ s⟩:=by cases q; simp_all
          subst e
          simp only [LT.get_append,hl,Option.bind_some] at hnode
          obtain ⟨node',h1,h2⟩:=hf s node hq hrf hnode
          exact ⟨node',by rw [LT.get_put_same t t' r pl.path s hl]; exact h1,h2⟩
      · unfold look at hnode ⊢
        rw [updF_ne _ _ hqi]
        exact ⟨node,hnode,Shp.refl _⟩
    have hcase:∀ id x,updF L pl.id (some r') id = some x → (id = pl.id ∧ x = r') ∨ (id ≠ pl.id ∧ L id = some x):=by
      intro id x hx
      by_cases hid:id = pl.id
      · subst hid; rw [updF_same] at hx; cases hx; exact .inl ⟨rfl,rfl⟩
      · rw [updF_ne _ _ hid] at hx; exact .inr ⟨hid,hx⟩
    have hownb:∀ b ∈ t'.blocks ++ hand'.flatMap LT.blocks,b ∈ bs ∨ w0.heap.size ≤ b:=by
      intro b hbm
      rcases hb b hbm with h1 | h1 | h1
      · exact h.own _ _ hi b (htr b h1)
      · exact h.hown b h1
      · exact .inr (Nat.le_trans h.keeps.size h1)
    refine ⟨updF L pl.id (some r'),?_,?_,hkk⟩
    · exact
        { keeps:=h.keeps.trans hk (fun b hb => by
            rcases hks b hb with h1 | h1
            · exact h.own _ _ hi b (htr b h1)
            · exact h.hown b h1)
          imm:=h.imm,nodef:=h.nodef
          args:=by
            intro i j v hva
            obtain ⟨x,hx,hxv⟩:=h.args i j v hva
            by_cases hid:Id.arg i j = pl.id
            · rw [hid] at hx ⊢
              rw [hi] at hx
              cases hx
              exact ⟨r',updF_same _ _ _,(LT.put_val t t' hv r pl.path hl).trans hxv⟩
            · exact ⟨x,by rw [updF_ne _ _ hid]; exact hx,hxv⟩
          er:=by
            intro id
            by_cases hid:id = pl.id
            · subst hid
              simp only [hputP,← h.er,hi,Option.map_some,updF_same]
              rw [LT.put_erase t' r pl.path hr]
            · simp only [hputP,← h.er pl.id,hi,Option.map_some]
              rw [updF_ne _ _ hid,updF_ne _ _ hid,h.er]
          holds:=by
            intro id x hx
            rcases hcase id x hx with ⟨_,rfl⟩ | ⟨hid,hx⟩
            · exact hr'
            · refine LT.holds_frame (fun _ _ hb => hb) hI x (h.holds id x hx) fun b hbx => hkeep b (LT.blocks_lt x (h.holds _ _ hx) b hbx) (fun hbt => ?_) (h.hapart _ _ hx b hbx)
              exact h.apart _ _ _ _ hid hx hi b hbx (htr b hbt)
          nodup:=by
            intro id x hx
            rcases hcase id x hx with ⟨_,rfl⟩ | ⟨_,hx⟩
            · refine hb'.nodup_iff.2 (List.nodup_append.2 ⟨(List.nodup_append.1 hn).1,(List.nodup_append.1 hnr).2.1,fun x hx y hy hxy => ?_⟩)
              subst hxy
              exact hnew x (List.mem_append_left _ hx) hy
            · exact h.nodup id x hx
          own:=by
            intro id x hx b hbx
            rcases hcase id x hx with ⟨_,rfl⟩ | ⟨_,hx⟩
            · rcases List.mem_append.1 (hb'.mem_iff.1 hbx) with h1 | h1
              · exact hownb b (List.mem_append_left _ h1)
              · exact h.own _ _ hi b (hrr b h1)
            · exact h.own id x hx b hbx
          apart:=by
            intro id id' x x' hne hx hx' b hbx
            rcases hcase id x hx with ⟨rfl,rfl⟩ | ⟨h1,hx⟩ <;> rcases hcase id' x' hx' with ⟨rfl,rfl⟩ | ⟨h2,hx'⟩
            · exact absurd rfl hne
            · rcases List.mem_append.1 (hb'.mem_iff.1 hbx) with h3 | h3
              · exact fun hbx' => hoth id' x' (Ne.symm hne) hx' b hbx' (List.mem_append_left _ h3)
              · exact h.apart _ _ _ _ hne hi hx' b (hrr b h3)
            · intro hbx'
              rcases List.mem_append.1 (hb'.mem_iff.1 hbx') with h3 | h3
              · exact hoth id x hne hx b hbx (List.mem_append_left _ h3)
              · exact h.apart _ _ _ _ hne hx hi b hbx (hrr b h3)
            · exact h.apart _ _ _ _ hne hx hx' b hbx
          hholds:=hh'
          hnodup:=(List.nodup_append.1 hn).2.1
          hown:=fun b hb => hownb b (List.mem_append_right _ hb)
          hapart:=by
            intro id x hx b hbx hbh
            rcases hcase id x hx with ⟨_,rfl⟩ | ⟨h1,hx⟩
            · rcases List.mem_append.1 (hb'.mem_iff.1 hbx) with h3 | h3
              · exact (List.nodup_append.1 hn).2.2 b h3 b hbh rfl
              · exact hnew b (List.mem_append_right _ hbh) h3
            · exact hoth id x h1 hx b hbx (List.mem_append_right _ hbh)
          slots:=SVRL.kill f hkk (fun _ _ hb => hb) hI h.slots }
    · unfold look
      simp only [updF_same]
      have:=LT.get_put_same t t' r pl.path [] hl
      rw [List.append_nil] at this
      exact this

/-- A name gets a tree, made of what the hand holds and of what is new. -/
theorem Sim.root (h:Sim sz I bs A w0 st a w L hand) (id:Id) (hid:∀ i j,id ≠ .arg i j) {t':LT} (ks:List Nat) (hk:Kp ks w w') (hks:∀ b ∈ ks,b ∈ hand.flatMap LT.blocks)
    (ht':t'.holds sz w' I) (hh':∀ x ∈ hand',x.holds sz w' I) (hn:(t'.blocks ++ hand'.flatMap LT.blocks).Nodup)
    (hb:∀ b ∈ t'.blocks ++ hand'.flatMap LT.blocks,b ∈ hand.flatMap LT.blocks ∨ w.heap.size ≤ b) :
    Sim sz I bs A w0 ⟨st.sl.map (SV.kill (Pl.pre ⟨id,[]⟩)),updF st.hp id (some t'.erase)⟩ a w' (updF L id (some t')) hand':=by
  have hhlt:∀ b ∈ hand.flatMap LT.blocks,b < w.heap.size:=fun b hb => by
    obtain ⟨x,hx,hbx⟩:=List.mem_flatMap.1 hb
    exact LT.blocks_lt x (h.hholds x hx) b hbx
  have hI:∀ k b,I k b → w'.heap[b]? = w.heap[b]?:=by
    intro k b hbI
    refine hk.block b (h.immw k b hbI) fun hx => ?_
    have hne:=h.imm_ne hbI
    rcases h.hown b (hks b hx) with h1 | h1
    · exact hne.1 h1
    · exact hne.2 h1
  have hkeep:∀ b,b < w.heap.size → b ∉ hand.flatMap LT.blocks → w'.heap[b]? = w.heap[b]?:=fun b hlt h2 => hk.block b hlt fun hx => h2 (hks b hx)
  have hoth:∀ i x,L i = some x → ∀ b ∈ x.blocks,b ∉ t'.blocks ++ hand'.flatMap LT.blocks:=by
    intro i x hx b hbx hbm
    have hlt:=LT.blocks_lt x (h.holds _ _ hx) b hbx
    rcases hb b hbm with h1 | h1
    · exact h.hapart _ _ hx b hbx h1
    · omega
  have hownb:∀ b ∈ t'.blocks ++ hand'.flatMap LT.blocks,b ∈ bs ∨ w0.heap.size ≤ b:=by
    intro b hbm
    rcases hb b hbm with h1 | h1
    · exact h.hown b h1
    · exact .inr (Nat.le_trans h.keeps.size h1)
  have hcase:∀ i x,updF L id (some t') i = some x → (i = id ∧ x = t') ∨ (i ≠ id ∧ L i = some x):=by
    intro i x hx
    by_cases hid:i = id
    · subst hid; rw [updF_same] at hx; cases hx; exact .inl ⟨rfl,rfl⟩
    · rw [updF_ne _ _ hid] at hx; exact .inr ⟨hid,hx⟩
  exact
    { keeps:=h.keeps.trans hk (fun b hb => h.hown b (hks b hb))
      imm:=h.imm,nodef:=h.nodef
      args:=by
        intro i j v hva
        obtain ⟨x,hx,hxv⟩:=h.args i j v hva
        exact ⟨x,by rw [updF_ne _ _ (Ne.symm (hid i j))]; exact hx,hxv⟩
      er:=by
        intro i
        by_cases hid:i = id
        · subst hid; simp [updF_same]
        · simp only [updF_ne _ _ hid]; exact h.er i
      holds:=by
        intro i x hx
        rcases hcase i x hx with ⟨_,rfl⟩ | ⟨_,hx⟩
        · exact ht'
        · exact LT.holds_frame (fun _ _ hb => hb) hI x (h.holds i x hx) fun b hbx => hkeep b (LT.blocks_lt x (h.holds _ _ hx) b hbx) (h.hapart _ _ hx b hbx)
      nodup:=by
        intro i x hx
        rcases hcase i x hx with ⟨_,rfl⟩ | ⟨_,hx⟩
        · exact (List.nodup_append.1 hn).1
        · exact h.nodup i x hx
      own:=by
        intro i x hx b hbx
        rcases hcase i x hx with ⟨_,rfl⟩ | ⟨_,hx⟩
        · exact hownb b (List.mem_append_left _ hbx)
        · exact h.own i x hx b hbx
      apart:=by
        intro i i' x x' hne hx hx' b hbx
        rcases hcase i x hx with ⟨h0,e0⟩ | ⟨h1,hx1⟩ <;> rcases hcase i' x' hx' with ⟨h2,e2⟩ | ⟨h2,hx2⟩
        · exact absurd (h0.trans h2.symm) hne
        · subst e0; exact fun hbx' => hoth i' x' hx2 b hbx' (List.mem_append_left _ hbx)
        · subst e2; exact fun hbx' => hoth i x hx1 b hbx (List.mem_append_left _ hbx')
        · exact h.apart _ _ _ _ hne hx1 hx2 b hbx
      hholds:=hh'
      hnodup:=(List.nodup_append.1 hn).2.1
      hown:=fun b hb => hownb b (List.mem_append_right _ hb)
      hapart:=by
        intro i x hx b hbx hbh
        rcases hcase i x hx with ⟨_,rfl⟩ | ⟨h1,hx⟩
        · exact (List.nodup_append.1 hn).2.2 b hbx b hbh rfl
        · exact hoth i x hx b hbx (List.mem_append_right _ hbh)
      slots:=by
        refine SVRL.kill _ ?_ (fun _ _ hb => hb) hI h.slots
        intro q node hq _ hnode
        have hne:q.id ≠ id:=by
          intro e
          simp [Pl.pre,e] at hq
        unfold look at hnode ⊢
        rw [updF_ne _ _ hne]
        exact ⟨node,hnode,Shp.refl _⟩ }
end
end Go.V

namespace Go.V
open Go.RowKit

/-! ### What runs without a look at the world -/
def pureRun {α:Type} (P:Program):Sem α → Option α
  | .pure a => some a
  | .program k => pureRun P (k P)
  | .mark _ k => pureRun P k
  | _ => none
theorem pureRun_run {α:Type} {P:Program} {w:World}:∀ {s:Sem α} {a:α},pureRun P s = some a → s.run P w = .ok a w
  | .pure _,_,h => by simp only [pureRun,Option.some.injEq] at h; subst h; rfl
  | .program k,_,h => by simp only [pureRun] at h; simp only [Sem.run]; exact pureRun_run h
  | .mark _ k,_,h => by simp only [pureRun] at h; simp only [Sem.run]; exact pureRun_run h
  | .load _ _ _,_,h => by simp [pureRun] at h
  | .store _ _ _ _,_,h => by simp [pureRun] at h
  | .new _ _,_,h => by simp [pureRun] at h
  | .shape _ _,_,h => by simp [pureRun] at h
  | .freeze _ _ _,_,h => by simp [pureRun] at h
  | .frozen _ _,_,h => by simp [pureRun] at h
  | .getObj _ _,_,h => by simp [pureRun] at h
  | .setObj _ _ _,_,h => by simp [pureRun] at h
  | .choose _ _,_,h => by simp [pureRun] at h
  | .sys _ _,_,h => by simp [pureRun] at h
  | .halt _,_,h => by simp [pureRun] at h

/-! ### Facts on types -/
def tsz (P:Program) (t:TypeId):Nat:=match P.info? t with | some i => i.size | none => 0
def tby (P:Program) (t:TypeId):Nat:=match P.info? t with | some i => i.bytes | none => 0
def tzero (P:Program) (t:TypeId):Option Value:=match P.info? t with | some i => i.zero | none => none
def telem (P:Program) (t:TypeId):Option TypeId:=match P.underlying t with | some (.slice e) => some e | _ => none
def tagg (P:Program) (t:TypeId):Option Bool:=match P.underlying t with | some (.struct _) => some true | some (.array _ _) => some true | some _ => some false | none => none
def tfield (P:Program) (t:TypeId) (k:Nat):Option (Nat × TypeId):=match P.underlying t with | some (.struct fs) => (fs[k]?).map fun f => (f.offset,f.type) | _ => none

/-! ### Values that are told whole -/
/-- The type of the elements of a row that has none: no type's number. -/
abbrev nilE:Nat:=1000000000
def PT.ofV:Value → PT
  | .slice a 0 0 => .sl 0 nilE 0 []
  | .func (.func g) f c => if f.size = 0 ∧ c.size = 0 then .fn 0 g [] else .raw (.func (.func g) f c)
  | v => .raw v
def SV.ofV:Value → SV
  | .agg vs => if vs.toList.all one then .agg (vs.toList.map fun v => .t (PT.ofV v)) else .t (.raw (.agg vs))
  | .tuple vs => .tup (vs.toList.map fun v => .t (PT.ofV v))
  | v => .t (PT.ofV v)
def rawsOf:List SV → Option (List Value)
  | [] => some []
  | .t (.raw v) :: l => (rawsOf l).map (v :: ·)
  | _ => none
def SV.toVal:SV → Option Value
  | .t (.raw v) => some v
  | .agg l => (rawsOf l).map fun vs => .agg vs.toArray
  | _ => none
def comps:SV → List SV
  | .agg l => l
  | s => [s]

def opv (st:St):Operand → Option SV
  | .tmp t => st.sl[t]?
  | .const v => some (SV.ofV v)
  | .func f => some (.t (.fn 0 f []))
  | .global _ => none
def valv (st:St) (x:Operand):Option Value:=(opv st x).bind SV.toVal
def St.set (st:St) (d:Option Tmp) (s:SV):St:={ st with sl:=match d with | some d => st.sl.set d s | none => st.sl }

/-! ### Trees taken out of their places -/
def takeSV (sz:Nat → Nat) (st:St):SV → Option (PT × Option Pl × St)
  | .t p => some (p,none,st)
  | .ref pl off len => match lookP st.hp pl with
    | some (.sl 0 e _ cs) => if off = 0 ∧ len * sz e ≤ cs.length ∧ 0 < sz e ∨ cs = [] then some (.sl 0 e len (cs.take (len * sz e)),some pl,⟨st.sl.map (SV.kill pl.pre),hputP st.hp pl .hole⟩) else none
    | _ => none
  | _ => none
def takeAll (sz:Nat → Nat) (st:St) (ks:List Pl):List SV → Option (List PT × List Pl × St)
  | [] => some ([],ks,st)
  | s :: ss =>
    if ks.any (fun pl => s.uses pl.pre) then none else
    match takeSV sz st s with
    | none => none
    | some (p,k,st1) =>
      match takeAll sz st1 (k.toList ++ ks) ss with
      | none => none
      | some (ps,ks',st2) => some (p :: ps,ks',st2)

/-! ### Trees read -/
mutual
/-- A tree, only read: all of it kind 1. -/
def PT.unown:PT → PT
  | .sl _ _ n cs => .sl 1 0 n (PT.unownL cs)
  | .fn _ g caps => .fn 1 g (PT.unownC caps)
  | .raw v => .raw v
  | .hole => .hole
def PT.unownL:List PT → List PT
  | [] => []
  | c :: cs => c.unown :: PT.unownL cs
def PT.unownC:List (List PT) → List (List PT)
  | [] => []
  | c :: cs => PT.unownL c :: PT.unownC cs
end
mutual
/-- Nothing of kind 1 is read in it. -/
def PT.noTmp:PT → Bool
  | .sl k _ _ cs => (k != 1 || cs.isEmpty) && PT.noTmpL cs
  | .fn k _ caps => (k != 1 || PT.emptyC caps) && PT.noTmpC caps
  | _ => true
def PT.noTmpL:List PT → Bool
  | [] => true
  | c :: cs => c.noTmp && PT.noTmpL cs
def PT.noTmpC:List (List PT) → Bool
  | [] => true
  | c :: cs => PT.noTmpL c && PT.noTmpC cs
def PT.emptyC:List (List PT) → Bool
  | [] => true
  | c :: cs => c.isEmpty && PT.emptyC cs
end

/-- A cell of a tree, as a slot has it. -/
def cellSV (pl:Pl) (j:Nat):PT → SV
  | .sl 0 _ n _ => .ref ⟨pl.id,pl.path ++ [j]⟩ 0 n
  | .hole => .junk
  | p => .t p
def cellsSV (pl:Pl):Nat → List PT → List SV
  | _,[] => []
  | j,c :: cs => cellSV pl j c :: cellsSV pl (j + 1) cs

/-- What a call is handed and hands back. -/
inductive PV where
  | c (p:PT)
  | agg (ps:List PT)
  | tup (vs:List PV)
  | bp (p:PT)
  | ip (k:Nat) (ps:List PT)
  | dup (p:PT)
  | clo (g:FuncId) (ps:List PT)

def sizeVal:SV → St → Option Nat
  | .t (.sl _ _ n _),_ => some n
  | .ref _ _ n,_ => some n
  | _,_ => none

end Go.V

namespace Go.V
open Go.RowKit
section
variable {sz:Nat → Nat} {I:Nat → Nat → Prop} {bs:List Nat} {A:AD} {w0 w w':World} {st st':St} {a:Act} {L:Loc} {hand:List LT} {P:Program} {o:Oper} {Q:Exit → Act → World → Prop}

theorem Im.ofV (v:Value):Im w I v (PT.ofV v):=by
  unfold PT.ofV
  split
  · simp [Im]
  · split
    · rename_i g f c h
      simp only [Im]
      refine ⟨[],?_,by simp [ImC]⟩
      have h1:=Array.eq_empty_of_size_eq_zero h.1
      have h2:=Array.eq_empty_of_size_eq_zero h.2
      subst h1; subst h2; rfl
    · simp [Im]
  · simp [Im]
theorem SVRL.ofVs:∀ (l:List Value),SVRL sz L w I l (l.map fun v => .t (PT.ofV v))
  | [] => by simp [SVRL]
  | v :: l => by simp only [List.map_cons,SVRL]; exact ⟨v,l,rfl,by simp only [SVR]; exact Im.ofV v,SVRL.ofVs l⟩
theorem SVR.ofV (v:Value):SVR sz L w I v (SV.ofV v):=by
  unfold SV.ofV
  split
  · split
    · rename_i vs h
      simp only [SVR]
      exact ⟨vs.toList,by simp,SVRL.ofVs _,fun u hu => List.all_eq_true.1 h u hu⟩
    · simp [SVR,Im]
  · rename_i vs
    simp only [SVR]
    exact ⟨vs.toList,by simp,SVRL.ofVs _⟩
  · simp only [SVR]; exact Im.ofV v
theorem rawsOf_sound:∀ {l:List SV} {vs us:List Value},rawsOf l = some us → SVRL sz L w I vs l → vs = us
  | [],vs,us,h,hr => by simp only [rawsOf,Option.some.injEq] at h; simp only [SVRL] at hr; rw [hr,h]
  | .t (.raw v) :: l,vs,us,h,hr => by
    simp only [rawsOf,Option.map_eq_some_iff] at h
    obtain ⟨us',h1,rfl⟩:=h
    simp only [SVRL] at hr
    obtain ⟨v',vs',rfl,h2,h3⟩:=hr
    simp only [SVR,Im] at h2
    rw [h2,rawsOf_sound h1 h3]
  | .t (.sl _ _ _ _) :: l,_,_,h,_ => by simp [rawsOf] at h
  | .t (.fn _ _ _) :: l,_,_,h,_ => by simp [rawsOf] at h
  | .t .hole :: l,_,_,h,_ => by simp [rawsOf] at h
  | .ref _ _ _ :: l,_,_,h,_ => by simp [rawsOf] at h
  | .ptr _ _ :: l,_,_,h,_ => by simp [rawsOf] at h
  | .ip _ _ :: l,_,_,h,_ => by simp [rawsOf] at h
  | .fnc _ _ :: l,_,_,h,_ => by simp [rawsOf] at h
  | .agg _ :: l,_,_,h,_ => by simp [rawsOf] at h
  | .tup _ :: l,_,_,h,_ => by simp [rawsOf] at h
  | .junk :: l,_,_,h,_ => by simp [rawsOf] at h
theorem toVal_sound {s:SV} {u v:Value} (h:s.toVal = some u) (hr:SVR sz L w I v s):v = u:=by
  cases s with
  | t p =>
    cases p with
    | raw x => simp only [SV.toVal,Option.some.injEq] at h; simp only [SVR,Im] at hr; rw [hr,h]
    | _ => simp [SV.toVal] at h
  | agg l =>
    simp only [SV.toVal,Option.map_eq_some_iff] at h
    obtain ⟨us,h1,rfl⟩:=h
    simp only [SVR] at hr
    obtain ⟨vs,rfl,h2,_⟩:=hr
    rw [rawsOf_sound h1 h2]
  | _ => simp [SV.toVal] at h

theorem opv_sound (h:Sim sz I bs A w0 st a w L hand) {x:Operand} {s:SV} (hx:opv st x = some s):SVR sz L w I (a.eval x) s:=by
  cases x with
  | tmp t =>
    simp only [opv] at hx
    obtain ⟨v,hv,hr⟩:=h.slots.at_ t s hx
    simp only [Act.eval]
    rw [Array.getElem?_toList] at hv
    rw [Array.getD_eq_getD_getElem?,hv]
    exact hr
  | const v => simp only [opv,Option.some.injEq] at hx; subst hx; exact SVR.ofV v
  | func f =>
    simp only [opv,Option.some.injEq] at hx
    subst hx
    simp only [SVR,Im,Act.eval]
    exact ⟨[],rfl,by simp [ImC]⟩
  | global g => simp [opv] at hx
theorem valv_sound (h:Sim sz I bs A w0 st a w L hand) {x:Operand} {u:Value} (hx:valv st x = some u):a.eval x = u:=by
  simp only [valv,Option.bind_eq_some_iff] at hx
  obtain ⟨s,h1,h2⟩:=hx
  exact toVal_sound h2 (opv_sound h h1)

theorem Sim.setS (h:Sim sz I bs A w0 st a w L hand) (d:Option Nat) {v:Value} {s:SV} (hs:SVR sz L w I v s):Sim sz I bs A w0 (st.set d s) (a.put d v) w L hand:=h.put d hs

/-- An operation that yields a value. -/
theorem wp_val {v:Value} {next:Act → World → Prop} (hr:(execOp a.eval o).run P w = .ok (.value v) w') (hn:next (a.put o.dst v) w'):o.wp P a w next Q:=by
  unfold Oper.wp
  rw [hr]
  exact hn
theorem wp_skip' {next:Act → World → Prop} (hr:(execOp a.eval o).run P w = .ok .skip w') (hn:next (a.put o.dst undef) w'):o.wp P a w next Q:=by
  unfold Oper.wp
  rw [hr]
  exact hn
theorem run_v {s:Sem Value} {v:Value} (h:s.run P w = .ok v w'):(do pure (Next.value (← s)):Sem Next).run P w = .ok (.value v) w':=by
  simp [h,Result.andThen]

theorem info_of_underlying {t:TypeId} {d:TypeDesc} (h:P.underlying t = some d):∃ i,P.info? t = some i:=by
  unfold Program.underlying at h
  split at h
  · exact ⟨_,by assumption⟩
  · exact ⟨_,by assumption⟩
  · simp at h
theorem info_of_tagg {t:TypeId} {b:Bool} (h:tagg P t = some b):∃ i,P.info? t = some i:=by
  unfold tagg at h
  split at h
  · rename_i hu; exact info_of_underlying hu
  · rename_i hu; exact info_of_underlying hu
  · rename_i hu; exact info_of_underlying hu
  · simp at h
theorem run_isAgg {t:TypeId} {b:Bool} (h:tagg P t = some b):(isAgg t).run P w = .ok b w:=by
  unfold tagg at h
  unfold isAgg
  split at h
  · rename_i hu; cases h; simp [run_underlying hu,Result.andThen]
  · rename_i hu; cases h; simp [run_underlying hu,Result.andThen]
  · rename_i d h1 h2 hu
    cases h
    simp only [Sem.run_bind,run_underlying hu,Result.andThen_ok]
    rfl
  · simp at h
theorem run_tsz {t:TypeId} (h:∃ i,P.info? t = some i):(Go.sizeOf t).run P w = .ok (tsz P t) w:=by
  obtain ⟨i,hi⟩:=h
  simp [Go.sizeOf,typeInfo,hi,tsz]

/-- An operation that only looks: a slot gets a value, all else stays. -/
def PurePost (sz:Nat → Nat) (I:Nat → Nat → Prop) (w:World) (L:Loc) (st:St) (a:Act) (o:Oper) (st':St) (a':Act) (w':World):Prop :=
  w' = w ∧ ∃ v s,a' = a.put o.dst v ∧ st' = st.set o.dst s ∧ SVR sz L w I v s

/-! ### The plain operations -/
def stPlain (P:Program) (st:St) (o:Oper):Option St :=
  match o.op with
  | .move x => (opv st x).map (st.set o.dst)
  | .assign x => (opv st x).map (st.set o.dst)
  | .pick c x y => match opv st c with
    | some (.t (.raw (.bool b))) => (opv st (if b then x else y)).map (st.set o.dst)
    | _ => none
  | .binOp op t x y _ => match valv st x,valv st y with
    | some u,some v => (pureRun P (do eqGuard op t x y u v; binOp op t u v)).map fun r => st.set o.dst (SV.ofV r)
    | _,_ => none
  | .unOp op _ x => match valv st x with
    | some u => (pureRun P (Op.unary op u)).map fun r => st.set o.dst (SV.ofV r)
    | none => none
  | .convert s d x => match valv st x with
    | some u => (pureRun P (convert s d u)).map fun r => st.set o.dst (SV.ofV r)
    | none => none
  | .index t x y => match valv st x,valv st y with
    | some u,some v => (pureRun P (Instr.index t u v)).map fun r => st.set o.dst (SV.ofV r)
    | _,_ => none
  | .slice t x lo hi none => match P.underlying t,valv st x,lo.mapM (valv st),hi.mapM (valv st) with
    | some .string,some u,some l,some h => (pureRun P (Instr.slice t u l h none)).map fun r => st.set o.dst (SV.ofV r)
    | _,_,_,_ => none
  | .extract x k => match opv st x with
    | some (.tup l) => (l[k]?).map (st.set o.dst)
    | _ => none
  | .nilCheck x => match opv st x with
    | some (.ptr pl off) => some (st.set o.dst (.ptr pl off))
    | some (.ip k ps) => some (st.set o.dst (.ip k ps))
    | some (.fnc g c) => some (st.set o.dst (.fnc g c))
    | some (.t (.fn k g c)) => some (st.set o.dst (.t (.fn k g c)))
    | _ => none
  | .field t x k => match opv st x,tfield P t k with
    | some (.agg l),some (off,ft) => match tagg P ft with
      | some true => some (st.set o.dst (.agg ((l.drop off).take (tsz P ft))))
      | some false => (l[off]?).map (st.set o.dst)
      | none => none
    | _,_ => none
  | _ => none

theorem SVRL.takeDrop {vs:List Value} {ss:List SV} (h:SVRL sz L w I vs ss):(∀ k,SVRL sz L w I (vs.drop k) (ss.drop k)) ∧ ∀ k,SVRL sz L w I (vs.take k) (ss.take k):=by
  induction ss generalizing vs with
  | nil => simp only [SVRL] at h; subst h; simp [SVRL]
  | cons s ss ih =>
    simp only [SVRL] at h
    obtain ⟨v,vs',rfl,h1,h2⟩:=h
    refine ⟨fun k => ?_,fun k => ?_⟩
    · cases k with
      | zero => simp only [List.drop_zero,SVRL]; exact ⟨v,vs',rfl,h1,h2⟩
      | succ k => simpa using (ih h2).1 k
    · cases k with
      | zero => simp [SVRL]
      | succ k => simp only [List.take_succ_cons,SVRL]; exact ⟨v,_,rfl,h1,(ih h2).2 k⟩

theorem stPlain_sound (h:Sim sz I bs A w0 st a w L []) (hst:stPlain P st o = some st'):o.wp P a w (PurePost (sz) I w L st a o st') Q:=by
  unfold stPlain at hst
  split at hst
  · -- move
    rename_i x ho
    simp only [Option.map_eq_some_iff] at hst
    obtain ⟨s,hs,rfl⟩:=hst
    exact wp_val (v:=a.eval x) (by unfold execOp; rw [ho]; rfl) ⟨rfl,_,_,rfl,rfl,(opv_sound h hs)⟩
  · rename_i x ho
    simp only [Option.map_eq_some_iff] at hst
    obtain ⟨s,hs,rfl⟩:=hst
    exact wp_val (v:=a.eval x) (by unfold execOp; rw [ho]; rfl) ⟨rfl,_,_,rfl,rfl,(opv_sound h hs)⟩
  · -- pick
    rename_i c x y ho
    split at hst
    · rename_i b hc
      simp only [Option.map_eq_some_iff] at hst
      obtain ⟨s,hs,rfl⟩:=hst
      have hcv:a.eval c = .bool b:=by have:=opv_sound h hc; simpa [SVR,Im] using this
      refine wp_val (v:=a.eval (if b then x else y)) ?_ ⟨rfl,_,_,rfl,rfl,(opv_sound h hs)⟩
      unfold execOp
      rw [ho]
      cases b <;> simp [hcv,asBool]
    · simp at hst
  · -- binOp
    rename_i op t x y yt ho
    split at hst
    · rename_i u v hu hv
      simp only [Option.map_eq_some_iff] at hst
      obtain ⟨r,hr,rfl⟩:=hst
      refine wp_val (v:=r) ?_ ⟨rfl,_,_,rfl,rfl,(SVR.ofV r)⟩
      unfold execOp
      rw [ho]
      simp only [valv_sound h hu,valv_sound h hv]
      exact run_v (pureRun_run hr)
    · simp at hst
  · -- unOp
    rename_i op t x ho
    split at hst
    · rename_i u hu
      simp only [Option.map_eq_some_iff] at hst
      obtain ⟨r,hr,rfl⟩:=hst
      refine wp_val (v:=r) ?_ ⟨rfl,_,_,rfl,rfl,(SVR.ofV r)⟩
      unfold execOp
      rw [ho]
      simp only [valv_sound h hu]
      exact run_v (pureRun_run hr)
    · simp at hst
  · -- convert
    rename_i s d x ho
    split at hst
    · rename_i u hu
      simp only [Option.map_eq_some_iff] at hst
      obtain ⟨r,hr,rfl⟩:=hst
      refine wp_val (v:=r) ?_ ⟨rfl,_,_,rfl,rfl,(SVR.ofV r)⟩
      unfold execOp
      rw [ho]
      simp only [valv_sound h hu]
      exact run_v (pureRun_run hr)
    · simp at hst
  · -- index
    rename_i t x y ho
    split at hst
    · rename_i u v hu hv
      simp only [Option.map_eq_some_iff] at hst
      obtain ⟨r,hr,rfl⟩:=hst
      refine wp_val (v:=r) ?_ ⟨rfl,_,_,rfl,rfl,(SVR.ofV r)⟩
      unfold execOp
      rw [ho]
      simp only [valv_sound h hu,valv_sound h hv]
      exact run_v (pureRun_run hr)
    · simp at hst
  · -- slice of a string
    rename_i t x lo hi ho
    split at hst
    · rename_i u l h' hstr hu hl hh
      simp only [Option.map_eq_some_iff] at hst
      obtain ⟨r,hr,rfl⟩:=hst
      refine wp_val (v:=r) ?_ ⟨rfl,_,_,rfl,rfl,(SVR.ofV r)⟩
      have el:lo.map a.eval = l:=by
        cases lo with
        | none => simpa using hl
        | some x => simp only [Option.mapM_some,Option.map_eq_map,Option.map_eq_some_iff] at hl; obtain ⟨z,hz,rfl⟩:=hl; simp [valv_sound h hz]
      have eh:hi.map a.eval = h':=by
        cases hi with
        | none => simpa using hh
        | some x => simp only [Option.mapM_some,Option.map_eq_map,Option.map_eq_some_iff] at hh; obtain ⟨z,hz,rfl⟩:=hh; simp [valv_sound h hz]
      unfold execOp
      rw [ho]
      simp only [valv_sound h hu,el,eh,Option.map_none]
      refine run_v ?_
      unfold Instr.sliceAt
      simp only [Sem.run_bind,run_underlying hstr,Result.andThen_ok]
      exact pureRun_run hr
    · simp at hst
  · -- extract
    rename_i x k ho
    split at hst
    · rename_i l hl
      simp only [Option.map_eq_some_iff] at hst
      obtain ⟨s,hs,rfl⟩:=hst
      have hv:=opv_sound h hl
      simp only [SVR] at hv
      obtain ⟨vs,hv,hr⟩:=hv
      obtain ⟨v,hk,hsv⟩:=hr.at_ k s hs
      refine wp_val (v:=v) ?_ ⟨rfl,_,_,rfl,rfl,hsv⟩
      unfold execOp
      rw [ho]
      simp only [hv,Instr.extract]
      simp [hk]
    · simp at hst
  · -- nilCheck
    rename_i x ho
    split at hst
    · rename_i pl off hx
      cases hst
      have hv:=opv_sound h hx
      have hv':=hv
      simp only [SVR] at hv'
      obtain ⟨b,c0,e,n,cs,_,hv'⟩:=hv'
      refine wp_val (v:=a.eval x) ?_ ⟨rfl,_,_,rfl,rfl,hv⟩
      unfold execOp
      rw [ho]
      simp [hv']
    · rename_i k ps hx
      cases hst
      have hv:=opv_sound h hx
      have hv':=hv
      simp only [SVR] at hv'
      obtain ⟨y,hv',_⟩:=hv'
      refine wp_val (v:=a.eval x) ?_ ⟨rfl,_,_,rfl,rfl,hv⟩
      unfold execOp
      rw [ho]
      simp [hv']
    · rename_i g c hx
      cases hst
      have hv:=opv_sound h hx
      have hv':=hv
      simp only [SVR] at hv'
      obtain ⟨y,hv',_⟩:=hv'
      refine wp_val (v:=a.eval x) ?_ ⟨rfl,_,_,rfl,rfl,hv⟩
      unfold execOp
      rw [ho]
      simp [hv']
    · rename_i k g c hx
      cases hst
      have hv:=opv_sound h hx
      have hv':=hv
      simp only [SVR,Im] at hv'
      obtain ⟨y,hv',_⟩:=hv'
      refine wp_val (v:=a.eval x) ?_ ⟨rfl,_,_,rfl,rfl,hv⟩
      unfold execOp
      rw [ho]
      simp [hv']
    · simp at hst
  · -- field
    rename_i t x k ho
    split at hst
    · rename_i l off ft hl hf
      have hv:=opv_sound h hl
      simp only [SVR] at hv
      obtain ⟨vs,hv,hr,h1⟩:=hv
      unfold tfield at hf
      split at hf
      · rename_i fs hu
        simp only [Option.map_eq_some_iff,Prod.mk.injEq] at hf
        obtain ⟨f,hk,rfl,rfl⟩:=hf
        split at hst
        · rename_i hag
          cases hst
          refine wp_val (v:=.agg ((vs.drop f.offset).take (tsz P f.type)).toArray) ?_ ⟨rfl,_,_,rfl,rfl,?_⟩
          · unfold execOp
            rw [ho]
            refine run_v ?_
            simp only [Instr.field,hv,Sem.run_bind,run_underlying hu,Result.andThen_ok,hk,asAgg,Sem.run_pure,part,run_isAgg hag,if_true,run_tsz (info_of_tagg hag)]
            simp only [List.extract_toArray,List.extract_eq_take_drop,Nat.add_sub_cancel_left]
          · simp only [SVR]
            exact ⟨_,rfl,(hr.takeDrop.1 _).takeDrop.2 _,fun u hu => h1 u (List.mem_of_mem_drop (List.mem_of_mem_take hu))⟩
        · rename_i hag
          simp only [Option.map_eq_some_iff] at hst
          obtain ⟨s,hs,rfl⟩:=hst
          obtain ⟨v,hvk,hsv⟩:=hr.at_ _ s hs
          refine wp_val (v:=v) ?_ ⟨rfl,_,_,rfl,rfl,hsv⟩
          unfold execOp
          rw [ho]
          refine run_v ?_
          simp only [Instr.field,hv,Sem.run_bind,run_underlying hu,Result.andThen_ok,hk,asAgg,Sem.run_pure,part,run_isAgg hag]
          simp [hvk]
        · simp at hst
      · simp at hf
    · simp at hst
  · simp at hst
end
end Go.V

namespace Go.V
open Go.RowKit
theorem Shp.trans {x y z:LT} (h:Shp x y) (k:Shp y z):Shp x z:=by
  cases x with
  | leaf v p => simp only [Shp] at h; subst h; exact k
  | own b cap e n cs =>
    obtain ⟨n',cs',rfl,h1⟩:=h
    obtain ⟨n'',cs'',rfl,h2⟩:=k
    exact ⟨n'',cs'',rfl,Nat.le_trans h1 h2⟩
theorem Shp.refable {x y:LT} (h:Shp x y) (hx:x.refable):y.refable:=by
  cases x with
  | leaf v p => simp only [Shp] at h; subst h; exact hx
  | own b cap e n cs => obtain ⟨n',cs',rfl,_⟩:=h; trivial
theorem Stays.refl (f:Pl → Bool) (L:Loc):Stays f L L:=fun _ node _ _ hn => ⟨node,hn,Shp.refl _⟩
theorem Stays.trans {f g h:Pl → Bool} {L L' L'':Loc} (a:Stays f L L') (b:Stays g L' L'') (hf:∀ q,h q = false → f q = false) (hg:∀ q,h q = false → g q = false):Stays h L L'':=by
  intro q node hq hr hn
  obtain ⟨n1,h1,s1⟩:=a q node (hf q hq) hr hn
  obtain ⟨n2,h2,s2⟩:=b q n1 (hg q hq) (s1.refable hr) h1
  exact ⟨n2,h2,s1.trans s2⟩
theorem Stays.mono {f g:Pl → Bool} {L L':Loc} (a:Stays f L L') (hf:∀ q,g q = false → f q = false):Stays g L L':=fun q node hq hr hn => a q node (hf q hq) hr hn
theorem uses_any (ks:List Pl):(∀ s:SV,ks.any (fun pl => s.uses pl.pre) = false → s.uses (fun q => ks.any (·.pre q)) = false):=by
  have key:∀ n:Nat,(∀ s:SV,SizeOf.sizeOf s < n → ks.any (fun pl => s.uses pl.pre) = false → s.uses (fun q => ks.any (·.pre q)) = false) ∧ (∀ ss:List SV,SizeOf.sizeOf ss < n → ks.any (fun pl => SV.usesL pl.pre ss) = false → SV.usesL (fun q => ks.any (·.pre q)) ss = false):=by
    intro n
    induction n with
    | zero => exact ⟨fun _ h => by omega,fun _ h => by omega⟩
    | succ n ih =>
      refine ⟨fun s hs h => ?_,fun ss hs h => ?_⟩
      · cases s with
        | ref pl off len => simpa [SV.uses] using h
        | ptr pl off => simpa [SV.uses] using h
        | fnc g l => simp only [SV.uses] at h ⊢; exact ih.2 _ (by simp at hs; omega) h
        | agg l => simp only [SV.uses] at h ⊢; exact ih.2 _ (by simp at hs; omega) h
        | tup l => simp only [SV.uses] at h ⊢; exact ih.2 _ (by simp at hs; omega) h
        | _ => rfl
      · cases ss with
        | nil => rfl
        | cons s ss =>
          simp only [SV.usesL,Bool.or_eq_false_iff]
          have h1:ks.any (fun pl => s.uses pl.pre) = false:=by
            rw [List.any_eq_false] at h ⊢
            intro x hx; have:=h x hx; simp only [SV.usesL,Bool.or_eq_true,not_or] at this; exact this.1
          have h2:ks.any (fun pl => SV.usesL pl.pre ss) = false:=by
            rw [List.any_eq_false] at h ⊢
            intro x hx; have:=h x hx; simp only [SV.usesL,Bool.or_eq_true,not_or] at this; exact this.2
          exact ⟨ih.1 s (by simp at hs; omega) h1,ih.2 ss (by simp at hs; omega) h2⟩
  exact fun s => (key (SizeOf.sizeOf s + 1)).1 s (Nat.lt_succ_self _)
section
variable {sz:Nat → Nat} {I:Nat → Nat → Prop} {bs:List Nat} {A:AD} {w0 w w':World} {st st' st1:St} {a:Act} {L L0:Loc} {hand hand':List LT} {P:Program} {o:Oper} {Q:Exit → Act → World → Prop}

/-- The hand, told anew. -/
theorem Sim.rehand (h:Sim sz I bs A w0 st a w L hand) (hh:∀ t ∈ hand',t.holds sz w I) (hn:(hand'.flatMap LT.blocks).Nodup) (hb:∀ b ∈ hand'.flatMap LT.blocks,b ∈ hand.flatMap LT.blocks):Sim sz I bs A w0 st a w L hand' :=
  { h with hholds:=hh,hnodup:=hn,hown:=fun b hx => h.hown b (hb b hx),hapart:=fun id t ht b hx hy => h.hapart id t ht b hx (hb b hy) }
theorem flat_snoc (l:List LT) (t:LT):(l ++ [t]).flatMap LT.blocks = l.flatMap LT.blocks ++ t.blocks:=by simp
theorem flat_take (l:List LT) (k:Nat):((l.take k).flatMap LT.blocks).Sublist (l.flatMap LT.blocks):=flat_sub _ (List.take_sublist k l)

theorem takeSV_sound (h:Sim sz I bs A w0 st a w L hand) {v:Value} {s:SV} {p:PT} {k:Option Pl} (hr:SVR sz L w I v s) (h1:one v = true) (ht:takeSV sz st s = some (p,k,st1)) :
    ∃ L' t,Sim sz I bs A w0 st1 a w L' (hand ++ [t]) ∧ t.val = v ∧ t.erase = p ∧ Stays (fun q => k.toList.any (·.pre q)) L L':=by
  cases s with
  | t p' =>
    simp only [takeSV,Option.some.injEq,Prod.mk.injEq] at ht
    obtain ⟨rfl,rfl,rfl⟩:=ht
    simp only [SVR] at hr
    refine ⟨L,.leaf v p',h.rehand ?_ ?_ ?_,by simp [LT.val],by simp [LT.erase],Stays.refl _ _⟩
    · intro t ht
      rcases List.mem_append.1 ht with ht | ht
      · exact h.hholds t ht
      · simp only [List.mem_singleton] at ht; subst ht; simp only [LT.holds]; exact ⟨hr,h1⟩
    · rw [flat_snoc]; simpa [LT.blocks] using h.hnodup
    · rw [flat_snoc]; simp [LT.blocks]
  | ref pl off len =>
    simp only [takeSV] at ht
    split at ht
    · rename_i e n cs hlp
      split at ht
      · rename_i hc
        simp only [Option.some.injEq,Prod.mk.injEq] at ht
        obtain ⟨rfl,rfl,rfl⟩:=ht
        rw [h.lookP,Option.map_eq_some_iff] at hlp
        obtain ⟨node,hnode,her⟩:=hlp
        have hnh:=h.look_holds hnode
        simp only [SVR] at hr
        rcases hr with ⟨b,cap0,e',n',lcs,o,cap,hl,hv,hco,hle,hlen,hcap⟩ | ⟨e',hl,rfl,rfl,ad,hv⟩
        · rw [hl] at hnode
          cases hnode
          simp only [LT.erase,PT.sl.injEq,true_and] at her
          obtain ⟨rfl,rfl,rfl⟩:=her
          obtain ⟨L',hs,_,hk⟩:=h.take hl (by simp [LT.val,one])
          simp only [LT.holds] at hnh
          obtain ⟨⟨arr,g1,g2,g3⟩,g4,g5,g6,g7⟩:=hnh
          have hoff:off = 0:=by
            rcases hc with hc | hc
            · exact hc.1
            · simp only [List.map_eq_nil_iff] at hc; subst hc; simp at hlen; omega
          subst hoff
          refine ⟨L',if cap = 0 then .leaf v (.sl 0 e' 0 []) else .own b cap e' len (lcs.take (len * sz e')),hs.rehand ?_ ?_ ?_,?_,?_,?_⟩
          · intro t ht
            rcases List.mem_append.1 ht with ht | ht
            · exact h.hholds t ht
            · simp only [List.mem_singleton] at ht
              subst ht
              split
              · rename_i hz
                subst hz
                have:len = 0:=by omega
                subst this
                subst hv
                simp only [LT.holds,Im,one]
                exact ⟨⟨trivial,trivial,_,rfl⟩,trivial⟩
              · simp only [LT.holds]
                refine ⟨⟨arr,g1,?_,?_⟩,?_,hle,⟨g6.1,by omega⟩,fun c hc => g7 c (List.mem_of_mem_take hc)⟩
                · have:cap * sz e' ≤ cap0 * sz e':=by omega
                  omega
                · intro j c hj
                  rw [List.getElem?_take] at hj
                  split at hj
                  · exact g3 j c hj
                  · simp at hj
                · rw [List.length_take]; omega
          · rw [flat_snoc]
            have:=hs.hnodup
            rw [flat_snoc] at this
            refine this.sublist (List.Sublist.append_left ?_ _)
            split
            · simp [LT.blocks]
            · simp only [LT.blocks]; exact (flat_take lcs _).cons_cons b
          · rw [flat_snoc,flat_snoc]
            intro x hx
            rcases List.mem_append.1 hx with hx | hx
            · exact List.mem_append_left _ hx
            · refine List.mem_append_right _ ?_
              split at hx
              · simp [LT.blocks] at hx
              · simp only [LT.blocks] at hx ⊢; exact ((flat_take lcs _).cons_cons b).subset hx
          · split
            · rfl
            · rename_i hz
              have:o = 0:=by omega
              subst this
              simp [LT.val,hv]
          · split
            · rename_i hz
              have:len = 0:=by omega
              subst this
              simp [LT.erase]
            · simp [LT.erase,List.map_take]
          · intro q node hq hrf hn
            exact hk q node (by simpa using hq) hrf hn
        · rw [hl] at hnode
          cases hnode
          simp only [LT.erase,PT.sl.injEq,true_and] at her
          obtain ⟨rfl,rfl,rfl⟩:=her
          obtain ⟨L',hs,_,hk⟩:=h.take hl (by simpa [LT.val] using h1)
          exact ⟨L',_,hs,rfl,by simp [LT.erase],fun q node hq hrf hn => hk q node (by simpa using hq) hrf hn⟩
      · simp at ht
    · simp at ht
  | _ => simp [takeSV] at ht

theorem takeAll_sound:∀ (ss:List SV) {st:St} {L:Loc} {hand:List LT} {ks:List Pl} {vs:List Value} {ps:List PT} {ks':List Pl} {st':St},Sim sz I bs A w0 st a w L hand → SVRL sz L0 w I vs ss → (∀ v ∈ vs,one v = true) →
    Stays (fun q => ks.any (·.pre q)) L0 L → takeAll sz st ks ss = some (ps,ks',st') →
    ∃ L' ts,Sim sz I bs A w0 st' a w L' (hand ++ ts) ∧ ts.map LT.val = vs ∧ ts.map LT.erase = ps ∧ Stays (fun q => ks'.any (·.pre q)) L0 L'
  | [],st,L,hand,ks,vs,ps,ks',st',h,hr,_,hk,ht => by
    simp only [takeAll,Option.some.injEq,Prod.mk.injEq] at ht
    obtain ⟨rfl,rfl,rfl⟩:=ht
    simp only [SVRL] at hr
    subst hr
    exact ⟨L,[],by simpa using h,rfl,rfl,hk⟩
  | s :: ss,st,L,hand,ks,vs,ps,ks',st',h,hr,h1,hk,ht => by
    simp only [takeAll] at ht
    split at ht
    · simp at ht
    · rename_i hu
      split at ht
      · simp at ht
      · rename_i p k st1 hts
        split at ht
        · simp at ht
        · rename_i ps' ks2 st2 hta
          simp only [Option.some.injEq,Prod.mk.injEq] at ht
          obtain ⟨rfl,rfl,rfl⟩:=ht
          simp only [SVRL] at hr
          obtain ⟨v,vs',rfl,hv,hvs⟩:=hr
          have hv':SVR sz L w I v s:=(SVR.all (fun q => ks.any (·.pre q)) hk (fun _ _ hb => hb) (fun _ _ _ => rfl)).1 v s (uses_any ks s (by simpa using hu)) hv
          obtain ⟨L',t,g1,g2,g3,g4⟩:=takeSV_sound h hv' (h1 v (by simp)) hts
          obtain ⟨L'',ts,f1,f2,f3,f4⟩:=takeAll_sound ss g1 hvs (fun u hu => h1 u (by simp [hu])) (ks:=k.toList ++ ks)
            (hk.trans g4 (fun q hq => by simp only [List.any_append,Bool.or_eq_false_iff] at hq; exact hq.2) (fun q hq => by simp only [List.any_append,Bool.or_eq_false_iff] at hq; exact hq.1)) hta
          exact ⟨L'',t :: ts,by simpa using f1,by simp [g2,f2],by simp [g3,f3],f4⟩

/-- A value's cells. -/
theorem comps_sound {v:Value} {s:SV} (hr:SVR sz L w I v s) (ho:one v = true ∨ ∃ l,s = .agg l):SVRL sz L w I v.cells.toList (comps s) ∧ ∀ u ∈ v.cells.toList,one u = true:=by
  have single:one v = true → comps s = [s] → SVRL sz L w I v.cells.toList (comps s) ∧ ∀ u ∈ v.cells.toList,one u = true:=by
    intro h1 hc
    have hcell:v.cells = #[v]:=by
      unfold Value.cells
      split
      · simp [one] at h1
      · rfl
    rw [hcell,hc]
    simp only [SVRL]
    exact ⟨⟨v,[],rfl,hr,rfl⟩,by simpa using h1⟩
  cases s with
  | agg l =>
    simp only [SVR] at hr
    obtain ⟨vs,rfl,hl,h1⟩:=hr
    exact ⟨hl,h1⟩
  | _ => exact single (ho.resolve_right (by simp)) rfl
end
end Go.V

namespace Go.V
open Go.RowKit
theorem one_oneCell (v:Value):v.oneCell' = one v:=by cases v <;> rfl
def SV.oneB:SV → Bool
  | .t (.raw v) => one v
  | .t (.sl _ _ _ _) => true
  | .t (.fn _ _ _) => true
  | .ref _ _ _ => true
  | .ptr _ _ => true
  | .ip _ _ => true
  | .fnc _ _ => true
  | _ => false
def SV.compsB:SV → Bool
  | .agg _ => true
  | s => s.oneB
def newRoot (st:St) (id:Id) (t:PT):St:=⟨st.sl.map (SV.kill (Pl.pre ⟨id,[]⟩)),updF st.hp id (some t)⟩
section
variable {sz:Nat → Nat} {I:Nat → Nat → Prop} {bs:List Nat} {A:AD} {w0 w w':World} {st st' st1:St} {a:Act} {L L0:Loc} {hand hand':List LT} {P:Program} {o:Oper} {Q:Exit → Act → World → Prop}

theorem oneB_sound {v:Value} {s:SV} (hr:SVR sz L w I v s) (h:s.oneB = true):one v = true:=by
  cases s with
  | t p =>
    cases p with
    | raw u => simp only [SVR,Im] at hr; subst hr; simpa [SV.oneB] using h
    | sl o e n cs =>
      simp only [SVR] at hr
      cases o with
      | zero => simp only [Im] at hr; obtain ⟨_,_,ad,rfl⟩:=hr; rfl
      | succ o => simp only [Im] at hr; obtain ⟨ad,cap,rfl,_⟩:=hr; rfl
    | fn k g c => simp only [SVR,Im] at hr; obtain ⟨vs,rfl,_⟩:=hr; rfl
    | hole => simp [SV.oneB] at h
  | ref pl off len =>
    simp only [SVR] at hr
    rcases hr with ⟨b,cap0,e',n',lcs,o,cap,hl,hv,_⟩ | ⟨e',hl,_,_,ad,hv⟩ <;> subst hv <;> rfl
  | ptr pl off => simp only [SVR] at hr; obtain ⟨_,_,_,_,_,_,rfl⟩:=hr; rfl
  | ip k ps => simp only [SVR] at hr; obtain ⟨_,rfl,_⟩:=hr; rfl
  | fnc g l => simp only [SVR] at hr; obtain ⟨_,rfl,_⟩:=hr; rfl
  | _ => simp [SV.oneB] at h
theorem compsB_sound {v:Value} {s:SV} (hr:SVR sz L w I v s) (h:s.compsB = true):SVRL sz L w I v.cells.toList (comps s) ∧ ∀ u ∈ v.cells.toList,one u = true:=by
  refine comps_sound hr ?_
  cases s with
  | agg l => exact .inr ⟨l,rfl⟩
  | _ => exact .inl (oneB_sound hr (by simpa [SV.compsB] using h))

theorem alloc_new (w:World) (x:Obj):(w.alloc x).heap[w.heap.size]? = some x:=by
  show (w.heap.push x)[w.heap.size]? = _
  simp
theorem alloc_below (w:World) (x:Obj):Below w.heap.size w (w.alloc x):=(Below.refl _ _).alloc (Nat.le_refl _) x

/-- A new row's tree: one's own, if it has room for something. -/
def rootT (b cap e n:Nat) (cs:List LT):LT:=if cap = 0 then .leaf (.slice (some ⟨b,0,none⟩) 0 0) (.sl 0 e 0 []) else .own b cap e n cs
theorem rootT_erase {b cap e n:Nat} {cs:List LT} (hl:cs.length = n * sz e) (hn:n ≤ cap):(rootT b cap e n cs).erase = .sl 0 e n (cs.map LT.erase):=by
  unfold rootT
  split
  · rename_i h
    have:n = 0:=by omega
    subst this
    simp only [Nat.zero_mul,List.length_eq_zero_iff] at hl
    subst hl
    simp [LT.erase]
  · simp [LT.erase]
theorem rootT_blocks {b cap e n:Nat} {cs:List LT}:(rootT b cap e n cs).blocks.Sublist (b :: cs.flatMap LT.blocks):=by
  unfold rootT
  split
  · simp [LT.blocks]
  · simp [LT.blocks]
theorem rootT_holds {b cap e n:Nat} {cs:List LT} (h:(∃ arr,w.heap[b]? = some (.cells arr e (0,0)) ∧ cap * sz e ≤ arr.size ∧ ∀ (j:Nat) (c:LT),cs[j]? = some c → arr[j]? = some c.val) ∧ cs.length = n * sz e ∧ n ≤ cap ∧ 0 < sz e ∧ ∀ c ∈ cs,c.holds sz w I):(rootT b cap e n cs).holds sz w I:=by
  unfold rootT
  split
  · simp only [LT.holds,Im]
    exact ⟨⟨trivial,trivial,_,rfl⟩,rfl⟩
  · simp only [LT.holds]
    exact ⟨h.1,h.2.1,h.2.2.1,⟨h.2.2.2.1,by omega⟩,h.2.2.2.2⟩

/-- A new row, made of the hand's last trees, gets a name. -/
theorem Sim.allocRoot (h:Sim sz I bs A w0 st a w L (hand ++ hand')) (id:Id) (hid:∀ i j,id ≠ .arg i j) {e n cap:Nat} {arr:Array Value} (hl:hand'.length = n * sz e) (hs:0 < sz e) (hn:n ≤ cap) (hc:cap * sz e ≤ arr.size)
    (ha:∀ (j:Nat) (c:LT),hand'[j]? = some c → arr[j]? = some c.val) :
    Sim sz I bs A w0 (newRoot st id (.sl 0 e n (hand'.map LT.erase))) a (w.alloc (.cells arr e)) (updF L id (some (rootT w.heap.size cap e n hand'))) hand:=by
  have hb:=alloc_below w (.cells arr e)
  have hfr:∀ t:LT,t.holds sz w I → t.holds sz (w.alloc (.cells arr e)) I:=fun t ht =>
    LT.holds_frame (fun _ _ hb => hb) (fun k b hbI => hb.block b (h.immw k b hbI)) t ht fun b hbt => hb.block b (LT.blocks_lt t ht b hbt)
  have hlt:∀ b ∈ (hand ++ hand').flatMap LT.blocks,b < w.heap.size:=fun b hb => by
    obtain ⟨x,hx,hbx⟩:=List.mem_flatMap.1 hb
    exact LT.blocks_lt x (h.hholds x hx) b hbx
  have:=h.root (hand':=hand) id hid (t':=rootT w.heap.size cap e n hand') [] (Kp.of_below hb (Nat.le_refl _)) (by simp) ?_ ?_ ?_ ?_
  · simpa [newRoot,rootT_erase hl hn] using this
  · refine rootT_holds ?_
    exact ⟨⟨arr,alloc_new w _,hc,ha⟩,hl,hn,hs,fun c hc => hfr c (h.hholds c (List.mem_append_right _ hc))⟩
  · exact fun x hx => hfr x (h.hholds x (List.mem_append_left _ hx))
  · have hnd:=h.hnodup
    rw [List.flatMap_append] at hnd hlt
    refine List.Nodup.sublist (rootT_blocks.append_right _) ?_
    simp only [List.cons_append,List.nodup_cons]
    refine ⟨fun hx => ?_,?_⟩
    · have:=hlt w.heap.size (List.mem_append.2 (List.mem_append.1 hx).symm)
      omega
    · exact List.perm_append_comm.nodup_iff.1 hnd
  · intro b hb
    rw [List.flatMap_append]
    have hb:=(rootT_blocks.append_right _).subset hb
    simp only [List.cons_append,List.mem_cons,List.mem_append] at hb ⊢
    rcases hb with rfl | hb | hb
    · exact .inr (Nat.le_refl _)
    · exact .inl (.inr hb)
    · exact .inl (.inl hb)

theorem leaf_hand (h:Sim sz I bs A w0 st a w L hand):∀ (vs:List Value),(∀ v ∈ vs,one v = true) → Sim sz I bs A w0 st a w L (hand ++ vs.map fun v => .leaf v (PT.ofV v)):=by
  intro vs hv
  refine h.rehand ?_ ?_ ?_
  · intro t ht
    rcases List.mem_append.1 ht with ht | ht
    · exact h.hholds t ht
    · obtain ⟨v,hv',rfl⟩:=List.mem_map.1 ht
      simp only [LT.holds]
      exact ⟨Im.ofV v,hv v hv'⟩
  · have:(vs.map fun v => LT.leaf v (PT.ofV v)).flatMap LT.blocks = []:=by
      rw [List.flatMap_eq_nil_iff]; intro t ht; obtain ⟨v,_,rfl⟩:=List.mem_map.1 ht; simp [LT.blocks]
    rw [List.flatMap_append,this,List.append_nil]; exact h.hnodup
  · have:(vs.map fun v => LT.leaf v (PT.ofV v)).flatMap LT.blocks = []:=by
      rw [List.flatMap_eq_nil_iff]; intro t ht; obtain ⟨v,_,rfl⟩:=List.mem_map.1 ht; simp [LT.blocks]
    rw [List.flatMap_append,this,List.append_nil]; exact fun _ hb => hb
theorem leaf_val (vs:List Value):(vs.map fun v => LT.leaf v (PT.ofV v)).map LT.val = vs:=by
  rw [List.map_map]; exact (List.map_congr_left fun v _ => rfl).trans (List.map_id vs)
theorem leaf_erase (vs:List Value):(vs.map fun v => LT.leaf v (PT.ofV v)).map LT.erase = vs.map PT.ofV:=by
  rw [List.map_map]; exact List.map_congr_left fun v _ => by simp [LT.erase]

/-- The new name as a pointer. -/
theorem SVR.newPtr (L:Loc) (id:Id) {b cap e n:Nat} {cs:List LT}:SVR sz (updF L id (some (.own b cap e n cs))) w I (.pointer (some ⟨b,0,none⟩)) (.ptr ⟨id,[]⟩ 0):=by
  simp only [SVR]
  exact ⟨b,cap,e,n,cs,by simp [look,updF_same,LT.get],rfl⟩
theorem SVR.newRef (L:Loc) (id:Id) {b cap e n:Nat} {cs:List LT} (hn:n ≤ cap) (hl:cs.length = n * sz e):SVR sz (updF L id (some (rootT b cap e n cs))) w I (.slice (some ⟨b,0,none⟩) n cap) (.ref ⟨id,[]⟩ 0 n):=by
  simp only [SVR]
  unfold rootT
  split
  · rename_i h
    have:n = 0:=by omega
    subst this; subst h
    exact .inr ⟨e,by simp [look,updF_same,LT.get],trivial,rfl,_,rfl⟩
  · exact .inl ⟨b,cap,e,n,cs,0,cap,by simp [look,updF_same,LT.get],rfl,.inr rfl,hn,by omega,by omega⟩

/-! ### box, alloc -/
def stBox (P:Program) (r i:Nat) (st:St) (o:Oper):Option St :=
  match o.op with
  | .box t x => match opv st x with
    | some s => if s.compsB = true then match takeAll (tsz P) st [] (comps s) with
        | some (ps,_,st1) => if ps.length = tsz P t ∧ 0 < tsz P t then some ((newRoot st1 (.op r i 0) (.sl 0 t 1 ps)).set o.dst (.ptr ⟨.op r i 0,[]⟩ 0)) else none
        | none => none
      else none
    | none => none
  | .alloc t => match tzero P t with
    | some z => if z.cells.toList.all one = true ∧ z.cells.size = tsz P t ∧ 0 < tsz P t then
        some ((newRoot st (.op r i 0) (.sl 0 t 1 (z.cells.toList.map PT.ofV))).set o.dst (.ptr ⟨.op r i 0,[]⟩ 0)) else none
    | none => none
  | _ => none
theorem map_at {ts:List LT} {vs:List Value} (h:ts.map LT.val = vs):∀ (j:Nat) (c:LT),ts[j]? = some c → vs[j]? = some c.val:=by
  intro j c hc
  rw [← h,List.getElem?_map,hc]; rfl
theorem stBox_sound (h:Sim (tsz P) I bs A w0 st a w L []) {r i:Nat} (hst:stBox P r i st o = some st'):o.wp P a w (fun a' w' => ∃ L',Sim (tsz P) I bs A w0 st' a' w' L' []) Q:=by
  unfold stBox at hst
  split at hst
  · rename_i t x ho
    split at hst
    · rename_i s hs
      split at hst
      · rename_i hc
        split at hst
        · rename_i ps ks1 st1 hta
          split at hst
          · rename_i hsz
            cases hst
            have hv:=opv_sound h hs
            obtain ⟨hcs,h1⟩:=compsB_sound hv hc
            obtain ⟨L',ts,g1,g2,g3,_⟩:=takeAll_sound (comps s) h hcs h1 (Stays.refl _ _) hta
            have hlen:ts.length = tsz P t:=by rw [← hsz.1,← g3,List.length_map]
            have hsize:(a.eval x).cells.size = tsz P t:=by rw [← hlen,← Array.length_toList,← g2,List.length_map]
            have g4:=g1.allocRoot (hand:=[]) (hand':=ts) (.op r i 0) (by simp) (e:=t) (n:=1) (cap:=1) (arr:=(a.eval x).cells) (by simp [hlen]) hsz.2 (Nat.le_refl _) (by simp [hsize]) (fun j c hj => by
              have:=map_at g2 j c hj
              rwa [Array.getElem?_toList] at this)
            rw [g3] at g4
            refine wp_val (v:=.pointer (some ⟨w.heap.size,0,none⟩)) ?_ ⟨_,g4.setS _ (SVR.newPtr L' _)⟩
            unfold execOp
            rw [ho]
            refine run_v ?_
            simp [Instr.box,newVar,newRow,Result.andThen]
          · simp at hst
        · simp at hst
      · simp at hst
    · simp at hst
  · rename_i t ho
    split at hst
    · rename_i z hz
      split at hst
      · rename_i hc
        cases hst
        have g:=leaf_hand h z.cells.toList (fun v hv => List.all_eq_true.1 hc.1 v hv)
        have g4:=g.allocRoot (hand:=[]) (.op r i 0) (by simp) (e:=t) (n:=1) (cap:=1) (arr:=z.cells) (by simp [hc.2.1]) hc.2.2 (Nat.le_refl _) (by simp [hc.2.1]) (fun j c hj => by
          have:=map_at (leaf_val z.cells.toList) j c hj
          rwa [Array.getElem?_toList] at this)
        rw [leaf_erase] at g4
        refine wp_val (v:=.pointer (some ⟨w.heap.size,0,none⟩)) ?_ ⟨_,g4.setS _ (SVR.newPtr L _)⟩
        unfold execOp
        rw [ho]
        refine run_v ?_
        have hzz:(zeroValue t).run P w = .ok z w:=by
          unfold tzero at hz
          split at hz
          · rename_i inf hi
            simp [zeroValue,typeInfo,hi,hz]
          · simp at hz
        simp [Instr.alloc,hzz,newVar,newRow,Result.andThen]
      · simp at hst
    · simp at hst
  · simp at hst
end
end Go.V

namespace Go.V
open Go.RowKit
set_option linter.unusedSimpArgs false
set_option linter.unusedVariables false
section
variable {sz:Nat → Nat} {I:Nat → Nat → Prop} {bs:List Nat} {A:AD} {w0 w w':World} {st st' st1:St} {a:Act} {L L0:Loc} {hand hand':List LT} {P:Program} {o:Oper} {Q:Exit → Act → World → Prop}

theorem add_own (b off k:Nat):(⟨b,off,none⟩:Addr).add k = ⟨b,off + k,none⟩:=by unfold Addr.add; split <;> simp_all
theorem tsz_info {t:TypeId} (h:0 < tsz P t):∃ i,P.info? t = some i:=by
  unfold tsz at h
  split at h
  · exact ⟨_,by assumption⟩
  · omega
theorem telem_und {t e:TypeId} (h:telem P t = some e):P.underlying t = some (.slice e):=by
  unfold telem at h
  split at h
  · cases h; assumption
  · simp at h
theorem tfield_und {t k fo:Nat} {ft:TypeId} (h:tfield P t k = some (fo,ft)):∃ fs f,P.underlying t = some (.struct fs) ∧ fs[k]? = some f ∧ f.offset = fo ∧ f.type = ft:=by
  unfold tfield at h
  split at h
  · rename_i fs hu
    simp only [Option.map_eq_some_iff,Prod.mk.injEq] at h
    obtain ⟨f,h1,h2,h3⟩:=h
    exact ⟨fs,f,hu,h1,h2,h3⟩
  · simp at h

/-! ### addresses -/
def stAddr (P:Program) (st:St) (o:Oper):Option St :=
  match o.op with
  | .fieldAddr t x k => match opv st x,tfield P t k with
    | some (.ptr pl off),some (fo,ft) => if 0 < tsz P ft then some (st.set o.dst (.ptr pl (off + fo))) else none
    | some (.ip q ps),some (fo,ft) => if 0 < tsz P ft then some (st.set o.dst (.ip q (ps.drop fo))) else none
    | _,_ => none
  | .indexAddr t x ix => match opv st x,telem P t,valv st ix with
    | some (.ref pl off len),some e,some (.int _ n) => if 0 ≤ n ∧ n < len ∧ 0 < tsz P e then some (st.set o.dst (.ptr pl (off + n.toNat * tsz P e))) else none
    | some (.t (.sl ow _ len cs)),some e,some (.int _ n) => if 0 ≤ n ∧ n < len ∧ 0 < tsz P e ∧ n.toNat * tsz P e < cs.length then some (st.set o.dst (.ip ow (cs.drop (n.toNat * tsz P e)))) else none
    | _,_,_ => none
  | .makeFunc (.func g) first captured => match captured.toList.mapM (opv st) with
    | some l => if first.size = 0 then some (st.set o.dst (.fnc g l)) else none
    | none => none
  | _ => none

theorem stAddr_sound (h:Sim sz I bs A w0 st a w L []) (hst:stAddr P st o = some st'):o.wp P a w (PurePost (sz) I w L st a o st') Q:=by
  unfold stAddr at hst
  split at hst
  · rename_i t x k ho
    split at hst
    · rename_i pl off fo ft hx hf
      split at hst
      · rename_i hs
        cases hst
        obtain ⟨fs,f,hu,hk,rfl,rfl⟩:=tfield_und hf
        have hv:=opv_sound h hx
        simp only [SVR] at hv
        obtain ⟨b,cap0,e,n,cs,hl,hv⟩:=hv
        refine wp_val (v:=.pointer (some ⟨b,off + f.offset,none⟩)) ?_ ⟨rfl,_,_,rfl,rfl,(by simp only [SVR]; exact ⟨b,cap0,e,n,cs,hl,rfl⟩)⟩
        unfold execOp
        rw [ho]
        refine run_v ?_
        have hne:¬ tsz P f.type = 0:=by omega
        simp only [Instr.fieldAt,hv,Sem.run_bind,run_underlying hu,Result.andThen_ok,hk,Instr.sureAddr,Sem.run_pure,fieldPlace,run_tsz (tsz_info hs),hne,if_false,add_own]
      · simp at hst
    · rename_i q ps fo ft hx hf
      split at hst
      · rename_i hs
        cases hst
        obtain ⟨fs,f,hu,hk,rfl,rfl⟩:=tfield_und hf
        have hv:=opv_sound h hx
        simp only [SVR] at hv
        obtain ⟨y,hv,hl⟩:=hv
        refine wp_val (v:=.pointer (some (y.add f.offset))) ?_ ⟨rfl,_,_,rfl,rfl,(by
          simp only [SVR]
          refine ⟨_,rfl,?_⟩
          have:=ImL.drop f.offset 0 ps hl
          exact ImL.shift _ f.offset 0 (by simpa using this))⟩
        unfold execOp
        rw [ho]
        refine run_v ?_
        have hne:¬ tsz P f.type = 0:=by omega
        simp only [Instr.fieldAt,hv,Sem.run_bind,run_underlying hu,Result.andThen_ok,hk,Instr.sureAddr,Sem.run_pure,fieldPlace,run_tsz (tsz_info hs),hne,if_false]
      · simp at hst
    · simp at hst
  · rename_i t x ix ho
    split at hst
    · rename_i pl off len e k n hx he hn
      split at hst
      · rename_i hc
        cases hst
        have hv:=opv_sound h hx
        simp only [SVR] at hv
        rcases hv with ⟨b,cap0,e',n',lcs,o',cap,hl,hv,hco,hle,hlen,hcap⟩ | ⟨e',hl,rfl,rfl,ad,hv⟩
        · have hoo : o' = off := by rcases hco with hco | hco; · omega
                                    · exact hco
          subst hoo
          refine wp_val (v:=.pointer (some ⟨b,o' + n.toNat * tsz P e,none⟩)) ?_ ⟨rfl,_,_,rfl,rfl,(by simp only [SVR]; exact ⟨b,cap0,e',n',lcs,hl,rfl⟩)⟩
          unfold execOp
          rw [ho]
          refine run_v ?_
          have hcc:0 ≤ n ∧ n < (len:Int):=⟨hc.1,hc.2.1⟩
          simp only [Instr.indexAt,hv,valv_sound h hn,asIntOf,Sem.run_bind,run_underlying (telem_und he),Result.andThen_ok,Sem.run_pure]
          simp [hcc,run_tsz (tsz_info hc.2.2),Result.andThen,add_own]
        · omega
      · simp at hst
    · rename_i ow e0 len cs e k n hx he hn
      split at hst
      · rename_i hc
        cases hst
        have hv:=opv_sound h hx
        simp only [SVR] at hv
        cases ow with
        | zero => simp only [Im] at hv; obtain ⟨rfl,_⟩:=hv; omega
        | succ ow =>
          simp only [Im] at hv
          obtain ⟨ad,cap,hv,hnc,hl⟩:=hv
          cases cs with
          | nil => simp at hc
          | cons c cs =>
            have hl':=hl
            simp only [ImL] at hl'
            obtain ⟨⟨y,u,rfl,_⟩,_⟩:=hl'
            refine wp_val (v:=.pointer (some (y.add (n.toNat * tsz P e)))) ?_ ⟨rfl,_,_,rfl,rfl,(by
              simp only [SVR]
              refine ⟨_,rfl,?_⟩
              have:=ImL.drop (n.toNat * tsz P e) 0 (c :: cs) hl
              exact ImL.shift _ _ 0 (by simpa using this))⟩
            unfold execOp
            rw [ho]
            refine run_v ?_
            have hcc:0 ≤ n ∧ n < (len:Int):=⟨hc.1,hc.2.1⟩
            simp only [Instr.indexAt,hv,valv_sound h hn,asIntOf,Sem.run_bind,run_underlying (telem_und he),Result.andThen_ok,Sem.run_pure]
            simp [hcc,run_tsz (tsz_info hc.2.2.1),Result.andThen]
      · simp at hst
    · simp at hst
  · rename_i g first captured ho
    split at hst
    · rename_i l hl
      split at hst
      · rename_i hz
        cases hst
        have hz':=Array.eq_empty_of_size_eq_zero hz
        subst hz'
        have key:∀ (xs:List Operand) (l:List SV),xs.mapM (opv st) = some l → SVRL sz L w I (xs.map a.eval) l:=by
          intro xs
          induction xs with
          | nil => intro l hl; simp only [List.mapM_nil,Option.pure_def,Option.some.injEq] at hl; subst hl; simp [SVRL]
          | cons x xs ih =>
            intro l hl
            simp only [List.mapM_cons,Option.pure_def,Option.bind_eq_bind,Option.bind_eq_some_iff,Option.some.injEq] at hl
            obtain ⟨s,h1,l',h2,rfl⟩:=hl
            simp only [List.map_cons,SVRL]
            exact ⟨_,_,rfl,opv_sound h h1,ih l' h2⟩
        refine wp_val (v:=.func (.func g) #[] (captured.map a.eval)) ?_ ⟨rfl,_,_,rfl,rfl,(by
          simp only [SVR]
          exact ⟨captured.toList.map a.eval,by congr 1; rw [← Array.toList_map,Array.toArray_toList],key _ _ hl⟩)⟩
        unfold execOp
        rw [ho]
        refine run_v ?_
        simp [Instr.makeFunc]
      · simp at hst
    · simp at hst
  · simp at hst

/-! ### cuts -/
def boundsOf (st:St) (lo hi:Option Operand) (len:Nat):Option (Nat × Nat) :=
  match lo.mapM (valv st),hi.mapM (valv st) with
  | some none,some none => some (0,len)
  | some none,some (some (.int _ h)) => if 0 ≤ h ∧ h ≤ len then some (0,h.toNat) else none
  | some (some (.int _ l)),some none => if 0 ≤ l ∧ l ≤ len then some (l.toNat,len) else none
  | some (some (.int _ l)),some (some (.int _ h)) => if 0 ≤ l ∧ l ≤ h ∧ h ≤ len then some (l.toNat,h.toNat) else none
  | _,_ => none
/-- A cut with a bound for what may be appended, of what is only read. -/
def stCut3 (P:Program) (st:St) (dst:Option Tmp) (t:TypeId) (x lo hi mx:Operand):Option St:=match opv st x,telem P t,valv st lo,valv st hi,valv st mx with
  | some (.t (.sl (ow + 1) e' len cs)),some e,some (.int _ l),some (.int _ h),some (.int _ m) => if 0 ≤ l ∧ l ≤ h ∧ h ≤ len ∧ m = h ∧ 0 < tsz P e then some (st.set dst (.t (.sl (ow + 1) e' (h.toNat - l.toNat) ((cs.drop (l.toNat * tsz P e)).take ((h.toNat - l.toNat) * tsz P e))))) else none
  | _,_,_,_,_ => none
def stCut (P:Program) (st:St) (o:Oper):Option St :=
  match o.op with
  | .slice t x (some lo) (some hi) (some mx) => stCut3 P st o.dst t x lo hi mx
  | .slice t x lo hi none => match opv st x,telem P t with
    | some (.ref pl off len),some e => match boundsOf st lo hi len,lookP st.hp pl with
      | some (l,h),some (.sl 0 e' _ _) => if 0 < tsz P e ∧ (tsz P e' = tsz P e ∨ len = 0) then some (st.set o.dst (.ref pl (off + l * tsz P e) (h - l))) else none
      | _,_ => none
    | some (.t (.sl ow e' len cs)),some e => match boundsOf st lo hi len with
      | some (l,h) => if 0 < tsz P e then some (st.set o.dst (.t (if ow = 0 then .sl 0 e' len cs else .sl ow e' (h - l) ((cs.drop (l * tsz P e)).take ((h - l) * tsz P e))))) else none
      | none => none
    | _,_ => none
  | _ => none
theorem evalO {xo:Option Operand} {vo:Option Value} (h:Sim sz I bs A w0 st a w L hand) (hx:xo.mapM (valv st) = some vo):xo.map a.eval = vo:=by
  cases xo with
  | none => simpa using hx
  | some x => simp only [Option.mapM_some,Option.map_eq_map,Option.map_eq_some_iff] at hx; obtain ⟨z,hz,rfl⟩:=hx; simp [valv_sound h hz]
theorem bounds_run (h:Sim sz I bs A w0 st a w L hand) {lo hi:Option Operand} {len cap l k:Nat} (hb:boundsOf st lo hi len = some (l,k)) (hc:len ≤ cap) :
    (Instr.sliceBounds true len cap (lo.map a.eval) (hi.map a.eval) none).run P w = .ok (l,k,cap) w ∧ l ≤ k ∧ k ≤ len:=by
  unfold boundsOf at hb
  split at hb
  · rename_i h1 h2
    rw [evalO h h1,evalO h h2]
    cases hb
    simp [Instr.sliceBounds,Result.andThen]
  · rename_i kk hh h1 h2
    rw [evalO h h1,evalO h h2]
    split at hb
    · rename_i hr
      cases hb
      have:0 ≤ hh ∧ hh ≤ (cap:Int):=by omega
      refine ⟨?_,by omega,by omega⟩
      simp [Instr.sliceBounds,Instr.sliceBound,asIntOf,this,Result.andThen]
    · simp at hb
  · rename_i kk ll h1 h2
    rw [evalO h h1,evalO h h2]
    split at hb
    · rename_i hr
      cases hb
      refine ⟨?_,by omega,by omega⟩
      simp [Instr.sliceBounds,Instr.sliceBound,asIntOf,hr,Result.andThen]
    · simp at hb
  · rename_i k1 ll k2 hh h1 h2
    rw [evalO h h1,evalO h h2]
    split at hb
    · rename_i hr
      cases hb
      have h3:0 ≤ hh ∧ hh ≤ (cap:Int):=by omega
      have h4:0 ≤ ll ∧ ll ≤ (hh.toNat:Int):=by omega
      have h5:0 ≤ ll ∧ ll ≤ max hh 0:=by omega
      refine ⟨?_,by omega,by omega⟩
      simp [Instr.sliceBounds,Instr.sliceBound,asIntOf,h3,h5,Result.andThen]
    · simp at hb
  · simp at hb

theorem stCut3_sound (h:Sim (tsz P) I bs A w0 st a w L []) {t:TypeId} {x lo hi mx:Operand} (ho:o.op = .slice t x (some lo) (some hi) (some mx)) (hst:stCut3 P st o.dst t x lo hi mx = some st'):o.wp P a w (PurePost (tsz P) I w L st a o st') Q:=by
  unfold stCut3 at hst
  split at hst
  · rename_i ow e' len cs e k1 l k2 hh k3 m hx he hlo hhi hmx
    split at hst
    · rename_i hc
      obtain ⟨c1,c2,c3,rfl,hs⟩:=hc
      cases hst
      have hv:=opv_sound h hx
      simp only [SVR,Im] at hv
      obtain ⟨ad,cap,hv,hnc,hl⟩:=hv
      have v1:=valv_sound h hlo
      have v2:=valv_sound h hhi
      have v3:=valv_sound h hmx
      obtain ⟨l,rfl⟩:∃ l':Nat,l = l':=⟨l.toNat,by omega⟩
      obtain ⟨k,rfl⟩:∃ k':Nat,m = k':=⟨m.toNat,by omega⟩
      simp only [Int.toNat_natCast]
      have hrun:(Instr.sliceBounds true len cap ((some lo).map a.eval) ((some hi).map a.eval) ((some mx).map a.eval)).run P w = .ok (l,k,k) w:=by
        simp only [Option.map_some,v1,v2,v3]
        have h3:(0:Int) ≤ k ∧ (k:Int) ≤ cap:=by omega
        have h4:(0:Int) ≤ l ∧ (l:Int) ≤ k:=by omega
        have h5:(k:Int) ≤ (cap:Int):=by omega
        have h6:(l:Int) ≤ (k:Int):=by omega
        have h7:k ≤ cap:=by omega
        have h8:l ≤ k:=by omega
        simp [Instr.sliceBounds,Instr.sliceBound,asIntOf,h3,h4,h5,h6,h7,h8,Result.andThen]
      refine wp_val (v:=.slice (if k = l then ad else ad.map (·.add (l * tsz P e))) (k - l) (k - l)) ?_ ⟨rfl,_,_,rfl,rfl,?_⟩
      · unfold execOp
        rw [ho]
        refine run_v ?_
        simp only [Instr.sliceAt,Instr.slice,hv,Sem.run_bind,run_underlying (telem_und he),Result.andThen_ok,hrun,run_tsz (tsz_info hs),Sem.run_pure]
      · simp only [SVR,Im]
        refine ⟨_,_,rfl,by omega,?_⟩
        by_cases hcl:k = l
        · have:k - l = 0:=by omega
          simp [this,ImL]
        · simp only [if_neg hcl]
          cases hcs:(cs.drop (l * tsz P e)).take ((k - l) * tsz P e) with
          | nil => simp [ImL]
          | cons c cs' =>
            rw [← hcs]
            have hne:cs ≠ []:=by rintro rfl; simp at hcs
            obtain ⟨c0,cs0,rfl⟩:=List.exists_cons_of_ne_nil hne
            have hl':=hl
            simp only [ImL] at hl'
            obtain ⟨⟨y,u,rfl,_⟩,_⟩:=hl'
            have:=ImL.drop (l * tsz P e) 0 (c0 :: cs0) hl
            exact ImL.take _ _ _ (ImL.shift _ _ 0 (by simpa using this))
    · simp at hst
  · simp at hst
theorem stCut_sound (h:Sim (tsz P) I bs A w0 st a w L []) (hst:stCut P st o = some st'):o.wp P a w (PurePost (tsz P) I w L st a o st') Q:=by
  unfold stCut at hst
  split at hst
  · rename_i t x lo hi mx ho
    exact stCut3_sound h ho hst
  · rename_i t x lo hi ho
    split at hst
    · rename_i pl off len e hx he
      split at hst
      · rename_i l k e' n' cs' hb hlp
        split at hst
        · rename_i hs
          cases hst
          have hv:=opv_sound h hx
          simp only [SVR] at hv
          rcases hv with ⟨b,cap0,e'',n'',lcs,o',cap,hl,hv,hco,hle,hlen,hcap⟩ | ⟨e'',hl,rfl,rfl,ad,hv⟩
          · obtain ⟨hrun,hlk,hkl⟩:=bounds_run (P:=P) h hb hle
            rw [h.lookP,hl] at hlp
            simp only [Option.map_some,LT.erase,Option.some.injEq,PT.sl.injEq,true_and] at hlp
            obtain ⟨rfl,rfl,rfl⟩:=hlp
            refine wp_val (v:=.slice (if cap = l then some ⟨b,o',none⟩ else some ⟨b,o' + l * tsz P e,none⟩) (k - l) (cap - l)) ?_ ⟨rfl,_,_,rfl,rfl,?_⟩
            · unfold execOp
              rw [ho]
              refine run_v ?_
              simp only [Instr.sliceAt,Instr.slice,hv,Option.map_none,Sem.run_bind,run_underlying (telem_und he),Result.andThen_ok,hrun,run_tsz (tsz_info hs.1),Sem.run_pure,Option.map_some,add_own]
            · simp only [SVR]
              have hsz:(tsz P e'' = tsz P e) ∨ len = 0:=hs.2
              have e1:∀ x y:Nat,x ≤ y → x * tsz P e'' + (y - x) * tsz P e'' = y * tsz P e'':=fun x y hxy => by rw [← Nat.add_mul,Nat.add_sub_cancel' hxy]
              rcases hsz with hsz | hz
              · rw [← hsz]
                have f1:=e1 l k hlk
                have f2:=e1 l cap (by omega)
                have f3:k * tsz P e'' ≤ len * tsz P e'':=Nat.mul_le_mul_right _ hkl
                by_cases hcl:cap = l
                · refine .inl ⟨b,cap0,e'',n'',lcs,o',cap - l,hl,by simp [hcl],.inl (by omega),by omega,by omega,by omega⟩
                · refine .inl ⟨b,cap0,e'',n'',lcs,o' + l * tsz P e'',cap - l,hl,by simp [hcl],?_,by omega,by omega,by omega⟩
                  rcases hco with hco | hco
                  · omega
                  · exact .inr (by rw [hco])
              · subst hz
                have hl0:l = 0:=by omega
                have hk0:k = 0:=by omega
                subst hl0; subst hk0
                refine .inl ⟨b,cap0,e'',n'',lcs,o',cap,hl,by simp,by simpa using hco,by omega,by simpa using hlen,by simpa using hcap⟩
          · obtain ⟨hrun,hlk,hkl⟩:=bounds_run (P:=P) h hb (cap:=0) (by omega)
            have hl0:l = 0:=by omega
            have hk0:k = 0:=by omega
            subst hl0; subst hk0
            refine wp_val (v:=a.eval x) ?_ ⟨rfl,_,_,rfl,rfl,?_⟩
            · unfold execOp
              rw [ho]
              refine run_v ?_
              simp only [Instr.sliceAt,Instr.slice,hv,Option.map_none,Sem.run_bind,run_underlying (telem_und he),Result.andThen_ok,hrun,run_tsz (tsz_info hs.1),Sem.run_pure,if_true,Nat.sub_self]
            · simp only [SVR]
              exact .inr ⟨e'',hl,by simp,by simp,ad,hv⟩
        · simp at hst
      · simp at hst
    · rename_i ow e' len cs e hx he
      split at hst
      · rename_i l k hb
        split at hst
        · rename_i hs
          cases hst
          have hv:=opv_sound h hx
          simp only [SVR] at hv
          cases ow with
          | zero =>
            simp only [Im] at hv
            obtain ⟨rfl,rfl,ad,hv⟩:=hv
            obtain ⟨hrun,hlk,hkl⟩:=bounds_run (P:=P) h hb (cap:=0) (by omega)
            have hl0:l = 0:=by omega
            have hk0:k = 0:=by omega
            subst hl0; subst hk0
            refine wp_val (v:=a.eval x) ?_ ⟨rfl,_,_,rfl,rfl,?_⟩
            · unfold execOp
              rw [ho]
              refine run_v ?_
              simp only [Instr.sliceAt,Instr.slice,hv,Option.map_none,Sem.run_bind,run_underlying (telem_und he),Result.andThen_ok,hrun,run_tsz (tsz_info hs),Sem.run_pure,if_true,Nat.sub_self]
            · simp only [if_true,SVR,Im]
              exact ⟨trivial,trivial,ad,hv⟩
          | succ ow =>
            simp only [Im] at hv
            obtain ⟨ad,cap,hv,hnc,hl⟩:=hv
            obtain ⟨hrun,hlk,hkl⟩:=bounds_run (P:=P) h hb hnc
            refine wp_val (v:=.slice (if cap = l then ad else ad.map (·.add (l * tsz P e))) (k - l) (cap - l)) ?_ ⟨rfl,_,_,rfl,rfl,?_⟩
            · unfold execOp
              rw [ho]
              refine run_v ?_
              simp only [Instr.sliceAt,Instr.slice,hv,Option.map_none,Sem.run_bind,run_underlying (telem_und he),Result.andThen_ok,hrun,run_tsz (tsz_info hs),Sem.run_pure]
            · simp only [SVR,Nat.add_one_ne_zero,if_false,Im]
              refine ⟨_,_,rfl,by omega,?_⟩
              by_cases hcl:cap = l
              · have:k - l = 0:=by omega
                simp [this,ImL]
              · simp only [if_neg hcl]
                cases hcs:(cs.drop (l * tsz P e)).take ((k - l) * tsz P e) with
                | nil => simp [ImL]
                | cons c cs' =>
                  rw [← hcs]
                  have hne:cs ≠ []:=by rintro rfl; simp at hcs
                  obtain ⟨c0,cs0,rfl⟩:=List.exists_cons_of_ne_nil hne
                  have hl':=hl
                  simp only [ImL] at hl'
                  obtain ⟨⟨y,u,rfl,_⟩,_⟩:=hl'
                  have:=ImL.drop (l * tsz P e) 0 (c0 :: cs0) hl
                  exact ImL.take _ _ _ (ImL.shift _ _ 0 (by simpa using this))
        · simp at hst
      · simp at hst
    · simp at hst
  · simp at hst
end
end Go.V
