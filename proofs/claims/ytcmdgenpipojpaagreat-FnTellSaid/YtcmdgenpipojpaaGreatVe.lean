/- The road V: code reckoned over trees of values, proved sound against the model once. No conditions. -/
import Derived.Test.YtcmdgenpipojpaaGreatVd
import Derived.Carry
import Derived.ChangeArms
import Derived.ChangeOld
import Derived.ChangeShapes
import Derived.Handed
import Derived.Laws.BytesArg
import Derived.Laws.IdiomCopy
import Derived.Laws.IdiomStrings
import Derived.OpenShut
import Derived.SizedLaws
import Derived.WideShapes
set_option linter.all false
namespace Go.V
open Go.RowKit
set_option linter.unusedSimpArgs false
set_option linter.unusedVariables false

/-! ### a law's arguments, as trees that are only read -/
/-- The fields lie one behind the other. -/
def laidB (P:Program):List Field → Nat → Nat → Bool
  | [],off,total => off == total
  | f :: fs,off,total => f.offset == off && laidB P fs (off + P.cellsOf f.type) total
/-- Types of data alone: bool, int, string, slices and structs of these. -/
def plainT (P:Program):Nat → TypeId → Bool
  | 0,_ => false
  | n + 1,t => match P.underlying t with
    | some .bool => P.cellsOf t == 1
    | some (.int _) => P.cellsOf t == 1
    | some .string => P.cellsOf t == 1
    | some (.slice e) => P.cellsOf t == 1 && decide (0 < P.cellsOf e) && plainT P n e
    | some (.struct fs) => laidB P fs.toList 0 (P.cellsOf t) && fs.toList.all fun f => plainT P n f.type
    | _ => false
def TyFs (T:TypeId → List PT → Prop):List Field → List PT → Prop
  | [],ps => ps = []
  | f :: fs,ps => ∃ p q,ps = p ++ q ∧ T f.type p ∧ TyFs T fs q
/-- The cells of a value of such a type. -/
def TyC (P:Program):Nat → TypeId → List PT → Prop
  | 0,_,_ => False
  | n + 1,t,ps => match P.underlying t with
    | some .bool => ∃ b,ps = [.raw (.bool b)]
    | some (.int k) => ∃ m,ps = [.raw (.int k m)] ∧ (Lit.int k m).wf = true
    | some .string => ∃ s:ByteArray,ps = [.raw (.string s)] ∧ s.size ≤ reachBytes
    | some (.slice e) => ∃ cells:List (List PT),ps = [.sl 2 0 cells.length cells.flatten] ∧ cells.length * P.bytesOf e ≤ reachBytes ∧ ∀ c ∈ cells,TyC P n e c
    | some (.struct fs) => TyFs (TyC P n) fs.toList ps
    | _ => False

/-- What stands in the world when a law is entered may be read. -/
def I2 (w:World) (k b:Nat):Prop:=k = 2 ∧ b < w.heap.size
def CellsIm (w:World):List Value → List PT → Prop
  | [],ps => ps = []
  | v :: vs,ps => ∃ p q,ps = p :: q ∧ Im w (I2 w) v p ∧ one v = true ∧ CellsIm w vs q
theorem CellsIm.append {w:World}:∀ {vs us:List Value} {ps qs:List PT},CellsIm w vs ps → CellsIm w us qs → CellsIm w (vs ++ us) (ps ++ qs)
  | [],us,ps,qs,h,h' => by simp only [CellsIm] at h; subst h; simpa using h'
  | v :: vs,us,ps,qs,h,h' => by
    simp only [CellsIm] at h
    obtain ⟨p,q,rfl,h1,h2,h3⟩:=h
    simp only [List.cons_append,CellsIm]
    exact ⟨p,q ++ qs,rfl,h1,h2,h3.append h'⟩
theorem CellsIm.len {w:World}:∀ {vs:List Value} {ps:List PT},CellsIm w vs ps → ps.length = vs.length
  | [],ps,h => by simp only [CellsIm] at h; subst h; rfl
  | v :: vs,ps,h => by
    simp only [CellsIm] at h
    obtain ⟨p,q,rfl,h1,h2,h3⟩:=h
    simp [h3.len]
theorem cell_lt {w:World} {x:Addr} {v:Value} (h:w.cell? x = some v):x.block < w.heap.size:=by
  unfold World.cell? at h
  rcases Nat.lt_or_ge x.block w.heap.size with h' | h'
  · exact h'
  · simp [Array.getElem?_eq_none h'] at h
theorem CellsIm.imL {w:World} {x:Addr}:∀ {vs:List Value} {ps:List PT} (j:Nat),CellsIm w vs ps → (∀ (i:Nat) v,vs[i]? = some v → w.cell? (x.add (j + i)) = some v) → ImL w (I2 w) 2 (some x) j ps
  | [],ps,j,h,_ => by simp only [CellsIm] at h; subst h; simp [ImL]
  | v :: vs,ps,j,h,hc => by
    simp only [CellsIm] at h
    obtain ⟨p,q,rfl,h1,h2,h3⟩:=h
    simp only [ImL]
    have h0:=hc 0 v rfl
    refine ⟨⟨x,v,rfl,⟨rfl,?_⟩,h0,h2,h1⟩,CellsIm.imL (j + 1) h3 fun i u hu => ?_⟩
    · have:=cell_lt h0; rwa [add_block] at this
    · have:=hc (i + 1) u (by simpa using hu)
      rwa [show j + 1 + i = j + (i + 1) by omega]

theorem mapM_range {α:Type} (f:Nat → Option α):∀ (n k:Nat) (l:List α),(List.range' k n).mapM f = some l → l.length = n ∧ ∀ i,i < n → f (k + i) = l[i]?
  | 0,k,l,h => by simp only [List.range'_zero,List.mapM_nil,Option.pure_def,Option.some.injEq] at h; subst h; simp
  | n + 1,k,l,h => by
    simp only [List.range'_succ,List.mapM_cons,Option.pure_def,Option.bind_eq_bind,Option.bind_eq_some_iff,Option.some.injEq] at h
    obtain ⟨a,ha,l',hl',rfl⟩:=h
    obtain ⟨h1,h2⟩:=mapM_range f n (k + 1) l' hl'
    refine ⟨by simp [h1],fun i hi => ?_⟩
    cases i with
    | zero => simpa using ha
    | succ i =>
      have:=h2 i (by omega)
      rw [show k + (i + 1) = k + 1 + i by omega]
      simpa using this
theorem cells_at {w:World} {base n:Nat} {a:Addr} {vs:List Value} (h:w.cells? base a n = some vs):vs.length = n ∧ ∀ i v,vs[i]? = some v → w.cell? (a.add i) = some v:=by
  unfold World.cells? at h
  split at h
  · rw [List.range_eq_range'] at h
    obtain ⟨h1,h2⟩:=mapM_range _ n 0 vs h
    refine ⟨h1,fun i v hv => ?_⟩
    have hi:i < n:=by rw [← h1]; exact (List.getElem?_eq_some_iff.1 hv).1
    have:=h2 i hi
    rw [hv,Nat.zero_add] at this
    exact this
  · simp at h

section
variable {H:Type} {enc:TypeId × Value → H} {P:Program} {w:World} {base:Nat} {sp:Nat → Bool} {held:Bool}
theorem open_fields {cs:List Value} {T:TypeId → List PT → Prop} {total:Nat} (htot:cs.length = total):∀ (fs:List Field) (off:Nat),off ≤ total → laidB P fs off total = true →
    (∀ f ∈ fs,∃ ps,T f.type ps ∧ CellsIm w ((cs.drop f.offset).take (P.cellsOf f.type)) ps) → ∃ ps,TyFs T fs ps ∧ CellsIm w (cs.drop off) ps
  | [],off,_,hl,_ => by
    simp only [laidB,beq_iff_eq] at hl
    refine ⟨[],rfl,?_⟩
    rw [List.drop_of_length_le (by omega)]
    rfl
  | f :: fs,off,hle,hl,hf => by
    simp only [laidB,Bool.and_eq_true,beq_iff_eq] at hl
    obtain ⟨ho,hl⟩:=hl
    have hbound:∀ (fs:List Field) (off:Nat),laidB P fs off total = true → off ≤ total:=by
      intro fs
      induction fs with
      | nil => intro off h; simp only [laidB,beq_iff_eq] at h; omega
      | cons f fs ih => intro off h; simp only [laidB,Bool.and_eq_true] at h; have:=ih _ h.2; omega
    obtain ⟨p,hp1,hp2⟩:=hf f (by simp)
    obtain ⟨q,hq1,hq2⟩:=open_fields htot fs _ (hbound _ _ hl) hl (fun g hg => hf g (by simp [hg]))
    refine ⟨p ++ q,⟨p,q,rfl,hp1,hq1⟩,?_⟩
    have:=hp2.append hq2
    rw [ho] at this
    have e:(cs.drop off).take (P.cellsOf f.type) ++ cs.drop (off + P.cellsOf f.type) = cs.drop off:=by
      rw [← List.drop_drop,List.take_append_drop]
    rwa [e] at this

theorem weights_all {e:TypeId}:∀ {ds:List (DataW H)} {d:DataW H},d ∈ ds → ∀ n ∈ d.weights P e,n ∈ DataW.weightsAll P e ds
  | d0 :: ds,d,h,n,hn => by
    simp only [DataW.weightsAll,List.mem_append]
    rcases List.mem_cons.1 h with rfl | h
    · exact .inl hn
    · exact .inr (weights_all h n hn)
theorem open_cells:∀ (n fuel:Nat) (t:TypeId) (cs:List Value) (x:DataW H × List MemPlace),DataW.trod enc P w base sp held fuel t cs = some x → (∀ m ∈ x.1.weights P t,m ≤ reachBytes) → plainT P n t = true → ∃ ps,TyC P n t ps ∧ CellsIm w cs ps ∧ ps.length = P.cellsOf t
  | 0,_,_,_,_,_,_,hp => by simp [plainT] at hp
  | n + 1,fuel,t,cs,x,h,hw,hp => by
    unfold plainT at hp
    unfold TyC
    split at hp
    · rename_i ht
      obtain ⟨b,rfl,_⟩:=DataW.trod_bool ht h
      have hp':P.cellsOf t = 1:=by simpa using hp
      exact ⟨_,⟨b,rfl⟩,⟨_,_,rfl,rfl,rfl,rfl⟩,by rw [hp']; rfl⟩
    · rename_i k ht
      obtain ⟨m,rfl,_,hwf⟩:=DataW.trod_int ht h
      have hp':P.cellsOf t = 1:=by simpa using hp
      exact ⟨_,⟨m,rfl,hwf⟩,⟨_,_,rfl,rfl,rfl,rfl⟩,by rw [hp']; rfl⟩
    · rename_i ht
      obtain ⟨u,rfl,hx,_⟩:=DataW.trod_string ht h
      have hp':P.cellsOf t = 1:=by simpa using hp
      have hu:u.size ≤ reachBytes:=by
        have:=hw u.data.toList.length (by rw [hx]; simp [DataW.weights])
        simpa using this
      exact ⟨_,⟨u,rfl,hu⟩,⟨_,_,rfl,rfl,rfl,rfl⟩,by rw [hp']; rfl⟩
    · -- slices
      rename_i e ht
      simp only [Bool.and_eq_true,beq_iff_eq,decide_eq_true_eq] at hp
      obtain ⟨⟨hc1,hce⟩,hpe⟩:=hp
      rcases DataW.trod_slice ht h with ⟨rfl,_⟩ | ⟨a,len,cap,elems,rest,m,_,rfl,hx,_,hl,hcap,hlen,hel,_⟩
      · refine ⟨_,⟨[],rfl,by simp,by simp⟩,?_,by simp [hc1]⟩
        simp only [CellsIm,List.flatten_nil,List.length_nil,Im,ImL]
        exact ⟨_,_,rfl,⟨none,0,rfl,Nat.le_refl _,trivial⟩,rfl,rfl⟩
      · -- the elements,one by one
        have hwe:∀ y ∈ elems,∀ q ∈ y.1.weights P e,q ≤ reachBytes:=fun y hy q hq => hw q (by
          rw [hx]
          simp only [DataW.weights,ht,List.mem_cons,List.mem_append]
          exact .inr (.inl (weights_all (List.mem_map_of_mem hy) q hq)))
        have hwl:len * P.bytesOf e ≤ reachBytes:=by
          have:=hw ((elems.length + rest.length) * P.bytesOf e) (by rw [hx]; simp [DataW.weights,ht])
          rw [hlen,Nat.add_mul] at this
          omega
        have build:∀ j,j ≤ len → ∃ cells:List (List PT),cells.length = j ∧ (∀ c ∈ cells,TyC P n e c) ∧ ∃ vs:List Value,vs.length = j * P.cellsOf e ∧ CellsIm w vs cells.flatten ∧ ∀ i v,vs[i]? = some v → w.cell? (a.add i) = some v:=by
          intro j
          induction j with
          | zero => intro _; exact ⟨[],rfl,by simp,[],by simp,rfl,by simp⟩
          | succ j ih =>
            intro hj
            obtain ⟨cells,h1,h2,vs,h3,h4,h5⟩:=ih (by omega)
            have hE:=hel j (by omega)
            obtain ⟨y,hy⟩:∃ y,elems[j]? = some y:=⟨_,List.getElem?_eq_getElem (by omega)⟩
            rw [hy,Option.bind_eq_some_iff] at hE
            obtain ⟨us,hu,hE⟩:=hE
            obtain ⟨u1,u2⟩:=cells_at hu
            obtain ⟨ps,p1,p2,p3⟩:=open_cells n m e us y hE (hwe y (List.mem_of_getElem? hy)) hpe
            refine ⟨cells ++ [ps],by simp [h1],?_,vs ++ us,by rw [List.length_append,h3,u1,Nat.succ_mul],?_,?_⟩
            · intro c hc
              rcases List.mem_append.1 hc with hc | hc
              · exact h2 c hc
              · simp only [List.mem_singleton] at hc; subst hc; exact p1
            · rw [List.flatten_append]
              have:[ps].flatten = ps:=by simp
              rw [this]
              exact h4.append p2
            · intro i v hv
              by_cases hi:i < vs.length
              · rw [List.getElem?_append_left hi] at hv; exact h5 i v hv
              · rw [List.getElem?_append_right (by omega)] at hv
                have:=u2 _ v hv
                rw [add_add,h3,show j * P.cellsOf e + (i - j * P.cellsOf e) = i by omega] at this
                exact this
        obtain ⟨cells,h1,h2,vs,h3,h4,h5⟩:=build len (Nat.le_refl _)
        refine ⟨_,⟨cells,rfl,by rw [h1]; exact hwl,h2⟩,?_,by simp [hc1]⟩
        simp only [CellsIm,Im]
        exact ⟨_,_,rfl,⟨some a,cap,by rw [h1],by omega,h4.imL 0 fun i v hv => by rw [Nat.zero_add]; exact h5 i v hv⟩,rfl,rfl⟩
    · -- structs
      rename_i fs ht
      simp only [Bool.and_eq_true] at hp
      obtain ⟨xs,m,_,hx0,hcl,hxl,hf⟩:=DataW.trod_struct ht h
      obtain ⟨ps,p1,p2⟩:=open_fields (w:=w) (P:=P) (T:=TyC P n) hcl fs.toList 0 (Nat.zero_le _) hp.1 (by
        intro f hfm
        obtain ⟨i,hi⟩:=List.getElem?_of_mem hfm
        have hi':fs[i]? = some f:=by simpa using hi
        have hx:=hf i f hi'
        obtain ⟨y,hy⟩:∃ y,xs[i]? = some y:=⟨_,List.getElem?_eq_getElem (by rw [hxl]; exact (Array.getElem?_eq_some_iff.1 hi').1)⟩
        rw [hy] at hx
        obtain ⟨ps,q1,q2,_⟩:=open_cells n m f.type _ y hx (fun q hq => hw q (by
          rw [hx0]
          simp only [DataW.weights,ht]
          exact DataW.weights_mem_each (j:=i) (t:=f.type) (d:=y.1) (by simp [hi']) (by simp [hy]) q hq)) (List.all_eq_true.1 hp.2 f hfm)
        exact ⟨ps,q1,q2⟩)
      refine ⟨ps,p1,by simpa using p2,?_⟩
      have:=p2.len
      simpa [hcl] using this
    · simp at hp
end
end Go.V

namespace Go.V
open Go.RowKit Go.ChangeShapes Go.WideShapes
set_option linter.unusedSimpArgs false
set_option linter.unusedVariables false

/-- What a law is handed, of a plain type. -/
def TyV (P:Program) (n:Nat) (t:TypeId) (x:PV):Prop:=match P.underlying t with
  | some (.struct _) => ∃ ps,x = .agg ps ∧ TyC P n t ps
  | _ => ∃ p,x = .c p ∧ TyC P n t [p]
def TyVs (P:Program) (n:Nat):List TypeId → List PV → Prop
  | [],[] => True
  | t :: ts,x :: xs => TyV P n t x ∧ TyVs P n ts xs
  | _,_ => False

section
variable {H:Type} {enc:TypeId × Value → H} {P:Program} {w:World} {sp:Nat → Bool} {held:Bool} {r:Reach} {b0:Nat}

theorem leaves {w:World}:∀ {vs:List Value} {ps:List PT},CellsIm w vs ps → ∃ ts:List LT,ts.map LT.val = vs ∧ ts.map LT.erase = ps ∧ ts.flatMap LT.blocks = [] ∧ ∀ (sz:Nat → Nat),∀ t ∈ ts,t.holds sz w (I2 w)
  | [],ps,h => by simp only [CellsIm] at h; subst h; exact ⟨[],by simp⟩
  | v :: vs,ps,h => by
    simp only [CellsIm] at h
    obtain ⟨p,q,rfl,h1,h2,h3⟩:=h
    obtain ⟨ts,g1,g2,g3,g4⟩:=leaves h3
    refine ⟨.leaf v p :: ts,by simp [LT.val,g1],by simp [LT.erase,g2],by simp [LT.blocks,g3],fun sz t ht => ?_⟩
    rcases List.mem_cons.1 ht with rfl | ht
    · simp only [LT.holds]; exact ⟨h1,h2⟩
    · exact g4 sz t ht
theorem open_arg {n:Nat} {t:TypeId} {v:Value} {d:DataW H} {ps:List MemPlace} (hp:plainT P n t = true) (hv:Value.okWide P w r b0 t v) (h:DataW.Trod enc P w 0 sp held t v d ps) (hw:∀ m ∈ d.weights P t,m ≤ reachBytes) :
    ∃ la:LV,la.val = v ∧ TyV P n t la.erase ∧ la.blocks = [] ∧ la.holds (tsz P) w (I2 w):=by
  obtain ⟨fuel,hf⟩:=h
  obtain ⟨qs,h1,h2,h3⟩:=open_cells n fuel t _ _ hf hw hp
  have single:one v = true → (∀ fs,P.underlying t ≠ some (.struct fs)) → ∃ la:LV,la.val = v ∧ TyV P n t la.erase ∧ la.blocks = [] ∧ la.holds (tsz P) w (I2 w):=by
    intro ho hns
    rw [one_cells ho] at h2
    simp only [CellsIm] at h2
    obtain ⟨p,q,rfl,g1,g2,rfl⟩:=h2
    refine ⟨.c (.leaf v p),rfl,?_,by simp [LV.blocks,LT.blocks],by simp only [LV.holds,LT.holds]; exact ⟨g1,g2⟩⟩
    unfold TyV
    split
    · rename_i fs ht; exact absurd ht (hns fs)
    · exact ⟨p,by simp [LV.erase,LT.erase],h1⟩
  cases n with
  | zero => simp [plainT] at hp
  | succ n =>
    unfold plainT at hp
    split at hp
    · rename_i ht; obtain ⟨b,rfl⟩:=okWide_bool ht hv; exact single rfl (fun fs he => by rw [ht] at he; cases he)
    · rename_i k ht; obtain ⟨m,rfl⟩:=okWide_int ht hv; exact single rfl (fun fs he => by rw [ht] at he; cases he)
    · rename_i ht; obtain ⟨s,rfl⟩:=okWide_string ht hv; exact single rfl (fun fs he => by rw [ht] at he; cases he)
    · rename_i e ht; obtain ⟨a,len,cap,rfl⟩:=okWide_slice ht hv; exact single rfl (fun fs he => by rw [ht] at he; cases he)
    · rename_i fs ht
      obtain ⟨cs,rfl,_⟩:=okWide_struct ht hv
      obtain ⟨ts,g1,g2,g3,g4⟩:=leaves (show CellsIm w cs.toList qs from h2)
      refine ⟨.agg ts,by simp [LV.val,g1],?_,by simp [LV.blocks,g3],by simp only [LV.holds]; exact g4 _⟩
      unfold TyV
      rw [ht]
      exact ⟨qs,by simp [LV.erase,g2],h1⟩
    · simp at hp
theorem open_args {n:Nat}:∀ {ts:List TypeId} {vs:List Value} {ds:List (DataW H)} {ps:List MemPlace},(∀ t ∈ ts,plainT P n t = true) → (∀ (j:Nat) t v,ts[j]? = some t → vs[j]? = some v → Value.okWide P w r b0 t v) →
    DataW.TrodAll enc P w 0 sp held ts vs ds ps → (∀ m ∈ DataW.weightsEach P ts ds,m ≤ reachBytes) → ∃ las:List LV,las.map LV.val = vs ∧ TyVs P n ts (las.map LV.erase) ∧ las.flatMap LV.blocks = [] ∧ ∀ la ∈ las,la.holds (tsz P) w (I2 w)
  | [],vs,ds,ps,_,_,h,_ => by
    obtain ⟨rfl,_,_⟩:=trodAll_nil h
    exact ⟨[],by simp [TyVs]⟩
  | t :: ts,vs,ds,ps,hp,hv,h,hw => by
    obtain ⟨v,vs',d,ds',p,q,rfl,rfl,rfl,h1,h2⟩:=trodAll_cons h
    simp only [DataW.weightsEach,List.mem_append] at hw
    obtain ⟨la,g1,g2,g3,g4⟩:=open_arg (hp t (by simp)) (hv 0 t v rfl rfl) h1 (fun m hm => hw m (.inl hm))
    obtain ⟨las,f1,f2,f3,f4⟩:=open_args (fun u hu => hp u (by simp [hu])) (fun j u x hu hx => hv (j + 1) u x (by simpa using hu) (by simpa using hx)) h2 (fun m hm => hw m (.inr hm))
    refine ⟨la :: las,by simp [g1,f1],⟨g2,f2⟩,by simp [g3,f3],fun l hl => ?_⟩
    rcases List.mem_cons.1 hl with rfl | hl
    · exact g4
    · exact f4 l hl
theorem trodAll_back (hl:laidOutB P = true) {w':World} (hb:Below w.heap.size w w'):∀ {ts:List TypeId} {vs:List Value} {ds:List (DataW H)} {ps:List MemPlace},(∀ t ∈ ts,P.readableRec t = true ∧ t < P.types.size) →
    DataW.TrodAll enc P w 0 (fun _ => true) true ts vs ds ps → (∀ x ∈ ps,x.block < w.heap.size) → DataW.TrodAll enc P w' 0 (fun b => decide (b < w.heap.size)) true ts vs ds ps
  | [],vs,ds,ps,_,h,_ => by
    obtain ⟨rfl,rfl,rfl⟩:=trodAll_nil h
    rfl
  | t :: ts,vs,ds,ps,ht,h,hlt => by
    obtain ⟨v,vs',d,ds',p,q,rfl,rfl,rfl,h1,h2⟩:=trodAll_cons h
    exact trodAll_cons_mk (Below.trod hl (ht t (by simp)).1 (ht t (by simp)).2 h1 hb (fun x hx => hlt x (by simp [hx]))) (trodAll_back hl hb (fun u hu => ht u (by simp [hu])) h2 (fun x hx => hlt x (by simp [hx])))

/-- A law that is true of every input of its types. -/
theorem law_runs {C : Checked} {f : FuncId} {fn : Func} {n : Nat} {W : World} {base : Nat} {args : Array Value} {ds : List (DataW H)} {before : List MemPlace} (hf : C.prog.funcs[f]? = some fn) (hn : (fn.name == "runtime.NumGoroutine") = false) (hb : fn.body.isSome = true)
    (hp:fn.params.toList.all (plainT C.prog n) = true) (hok:∀ xs,TyVs C.prog n fn.params.toList xs → ∃ outs,CallOK C.prog f xs (.c (.raw (.bool true))) outs)
    (hv:∀ (j:Nat) t v,fn.params[j]? = some t → args[j]? = some v → Value.okWide C.prog W .any base t v) (hA:DataW.TrodAll enc C.prog W 0 (fun _ => true) true fn.params.toList args.toList ds before)
    (hw:∀ m ∈ DataW.weightsEach C.prog fn.params.toList ds,m ≤ reachBytes):Calls C.prog f args W fun e W' => e = .returned (.bool true) ∧ Below W.heap.size W W':=by
  obtain ⟨las,h1,h2,h3,h4⟩:=open_args (fun t ht => List.all_eq_true.1 hp t ht) (fun j t v ht hx => hv j t v (by simpa using ht) (by simpa using hx)) hA hw
  obtain ⟨outs,hc⟩:=hok _ h2
  have:=hc (I2 W) W las rfl h4 (by rw [h3]; exact List.nodup_nil) (fun k b hb => ⟨hb.2,by rw [h3]; simp⟩)
  rw [h1] at this
  have ha:args.toList.toArray = args:=Array.toArray_toList
  rw [ha] at this
  unfold CallsF at this
  obtain ⟨c,hcb⟩:=Option.isSome_iff_exists.1 hb
  have h5 : fn.name ≠ "runtime.NumGoroutine" := by simpa using hn
  have hrun:(callFunc f args).run C.prog W = .ok (.enter f args) W:=by simp [callFunc,hf,h5,hcb]
  rw [hrun] at this
  refine this.mono ?_
  rintro e W' ⟨lr,los,rfl,hres,_,_,hlr,_,_,_,hk⟩
  rw [h3] at hk
  refine ⟨?_,hk.below⟩
  cases lr with
  | c t =>
    simp only [LV.erase,PV.c.injEq] at hres
    simp only [LV.holds] at hlr
    cases t with
    | leaf v p =>
      simp only [LT.erase] at hres
      subst hres
      simp only [LT.holds,Im] at hlr
      simp [LV.val,LT.val,hlr.1]
    | own b cap e n cs => simp [LT.erase] at hres
  | _ => simp [LV.erase] at hres
end
end Go.V

namespace Go.V
open Go.RowKit
set_option linter.unusedSimpArgs false
set_option linter.unusedVariables false

/-! ### a drawn region, reckoned with names told one by one -/
def filtL (V:Id → Bool):List (Id × PT) → List (Id × PT)
  | [] => []
  | x :: l => if V x.1 = true then x :: filtL V l else filtL V l
theorem ofL_filt (V:Id → Bool):∀ (l:List (Id × PT)) (id:Id),ofL (filtL V l) id = if V id = true then ofL l id else none
  | [],id => by simp [filtL,ofL]
  | (i,t) :: l,id => by
    have ih:=ofL_filt V l id
    simp only [filtL]
    by_cases hid:id = i
    · subst hid
      by_cases hv:V id = true
      · simp [hv,ofL]
      · simp only [hv] at ih ⊢
        simpa using ih
    · by_cases hv:V i = true
      · simp only [hv,if_true,ofL,if_neg hid]
        exact ih
      · simp only [hv,Bool.false_eq_true,if_false,ofL,if_neg hid]
        exact ih
def mergeHp (V:Id → Bool) (a b:Id → Option PT):Id → Option PT:=fun id => if V id = true then a id else b id
theorem mergeHp_ofL (V:Id → Bool) (a b:List (Id × PT)):mergeHp V (ofL a) (ofL b) = ofL (filtL V a ++ filtL (fun id => !V id) b):=by
  funext id
  unfold mergeHp
  rw [ofL_append,ofL_filt,ofL_filt]
  by_cases hv:V id = true
  · simp only [hv,if_true,Bool.not_true,Bool.false_eq_true,if_false]
    cases ofL a id <;> rfl
  · simp [hv]
theorem restr_ofL (looks D:List Nat) (Fl:List Id) (sl:List SV) (l:List (Id × PT)):restr looks D Fl ⟨sl,ofL l⟩ = ⟨restrSl looks D (fun id => Fl.contains id) 0 sl,ofL (filtL (fun id => Fl.contains id) l)⟩:=by
  unfold restr
  congr 1
  funext id
  rw [ofL_filt]
section
variable {E:Env} {P:Program} {r i:Nat} {ops:Array Oper} {F:List Id} {D:List Nat} {o:Oper} {st:St}
def onG (g:Option St) (f:St → St):Option St:=match g with
  | some rs => some (f rs)
  | none => none
theorem onG_some (st:St) (f:St → St):onG (some st) f = some (f st):=by unfold onG; rfl
theorem onG_congr {o o':Option St} {f:St → St} (h:o = o'):onG o f = onG o' f:=by rw [h]
theorem stM_look:stM E P r ops ⟨F,D,true⟩ i o st = if looksOK (o.looksAt ops) F st = true ∧ pureB o = true then onG (stG E P r ops i o (restr (o.looksAt ops) D F st)) (fun rs => ⟨mergeSl (o.looksAt ops) D (fun id => F.contains id) (fun id => F.contains id) (fun id => F.contains id) true true o.dst 0 st.sl rs.sl,st.hp⟩) else if (looksOK (o.looksAt ops) F st = true ∧ pureB o = false) ∧ quietB E (restr (o.looksAt ops) D F st) o = true then onG (stG E P r ops i o (restr (o.looksAt ops) D F st)) (fun rs => ⟨mergeSl (o.looksAt ops) D (fun id => F.contains id) (fun id => F.contains id || ownB r i id) (ownB r i) true false o.dst 0 st.sl rs.sl,mergeHp (ownB r i) rs.hp st.hp⟩) else none:=by
  unfold stM onG mergeHp
  cases hb:pureB o with
  | true =>
    have hq:(⟨F,D,true⟩:OI).q o = true:=by simp [OI.q,hb]
    have hV':(⟨F,D,true⟩:OI).V r i o = fun id => F.contains id:=funext fun id => by simp [OI.V,hq]
    have hW':(⟨F,D,true⟩:OI).W r i o = fun id => false:=funext fun id => by simp [OI.W,hq]
    have hms:∀ (xs ys:List SV) (t:Nat) (V W W':Id → Bool),mergeSl (o.looksAt ops) D (fun id => F.contains id) V W true true o.dst t xs ys = mergeSl (o.looksAt ops) D (fun id => F.contains id) V W' true true o.dst t xs ys:=by
      intro xs
      induction xs with
      | nil => intro ys t V W W'; rfl
      | cons x xs ih => intro ys t V W W'; simp only [mergeSl,mergeOne,Bool.not_true,Bool.false_and,Bool.false_eq_true,if_false]; rw [ih]
    simp only [hV',hW',hq,forall_const,true_or,and_true,Bool.false_eq_true,if_false,Bool.true_eq_false,and_false,false_and]
    split
    · split
      · rename_i hg
        rw [hg]
        congr 2
        exact hms _ _ _ _ _ _
      · rename_i hg; rw [hg]
    · rfl
  | false =>
    have hq:(⟨F,D,true⟩:OI).q o = false:=by simp [OI.q,hb]
    have hV':(⟨F,D,true⟩:OI).V r i o = fun id => F.contains id || ownB r i id:=funext fun id => by simp [OI.V,hq]
    have hW':(⟨F,D,true⟩:OI).W r i o = ownB r i:=funext fun id => by simp [OI.W,hq]
    simp only [hV',hW',hq,forall_const,Bool.false_eq_true,false_or,and_true,and_false,if_false]
    all_goals rfl
theorem stM_turn:stM E P r ops ⟨F,D,false⟩ i o st = if looksOK (o.looksAt ops) F st = true then onG (stG E P r ops i o (restr (o.looksAt ops) D F st)) fun rs => ⟨mergeSl (o.looksAt ops) D (fun id => F.contains id) (fun id => F.contains id || ownB r i id) (fun id => F.contains id || ownB r i id) false false o.dst 0 st.sl rs.sl,mergeHp (fun id => F.contains id || ownB r i id) rs.hp st.hp⟩ else none:=by
  unfold stM onG mergeHp
  have hq:(⟨F,D,false⟩:OI).q o = false:=by simp [OI.q]
  have hV':(⟨F,D,false⟩:OI).V r i o = fun id => F.contains id || ownB r i id:=funext fun id => by simp [OI.V,hq]
  have hW':(⟨F,D,false⟩:OI).W r i o = fun id => F.contains id || ownB r i id:=funext fun id => by simp [OI.W,hq]
  simp only [hV',hW',hq]
  simp
  all_goals rfl
theorem lexRun_nil {xs:List OI} {k:Nat}:lexRun E P r ops xs k [] st = some st:=rfl
end
attribute [congr] onG_congr
attribute [simp ↓] onG_some
attribute [simp] quietB stM_look stM_turn restr_ofL mergeHp_ofL filtL lexRun_nil looksOK Oper.looksAt Op.operands SV.within SV.isJunk SV.isTup SV.cut restrOne pureB stG restrSl keepB SV.inert mergeSl mergeOne SV.clean SV.touch ownB
end Go.V

namespace Go.V
open Go.RowKit
set_option linter.unusedSimpArgs false
set_option linter.unusedVariables false

/-! ### bytes to a string -/
def bytesOf:List PT → Option (List Int)
  | [] => some []
  | c :: cs => match c with
    | .raw (.int .u8 n) => match bytesOf cs with
      | some l => some (n :: l)
      | none => none
    | _ => none
/-- A string out of its bytes. -/
def strOf (l:List Int):ByteArray:=⟨(l.map fun n => UInt8.ofNat n.toNat).toArray⟩
def isU8 (P:Program) (t:TypeId):Bool:=match P.underlying t with
  | some (.slice e) => match P.underlying e with
    | some (.int .u8) => true
    | _ => false
  | _ => false
def isStr (P:Program) (t:TypeId):Bool:=match P.underlying t with
  | some .string => true
  | _ => false
def stConv (P:Program) (st:St) (o:Oper):Option St:=match o.op with
  | .convert s d x => if isU8 P s = true ∧ isStr P d = true then match opv st x,telem P s with
      | some sv,some e => if tsz P e = 1 then match appSrc P st e sv with
          | some (m,news,false) => (bytesOf news).map fun l => st.set o.dst (.t (.raw (.string (strOf l))))
          | _ => none
        else none
      | _,_ => none
    else none
  | _ => none
section
variable {sz:Nat → Nat} {I:Nat → Nat → Prop} {bs:List Nat} {A:AD} {w0 w w':World} {st st' st1:St} {a:Act} {L L0:Loc} {hand hand':List LT} {P:Program} {o:Oper} {Q:Exit → Act → World → Prop}
theorem bytesOf_vals:∀ {tn:List LT} {l:List Int},bytesOf (tn.map LT.erase) = some l → (∀ d ∈ tn,d.holds sz w I) → tn.map LT.val = l.map (Value.int .u8)
  | [],l,h,_ => by simp only [List.map_nil,bytesOf,Option.some.injEq] at h; subst h; rfl
  | d :: tn,l,h,hh => by
    simp only [List.map_cons,bytesOf] at h
    split at h
    · rename_i n hd
      split at h
      · rename_i l' hl
        cases h
        have ih:=bytesOf_vals hl (fun x hx => hh x (by simp [hx]))
        have hdh:=hh d (by simp)
        cases d with
        | leaf v p =>
          simp only [LT.erase] at hd
          subst hd
          simp only [LT.holds,Im] at hdh
          simp [LT.val,hdh.1,ih]
        | own b cap e n cs => simp [LT.erase] at hd
      · simp at h
    · simp at h
theorem strOf_fold (l:List Int):l.foldl (fun r n => r.push (UInt8.ofNat n.toNat)) ByteArray.empty = strOf l:=by
  rw [foldl_push_bytes]
  simp [strOf]
theorem stConv_sound (h:Sim (tsz P) I bs A w0 st a w L []) (hst:stConv P st o = some st'):o.wp P a w (PurePost (tsz P) I w L st a o st') Q:=by
  unfold stConv at hst
  split at hst
  · rename_i s d x ho
    split at hst
    · rename_i hc
      split at hst
      · rename_i sv e hx he
        split at hst
        · rename_i hsz
          split at hst
          · rename_i m news hs
            simp only [Option.map_eq_some_iff] at hst
            obtain ⟨l,hl,rfl⟩:=hst
            obtain ⟨ad,c,hv,tn,t1,t2,t3,t4⟩:=appSrc_copy h (opv_sound h hx) hs
            rw [← t1] at hl
            have hvals:=bytesOf_vals hl (fun d hd => (t3 d hd).1)
            have hlen:l.length = m:=by
              have:=congrArg List.length hvals
              simp only [List.length_map] at this
              rw [← this,t2,hsz,Nat.mul_one]
            have hu:P.underlying s = some (.slice e):=telem_und he
            have hc1:P.underlying e = some (.int .u8):=by
              have:=hc.1
              unfold isU8 at this
              rw [hu] at this
              simp only at this
              split at this
              · assumption
              · cases this
            have hc2:P.underlying d = some .string:=by
              have:=hc.2
              unfold isStr at this
              split at this
              · assumption
              · cases this
            refine wp_val (v:=.string (strOf l)) ?_ ⟨rfl,_,_,rfl,rfl,(by simp [SVR,Im])⟩
            unfold execOp
            rw [ho]
            refine run_v ?_
            rw [hv]
            cases ad with
            | none =>
              have:l = []:=by
                rcases Nat.eq_zero_or_pos tn.length with h0 | h0
                · have:m = 0:=by rw [hsz,Nat.mul_one] at t2; omega
                  rw [this] at hlen
                  exact List.length_eq_zero_iff.1 hlen
                · obtain ⟨y,hy,_⟩:=t4 h0; cases hy
              subst this
              rw [run_convert_bytes_string w s d e none m c hu hc1 hc2]
              rfl
            | some y =>
              rw [run_convert_bytes_string w s d e (some y) m c hu hc1 hc2]
              rw [run_bytesToString w y m c l ?_,strOf_fold]
              have hcell:∀ (j:Nat) u,(l.map (Value.int .u8))[j]? = some u → w.cell? (y.add j) = some u:=by
                intro j u hj
                rw [← hvals] at hj
                have h0:0 < tn.length:=by
                  have:=(List.getElem?_eq_some_iff.1 hj).1
                  simp only [List.length_map] at this
                  omega
                obtain ⟨y',hy',hy2⟩:=t4 h0
                cases hy'
                exact hy2 j u hj
              have hr:=run_loadCells_list (P:=P) w y (l.map (Value.int .u8)) hcell
              rw [List.length_map,hlen] at hr
              exact hr
          · simp at hst
        · simp at hst
      · simp at hst
    · simp at hst
  · simp at hst
end

/-! ### a row against nil -/
/-- What is known of a row that is held against nil. -/
def nilK (s:SV) (F:Bool → Prop):Prop:=match s with
  | .t (.sl 0 _ _ _) => ∀ b,F b
  | .t (.sl _ _ _ cs) => ∀ b,(cs ≠ [] → b = false) → F b
  | .ref _ _ len => ∀ b,(0 < len → b = false) → F b
  | _ => False
def isSlT (P:Program) (t:TypeId):Bool:=match P.underlying t with
  | some (.slice _) => true
  | _ => false
def nilOp (o:Oper):Option (TypeId × Operand × Bool):=match o.op with
  | .binOp .eql t x (.const (.slice none 0 0)) _ => some (t,x,false)
  | .binOp .neq t x (.const (.slice none 0 0)) _ => some (t,x,true)
  | _ => none
def nilCmp (P:Program) (st:St) (o:Oper) (K:St → Prop):Prop:=match nilOp o with
  | some (t,x,neg) => isSlT P t = true ∧ match opv st x with
    | some s => nilK s fun b => K (st.set o.dst (.t (.raw (.bool (b != neg)))))
    | none => False
  | none => False
section
variable {sz:Nat → Nat} {I:Nat → Nat → Prop} {bs:List Nat} {A:AD} {w0 w w':World} {st st' st1:St} {a:Act} {L L0:Loc} {hand hand':List LT} {P:Program} {o:Oper} {Q:Exit → Act → World → Prop} {K:St → Prop}
theorem nilK_sound {F:Bool → Prop} {v:Value} {s:SV} (hr:SVR sz L w I v s) (h:nilK s F):∃ ad n c,v = .slice ad n c ∧ F ad.isNone:=by
  unfold nilK at h
  split at h
  · simp only [SVR,Im] at hr
    obtain ⟨_,_,ad,rfl⟩:=hr
    exact ⟨ad,0,0,rfl,h _⟩
  · rename_i k e n cs hk
    cases k with
    | zero => exact (hk rfl).elim
    | succ k =>
      simp only [SVR,Im] at hr
      obtain ⟨ad,cap,rfl,_,hl⟩:=hr
      refine ⟨ad,_,_,rfl,h _ fun hne => ?_⟩
      cases cs with
      | nil => exact absurd rfl hne
      | cons c cs =>
        simp only [ImL] at hl
        obtain ⟨⟨x,u,rfl,_⟩,_⟩:=hl
        rfl
  · rename_i pl off len
    simp only [SVR] at hr
    rcases hr with ⟨b,cap0,e,n,cs,o,cap,hl,rfl,h1,h2,h3,h4⟩ | ⟨e,hl,h1,h2,ad,rfl⟩
    · exact ⟨_,_,_,rfl,h _ fun _ => rfl⟩
    · exact ⟨ad,0,0,rfl,h _ fun h0 => by omega⟩
  · exact h.elim
theorem run_nilcmp {t:TypeId} (ht:isSlT P t = true) (ad:Option Addr) (n c:Nat):(Op.equal t (.slice ad n c) (.slice none 0 0)).run P w = .ok ad.isNone w:=by
  unfold isSlT at ht
  split at ht
  · rename_i e hu
    show (Op.equalIn (9999 + 1) t _ _).run P w = _
    unfold Op.equalIn
    rw [Sem.run_bind,run_underlying hu]
    cases ad <;> rfl
  · cases ht
theorem nilCmp_sound (h:Sim (tsz P) I bs A w0 st a w L []) (hst:nilCmp P st o K):o.wp P a w (fun a' w' => ∃ st' L',Sim (tsz P) I bs A w0 st' a' w' L' [] ∧ K st') Q:=by
  unfold nilCmp at hst
  split at hst
  · rename_i t x neg hop
    obtain ⟨ht,hst⟩:=hst
    split at hst
    · rename_i s hs
      obtain ⟨ad,n,c,hv,hF⟩:=nilK_sound (opv_sound h hs) hst
      refine wp_val (v:=.bool (ad.isNone != neg)) (w':=w) ?_ ⟨_,L,h.setS (st:=st) o.dst (v:=.bool (ad.isNone != neg)) (s:=.t (.raw (.bool (ad.isNone != neg)))) (by simp [SVR,Im]),hF⟩
      unfold nilOp at hop
      unfold execOp
      split at hop
      · rename_i t' x' yt ho
        simp only [Option.some.injEq,Prod.mk.injEq] at hop
        obtain ⟨rfl,rfl,rfl⟩:=hop
        rw [ho]
        refine run_v ?_
        rw [hv,show a.eval (.const (.slice none 0 0)) = .slice none 0 0 from rfl]
        show (do let z ← Op.equal t' (.slice ad n c) (.slice none 0 0); pure (Value.bool (z)):Sem Value).run P w = _
        rw [Sem.run_bind,run_nilcmp ht]
        cases ad <;> rfl
      · rename_i t' x' yt ho
        simp only [Option.some.injEq,Prod.mk.injEq] at hop
        obtain ⟨rfl,rfl,rfl⟩:=hop
        rw [ho]
        refine run_v ?_
        rw [hv,show a.eval (.const (.slice none 0 0)) = .slice none 0 0 from rfl]
        show (do let z ← Op.equal t' (.slice ad n c) (.slice none 0 0); pure (Value.bool (!z)):Sem Value).run P w = _
        rw [Sem.run_bind,run_nilcmp ht]
        cases ad <;> rfl
      · simp at hop
    · exact hst.elim
  · exact hst.elim
end
end Go.V

namespace Go.V
open Go.RowKit
set_option linter.unusedSimpArgs false
set_option linter.unusedVariables false

/-! ### cells of a row set from the hand -/
section
variable {sz:Nat → Nat} {I:Nat → Nat → Prop} {bs:List Nat} {A:AD} {w0 w w':World} {st st' st1:St} {a:Act} {L L0 L1:Loc} {hand hand':List LT} {P:Program} {o:Oper} {Q:Exit → Act → World → Prop}
theorem Sim.splice {ts:List LT} {pl:Pl} {b cap0 e0 n1 c:Nat} {lcs:List LT} (g1:Sim sz I bs A w0 st1 a w L1 ts) (hl1:look L1 pl = some (.own b cap0 e0 n1 lcs)) (hfit':c + ts.length ≤ lcs.length) :
    ∃ L2,Sim sz I bs A w0 ⟨st1.sl.map (SV.kill pl.below),hputP st1.hp pl (LT.own b cap0 e0 n1 (lcs.take c ++ ts ++ lcs.drop (c + ts.length))).erase⟩ a (w.setCells b c (ts.map LT.val)) L2 [] ∧
      look L2 pl = some (.own b cap0 e0 n1 (lcs.take c ++ ts ++ lcs.drop (c + ts.length))) ∧ (storeCells ⟨b,c,none⟩ (ts.map LT.val)).run P w = .ok () (w.setCells b c (ts.map LT.val)) ∧
      Stays pl.below L1 L2:=by
  have hh:=g1.look_holds hl1
  have hh':=hh
  simp only [LT.holds] at hh'
  obtain ⟨⟨arr,q1,q2,q3⟩,q4,q5,q6,q7⟩:=hh'
  have harr:lcs.length ≤ arr.size:=by rw [q4]; exact Nat.le_trans (Nat.mul_le_mul_right _ q5) q2
  obtain ⟨arr',r1,r2,r3⟩:=setCells_heap (ts.map LT.val) c w arr q1
  have hkp:=setCells_kp b (ts.map LT.val) c w
  have hvl:(ts.map LT.val).length = ts.length:=by rw [List.length_map]
  have h1:∀ u ∈ ts.map LT.val,one u = true:=by
    intro u hu
    obtain ⟨d,hd,rfl⟩:=List.mem_map.1 hu
    exact LT.holds_one (g1.hholds d hd)
  have hbn:b ∉ ts.flatMap LT.blocks ∧ ∀ d ∈ lcs,b ∉ d.blocks:=by
    have hl1':=hl1
    unfold look at hl1'
    cases hi:L1 pl.id with
    | none => simp [hi] at hl1'
    | some r =>
      simp only [hi] at hl1'
      obtain ⟨rest,p1,_⟩:=LT.split _ r pl.path hl1'
      refine ⟨g1.hapart _ _ hi b (p1.mem_iff.2 (by simp [LT.blocks])),fun d hd hb => ?_⟩
      have:=p1.nodup_iff.1 (g1.nodup _ _ hi)
      simp only [LT.blocks,List.cons_append,List.nodup_cons,List.mem_append,not_or] at this
      exact this.1.1 (List.mem_flatMap.2 ⟨d,hd,hb⟩)
  have hIk:∀ k b',I k b' → (w.setCells b c (ts.map LT.val)).heap[b']? = w.heap[b']?:=fun k b' hb' => hkp.block b' (g1.immw k b' hb') (by
    intro hx
    simp only [List.mem_singleton] at hx
    subst hx
    have hne:=g1.imm_ne hb'
    have hl1':=hl1
    unfold look at hl1'
    cases hi:L1 pl.id with
    | none => simp [hi] at hl1'
    | some r =>
      simp only [hi] at hl1'
      obtain ⟨rest,p1,_⟩:=LT.split _ r pl.path hl1'
      rcases g1.own _ _ hi _ (p1.mem_iff.2 (by simp [LT.blocks]):b' ∈ r.blocks) with hq | hq
      · exact hne.1 hq
      · exact hne.2 hq)
  have hfr:∀ d:LT,d.holds sz w I → b ∉ d.blocks → d.holds sz (w.setCells b c (ts.map LT.val)) I:=fun d hd hb =>
    LT.holds_frame (fun _ _ hb => hb) hIk d hd fun b' hb' => hkp.block b' (LT.blocks_lt d hd b' hb') (by
      intro hx; simp only [List.mem_singleton] at hx; subst hx; exact hb hb')
  have hspl:=splice_at lcs ts c hfit'
  have hmem:∀ d ∈ lcs.take c ++ ts ++ lcs.drop (c + ts.length),d ∈ lcs ∨ d ∈ ts:=by
    intro d hd
    simp only [List.mem_append] at hd
    rcases hd with (hd | hd) | hd
    · exact .inl (List.mem_of_mem_take hd)
    · exact .inr hd
    · exact .inl (List.mem_of_mem_drop hd)
  have hup:=g1.update (hand':=[]) (t':=.own b cap0 e0 n1 (lcs.take c ++ ts ++ lcs.drop (c + ts.length))) hl1 [b] hkp (by intro x hx; simp only [List.mem_singleton] at hx; subst hx; exact .inl (by simp [LT.blocks])) rfl ?_ (by simp) ?_ ?_ pl.below ?_
  · obtain ⟨L2,s1,s2,s3⟩:=hup
    refine ⟨L2,s1,s2,?_,s3⟩
    have hstore:=run_storeCells_cells (P:=P) b c (ts.map LT.val) 0 w (fun j hj => by
      rw [List.length_map] at hj
      rw [cell_at q1,Array.getElem?_eq_getElem (by omega)]; rfl) (fun j hj => by simp [World.frozen?,q1]) (fun v hv => by rw [one_oneCell]; exact h1 v hv)
    exact hstore
  · simp only [LT.holds]
    refine ⟨⟨arr',r1,by omega,?_⟩,by rw [splice_len _ _ _ hfit']; exact q4,q5,q6,?_⟩
    · intro j d hd
      rw [hspl] at hd
      rw [r3]
      split at hd
      · rename_i hj
        rw [if_pos ⟨hj.1,by rw [hvl]; exact hj.2,by have:=hj.2; omega⟩]
        exact map_at rfl _ d hd
      · rename_i hj
        rw [if_neg (by rw [hvl]; omega)]
        exact q3 j d hd
    · intro d hd
      rcases hmem d hd with hd | hd
      · exact hfr d (q7 d hd) (hbn.2 d hd)
      · exact hfr d (g1.hholds d hd) fun hb => hbn.1 (List.mem_flatMap.2 ⟨d,hd,hb⟩)
  · simp only [List.flatMap_nil,List.append_nil,LT.blocks,List.nodup_cons]
    have hl1':=hl1
    unfold look at hl1'
    cases hi:L1 pl.id with
    | none => simp [hi] at hl1'
    | some r =>
      simp only [hi] at hl1'
      obtain ⟨rest,p1,_⟩:=LT.split _ r pl.path hl1'
      have hnd:=p1.nodup_iff.1 (g1.nodup _ _ hi)
      simp only [LT.blocks] at hnd
      have hnd1:=(List.nodup_append.1 hnd).1
      rw [List.nodup_cons] at hnd1
      refine ⟨fun hb => ?_,?_⟩
      · obtain ⟨d,hd,hbd⟩:=List.mem_flatMap.1 hb
        rcases hmem d hd with hd | hd
        · exact hbn.2 d hd hbd
        · exact hbn.1 (List.mem_flatMap.2 ⟨d,hd,hbd⟩)
      · simp only [List.flatMap_append]
        have e1:lcs.flatMap LT.blocks = (lcs.take c).flatMap LT.blocks ++ (lcs.drop c).flatMap LT.blocks:=by rw [← List.flatMap_append,List.take_append_drop]
        have sub1:((lcs.take c).flatMap LT.blocks ++ (lcs.drop (c + ts.length)).flatMap LT.blocks).Sublist (lcs.flatMap LT.blocks):=by
          rw [e1]
          refine List.Sublist.append_left ?_ _
          rw [← List.drop_drop]
          exact flat_sub _ (List.drop_sublist _ _)
        have n1':=hnd1.2.sublist sub1
        have dis:∀ x ∈ (lcs.take c).flatMap LT.blocks ++ (lcs.drop (c + ts.length)).flatMap LT.blocks,x ∉ ts.flatMap LT.blocks:=by
          intro x hx
          have hxl:=sub1.subset hx
          exact g1.hapart _ _ hi x (p1.mem_iff.2 (List.mem_append_left _ (by simp only [LT.blocks]; exact List.mem_cons_of_mem _ hxl)))
        have n2:(((lcs.take c).flatMap LT.blocks ++ (lcs.drop (c + ts.length)).flatMap LT.blocks) ++ ts.flatMap LT.blocks).Nodup :=
          List.nodup_append.2 ⟨n1',g1.hnodup,fun x hx y hy hxy => dis x hx (hxy ▸ hy)⟩
        refine (List.Perm.nodup_iff ?_).1 n2
        rw [List.append_assoc,List.append_assoc]
        exact List.perm_append_comm.append_left _
  · intro x hx
    simp only [List.flatMap_nil,List.append_nil,LT.blocks,List.mem_cons] at hx
    rcases hx with rfl | hx
    · exact .inl (by simp [LT.blocks])
    · obtain ⟨d,hd,hbd⟩:=List.mem_flatMap.1 hx
      rcases hmem d hd with hd | hd
      · exact .inl (by simp only [LT.blocks]; exact List.mem_cons_of_mem _ (List.mem_flatMap.2 ⟨d,hd,hbd⟩))
      · exact .inr (.inl (List.mem_flatMap.2 ⟨d,hd,hbd⟩))
  · intro r node hf hrf hnode
    cases r with
    | nil =>
      simp only [LT.get,Option.some.injEq] at hnode
      subst hnode
      exact ⟨_,rfl,n1,_,rfl,by rw [splice_len _ _ _ hfit']; exact Nat.le_refl _⟩
    | cons j r =>
      rw [below_cons] at hf
      cases hf

/-- Cells with nothing of one's own in them, as trees. -/
theorem Sim.flats (h:Sim sz I bs A w0 st a w L []) {ts:List LT} (hh:∀ t ∈ ts,t.holds sz w I ∧ t.blocks = []):Sim sz I bs A w0 st a w L ts:=by
  have hb:ts.flatMap LT.blocks = []:=List.flatMap_eq_nil_iff.2 fun t ht => (hh t ht).2
  exact h.rehand (fun t ht => (hh t ht).1) (by rw [hb]; exact List.nodup_nil) (by rw [hb]; simp)
end

/-! ### clear -/
def stClear (P:Program) (st:St) (o:Oper):Option St:=match o.op with
  | .call ⟨.builtin .clear,args,tys⟩ => match args.toList,tys.toList with
    | [x],[t] => match telem P t,opv st x with
      | some e,some s => match s with
        | .ref pl off len => match lookP st.hp pl,tzero P e with
          | some (.sl 0 e0 n cs),some z => if len = 0 then some (st.set o.dst (.tup [])) else
              if e0 = e ∧ z.cells.size = tsz P e ∧ 0 < tsz P e ∧ z.cells.toList.all one = true ∧ off + len * tsz P e ≤ cs.length then
                some ((⟨st.sl.map (SV.kill pl.below),hputP st.hp pl (.sl 0 e0 n (cs.take off ++ (List.replicate len (z.cells.toList.map PT.ofV)).flatten ++ cs.drop (off + len * tsz P e)))⟩:St).set o.dst (.tup [])) else none
          | _,_ => none
        | .t (.sl 0 _ 0 []) => some (st.set o.dst (.tup []))
        | _ => none
      | _,_ => none
    | _,_ => none
  | _ => none
theorem zeroCells_toList (z:Array Value) (n:Nat):(Builtin.zeroCells z n).toList = (List.replicate n z.toList).flatten:=by
  apply List.ext_getElem?
  intro j
  rw [rep_at]
  simp only [Builtin.zeroCells,Array.toList_map,Array.toList_range,List.getElem?_map,Array.length_toList]
  by_cases hj:j < n * z.size
  · rw [List.getElem?_range hj,if_pos hj]
    have hz:0 < z.size:=by
      rcases Nat.eq_zero_or_pos z.size with h | h
      · rw [h] at hj; simp at hj
      · exact h
    have hm:j % z.size < z.size:=Nat.mod_lt _ hz
    simp [hm]
  · rw [if_neg hj,List.getElem?_eq_none (by simpa using hj)]
    rfl
section
variable {sz:Nat → Nat} {I:Nat → Nat → Prop} {bs:List Nat} {A:AD} {w0 w w':World} {st st' st1:St} {a:Act} {L L0 L1:Loc} {hand hand':List LT} {P:Program} {o:Oper} {Q:Exit → Act → World → Prop}
theorem run_clear0 {t e ty:Nat} (ht:telem P t = some e) (ad:Option Addr) (cap:Nat):(Builtin.clear_ #[t] ty #[.slice ad 0 cap]).run P w = .ok (.tuple #[]) w:=by
  cases ad <;> simp [Builtin.clear_,run_underlying (telem_und ht),Result.andThen]
theorem zeros_leaf (z:List Value) (hz:z.all one = true) (n:Nat):∃ ts:List LT,ts.map LT.val = (List.replicate n z).flatten ∧ ts.map LT.erase = (List.replicate n (z.map PT.ofV)).flatten ∧ ts.length = n * z.length ∧ ∀ t ∈ ts,t.holds sz w I ∧ t.blocks = []:=by
  refine ⟨((List.replicate n z).flatten).map fun v => .leaf v (PT.ofV v),by simp [Function.comp_def,LT.val],?_,by simp,?_⟩
  · rw [List.map_map,show (LT.erase ∘ fun v => LT.leaf v (PT.ofV v)) = PT.ofV from funext fun v => by simp [LT.erase],List.map_flatten,List.map_replicate]
  · intro t ht
    obtain ⟨v,hv,rfl⟩:=List.mem_map.1 ht
    obtain ⟨l,hl,hvl⟩:=List.mem_flatten.1 hv
    have:=(List.mem_replicate.1 hl).2
    subst this
    exact ⟨by simp only [LT.holds]; exact ⟨Im.ofV v,List.all_eq_true.1 hz v hvl⟩,by simp [LT.blocks]⟩
theorem stClear_sound (h:Sim (tsz P) I bs A w0 st a w L []) (hst:stClear P st o = some st'):o.wp P a w (fun a' w' => ∃ L',Sim (tsz P) I bs A w0 st' a' w' L' []) Q:=by
  unfold stClear at hst
  split at hst
  · rename_i args tys ho
    split at hst
    · rename_i x t hargs htys
      have hargs':args = #[x]:=by cases args; simp_all
      have htys':tys = #[t]:=by cases tys; simp_all
      subst hargs' htys'
      split at hst
      · rename_i e s he hx
        have hv:=opv_sound h hx
        have key:∀ {v:Value} {w':World} {L':Loc} {st2:St},(Builtin.clear_ #[t] o.type #[a.eval x]).run P w = .ok v w' → v = .tuple #[] → Sim (tsz P) I bs A w0 st2 a w' L' [] → st2.set o.dst (.tup []) = st' → o.wp P a w (fun a' w' => ∃ L',Sim (tsz P) I bs A w0 st' a' w' L' []) Q:=by
          intro v w' L' st2 hr hv2 hsim hst2
          subst hv2 hst2
          refine wp_val (v:=.tuple #[]) (w':=w') ?_ ⟨L',hsim.setS (st:=st2) o.dst (v:=.tuple #[]) (s:=.tup []) (by simp [SVR,SVRL])⟩
          unfold execOp
          rw [ho]
          simp only [resolve,invoke,builtin,Sem.run_bind,Sem.run_pure,Result.andThen_ok,List.map_toArray,List.map_cons,List.map_nil]
          rw [hr]
          rfl
        split at hst
        · rename_i pl off len
          split at hst
          · rename_i e0 n cs z hlp hz
            simp only [SVR] at hv
            split at hst
            · rename_i h0
              cases hst
              subst h0
              rcases hv with ⟨b,cap0,e1,n1,lcs,o1,cap,hl,hval,_⟩ | ⟨e1,hl,_,_,ad,hval⟩
              · exact key (by rw [hval]; exact run_clear0 he _ _) rfl h rfl
              · exact key (by rw [hval]; exact run_clear0 he _ _) rfl h rfl
            · rename_i h0
              split at hst
              · rename_i hc
                obtain ⟨rfl,c2,c3,c4,c5⟩:=hc
                cases hst
                rw [h.lookP,Option.map_eq_some_iff] at hlp
                obtain ⟨node,hnode,her⟩:=hlp
                rcases hv with ⟨b,cap0,e1,n1,lcs,o1,cap,hl,hval,hco,hle,hlen,hcap⟩ | ⟨e1,hl,_,hlen0,ad,hval⟩
                · rw [hl] at hnode
                  cases hnode
                  simp only [LT.erase,PT.sl.injEq,true_and] at her
                  obtain ⟨rfl,rfl,rfl⟩:=her
                  have hoo:o1 = off:=by
                    rcases hco with hco | hco
                    · omega
                    · exact hco
                  subst hoo
                  obtain ⟨ts,t1,t2,t3,t4⟩:=zeros_leaf (sz:=tsz P) (w:=w) (I:=I) z.cells.toList c4 len
                  have t3:ts.length = len * tsz P e1:=by rw [t3,Array.length_toList,c2]
                  have g1:=h.flats t4
                  rw [List.length_map] at c5
                  obtain ⟨L2,s1,s2,s3,s4⟩:=Sim.splice (P:=P) g1 hl (c:=o1) (by rw [t3]; exact c5)
                  rw [t1] at s3
                  refine key (v:=.tuple #[]) (w':=w.setCells b o1 (ts.map LT.val)) ?_ rfl s1 ?_
                  · rw [hval,t1]
                    have hzt:=zeroCells_toList z.cells len
                    have hi:∃ i,P.info? e1 = some i ∧ i.zero = some z:=by
                      obtain ⟨i,hi⟩:=tsz_info c3
                      unfold tzero at hz
                      rw [hi] at hz
                      exact ⟨i,hi,hz⟩
                    obtain ⟨i,hi,hzi⟩:=hi
                    obtain ⟨k,rfl⟩:∃ k,len = k + 1:=⟨len - 1,by omega⟩
                    simp [-Value.cells,Builtin.clear_,run_underlying (telem_und he),zeroValue,typeInfo,hi,hzi,Result.andThen,hzt]
                    rw [s3]
                  · rw [LT.erase]
                    simp only [List.map_append,List.map_take,List.map_drop,t2,t3]
                · omega
              · simp at hst
          · simp at hst
        · rename_i e0
          cases hst
          simp only [SVR,Im] at hv
          obtain ⟨_,_,ad,hval⟩:=hv
          exact key (by rw [hval]; exact run_clear0 he _ _) rfl h rfl
        · simp at hst
      · simp at hst
    · simp at hst
  · simp at hst
end

end Go.V

namespace Go.V
open Go.RowKit
set_option linter.unusedSimpArgs false
set_option linter.unusedVariables false

/-! ### slots, told one by one -/
def slGet:List (Nat × SV) → Nat → SV
  | [],_ => .junk
  | (i,s) :: l,j => if j = i then s else slGet l j
def slOf (n:Nat) (l:List (Nat × SV)):List SV:=(List.range n).map (slGet l)
theorem slGet_nil (j:Nat):slGet [] j = .junk:=rfl
theorem slGet_cons (i:Nat) (s:SV) (l:List (Nat × SV)) (j:Nat):slGet ((i,s) :: l) j = if j = i then s else slGet l j:=rfl
theorem slOf_len (n:Nat) (l:List (Nat × SV)):(slOf n l).length = n:=by simp [slOf]
theorem slOf_at (n:Nat) (l:List (Nat × SV)) (j:Nat):(slOf n l)[j]? = if j < n then some (slGet l j) else none:=by
  unfold slOf
  rw [List.getElem?_map]
  by_cases h:j < n
  · simp [h]
  · simp [h,Nat.le_of_not_lt h]
theorem slOf_ext {n:Nat} {ss:List SV} {l:List (Nat × SV)} (hl:ss.length = n) (h:∀ j,j < n → ss[j]? = some (slGet l j)):ss = slOf n l:=by
  apply List.ext_getElem?
  intro j
  rw [slOf_at]
  split
  · exact h j ‹_›
  · rw [List.getElem?_eq_none (by omega)]
theorem slOf_set (n:Nat) (l:List (Nat × SV)) (j:Nat) (s:SV):(slOf n l).set j s = slOf n ((j,s) :: l):=by
  apply slOf_ext (by simp [slOf_len])
  intro k hk
  by_cases h:j = k
  · subst h; rw [List.getElem?_set_self (by simpa [slOf_len] using hk)]; simp [slGet]
  · rw [List.getElem?_set_ne h,slOf_at,if_pos hk]; simp [slGet,Ne.symm h]
def killL (f:Pl → Bool):List (Nat × SV) → List (Nat × SV)
  | [] => []
  | (i,s) :: l => (i,s.kill f) :: killL f l
theorem slGet_kill (f:Pl → Bool):∀ (l:List (Nat × SV)) (j:Nat),slGet (killL f l) j = (slGet l j).kill f
  | [],j => by simp [killL,slGet,SV.kill,SV.uses]
  | (i,s) :: l,j => by
    simp only [killL,slGet]
    split
    · rfl
    · exact slGet_kill f l j
theorem slOf_kill (n:Nat) (f:Pl → Bool) (l:List (Nat × SV)):(slOf n l).map (SV.kill f) = slOf n (killL f l):=by
  apply slOf_ext (by simp [slOf_len])
  intro k hk
  rw [List.getElem?_map,slOf_at,if_pos hk,slGet_kill]
  rfl
def slPick (l:List (Nat × SV)):List Nat → List (Nat × SV)
  | [] => []
  | k :: ks => (k,slGet l k) :: slPick l ks
theorem slGet_pick (l:List (Nat × SV)):∀ (ks:List Nat) (j:Nat),slGet (slPick l ks) j = if ks.contains j = true then slGet l j else .junk
  | [],j => by simp [slPick,slGet]
  | k :: ks,j => by
    simp only [slPick,slGet,slGet_pick l ks j,List.contains_cons,Bool.or_eq_true,beq_iff_eq]
    by_cases h:j = k
    · subst h; simp
    · simp [h]
theorem keepSl_at (keep:List Nat):∀ (ss:List SV) (i k:Nat),(keepSl keep i ss)[k]? = (ss[k]?).map fun s => if keep.contains (i + k) = true then s else .junk
  | [],i,k => by simp [keepSl]
  | s :: ss,i,0 => by simp [keepSl]
  | s :: ss,i,k + 1 => by
    have:=keepSl_at keep ss (i + 1) k
    simp only [keepSl,List.getElem?_cons_succ]
    rw [this,show i + 1 + k = i + (k + 1) by omega]
theorem keepSl_len (keep:List Nat):∀ (ss:List SV) (i:Nat),(keepSl keep i ss).length = ss.length
  | [],i => rfl
  | s :: ss,i => by simp [keepSl,keepSl_len keep ss]
theorem slOf_keep (n:Nat) (keep:List Nat) (l:List (Nat × SV)):keepSl keep 0 (slOf n l) = slOf n (slPick l keep):=by
  apply slOf_ext (by simp [slOf_len,keepSl_len])
  intro k hk
  rw [keepSl_at,slOf_at,if_pos hk,slGet_pick,Nat.zero_add]
  rfl
def restrL (looks D:List Nat) (F:Id → Bool):List (Nat × SV) → List (Nat × SV)
  | [] => []
  | (t,s) :: l => (t,restrOne looks D F t s) :: restrL looks D F l
theorem slGet_restr (looks D:List Nat) (F:Id → Bool):∀ (l:List (Nat × SV)) (j:Nat),slGet (restrL looks D F l) j = restrOne looks D F j (slGet l j)
  | [],j => by simp [restrL,slGet,restrOne]
  | (i,s) :: l,j => by
    simp only [restrL,slGet]
    by_cases h:j = i
    · subst h; simp
    · simp only [if_neg h]; exact slGet_restr looks D F l j
theorem slOf_restr (n:Nat) (looks D:List Nat) (F:Id → Bool) (l:List (Nat × SV)):restrSl looks D F 0 (slOf n l) = slOf n (restrL looks D F l):=by
  apply slOf_ext (by simp [slOf_len,restrSl_len])
  intro k hk
  rw [restrSl_at,slOf_at,if_pos hk,slGet_restr,Nat.zero_add]
  rfl
def mergeN (looks D:List Nat) (F W:Id → Bool) (t:Nat) (x y:SV):SV:=if (keepB looks D F t x && !x.inert) = true then (if (y.inert || y.isTup) = true then .junk else y.clean W) else if x.touch W = true then x.cut W else x
def mergeR (looks D:List Nat) (F W:Id → Bool) (r:List (Nat × SV)):List (Nat × SV) → List (Nat × SV)
  | [] => []
  | (t,x) :: l => (t,mergeN looks D F W t x (slGet r t)) :: mergeR looks D F W r l
def mergeL (looks D:List Nat) (F V W:Id → Bool) (p:Bool) (dst:Option Nat) (l r:List (Nat × SV)):List (Nat × SV) :=
  match dst with
  | some d => (d,(slGet r d).clean V) :: (if p = true then l else mergeR looks D F W r l)
  | none => if p = true then l else mergeR looks D F W r l
theorem mergeN_junk (looks D:List Nat) (F W:Id → Bool) (t:Nat) (y:SV):mergeN looks D F W t .junk y = .junk:=by
  simp [mergeN,SV.inert,SV.touch,SV.uses]
theorem slGet_mergeR (looks D:List Nat) (F W:Id → Bool) (r:List (Nat × SV)):∀ (l:List (Nat × SV)) (j:Nat),slGet (mergeR looks D F W r l) j = mergeN looks D F W j (slGet l j) (slGet r j)
  | [],j => by simp [mergeR,slGet,mergeN_junk]
  | (i,s) :: l,j => by
    simp only [mergeR,slGet]
    by_cases h:j = i
    · subst h; simp
    · simp only [if_neg h]; exact slGet_mergeR looks D F W r l j
theorem slOf_merge (n:Nat) (looks D:List Nat) (F V W:Id → Bool) (p:Bool) (dst:Option Nat) (l r:List (Nat × SV)):mergeSl looks D F V W p p dst 0 (slOf n l) (slOf n r) = slOf n (mergeL looks D F V W p dst l r):=by
  apply slOf_ext (by simp [slOf_len,mergeSl_len])
  intro k hk
  have hg:(slOf n r).getD k .junk = slGet r k:=by rw [List.getD_eq_getElem?_getD,slOf_at,if_pos hk]; rfl
  rw [mergeSl_at,slOf_at,if_pos hk,Nat.zero_add,hg]
  simp only [Option.map_some,Option.some.injEq]
  unfold mergeOne mergeL
  cases dst with
  | none =>
    cases p
    · simp only [reduceCtorEq,if_false,Bool.not_false,Bool.true_and,Bool.false_eq_true]
      rw [slGet_mergeR]
      rfl
    · simp
  | some d =>
    by_cases h:k = d
    · subst h; simp [slGet]
    · have hd:¬ some d = some k:=fun e => h (by cases e; rfl)
      simp only [if_neg hd,slGet,if_neg h]
      cases p
      · simp only [Bool.not_false,Bool.true_and,Bool.false_eq_true,if_false]
        rw [slGet_mergeR]
        rfl
      · simp
def touchR (W:Id → Bool):List (Nat × SV) → List (Nat × SV)
  | [] => []
  | (t,x) :: l => (t,if x.touch W = true then x.cut W else x) :: touchR W l
def mergeQ (V W:Id → Bool) (dst:Option Nat) (l r:List (Nat × SV)):List (Nat × SV):=match dst with
  | some d => (d,(slGet r d).clean V) :: touchR W l
  | none => touchR W l
theorem slGet_touchR (W:Id → Bool):∀ (l:List (Nat × SV)) (j:Nat),slGet (touchR W l) j = if (slGet l j).touch W = true then (slGet l j).cut W else slGet l j
  | [],j => by simp [touchR,slGet]
  | (i,s) :: l,j => by
    simp only [touchR,slGet]
    by_cases h:j = i
    · subst h; simp only [if_true]
    · simp only [if_neg h]; exact slGet_touchR W l j
theorem slOf_mergeQ (n:Nat) (looks D:List Nat) (F V W:Id → Bool) (dst:Option Nat) (l r:List (Nat × SV)):mergeSl looks D F V W true false dst 0 (slOf n l) (slOf n r) = slOf n (mergeQ V W dst l r):=by
  apply slOf_ext (by simp [slOf_len,mergeSl_len])
  intro k hk
  have hg:(slOf n r).getD k .junk = slGet r k:=by rw [List.getD_eq_getElem?_getD,slOf_at,if_pos hk]; rfl
  rw [mergeSl_at,slOf_at,if_pos hk,Nat.zero_add,hg]
  simp only [Option.map_some,Option.some.injEq]
  unfold mergeOne mergeQ
  cases dst with
  | none =>
    simp only [reduceCtorEq,if_false,Bool.not_true,Bool.false_and,Bool.not_false,Bool.true_and,Bool.false_eq_true]
    rw [slGet_touchR]
  | some d =>
    by_cases h:k = d
    · subst h; simp [slGet]
    · have hd:¬ some d = some k:=fun e => h (by cases e; rfl)
      simp only [if_neg hd,slGet,if_neg h,Bool.not_true,Bool.false_and,Bool.not_false,Bool.true_and,Bool.false_eq_true,if_false]
      rw [slGet_touchR]
def entL:Nat → List PV → List (Nat × SV)
  | _,[] => []
  | i,x :: xs => (i,entrySV i x) :: entL (i + 1) xs
theorem slGet_ent:∀ (args:List PV) (i j:Nat),slGet (entL i args) j = if i ≤ j then ((entrySVs i args)[j - i]?).getD .junk else .junk
  | [],i,j => by simp [entL,entrySVs,slGet]
  | x :: xs,i,j => by
    simp only [entL,entrySVs,slGet]
    by_cases h:j = i
    · subst h; simp
    · rw [if_neg h,slGet_ent xs (i + 1) j]
      by_cases h2:i ≤ j
      · rw [if_pos h2,if_pos (by omega),show j - i = (j - (i + 1)) + 1 by omega,List.getElem?_cons_succ]
      · rw [if_neg h2,if_neg (by omega)]
theorem entrySVs_len:∀ (args:List PV) (i:Nat),(entrySVs i args).length = args.length
  | [],_ => rfl
  | x :: xs,i => by simp [entrySVs,entrySVs_len xs]

section
variable {sz:Nat → Nat} {I I':Nat → Nat → Prop} {bs:List Nat} {A:AD} {w0 w w':World} {st st' st1 st2:St} {a:Act} {L L' L0 L1 L2:Loc} {hand hand':List LT} {P:Program} {o:Oper} {Q:Exit → St → Prop} {E:Env} {c:Code}
theorem SVRL.weak {vs:List Value} {ss ss':List SV} (h:SVRL sz L w I vs ss) (hl:ss'.length = ss.length) (hw:∀ (j:Nat) s,ss'[j]? = some s → s = .junk ∨ ss[j]? = some s):SVRL sz L w I vs ss':=by
  refine SVRL.of_at (by rw [h.len,hl]) ?_
  intro i v s hv hs
  rcases hw i s hs with rfl | hs'
  · simp [SVR]
  · obtain ⟨v',hv',hr⟩:=h.at_ i s hs'
    rw [hv] at hv'
    cases hv'
    exact hr
theorem ewp_weak {ss ss':List SV} {hp:Id → Option PT} (hl:ss'.length = ss.length) (hw:∀ (j:Nat) s,ss'[j]? = some s → s = .junk ∨ ss[j]? = some s) (h:ewp P c Q ⟨ss',hp⟩):ewp P c Q ⟨ss,hp⟩:=by
  intro I bs A w0 a w L hs
  exact h I bs A w0 a w L { hs with slots:=hs.slots.weak hl hw,er:=hs.er }
theorem ewp_entry {args:List PV} {n:Nat} (hle:args.length ≤ n) (h:ewp P c Q ⟨slOf n (entL 0 args),ofL (argL 0 args)⟩):ewp P c Q (entrySt args n):=by
  rw [entrySt_ofL]
  refine ewp_weak ?_ ?_ h
  · simp [slOf_len,entrySVs_len]; omega
  · intro j s hs
    rw [slOf_at] at hs
    split at hs
    · simp only [Option.some.injEq] at hs
      rw [slGet_ent,if_pos (Nat.zero_le _),Nat.sub_zero] at hs
      cases hj:(entrySVs 0 args)[j]? with
      | none => rw [hj] at hs; exact .inl hs.symm
      | some s' =>
        rw [hj] at hs
        simp only [Option.getD_some] at hs
        subst hs
        right
        rw [List.getElem?_append_left (List.getElem?_eq_some_iff.1 hj).1]
        exact hj
    · simp at hs
end

/-! ### a call, as far as its callee's word -/
structure CP where
  f:FuncId
  pvs:List PV
  ats:List AT
  ks:List Pl
  st1:St
def mdGet:List (FuncId × List Nat) → FuncId → List Nat
  | [],_ => []
  | (g,m) :: l,f => if f = g then m else mdGet l f
def prepCall (sz:Nat → Nat) (M:List (FuncId × List Nat)) (st:St) (o:Oper):Option CP:=match o.op with
  | .call c => match c.callee with
    | .value x => match calleeOf st x with
      | some (g,caps) => match opvs st c.args.toList with
        | some ss => match takeArgs sz st [] (zipModes (ss ++ caps) (mdGet M g)) with
          | some (ats,ks,st1) => match lendArgs sz st1 ks ats with
            | some pvs => some ⟨g,pvs,ats,ks,st1⟩
            | none => none
          | none => none
        | none => none
      | none => none
    | _ => none
  | _ => none
def finCall (r i:Nat) (d:Option Tmp) (st:St) (ats:List AT) (ks:List Pl) (st1:St) (res:PV) (outs:List PV):Option St :=
  if (!ats.any AT.lendy || (PT.noTmpL res.cells && PT.noTmpL (ownCells ats outs))) = true then match backsOf ats outs with
    | none => none
    | some bl => match putBack st1.hp bl with
      | none => none
      | some hp2 => some ((setRoots r i 0 res.cells ⟨st.sl.map (SV.kill fun q => !backHas bl q && ks.any (·.pre q)),hp2⟩).set d (resShape r i res))
  else none
def Inv (P:Program) (f:FuncId) (pvs:List PV) (fin:PV → List PV → Option St) (K:St → Prop):Prop:=∃ res outs,CallOK P f pvs res outs ∧ onSome (fin res outs) K
def onPrep (P:Program) (r i:Nat) (d:Option Tmp) (st:St) (c:Option CP) (K:St → Prop):Prop:=match c with
  | some c => Inv P c.f c.pvs (finCall r i d st c.ats c.ks c.st1) K
  | none => False
theorem Inv_intro {P:Program} {f:FuncId} {pvs outs:List PV} {res:PV} {fin:PV → List PV → Option St} {K:St → Prop} (h:CallOK P f pvs res outs) (h2:onSome (fin res outs) K):Inv P f pvs fin K:=⟨res,outs,h,h2⟩
theorem Inv_congr {P:Program} {f:FuncId} {pvs pvs':List PV} {fin:PV → List PV → Option St} {K:St → Prop} (h:pvs = pvs'):Inv P f pvs fin K = Inv P f pvs' fin K:=by rw [h]
theorem onPrep_congr {P:Program} {r i:Nat} {d:Option Tmp} {st:St} {c c':Option CP} {K:St → Prop} (h:c = c'):onPrep P r i d st c K = onPrep P r i d st c' K:=by rw [h]
theorem onPrep_some {P:Program} {r i:Nat} {d:Option Tmp} {st:St} {f:FuncId} {pvs:List PV} {ats:List AT} {ks:List Pl} {st1:St} {K:St → Prop}:onPrep P r i d st (some ⟨f,pvs,ats,ks,st1⟩) K = Inv P f pvs (finCall r i d st ats ks st1) K:=rfl

def isCall (o:Oper):Bool:=match o.op with
  | .call c => match c.callee with
    | .builtin _ => false
    | _ => true
  | _ => false
def E0:Env:=⟨fun _ => [],fun _ _ => none⟩
theorem E0_ok (P:Program):EnvOK P E0:=fun _ _ _ _ h => by simp [E0] at h
def stepR (P:Program) (M:List (FuncId × List Nat)) (r i:Nat) (o:Oper) (K:St → Prop) (st:St):Prop :=
  if isCall o = true then onPrep P r i o.dst st (prepCall (tsz P) M st o) K else
  if (nilOp o).isSome = true then nilCmp P st o K else onSome (oels (stConv P st o) (oels (stClear P st o) (oels (stAppendR P r i st o) (stStep E0 P r i st o)))) K
def gslot (x:Option SV) (want:Bool):Option (Bool × Bool):=match x with
  | some (.t (.raw (.bool b))) => some (b,want)
  | some (.t (.raw _)) => some (true,false)
  | _ => none
theorem gslot_b {b w:Bool}:gslot (some (.t (.raw (.bool b)))) w = some (b,w):=by unfold gslot; rfl
theorem gslot_u {w:Bool}:gslot (some (.t (.raw undef))) w = some (true,false):=by unfold gslot; rfl
/-- What a guard hangs on, and what it wants. -/
def gcond (ops:Array Oper) (st:St) (o:Oper):Option (Bool × Bool):=match o.guard with
  | none => some (true,true)
  | some (j,want) => match (ops[j]?).bind (·.dst) with
    | none => some (true,false)
    | some d => gslot (st.sl[d]?) want
theorem gcond_eq (ops:Array Oper) (st:St) (o:Oper):guardSt ops st o = (gcond ops st o).map fun x => x.1 == x.2:=by
  unfold guardSt gcond
  cases o.guard with
  | none => rfl
  | some x =>
    obtain ⟨j,want⟩:=x
    simp only
    cases (ops[j]?).bind (·.dst) with
    | none => rfl
    | some d =>
      simp only
      cases st.sl[d]? with
      | none => rfl
      | some s =>
        cases s with
        | t p =>
          cases p with
          | raw v => cases v <;> rfl
          | _ => rfl
        | _ => rfl
def grd (g:Option (Bool × Bool)) (x y:Prop):Prop:=match g with
  | some (b,w) => (b = w → x) ∧ (b = (!w) → y)
  | none => False
def runR (P:Program) (M:List (FuncId × List Nat)) (r:Nat) (ops:Array Oper):Nat → List Oper → (St → Prop) → St → Prop
  | _,[],K,st => K st
  | i,o :: rest,K,st => grd (gcond ops st o) (app (stepR P M r i o (runR P M r ops (i + 1) rest K)) st) (app (runR P M r ops (i + 1) rest K) (st.set o.dst (.t (.raw undef))))
theorem runR_nil {P:Program} {M:List (FuncId × List Nat)} {r:Nat} {ops:Array Oper} {i:Nat} {K:St → Prop} {st:St}:runR P M r ops i [] K st = K st:=rfl
theorem runR_cons {P:Program} {M:List (FuncId × List Nat)} {r:Nat} {ops:Array Oper} {i:Nat} {K:St → Prop} {st:St} {o:Oper} {rest:List Oper}:runR P M r ops i (o :: rest) K st = grd (gcond ops st o) (app (stepR P M r i o (runR P M r ops (i + 1) rest K)) st) (app (runR P M r ops (i + 1) rest K) (st.set o.dst (.t (.raw undef)))):=rfl
theorem grd_congr {g g':Option (Bool × Bool)} {x y:Prop} (h:g = g'):grd g x y = grd g' x y:=by rw [h]
theorem grd_tt {f:St → Prop} {st:St} {y:Prop}:grd (some (true,true)) (app f st) y = f st:=by simp [grd,app]
theorem grd_ff {f:St → Prop} {st:St} {y:Prop}:grd (some (false,false)) (app f st) y = f st:=by simp [grd,app]
theorem grd_tf {f:St → Prop} {st:St} {x:Prop}:grd (some (true,false)) x (app f st) = f st:=by simp [grd,app]
theorem grd_ft {f:St → Prop} {st:St} {x:Prop}:grd (some (false,true)) x (app f st) = f st:=by simp [grd,app]
/-- A guard that wants what is true. -/
theorem gT {b:Bool} {f g:St → Prop} {st st':St} (h1:b = true → f st) (h2:b = false → g st'):grd (some (b,true)) (app f st) (app g st'):=⟨h1,h2⟩
theorem stepR_congr {P:Program} {M:List (FuncId × List Nat)} {r i:Nat} {o:Oper} {K:St → Prop} {st st':St} (h:st = st'):stepR P M r i o K st = stepR P M r i o K st':=by rw [h]
theorem runR_congr {P:Program} {M:List (FuncId × List Nat)} {r:Nat} {ops:Array Oper} {i:Nat} {l:List Oper} {K:St → Prop} {st st':St} (h:st = st'):runR P M r ops i l K st = runR P M r ops i l K st':=by rw [h]

def ewr (P:Program) (M:List (FuncId × List Nat)):Code → (Exit → St → Prop) → St → Prop
  | .skip,Q,st => Q .normal st
  | .seq a b,Q,st => ewr P M a (eThen (ewr P M b Q) Q) st
  | .cond c x y,Q,st => brn (opv st c) (app (ewr P M x Q) st) (app (ewr P M y Q) st)
  | .block id c,Q,st => ewr P M c (eBlock id Q) st
  | .exit id,Q,st => Q (.exit id) st
  | .ret,Q,st => Q .ret st
  | .region id ops false,Q,st => runR P M id ops 0 ops.toList (Q .normal) st
  | .loop c,Q,st => ewp P (.loop c) Q st
  | .region id ops true,Q,st => ewp P (.region id ops true) Q st
  | _,_,_ => False
section
variable {P:Program} {M:List (FuncId × List Nat)} {Q:Exit → St → Prop} {K:St → Prop} {st st':St} {a b:Code} {c:Operand} {id:Nat} {ops:Array Oper}
theorem ewr_skip:ewr P M .skip Q st = Q .normal st:=rfl
theorem ewr_seq:ewr P M (.seq a b) Q st = ewr P M a (eThen (ewr P M b Q) Q) st:=rfl
theorem ewr_cond:ewr P M (.cond c a b) Q st = brn (opv st c) (app (ewr P M a Q) st) (app (ewr P M b Q) st):=rfl
theorem ewr_block:ewr P M (.block id a) Q st = ewr P M a (eBlock id Q) st:=rfl
theorem ewr_exit:ewr P M (.exit id) Q st = Q (.exit id) st:=rfl
theorem ewr_ret:ewr P M .ret Q st = Q .ret st:=rfl
theorem ewr_region:ewr P M (.region id ops false) Q st = runR P M id ops 0 ops.toList (Q .normal) st:=rfl
theorem ewr_draw:ewr P M (.region id ops true) Q st = ewp P (.region id ops true) Q st:=rfl
theorem ewr_loop:ewr P M (.loop a) Q st = ewp P (.loop a) Q st:=rfl
theorem ewr_congr (h:st = st'):ewr P M a Q st = ewr P M a Q st':=by rw [h]
theorem ewp_congr (h:st = st'):ewp P a Q st = ewp P a Q st':=by rw [h]
end

section
variable {sz:Nat → Nat} {I I':Nat → Nat → Prop} {bs:List Nat} {A:AD} {w0 w w':World} {st st' st1 st2:St} {a:Act} {L L' L0 L1 L2:Loc} {hand hand':List LT} {P:Program} {o:Oper} {Q:Exit → Act → World → Prop} {E:Env} {M:List (FuncId × List Nat)} {K:St → Prop}
open Classical in
noncomputable def oneEnv (M:List (FuncId × List Nat)) (f:FuncId) (pvs:List PV) (r:PV × List PV):Env:=⟨mdGet M,fun f' as => if f' = f ∧ as = pvs then some r else none⟩
theorem oneEnv_ok {f:FuncId} {pvs outs:List PV} {res:PV} (h:CallOK P f pvs res outs):EnvOK P (oneEnv M f pvs (res,outs)):=by
  intro f' as r' o' hc
  simp only [oneEnv] at hc
  split at hc
  · rename_i he
    obtain ⟨rfl,rfl⟩:=he
    cases hc
    exact h
  · simp at hc
theorem prep_sound {r i:Nat} (h:onPrep P r i o.dst st (prepCall (tsz P) M st o) K):∃ E st',EnvOK P E ∧ stCall E P r i st o = some st' ∧ K st':=by
  unfold onPrep at h
  split at h
  · rename_i c hc
    obtain ⟨res,outs,hok,hfin⟩:=h
    unfold onSome at hfin
    split at hfin
    · rename_i st' hst
      refine ⟨oneEnv M c.f c.pvs (res,outs),st',oneEnv_ok hok,?_,hfin⟩
      unfold prepCall at hc
      split at hc
      · rename_i cl ho
        split at hc
        · rename_i x hx
          split at hc
          · rename_i g caps hcal
            split at hc
            · rename_i ss hss
              split at hc
              · rename_i ats ks st1 hta
                split at hc
                · rename_i pvs hla
                  cases hc
                  simp only at hok hst
                  unfold finCall at hst
                  unfold stCall
                  rw [ho]
                  simp only [hx,hcal,hss]
                  unfold stInvoke
                  have hm:(oneEnv M g pvs (res,outs)).mode g = mdGet M g:=rfl
                  have hcc:(oneEnv M g pvs (res,outs)).call g pvs = some (res,outs):=by simp [oneEnv]
                  rw [hm,hta]
                  simp only [hla,hcc]
                  split at hst
                  · rename_i hcond
                    rw [if_pos hcond]
                    split at hst
                    · simp at hst
                    · rename_i bl hbl
                      split at hst
                      · simp at hst
                      · rename_i hp2 hpb
                        simp only [Option.some.injEq] at hst
                        rw [hbl]
                        simp only [hpb,hst]
                  · simp at hst
                · simp at hc
              · simp at hc
            · simp at hc
          · simp at hc
        · simp at hc
      · simp at hc
    · exact hfin.elim
  · exact h.elim
theorem stepR_sound (h:Sim (tsz P) I bs A w0 st a w L []) (h0:tsz P nilE = 0) {r i:Nat} (hst:stepR P M r i o K st):o.wp P a w (fun a' w' => ∃ st' L',Sim (tsz P) I bs A w0 st' a' w' L' [] ∧ K st') Q:=by
  unfold stepR at hst
  split at hst
  · rename_i hc
    obtain ⟨E,st',hE,hs,hK⟩:=prep_sound hst
    exact Oper.wp_mono (fun a' w' ⟨L',h'⟩ => ⟨st',L',h',hK⟩) (stCall_sound (Q:=Q) h hE hs)
  · split at hst
    · exact nilCmp_sound h hst
    · unfold onSome at hst
      split at hst
      · rename_i st' hs
        unfold oels at hs
        split at hs
        · rename_i st2 h2
          cases hs
          refine Oper.wp_mono (fun a' w' hp => ?_) (stConv_sound (Q:=Q) h h2)
          obtain ⟨L',h'⟩:=PurePost.sim h hp
          exact ⟨_,L',h',hst⟩
        · split at hs
          · rename_i st2 h2
            cases hs
            exact Oper.wp_mono (fun a' w' ⟨L',h'⟩ => ⟨st',L',h',hst⟩) (stClear_sound (Q:=Q) h h2)
          · split at hs
            · rename_i st2 h2
              cases hs
              exact Oper.wp_mono (fun a' w' ⟨L',h'⟩ => ⟨st',L',h',hst⟩) (stAppendR_sound (Q:=Q) h h0 h2)
            · exact Oper.wp_mono (fun a' w' ⟨L',h'⟩ => ⟨st',L',h',hst⟩) (stStep_sound (Q:=Q) h h0 (E0_ok P) hs)
      · exact hst.elim
theorem runR_sound {ops:Array Oper} {r:Nat} (h0:tsz P nilE = 0) (hQ:∀ st a' w' L',Sim (tsz P) I bs A w0 st a' w' L' [] → K st → Q .normal a' w'):∀ (rest:List Oper) (i:Nat) {st:St} {a:Act} {w:World} {L:Loc},Sim (tsz P) I bs A w0 st a w L [] → (∀ j,rest[j]? = ops[i + j]?) →
    runR P M r ops i rest K st → wpOps P ops Q (List.range' i rest.length) a w
  | [],i,st,a,w,L,h,_,hst => hQ st a w L h hst
  | o :: rest,i,st,a,w,L,h,hr,hst => by
    simp only [runR,app] at hst
    have hi:ops[i]? = some o:=by simpa using (hr 0).symm
    have hr':∀ j,rest[j]? = ops[i + 1 + j]?:=fun j => by have:=hr (j + 1); rwa [List.getElem?_cons_succ,show i + (j + 1) = i + 1 + j by omega] at this
    simp only [List.length_cons,List.range'_succ,wpOps,hi]
    unfold grd at hst
    split at hst
    · rename_i b wn hg
      have hgs:guardSt ops st o = some (b == wn):=by rw [gcond_eq,hg]; rfl
      cases hbw:(b == wn)
      · rw [hbw] at hgs
        rw [guardSt_sound h hgs,if_neg (by simp)]
        exact runR_sound h0 hQ rest (i + 1) (h.setS _ (by simp [SVR,Im])) hr' (hst.2 (by cases b <;> cases wn <;> simp_all))
      · rw [hbw] at hgs
        rw [guardSt_sound h hgs,if_pos rfl]
        refine .inl (Oper.wp_mono (fun a' w' hh => ?_) (stepR_sound (Q:=Q) h h0 (hst.1 (by simpa using hbw))))
        obtain ⟨st',L',h',hk⟩:=hh
        exact runR_sound h0 hQ rest (i + 1) h' hr' hk
    · exact hst.elim
end
section
variable {P:Program} {M:List (FuncId × List Nat)}
theorem ewr_sound (h0:tsz P nilE = 0):∀ {c:Code} {Q:Exit → St → Prop} {st:St},ewr P M c Q st → ewp P c Q st
  | .skip,_,_,h => ewp_skip (by simpa only [ewr] using h)
  | .seq a b,Q,st,h => by
    simp only [ewr] at h
    refine ewp_seq (ewp_mono (ewr_sound h0 h) ?_)
    intro e st' hx
    cases e <;> simp only [eThen] at hx ⊢
    · exact ewr_sound h0 hx
    all_goals exact hx
  | .cond c x y,Q,st,h => by
    simp only [ewr,brn] at h
    split at h
    · rename_i b hb
      exact ewp_cond hb (fun hx => ewr_sound h0 (h.1 hx)) (fun hx => ewr_sound h0 (h.2 hx))
    · exact h.elim
  | .block id c,Q,st,h => by
    simp only [ewr] at h
    exact ewp_block (ewr_sound h0 h)
  | .exit id,_,_,h => ewp_exit (by simpa only [ewr] using h)
  | .ret,_,_,h => ewp_ret (by simpa only [ewr] using h)
  | .region id ops false,Q,st,h => by
    simp only [ewr] at h
    intro I bs A w0 a w L hs
    refine wp_region ?_
    have:=runR_sound (Q:=fun e a' w' => ∃ st' L',Sim (tsz P) I bs A w0 st' a' w' L' [] ∧ Q e st') h0 (fun st a' w' L' h' hk => ⟨st,L',h',hk⟩) ops.toList 0 hs (fun j => by simp) h
    simpa [List.range_eq_range'] using this
  | .loop c,Q,st,h => by simpa only [ewr] using h
  | .region id ops true,Q,st,h => by simpa only [ewr] using h
  | .rangeFunc _ _ _ _,_,_,h => by simp only [ewr] at h
  | .scope _,_,_,h => by simp only [ewr] at h
  | .label _,_,_,h => by simp only [ewr] at h
  | .goto _,_,_,h => by simp only [ewr] at h
  | .refuse _,_,_,h => by simp only [ewr] at h
end
end Go.V

namespace Go.V
open Go.RowKit
set_option linter.unusedSimpArgs false
set_option linter.unusedVariables false

/-! ### a nil row is a row of any type -/
mutual
def PT.nle:PT → PT → Prop
  | .sl 0 e n cs,q => match q with
    | .sl 0 e' n' cs' => (e = nilE ∧ n = 0 ∧ cs = [] ∧ n' = 0 ∧ cs' = []) ∨ (e = e' ∧ n = n' ∧ PT.nleL cs cs')
    | _ => False
  | p,q => p = q
def PT.nleL:List PT → List PT → Prop
  | [],qs => qs = []
  | p :: ps,qs => match qs with
    | q :: qs => PT.nle p q ∧ PT.nleL ps qs
    | [] => False
end
theorem nle_own {e n e' n':Nat} {cs cs':List PT}:PT.nle (.sl 0 e n cs) (.sl 0 e' n' cs') = ((e = nilE ∧ n = 0 ∧ cs = [] ∧ n' = 0 ∧ cs' = []) ∨ (e = e' ∧ n = n' ∧ PT.nleL cs cs')):=by simp only [PT.nle]
theorem nle_raw {v:Value} {q:PT}:PT.nle (.raw v) q = (.raw v = q):=by simp only [PT.nle]
theorem nle_imm {k e n:Nat} {cs:List PT} {q:PT}:PT.nle (.sl (k + 1) e n cs) q = (.sl (k + 1) e n cs = q):=by simp only [PT.nle]
theorem nle_fn {k:Nat} {g:FuncId} {cs:List (List PT)} {q:PT}:PT.nle (.fn k g cs) q = (.fn k g cs = q):=by simp only [PT.nle]
theorem nle_hole {q:PT}:PT.nle .hole q = (.hole = q):=by simp only [PT.nle]
theorem nleL_nil {qs:List PT}:PT.nleL [] qs = (qs = []):=by simp only [PT.nleL]
theorem nleL_cons {p q:PT} {ps qs:List PT}:PT.nleL (p :: ps) (q :: qs) = (PT.nle p q ∧ PT.nleL ps qs):=by simp only [PT.nleL]
theorem nle_refl_all:(∀ p:PT,PT.nle p p) ∧ ∀ ps:List PT,PT.nleL ps ps:=by
  have key:∀ n:Nat,(∀ p:PT,SizeOf.sizeOf p < n → PT.nle p p) ∧ ∀ ps:List PT,SizeOf.sizeOf ps < n → PT.nleL ps ps:=by
    intro n
    induction n with
    | zero => exact ⟨fun _ h => by omega,fun _ h => by omega⟩
    | succ n ih =>
      refine ⟨fun p hs => ?_,fun ps hs => ?_⟩
      · cases p with
        | sl k e m cs =>
          cases k with
          | zero => rw [nle_own]; exact .inr ⟨rfl,rfl,ih.2 _ (by simp at hs; omega)⟩
          | succ k => rw [nle_imm]
        | raw v => rw [nle_raw]
        | fn k g c => rw [nle_fn]
        | hole => rw [nle_hole]
      · cases ps with
        | nil => rw [nleL_nil]
        | cons p ps => rw [nleL_cons]; exact ⟨ih.1 _ (by simp at hs; omega),ih.2 _ (by simp at hs; omega)⟩
  exact ⟨fun p => (key _).1 p (Nat.lt_succ_self _),fun ps => (key _).2 ps (Nat.lt_succ_self _)⟩
theorem nle_refl (p:PT):PT.nle p p = True:=eq_true (nle_refl_all.1 p)
theorem nleL_refl (ps:List PT):PT.nleL ps ps = True:=eq_true (nle_refl_all.2 ps)
section
variable {sz:Nat → Nat} {I:Nat → Nat → Prop} {w:World}
theorem nleL_trees {P:LT → PT → LT → Prop}:∀ {ts:List LT} {qs:List PT},(∀ t ∈ ts,∀ q,PT.nle t.erase q → ∃ t',P t q t') → PT.nleL (ts.map LT.erase) qs → ∃ us:List LT,us.length = ts.length ∧ qs.length = ts.length ∧ ∀ (i:Nat) t q u,ts[i]? = some t → qs[i]? = some q → us[i]? = some u → P t q u
  | [],qs,_,h => by simp only [List.map_nil,nleL_nil] at h; subst h; exact ⟨[],by simp⟩
  | t :: ts,[],_,h => by simp [PT.nleL] at h
  | t :: ts,q :: qs,hp,h => by
    simp only [List.map_cons,nleL_cons] at h
    obtain ⟨u,hu⟩:=hp t (by simp) q h.1
    obtain ⟨us,h1,h2,h3⟩:=nleL_trees (fun t ht => hp t (by simp [ht])) h.2
    refine ⟨u :: us,by simp [h1],by simp [h2],fun i t' q' u' ht hq hu' => ?_⟩
    cases i with
    | zero => simp only [List.getElem?_cons_zero,Option.some.injEq] at ht hq hu'; subst ht; subst hq; subst hu'; exact hu
    | succ i => exact h3 i t' q' u' (by simpa using ht) (by simpa using hq) (by simpa using hu')
def NleT (sz:Nat → Nat) (w:World) (I:Nat → Nat → Prop) (t:LT) (q:PT) (t':LT):Prop:=t'.erase = q ∧ t'.val = t.val ∧ t'.blocks = t.blocks ∧ t'.holds sz w I
theorem nleL_lists {ts us:List LT} {qs:List PT} (h1:us.length = ts.length) (h2:qs.length = ts.length) (h:∀ (i:Nat) t q u,ts[i]? = some t → qs[i]? = some q → us[i]? = some u → NleT sz w I t q u) :
    us.map LT.erase = qs ∧ us.map LT.val = ts.map LT.val ∧ us.flatMap LT.blocks = ts.flatMap LT.blocks ∧ ∀ u ∈ us,u.holds sz w I:=by
  induction ts generalizing us qs with
  | nil =>
    simp only [List.length_nil,List.length_eq_zero_iff] at h1 h2
    subst h1; subst h2; simp
  | cons t ts ih =>
    cases us with
    | nil => simp at h1
    | cons u us =>
      cases qs with
      | nil => simp at h2
      | cons q qs =>
        obtain ⟨e1,e2,e3,e4⟩:=h 0 t q u rfl rfl rfl
        obtain ⟨f1,f2,f3,f4⟩:=ih (us:=us) (qs:=qs) (by simpa using h1) (by simpa using h2) (fun i t' q' u' a b c => h (i + 1) t' q' u' (by simpa using a) (by simpa using b) (by simpa using c))
        refine ⟨by simp [e1,f1],by simp [e2,f2],by simp [List.flatMap_cons,e3,f3],fun x hx => ?_⟩
        rcases List.mem_cons.1 hx with rfl | hx
        · exact e4
        · exact f4 x hx
theorem LT.nle (h0:sz nilE = 0):∀ t:LT,t.holds sz w I → ∀ q,PT.nle t.erase q → ∃ t',NleT sz w I t q t':=by
  refine LT.ind ?_ ?_
  · intro v p h q hq
    simp only [LT.holds] at h
    simp only [LT.erase] at hq
    cases p with
    | sl k e n cs =>
      cases k with
      | zero =>
        obtain ⟨h1,h2⟩:=h
        simp only [Im] at h1
        obtain ⟨rfl,rfl,ad,rfl⟩:=h1
        have:∃ e',q = .sl 0 e' 0 []:=by
          cases q with
          | sl k' e' n' cs' =>
            cases k' with
            | zero =>
              rw [nle_own] at hq
              rcases hq with ⟨_,_,_,rfl,rfl⟩ | ⟨_,rfl,h3⟩
              · exact ⟨_,rfl⟩
              · rw [nleL_nil] at h3; subst h3; exact ⟨_,rfl⟩
            | succ k' => simp [PT.nle] at hq
          | _ => simp [PT.nle] at hq
        obtain ⟨e',rfl⟩:=this
        refine ⟨.leaf (.slice ad 0 0) (.sl 0 e' 0 []),by simp [LT.erase],rfl,by simp [LT.blocks],?_⟩
        simp only [LT.holds,Im]
        exact ⟨⟨trivial,trivial,ad,rfl⟩,rfl⟩
      | succ k => rw [nle_imm] at hq; subst hq; exact ⟨_,by simp only [LT.erase],rfl,rfl,by simpa only [LT.holds] using h⟩
    | raw u => rw [nle_raw] at hq; subst hq; exact ⟨_,by simp only [LT.erase],rfl,rfl,by simpa only [LT.holds] using h⟩
    | fn k g c => rw [nle_fn] at hq; subst hq; exact ⟨_,by simp only [LT.erase],rfl,rfl,by simpa only [LT.holds] using h⟩
    | hole => rw [nle_hole] at hq; subst hq; exact ⟨_,by simp only [LT.erase],rfl,rfl,by simpa only [LT.holds] using h⟩
  · intro b cap e n cs ih h q hq
    simp only [LT.holds] at h
    simp only [LT.erase] at hq
    obtain ⟨⟨arr,g1,g2,g3⟩,g4,g5,g6,g7⟩:=h
    cases q with
    | sl k e' n' cs' =>
      cases k with
      | zero =>
        rw [nle_own] at hq
        rcases hq with ⟨rfl,_⟩ | ⟨rfl,rfl,hl⟩
        · omega
        · obtain ⟨us,k1,k2,k3⟩:=nleL_trees (P:=NleT sz w I) (fun t ht q hq => ih t ht (g7 t ht) q hq) hl
          obtain ⟨f1,f2,f3,f4⟩:=nleL_lists k1 k2 k3
          refine ⟨.own b cap e n us,by simp [LT.erase,f1],rfl,by simp [LT.blocks,f3],?_⟩
          simp only [LT.holds]
          refine ⟨⟨arr,g1,g2,fun j c hc => ?_⟩,by omega,g5,g6,f4⟩
          have:(us.map LT.val)[j]? = some c.val:=by rw [List.getElem?_map,hc]; rfl
          rw [f2,List.getElem?_map] at this
          cases hj:cs[j]? with
          | none => rw [hj] at this; simp at this
          | some d => rw [hj] at this; simp only [Option.map_some,Option.some.injEq] at this; rw [← this]; exact g3 j d hj
      | succ k => simp [PT.nle] at hq
    | _ => simp [PT.nle] at hq
end
mutual
def PV.nle:PV → PV → Prop
  | .c p,q => match q with | .c q => PT.nle p q | _ => False
  | .agg ps,q => match q with | .agg qs => PT.nleL ps qs | _ => False
  | .tup vs,q => match q with | .tup us => PV.nleL vs us | _ => False
  | p,q => p = q
def PV.nleL:List PV → List PV → Prop
  | [],qs => qs = []
  | p :: ps,qs => match qs with
    | q :: qs => PV.nle p q ∧ PV.nleL ps qs
    | [] => False
end
theorem pnle_c {p q:PT}:PV.nle (.c p) (.c q) = PT.nle p q:=by simp only [PV.nle]
theorem pnle_agg {p q:List PT}:PV.nle (.agg p) (.agg q) = PT.nleL p q:=by simp only [PV.nle]
theorem pnle_tup {p q:List PV}:PV.nle (.tup p) (.tup q) = PV.nleL p q:=by simp only [PV.nle]
theorem pnle_bp {p:PT} {q:PV}:PV.nle (.bp p) q = (.bp p = q):=by simp only [PV.nle]
theorem pnle_ip {k:Nat} {p:List PT} {q:PV}:PV.nle (.ip k p) q = (.ip k p = q):=by simp only [PV.nle]
theorem pnleL_nil {qs:List PV}:PV.nleL [] qs = (qs = []):=by simp only [PV.nleL]
theorem pnleL_cons {p q:PV} {ps qs:List PV}:PV.nleL (p :: ps) (q :: qs) = (PV.nle p q ∧ PV.nleL ps qs):=by simp only [PV.nleL]
section
variable {sz:Nat → Nat} {I:Nat → Nat → Prop} {w:World}
def NleV (sz:Nat → Nat) (w:World) (I:Nat → Nat → Prop) (l:LV) (q:PV) (l':LV):Prop:=l'.erase = q ∧ l'.val = l.val ∧ l'.blocks = l.blocks ∧ l'.holds sz w I
theorem LV.nle (h0:sz nilE = 0):(∀ (l:LV),l.holds sz w I → ∀ q,PV.nle l.erase q → ∃ l',NleV sz w I l q l'):=by
  have key:∀ n:Nat,(∀ (l:LV),SizeOf.sizeOf l < n → l.holds sz w I → ∀ q,PV.nle l.erase q → ∃ l',NleV sz w I l q l') ∧ (∀ (ls:List LV),SizeOf.sizeOf ls < n → LV.holdsL sz w I ls → ∀ qs,PV.nleL (LV.eraseL ls) qs → ∃ ls',LV.eraseL ls' = qs ∧ LV.valL ls' = LV.valL ls ∧ LV.blocksL ls' = LV.blocksL ls ∧ LV.holdsL sz w I ls'):=by
    intro n
    induction n with
    | zero => exact ⟨fun _ h => by omega,fun _ h => by omega⟩
    | succ n ih =>
      refine ⟨fun l hs h q hq => ?_,fun ls hs h qs hq => ?_⟩
      · cases l with
        | c t =>
          cases q with
          | c q =>
            simp only [LV.erase,pnle_c] at hq
            simp only [LV.holds] at h
            obtain ⟨t',e1,e2,e3,e4⟩:=LT.nle h0 t h q hq
            exact ⟨.c t',by simp [LV.erase,e1],by simp [LV.val,e2],by simp [LV.blocks,e3],by simpa only [LV.holds] using e4⟩
          | _ => simp [LV.erase,PV.nle] at hq
        | agg ts =>
          cases q with
          | agg qs =>
            simp only [LV.erase,pnle_agg] at hq
            simp only [LV.holds] at h
            obtain ⟨us,k1,k2,k3⟩:=nleL_trees (P:=NleT sz w I) (fun t ht q hq => LT.nle h0 t (h t ht) q hq) hq
            obtain ⟨f1,f2,f3,f4⟩:=nleL_lists k1 k2 k3
            exact ⟨.agg us,by simp [LV.erase,f1],by simp [LV.val,f2],by simp [LV.blocks,f3],by simpa only [LV.holds] using f4⟩
          | _ => simp [LV.erase,PV.nle] at hq
        | tup vs =>
          cases q with
          | tup qs =>
            simp only [LV.erase,pnle_tup] at hq
            simp only [LV.holds] at h
            obtain ⟨ls',e1,e2,e3,e4⟩:=ih.2 vs (by simp at hs; omega) h qs hq
            exact ⟨.tup ls',by simp [LV.erase,e1],by simp [LV.val,e2],by simp [LV.blocks,e3],by simpa only [LV.holds] using e4⟩
          | _ => simp [LV.erase,PV.nle] at hq
        | bp t =>
          simp only [LV.erase,pnle_bp] at hq
          subst hq
          exact ⟨.bp t,rfl,rfl,rfl,h⟩
        | dup t v1 v2 =>
          simp only [LV.erase,PV.nle] at hq
          subst hq
          exact ⟨.dup t v1 v2,rfl,rfl,rfl,h⟩
        | clo g t =>
          simp only [LV.erase,PV.nle] at hq
          subst hq
          exact ⟨.clo g t,rfl,rfl,rfl,h⟩
        | ip k x ps =>
          simp only [LV.erase,pnle_ip] at hq
          subst hq
          exact ⟨.ip k x ps,rfl,rfl,rfl,h⟩
      · cases ls with
        | nil =>
          simp only [LV.eraseL,pnleL_nil] at hq
          subst hq
          exact ⟨[],rfl,rfl,rfl,h⟩
        | cons l ls =>
          cases qs with
          | nil => simp [LV.eraseL,PV.nleL] at hq
          | cons q qs =>
            simp only [LV.eraseL,pnleL_cons] at hq
            simp only [LV.holdsL] at h
            obtain ⟨l',a1,a2,a3,a4⟩:=ih.1 l (by simp at hs; omega) h.1 q hq.1
            obtain ⟨ls',b1,b2,b3,b4⟩:=ih.2 ls (by simp at hs; omega) h.2 qs hq.2
            exact ⟨l' :: ls',by simp [LV.eraseL,a1,b1],by simp [LV.valL,a2,b2],by simp [LV.blocksL,a3,b3],by simp only [LV.holdsL]; exact ⟨a4,b4⟩⟩
  exact fun l => (key _).1 l (Nat.lt_succ_self _)
end
theorem CallOK.nle {P:Program} {f:FuncId} {args outs:List PV} {res res':PV} (h0:tsz P nilE = 0) (h:CallOK P f args res outs) (hn:PV.nle res res'):CallOK P f args res' outs:=by
  intro I w las h1 h2 h3 h4
  refine (h I w las h1 h2 h3 h4).mono ?_
  rintro e w' ⟨lr,los,rfl,g1,g2,g3,g4,g5,g6,g7,g8⟩
  obtain ⟨l',e1,e2,e3,e4⟩:=LV.nle h0 lr g4 res' (g1 ▸ hn)
  exact ⟨l',los,by rw [e2],e1,g2,g3,e4,g5,by rw [e3]; exact g6,by rw [e3]; exact g7,g8⟩

/-! ### what a function hands back -/
def stRetS (P:Program) (rs:List ResultVar) (args:List PV) (st:St):Option (PV × List PV) :=
  match resSVs P st rs with
  | none => none
  | some ss => if ss.all SV.compsB = true then match takeAll (tsz P) st [] (ss.flatMap comps) with
      | some (ps,_,st1) => match outVs st1.hp 0 args with
        | some outs => some (retPV (regroup ss ps),outs)
        | none => none
      | none => none
    else none
def resOK (x:Option (PV × List PV)) (r:PV × List PV):Prop:=match x with
  | some y => PV.nle y.1 r.1 ∧ y.2 = r.2
  | none => False
theorem resOK_some {y:PV} {o:List PV} {r:PV × List PV}:resOK (some (y,o)) r = (PV.nle y r.1 ∧ o = r.2):=rfl
def PostS (P:Program) (rs:List ResultVar) (args:List PV) (r:PV × List PV):Exit → St → Prop
  | .normal,st => resOK (stRetS P rs args st) r
  | .ret,st => resOK (stRetS P rs args st) r
  | _,_ => False
theorem PostS_normal {P:Program} {rs:List ResultVar} {args:List PV} {r:PV × List PV} {st:St}:PostS P rs args r .normal st = resOK (stRetS P rs args st) r:=rfl
theorem PostS_ret {P:Program} {rs:List ResultVar} {args:List PV} {r:PV × List PV} {st:St}:PostS P rs args r .ret st = resOK (stRetS P rs args st) r:=rfl
theorem resOK_congr {x x':Option (PV × List PV)} {r:PV × List PV} (h:x = x'):resOK x r = resOK x' r:=by rw [h]
/-- What is known of a function. -/
theorem okS {P : Program} {f : FuncId} {fn : Func} {c : Code} {args outs : List PV} {res : PV} {n : Nat} {rs : Array ResultVar} (M : List (FuncId × List Nat)) (h0 : tsz P nilE = 0) (hf : P.funcs[f]? = some fn) (hn : (fn.name == "runtime.NumGoroutine") = false) (hb : fn.body = some c)
    (hnt:fn.ntmps = n) (hrs:fn.results = rs) (hle:args.length ≤ n) (h:ewr P M c (PostS P rs.toList args (res,outs)) ⟨slOf n (entL 0 args),ofL (argL 0 args)⟩):CallOK P f args res outs:=by
  subst hnt; subst hrs
  have h1:=ewp_entry hle (ewr_sound h0 h)
  -- what is handed back is known case by case
  intro I w las he hh hnd hI
  refine CallsF.of_calls hf hn hb (calls_of_wp hf hb ?_)
  have hs:=Sim.entry las hh hnd hI fn.ntmps
  rw [he] at hs
  refine wp_mono (h1 I _ _ w _ w _ hs) ?_
  rintro e a' w' ⟨st',L',g1,g2⟩
  have fin:resOK (stRetS P fn.results.toList args st') (res,outs) → bodyPost P fn (CallPost P I w las res outs) .ret a' w':=by
    intro hr
    unfold resOK at hr
    split at hr
    · rename_i y hy
      obtain ⟨k1,k2⟩:=hr
      have hy':stRet P fn (las.map LV.erase) st' = some (y.1,y.2):=by rw [he]; exact hy
      have hb:=stRet_sound g1 hh hy'
      obtain ⟨b1,v1,b2,b3⟩:=hb
      refine ⟨b1,v1,b2,?_⟩
      revert b3
      generalize Ending.returned v1 = e'
      rintro ⟨lr,los,rfl,r1,r2,r3,r4,r5,r6,r7,r8⟩
      obtain ⟨l',e1,e2,e3,e4⟩:=LV.nle h0 lr r4 res (r1 ▸ k1)
      simp only at k2
      subst k2
      exact ⟨l',los,by rw [e2],e1,r2,r3,e4,r5,by rw [e3]; exact r6,by rw [e3]; exact r7,r8⟩
    · exact hr.elim
  cases e <;> simp only [PostS] at g2
  · exact fin g2
  · exact fin g2

/-! ### a region that draws its order -/
def lexRunL (E:Env) (P:Program) (r:Nat) (ops:Array Oper):List OI → List Oper → Nat → St → Option St
  | _,[],_,st => some st
  | x :: xs,o :: rest,k,st => nxt (stM E P r ops x k o st) (lexRunL E P r ops xs rest (k + 1))
  | [],_ :: _,_,_ => none
theorem lexRunL_nil {E:Env} {P:Program} {r:Nat} {ops:Array Oper} {xs:List OI} {k:Nat} {st:St}:lexRunL E P r ops xs [] k st = some st:=by cases xs <;> rfl
theorem lexRunL_cons {E:Env} {P:Program} {r:Nat} {ops:Array Oper} {x:OI} {xs:List OI} {o:Oper} {rest:List Oper} {k:Nat} {st:St}:lexRunL E P r ops (x :: xs) (o :: rest) k st = nxt (stM E P r ops x k o st) (lexRunL E P r ops xs rest (k + 1)):=by rw [lexRunL]
theorem lexRunL_eq {E:Env} {P:Program} {r:Nat} {ops:Array Oper} (ys:List OI):∀ (rest:List Oper) (k:Nat) (xs:List OI) (st:St),(∀ j,xs[j]? = ys[k + j]?) → lexRunL E P r ops xs rest k st = lexRun E P r ops ys k rest st
  | [],k,xs,st,_ => by rw [lexRunL_nil]; rfl
  | o :: rest,k,[],st,hx => by
    have:=hx 0
    simp only [List.getElem?_nil,Nat.add_zero] at this
    simp only [lexRunL,lexRun,← this]
  | o :: rest,k,x :: xs,st,hx => by
    have h0:=hx 0
    simp only [List.getElem?_cons_zero,Nat.add_zero] at h0
    simp only [lexRunL,lexRun,← h0]
    congr 1
    funext st'
    exact lexRunL_eq ys rest (k + 1) xs st' fun j => by have:=hx (j + 1); rwa [List.getElem?_cons_succ,show k + (j + 1) = k + 1 + j by omega] at this
noncomputable def tabCall:List (FuncId × List PV × PV × List PV) → FuncId → List PV → Option (PV × List PV)
  | [],_,_ => none
  | (g,as,r,os) :: l,f,as' => open Classical in if f = g ∧ as' = as then some (r,os) else tabCall l f as'
/-- What some calls do, each told. -/
noncomputable def tabEnv (M:List (FuncId × List Nat)) (T:List (FuncId × List PV × PV × List PV)):Env:=⟨mdGet M,tabCall T⟩
theorem tabEnv_call {M:List (FuncId × List Nat)} {T:List (FuncId × List PV × PV × List PV)} {f:FuncId} {as:List PV}:(tabEnv M T).call f as = tabCall T f as:=rfl
theorem tabEnv_mode {M:List (FuncId × List Nat)} {T:List (FuncId × List PV × PV × List PV)} {f:FuncId}:(tabEnv M T).mode f = mdGet M f:=rfl
theorem tabCall_hit {f:FuncId} {as:List PV} {r:PV} {os:List PV} {l:List (FuncId × List PV × PV × List PV)}:tabCall ((f,as,r,os) :: l) f as = some (r,os):=by simp [tabCall]
theorem tabCall_miss {f g:FuncId} {as as':List PV} {r:PV} {os:List PV} {l:List (FuncId × List PV × PV × List PV)} (h:f ≠ g):tabCall ((g,as,r,os) :: l) f as' = tabCall l f as':=by simp [tabCall,h]
theorem tabEnv_ok {P:Program} {M:List (FuncId × List Nat)} {T:List (FuncId × List PV × PV × List PV)} (h:∀ x ∈ T,CallOK P x.1 x.2.1 x.2.2.1 x.2.2.2):EnvOK P (tabEnv M T):=by
  intro f as res outs hc
  simp only [tabEnv] at hc
  induction T with
  | nil => simp [tabCall] at hc
  | cons x T ih =>
    obtain ⟨g,as',r,os⟩:=x
    simp only [tabCall] at hc
    split at hc
    · rename_i he
      obtain ⟨rfl,rfl⟩:=he
      cases hc
      exact h (_,_,_,_) (by simp)
    · exact ih (fun x hx => h x (by simp [hx])) hc
/-! ### two names change places -/
def Id.sw (a b i:Id):Id:=if i = a then b else if i = b then a else i
theorem Id.sw_sw (a b i:Id):Id.sw a b (Id.sw a b i) = i:=by
  unfold Id.sw
  by_cases h1:i = a
  · subst h1; by_cases h2:b = i <;> simp [h2]
  · by_cases h2:i = b
    · subst h2; simp [h1]
    · simp [h1,h2]
def Pl.sw (a b:Id) (p:Pl):Pl:=⟨Id.sw a b p.id,p.path⟩
mutual
def SV.sw (a b:Id):SV → SV
  | .ref pl off len => .ref (pl.sw a b) off len
  | .ptr pl off => .ptr (pl.sw a b) off
  | .fnc g l => .fnc g (SV.swL a b l)
  | .agg l => .agg (SV.swL a b l)
  | .tup l => .tup (SV.swL a b l)
  | .t p => .t p
  | .ip k ps => .ip k ps
  | .junk => .junk
def SV.swL (a b:Id):List SV → List SV
  | [] => []
  | s :: ss => s.sw a b :: SV.swL a b ss
end
def swN (a b:Id):List (Id × PT) → List (Id × PT)
  | [] => []
  | (i,t) :: l => (Id.sw a b i,t) :: swN a b l
def swS (a b:Id):List (Nat × SV) → List (Nat × SV)
  | [] => []
  | (i,s) :: l => (i,s.sw a b) :: swS a b l
theorem swN_ofL (a b:Id):∀ (l:List (Id × PT)) (id:Id),ofL l (Id.sw a b id) = ofL (swN a b l) id
  | [],id => rfl
  | (i,t) :: l,id => by
    simp only [ofL,swN]
    by_cases h:Id.sw a b id = i
    · subst h; simp [Id.sw_sw]
    · have h':¬ id = Id.sw a b i:=fun e => h (by rw [e,Id.sw_sw])
      simp only [if_neg h,if_neg h']
      exact swN_ofL a b l id
theorem slGet_sw (a b:Id):∀ (l:List (Nat × SV)) (j:Nat),slGet (swS a b l) j = (slGet l j).sw a b
  | [],j => by simp [swS,slGet,SV.sw]
  | (i,s) :: l,j => by
    simp only [swS,slGet]
    split
    · rfl
    · exact slGet_sw a b l j
section
variable {sz:Nat → Nat} {I I':Nat → Nat → Prop} {bs:List Nat} {A:AD} {w0 w w':World} {a:Act} {L:Loc} {P:Program} {Q:Exit → St → Prop} {c:Code} {x y:Id}
theorem look_sw (L:Loc) (pl:Pl):look (fun id => L (Id.sw x y id)) (pl.sw x y) = look L pl:=by
  unfold look Pl.sw
  simp only [Id.sw_sw]
theorem SVR.sw:(∀ v s,SVR sz L w I v s → SVR sz (fun id => L (Id.sw x y id)) w I v (s.sw x y)) ∧ (∀ vs ss,SVRL sz L w I vs ss → SVRL sz (fun id => L (Id.sw x y id)) w I vs (SV.swL x y ss)):=by
  have key:∀ n:Nat,(∀ v s,SizeOf.sizeOf s < n → SVR sz L w I v s → SVR sz (fun id => L (Id.sw x y id)) w I v (s.sw x y)) ∧ (∀ vs (ss:List SV),SizeOf.sizeOf ss < n → SVRL sz L w I vs ss → SVRL sz (fun id => L (Id.sw x y id)) w I vs (SV.swL x y ss)):=by
    intro n
    induction n with
    | zero => exact ⟨fun _ _ h => by omega,fun _ _ h => by omega⟩
    | succ n ih =>
      refine ⟨?_,?_⟩
      · intro v s hs h
        cases s with
        | t p => simpa only [SVR,SV.sw] using h
        | ref pl off len => simp only [SVR,SV.sw,look_sw] at h ⊢; exact h
        | ptr pl off => simp only [SVR,SV.sw,look_sw] at h ⊢; exact h
        | ip k ps => simpa only [SVR,SV.sw] using h
        | fnc g caps =>
          simp only [SVR,SV.sw] at h ⊢
          obtain ⟨vs,hv,hl⟩:=h
          exact ⟨vs,hv,ih.2 _ _ (by simp at hs; omega) hl⟩
        | agg l =>
          simp only [SVR,SV.sw] at h ⊢
          obtain ⟨vs,hv,hl,h1⟩:=h
          exact ⟨vs,hv,ih.2 _ _ (by simp at hs; omega) hl,h1⟩
        | tup l =>
          simp only [SVR,SV.sw] at h ⊢
          obtain ⟨vs,hv,hl⟩:=h
          exact ⟨vs,hv,ih.2 _ _ (by simp at hs; omega) hl⟩
        | junk => simp only [SVR,SV.sw]
      · intro vs ss hs h
        cases ss with
        | nil => simpa only [SVRL,SV.swL] using h
        | cons s ss =>
          simp only [SVRL,SV.swL] at h ⊢
          obtain ⟨v,vs',hv,h1,h2⟩:=h
          exact ⟨v,vs',hv,ih.1 _ _ (by simp at hs; omega) h1,ih.2 _ _ (by simp at hs; omega) h2⟩
  exact ⟨fun v s => (key _).1 v s (Nat.lt_succ_self _),fun vs ss => (key _).2 vs ss (Nat.lt_succ_self _)⟩
theorem Id.sw_arg {i j:Nat} (hx:∀ i j,x ≠ .arg i j) (hy:∀ i j,y ≠ .arg i j):Id.sw x y (.arg i j) = .arg i j:=by
  unfold Id.sw
  rw [if_neg (fun e => hx i j e.symm),if_neg (fun e => hy i j e.symm)]
theorem swL_at:∀ (ss:List SV) (k:Nat),(SV.swL x y ss)[k]? = (ss[k]?).map (SV.sw x y)
  | [],k => by simp [SV.swL]
  | s :: ss,0 => by simp [SV.swL]
  | s :: ss,k + 1 => by simpa [SV.swL] using swL_at ss k
theorem swL_len:∀ (ss:List SV),(SV.swL x y ss).length = ss.length
  | [] => rfl
  | s :: ss => by simp [SV.swL,swL_len ss]
theorem slOf_sw (n:Nat) (l:List (Nat × SV)):SV.swL x y (slOf n l) = slOf n (swS x y l):=by
  apply slOf_ext (by simp [swL_len,slOf_len])
  intro k hk
  rw [swL_at,slOf_at,if_pos hk,slGet_sw]
  rfl
theorem Sim.sw {st:St} (hx:∀ i j,x ≠ .arg i j) (hy:∀ i j,y ≠ .arg i j) (h:Sim sz I bs A w0 st a w L []):Sim sz I bs A w0 ⟨SV.swL x y st.sl,fun id => st.hp (Id.sw x y id)⟩ a w (fun id => L (Id.sw x y id)) [] :=
  { keeps:=h.keeps,imm:=h.imm,nodef:=h.nodef,hholds:=by simp,hnodup:=by simp,hown:=by simp,hapart:=by simp
    er:=fun id => h.er _
    holds:=fun id t ht => h.holds _ t ht
    nodup:=fun id t ht => h.nodup _ t ht
    own:=fun id t ht => h.own _ t ht
    apart:=fun id id' t t' hne ht ht' => h.apart _ _ t t' (fun e => hne (by have:=congrArg (Id.sw x y) e; rwa [Id.sw_sw,Id.sw_sw] at this)) ht ht'
    slots:=SVR.sw.2 _ _ h.slots
    args:=fun i j v hv => by rw [Id.sw_arg hx hy]; exact h.args i j v hv }
end
def Id.isOp:Id → Bool
  | .op _ _ _ => true
  | _ => false
theorem Id.isOp_ne {x:Id} (h:x.isOp = true) (i j:Nat):x ≠ .arg i j:=by rintro rfl; simp [Id.isOp] at h
/-- Two names change places. -/
theorem ewp_sw {P:Program} {Q:Exit → St → Prop} {c:Code} {n:Nat} {l:List (Nat × SV)} {hp:List (Id × PT)} (x y:Id) (hx:x.isOp = true) (hy:y.isOp = true) (h:ewp P c Q ⟨slOf n (swS x y l),ofL (swN x y hp)⟩):ewp P c Q ⟨slOf n l,ofL hp⟩:=by
  intro I bs A w0 a w L hs
  have hs':=hs.sw (Id.isOp_ne hx) (Id.isOp_ne hy)
  have e:(⟨SV.swL x y (slOf n l),fun id => ofL hp (Id.sw x y id)⟩:St) = ⟨slOf n (swS x y l),ofL (swN x y hp)⟩:=by
    rw [slOf_sw]
    congr 1
    funext id
    exact swN_ofL x y hp id
  simp only [e] at hs'
  exact h I bs A w0 a w _ hs'
/-- A nil row gets a name. -/
theorem ewp_nil {P:Program} {Q:Exit → St → Prop} {c:Code} {n:Nat} {l:List (Nat × SV)} {hp:List (Id × PT)} (j:Nat) (id:Id) (e:Nat) {e0:Nat} (hjn:j < n) (hid:id.isOp = true) (hj:slGet l j = .t (.sl 0 e0 0 [])) (hno:ofL hp id = none) (h:ewp P c Q ⟨slOf n ((j,.ref ⟨id,[]⟩ 0 0) :: l),ofL ((id,.sl 0 e 0 []) :: hp)⟩):ewp P c Q ⟨slOf n l,ofL hp⟩:=by
  intro I bs A w0 a w L hs
  have hat:=hs.slots.at_ j (.t (.sl 0 e0 0 [])) (by show (slOf n l)[j]? = _; rw [slOf_at,if_pos hjn,hj])
  obtain ⟨v,hv,hr⟩:=hat
  simp only [SVR,Im] at hr
  obtain ⟨_,_,ad,rfl⟩:=hr
  have hLn:L id = none:=by
    have:=hs.er id
    simp only [hno] at this
    cases hl:L id with
    | none => rfl
    | some t => rw [hl] at this; simp at this
  let t:LT:=.leaf (.slice ad 0 0) (.sl 0 e 0 [])
  have ht:t.holds (tsz P) w I:=by simp only [LT.holds,t,Im]; exact ⟨⟨trivial,trivial,ad,rfl⟩,rfl⟩
  have hcase:∀ i u,updF L id (some t) i = some u → (i = id ∧ u = t) ∨ (i ≠ id ∧ L i = some u):=by
    intro i u hu
    by_cases hi:i = id
    · subst hi; rw [updF_same] at hu; cases hu; exact .inl ⟨rfl,rfl⟩
    · rw [updF_ne _ _ hi] at hu; exact .inr ⟨hi,hu⟩
  have hst:Stays (fun _ => false) L (updF L id (some t)):=by
    intro pl node _ _ hn
    refine ⟨node,?_,Shp.refl _⟩
    unfold look at hn ⊢
    by_cases hi:pl.id = id
    · rw [hi,hLn] at hn; simp at hn
    · rw [updF_ne _ _ hi]; exact hn
  have hsl:SVRL (tsz P) (updF L id (some t)) w I a.tmps.toList (slOf n l):=by
    refine SVRL.of_at hs.slots.len ?_
    intro i u s hu hsi
    obtain ⟨u',hu',hr⟩:=hs.slots.at_ i s hsi
    rw [hu] at hu'
    cases hu'
    exact (SVR.all _ hst (fun _ _ hb => hb) (fun _ _ _ => rfl)).1 u s (uses_false s) hr
  refine h I bs A w0 a w (updF L id (some t)) ?_
  refine { keeps:=hs.keeps,imm:=hs.imm,nodef:=hs.nodef,hholds:=by simp,hnodup:=by simp,hown:=by simp,hapart:=by simp,er:=?_,holds:=?_,nodup:=?_,own:=?_,apart:=?_,slots:=?_,args:=?_ }
  · intro i
    by_cases hi:i = id
    · subst hi; simp [updF_same,ofL,t,LT.erase]
    · rw [updF_ne _ _ hi]; simp only [ofL,if_neg hi]; exact hs.er i
  · intro i u hu
    rcases hcase i u hu with ⟨_,rfl⟩ | ⟨_,hu⟩
    · exact ht
    · exact hs.holds i u hu
  · intro i u hu
    rcases hcase i u hu with ⟨_,rfl⟩ | ⟨_,hu⟩
    · simp [t,LT.blocks]
    · exact hs.nodup i u hu
  · intro i u hu b hb
    rcases hcase i u hu with ⟨_,rfl⟩ | ⟨_,hu⟩
    · simp [t,LT.blocks] at hb
    · exact hs.own i u hu b hb
  · intro i i' u u' hne hu hu' b hb hb'
    rcases hcase i u hu with ⟨_,rfl⟩ | ⟨_,hu⟩
    · simp [t,LT.blocks] at hb
    · rcases hcase i' u' hu' with ⟨_,rfl⟩ | ⟨_,hu'⟩
      · simp [t,LT.blocks] at hb'
      · exact hs.apart i i' u u' hne hu hu' b hb hb'
  · have:=hsl.set j (v:=.slice ad 0 0) (s:=.ref ⟨id,[]⟩ 0 0) (by
      simp only [SVR]
      exact .inr ⟨e,by simp [look,updF_same,LT.get,t],trivial,trivial,ad,rfl⟩)
    rw [slOf_set] at this
    have hv':a.tmps.toList.set j (.slice ad 0 0) = a.tmps.toList:=by
      apply List.ext_getElem?
      intro k
      by_cases hk:j = k
      · subst hk; rw [List.getElem?_set_self (List.getElem?_eq_some_iff.1 hv).1]; exact hv.symm
      · rw [List.getElem?_set_ne hk]
    rwa [hv'] at this
  · intro i k u hu
    obtain ⟨t',h1,h2⟩:=hs.args i k u hu
    exact ⟨t',by rw [updF_ne _ _ (fun he => Id.isOp_ne hid i k he.symm)]; exact h1,h2⟩
end Go.V

namespace Go.V
open Go.RowKit
set_option linter.unusedSimpArgs false
set_option linter.unusedVariables false

/-! ### code behind which it is known where an argument's rows came from -/
section
variable {P:Program} {A:AD} {M:List (FuncId × List Nat)} {Q:Exit → St → Prop} {K:St → Prop} {st st':St} {ops:Array Oper} {r i id:Nat} {c x y:Code}
/-! ### what is known of an argument's row by its value -/
/-- A row of an argument, by its value or by its place. -/
def Gh (A:AD) (hp:Id → Option PT) (s s':SV):Prop:=s = s' ∨
  (∃ i j v e m cs,A i j = some v ∧ hp (.arg i j) = some (.sl 0 e m cs) ∧ ((s = .t (.raw v) ∧ s' = .ref ⟨.arg i j,[]⟩ 0 m) ∨ (s = .ref ⟨.arg i j,[]⟩ 0 m ∧ s' = .t (.raw v))))
def GhL (A:AD) (hp:Id → Option PT):List SV → List SV → Prop
  | [],l => l = []
  | s :: ss,l => match l with
    | s' :: ss' => Gh A hp s s' ∧ GhL A hp ss ss'
    | [] => False
theorem Gh.ref {hp:Id → Option PT} {i j:Nat} {v:Value} {e m:Nat} {cs:List PT} (h1:A i j = some v) (h2:hp (.arg i j) = some (.sl 0 e m cs)):Gh A hp (.t (.raw v)) (.ref ⟨.arg i j,[]⟩ 0 m):=.inr ⟨i,j,v,e,m,cs,h1,h2,.inl ⟨rfl,rfl⟩⟩
theorem Gh.raw {hp:Id → Option PT} {i j:Nat} {v:Value} {e m:Nat} {cs:List PT} (h1:A i j = some v) (h2:hp (.arg i j) = some (.sl 0 e m cs)):Gh A hp (.ref ⟨.arg i j,[]⟩ 0 m) (.t (.raw v)):=.inr ⟨i,j,v,e,m,cs,h1,h2,.inr ⟨rfl,rfl⟩⟩
theorem GhL.nil {hp:Id → Option PT}:GhL A hp [] []:=rfl
theorem GhL.cons {hp:Id → Option PT} {s s':SV} {ss ss':List SV} (h:Gh A hp s s') (hs:GhL A hp ss ss'):GhL A hp (s :: ss) (s' :: ss'):=⟨h,hs⟩
theorem Gh.sound {I:Nat → Nat → Prop} {bs:List Nat} {w0 w:World} {a:Act} {L:Loc} (h:Sim (tsz P) I bs A w0 st a w L []) {s s':SV} (hg:Gh A st.hp s s') {v:Value} (hr:SVR (tsz P) L w I v s):SVR (tsz P) L w I v s':=by
  rcases hg with rfl | ⟨i,j,u,e,m,cs,h1,h2,hc⟩
  · exact hr
  · obtain ⟨t,ht,htv⟩:=h.args i j u h1
    have her:=h.er (.arg i j)
    rw [ht,h2] at her
    simp only [Option.map_some,Option.some.injEq] at her
    have hh:=h.holds _ _ ht
    have hlook:look L ⟨.arg i j,[]⟩ = some t:=by simp [look,ht,LT.get]
    rcases hc with ⟨rfl,rfl⟩ | ⟨rfl,rfl⟩
    · simp only [SVR,Im] at hr
      subst hr
      subst htv
      simp only [SVR]
      cases t with
      | leaf v' p =>
        simp only [LT.erase] at her
        subst her
        simp only [LT.holds,Im] at hh
        obtain ⟨⟨rfl,rfl,ad,rfl⟩,_⟩:=hh
        exact .inr ⟨e,hlook,trivial,rfl,ad,rfl⟩
      | own b cap e' n' lcs =>
        simp only [LT.erase,PT.sl.injEq,true_and] at her
        obtain ⟨rfl,rfl,rfl⟩:=her
        simp only [LT.holds] at hh
        obtain ⟨_,q4,q5,q6,_⟩:=hh
        exact .inl ⟨b,cap,e',n',lcs,0,cap,hlook,rfl,.inr rfl,q5,by omega,by omega⟩
    · simp only [SVR,hlook] at hr
      simp only [SVR,Im]
      rcases hr with ⟨b,cap0,e',k,lcs,o,cap,hl,rfl,g1,g2,g3,g4⟩ | ⟨e',hl,_,hm,ad,rfl⟩
      · cases hl
        simp only [LT.erase,PT.sl.injEq,true_and] at her
        obtain ⟨rfl,rfl,rfl⟩:=her
        simp only [LT.holds] at hh
        obtain ⟨_,q4,q5,q6,_⟩:=hh
        rw [Nat.zero_add] at g4
        have hcap:=Nat.eq_of_mul_eq_mul_right q6.1 g4
        subst hcap
        have ho:o = 0:=by rcases g1 with g1 | g1 <;> omega
        subst ho
        rw [← htv]
        rfl
      · cases hl
        rw [← htv]
        rfl
theorem GhL.sound {I:Nat → Nat → Prop} {bs:List Nat} {w0 w:World} {a:Act} {L:Loc} (h:Sim (tsz P) I bs A w0 st a w L []):∀ {l l':List SV} {vs:List Value},GhL A st.hp l l' → SVRL (tsz P) L w I vs l → SVRL (tsz P) L w I vs l'
  | [],l',vs,hg,hr => by simp only [GhL] at hg; subst hg; exact hr
  | s :: ss,[],vs,hg,_ => by simp [GhL] at hg
  | s :: ss,s' :: ss',vs,hg,hr => by
    simp only [GhL] at hg
    simp only [SVRL] at hr ⊢
    obtain ⟨v,vs',rfl,h1,h2⟩:=hr
    exact ⟨v,vs',rfl,Gh.sound h hg.1 h1,GhL.sound h hg.2 h2⟩
end
end Go.V
