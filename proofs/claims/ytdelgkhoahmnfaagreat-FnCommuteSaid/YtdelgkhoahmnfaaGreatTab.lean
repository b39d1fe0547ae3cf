/- What functions of the seat's program do, each proved of its code, under the bounds that its theorem names. -/
import Derived.Test.YtdelgkhoahmnfaaGreatTaa
set_option linter.all false
namespace Go.V
open Go.Proofs
set_option maxHeartbeats 1000000
set_option maxRecDepth 10000
set_option linter.unusedSimpArgs false
set_option linter.unusedVariables false
theorem ok_prefix (code:List Int) (hc:codeOK code) (a s:Int) (ha:0 ≤ a) (ha2:a ≤ 3999990):∃ (p:GPrefix) (a' s':Int),(a ≤ a' ∧ a' ≤ a + 4) ∧ CallOK Tryz.prog 107 [.bp (curP code a s)] (.agg p.c) [.bp (curP code a' s')]:=by
  obtain ⟨n,a1,s1,hn,ha1,q1⟩:=ok_among 0 code hc [0,1,2,3,4,8,8,16,24,31,32] (by decide) (by decide) a s ha (by omega)
  obtain ⟨d,a2,s2,hd,ha2',q2⟩:=ok_among 0 code hc [0,167772160,167837696,3232235520,2147483648,4294967295,3758096384,167772165] (by decide) (by decide) a1 s1 (by omega) (by omega)
  obtain ⟨x,a3,s3,hx,ha3,q3⟩:=ok_pick code hc 30 (by decide) (by decide) a2 s2 (by omega) (by omega)
  have hn32:0 ≤ n ∧ n ≤ 32:=by
    simp only [List.mem_cons,List.not_mem_nil,or_false] at hn
    omega
  have hz:=pow_ne (32 - n).toNat
  have hsz:=ok_l1Size ⟨0,n⟩ hn32.1 hn32.2
  have r11:([0,1,2,3,4,5,6,7,8,9,10]:List Nat) = List.range 11:=by decide
  have r8:([0,1,2,3,4,5,6,7]:List Nat) = List.range 8:=by decide
  by_cases hx1:x = 1
  · obtain ⟨y,a4,s4,hy,ha4,q4⟩:=ok_among 0 code hc [-1,33] (by decide) (by decide) a3 s3 (by omega) (by omega)
    subst hx1
    refine ⟨⟨IntKind.i64.wrap (d - d.tmod (szP n)),y⟩,a4,s4,by omega,?_⟩
    refine okS (fn:=Tryz.f107) [(111,[1]),(93,[1])] h0 Tryz.func107 (by kernel_rfl) rfl Tryz.ntmps107 Tryz.results107 (by simp) ?_
    unfold curP at q1 q2 q3 q4 ⊢
    simp [r11,r8]
    refine Inv_intro q1 ?_
    simp [r11,r8]
    refine Inv_intro q2 ?_
    simp [r11,r8]
    refine Inv_intro hsz ?_
    simp [szP,hz]
    refine Inv_intro q3 ?_
    simp
    refine Inv_intro q4 ?_
    simp [szP]
  · by_cases hx0:x = 0
    · subst hx0
      refine ⟨⟨IntKind.i64.wrap (IntKind.i64.wrap (d - d.tmod (szP n)) + 1),n⟩,a3,s3,by omega,?_⟩
      refine okS (fn:=Tryz.f107) [(111,[1]),(93,[1])] h0 Tryz.func107 (by kernel_rfl) rfl Tryz.ntmps107 Tryz.results107 (by simp) ?_
      unfold curP at q1 q2 q3 ⊢
      simp [r11,r8]
      refine Inv_intro q1 ?_
      simp [r11,r8]
      refine Inv_intro q2 ?_
      simp [r11,r8]
      refine Inv_intro hsz ?_
      simp [szP,hz]
      refine Inv_intro q3 ?_
      simp [szP]
    · refine ⟨⟨IntKind.i64.wrap (d - d.tmod (szP n)),n⟩,a3,s3,by omega,?_⟩
      refine okS (fn:=Tryz.f107) [(111,[1]),(93,[1])] h0 Tryz.func107 (by kernel_rfl) rfl Tryz.ntmps107 Tryz.results107 (by simp) ?_
      unfold curP at q1 q2 q3 ⊢
      simp [r11,r8]
      refine Inv_intro q1 ?_
      simp [r11,r8]
      refine Inv_intro q2 ?_
      simp [r11,r8]
      refine Inv_intro hsz ?_
      simp [szP,hz]
      refine Inv_intro q3 ?_
      simp [szP,hx0,hx1]
theorem ok_fine (code:List Int) (hc:codeOK code) (a s:Int) (ha:0 ≤ a) (ha2:a ≤ 3999990):∃ (p:GPrefix) (a' s':Int),goodPx p = true ∧ (a ≤ a' ∧ a' ≤ a + 4) ∧ CallOK Tryz.prog 148 [.bp (curP code a s)] (.agg p.c) [.bp (curP code a' s')]:=by
  obtain ⟨p,a1,s1,ha1,q1⟩:=ok_prefix code hc a s ha ha2
  cases hg:goodPx p with
  | true =>
    refine ⟨p,a1,s1,hg,ha1,?_⟩
    refine okS (fn:=Tryz.f148) [(107,[1])] h0 Tryz.func148 (by kernel_rfl) rfl Tryz.ntmps148 Tryz.results148 (by simp) ?_
    unfold curP at q1 ⊢
    simp
    refine Inv_intro q1 ?_
    simp
    refine Inv_intro (ok_sGoodPrefix p) ?_
    simp [hg]
  | false =>
    refine ⟨⟨167772160,8⟩,a1,s1,by decide,ha1,?_⟩
    refine okS (fn:=Tryz.f148) [(107,[1])] h0 Tryz.func148 (by kernel_rfl) rfl Tryz.ntmps148 Tryz.results148 (by simp) ?_
    unfold curP at q1 ⊢
    simp
    refine Inv_intro q1 ?_
    simp
    refine Inv_intro (ok_sGoodPrefix p) ?_
    simp [hg]
theorem exists_run {α:Type} (N:Nat) (x0:α) (I:Nat → α → Prop) (R:α → α → Prop) (h0:I 0 x0) (hs:∀ i x,i < N → I i x → ∃ y,R x y ∧ I (i + 1) y):∃ run:Nat → α,run 0 = x0 ∧ (∀ i,i ≤ N → I i (run i)) ∧ ∀ i,i < N → R (run i) (run (i + 1)):=by
  classical
  obtain ⟨run,hr⟩:∃ run:Nat → α,run = fun n => Nat.rec x0 (fun i x => if h:∃ y,R x y ∧ I (i + 1) y then Classical.choose h else x) n:=⟨_,rfl⟩
  have hz:run 0 = x0:=by subst hr; rfl
  have hst:∀ i,run (i + 1) = if h:∃ y,R (run i) y ∧ I (i + 1) y then Classical.choose h else run i:=fun i => by subst hr; rfl
  have hI:∀ i,i ≤ N → I i (run i):=by
    intro i
    induction i with
    | zero => intro _; rw [hz]; exact h0
    | succ i ih =>
      intro hi
      have h1:=hs i (run i) (by omega) (ih (by omega))
      rw [hst,dif_pos h1]
      exact (Classical.choose_spec h1).2
  refine ⟨run,hz,hI,fun i hi => ?_⟩
  have h1:=hs i (run i) hi (hI i (by omega))
  rw [hst,dif_pos h1]
  exact (Classical.choose_spec h1).1
/-! ### a drawn region with one pair that does not change places: both orders are reckoned -/
section
open Go Go.RowKit
variable {P:Program} {ops:Array Oper} {Q:Exit → Act → World → Prop} {E:Env} {r:Nat}
def rdyE (a b:Nat) (ops:Array Oper) (listed:Array Bool):List Nat:=(Region.ready .any ops listed).filter fun k => !(k == b) || listed.getD a false
def anyE (a b:Nat) (E:Env) (P:Program) (r:Nat) (ops:Array Oper) (xs:List OI) (K:St → Prop):Nat → Array Bool → St → Prop
  | 0,listed,st => rdyE a b ops listed = [] ∧ K st
  | f + 1,listed,st => (rdyE a b ops listed = [] → K st) ∧ ∀ i ∈ rdyE a b ops listed,∃ st',stMi E P r ops xs i st = some st' ∧ anyE a b E P r ops xs K f (listed.setIfInBounds i true) st'
theorem mem_rdyE {a b k:Nat} {listed:Array Bool}:k ∈ rdyE a b ops listed ↔ k ∈ Region.ready .any ops listed ∧ (k = b → listed.getD a false = true):=by
  unfold rdyE
  rw [List.mem_filter]
  by_cases h:k = b
  · subst h; simp
  · simp [h]
theorem rdyE_mono {a b i j:Nat} {listed:Array Bool} (hj:j ∈ rdyE a b ops listed) (hne:j ≠ i):j ∈ rdyE a b ops (listed.setIfInBounds i true):=by
  rw [mem_rdyE] at *
  exact ⟨ready_mono hj.1 hne,fun h => getD_set_true (hj.2 h)⟩
theorem anyE_any {a b:Nat} {xs:List OI} {K:St → Prop}:∀ (f:Nat) (listed:Array Bool) (st:St),listed.getD a false = true → anyE a b E P r ops xs K f listed st → anyV E P r ops xs K f listed st
  | 0,listed,st,hl,h => by
    have e:rdyE a b ops listed = Region.ready .any ops listed:=by
      unfold rdyE
      rw [hl]
      simp
    unfold anyE at h
    rw [e] at h
    exact h
  | f + 1,listed,st,hl,h => by
    have e:rdyE a b ops listed = Region.ready .any ops listed:=by
      unfold rdyE
      rw [hl]
      simp
    unfold anyE at h
    rw [e] at h
    refine ⟨h.1,fun i hi => ?_⟩
    obtain ⟨st',h1,h2⟩:=h.2 i hi
    exact ⟨st',h1,anyE_any f _ st' (getD_set_true hl) h2⟩
theorem any_two {a b:Nat} {xs:List OI} {K:St → Prop} (hab:a ≠ b):∀ (f:Nat) (listed:Array Bool) (st:St),listed.getD a false = false → listed.getD b false = false → anyE a b E P r ops xs K f listed st → anyE b a E P r ops xs K f listed st → anyV E P r ops xs K f listed st
  | 0,listed,st,ha,hb,h1,h2 => by
    refine ⟨?_,h1.2⟩
    rw [List.eq_nil_iff_forall_not_mem]
    intro k hk
    have g1:k ∉ rdyE a b ops listed:=by rw [h1.1]; simp
    have g2:k ∉ rdyE b a ops listed:=by rw [h2.1]; simp
    rw [mem_rdyE] at g1 g2
    have e1:k = b:=Classical.byContradiction fun h => g1 ⟨hk,fun e => absurd e h⟩
    have e2:k = a:=Classical.byContradiction fun h => g2 ⟨hk,fun e => absurd e h⟩
    exact hab (e2.symm.trans e1)
  | f + 1,listed,st,ha,hb,h1,h2 => by
    refine ⟨fun hr => h1.1 (by unfold rdyE; rw [hr]; rfl),fun i hi => ?_⟩
    by_cases hia:i = a
    · subst hia
      obtain ⟨st',g1,g2⟩:=h1.2 i (mem_rdyE.2 ⟨hi,fun e => absurd e hab⟩)
      refine ⟨st',g1,anyE_any f _ st' ?_ g2⟩
      have hlt:i < listed.size:=by
        rcases Nat.lt_or_ge i listed.size with h' | h'
        · exact h'
        · have:=(mem_ready.1 hi).1
          simp [Array.getElem?_eq_none h'] at this
      simp [hlt]
    · by_cases hib:i = b
      · subst hib
        obtain ⟨st',g1,g2⟩:=h2.2 i (mem_rdyE.2 ⟨hi,fun e => absurd e.symm hab⟩)
        refine ⟨st',g1,anyE_any f _ st' ?_ g2⟩
        have hlt:i < listed.size:=by
          rcases Nat.lt_or_ge i listed.size with h' | h'
          · exact h'
          · have:=(mem_ready.1 hi).1
            simp [Array.getElem?_eq_none h'] at this
        simp [hlt]
      · obtain ⟨st1,g1,g2⟩:=h1.2 i (mem_rdyE.2 ⟨hi,fun e => absurd e hib⟩)
        obtain ⟨st2,g3,g4⟩:=h2.2 i (mem_rdyE.2 ⟨hi,fun e => absurd e hia⟩)
        rw [g1] at g3
        cases g3
        exact ⟨st1,g1,any_two hab f _ st1 (by rw [getD_set_ne false hia]; exact ha) (by rw [getD_set_ne false hib]; exact hb) g2 g4⟩
theorem anyE_first {a b:Nat} {xs:List OI} {K:St → Prop} {i n:Nat}:∀ (f:Nat) (listed:Array Bool) (st st1:St),
    (∀ j,j ≠ i → listed.getD j true = false → waitsFor ops n i j = false → ¬ (i = a ∧ j = b) → ¬ (i = b ∧ j = a) → ∀ st st1 st2,stMi E P r ops xs i st = some st1 → stMi E P r ops xs j st1 = some st2 → ∃ st',stMi E P r ops xs j st = some st' ∧ stMi E P r ops xs i st' = some st2) →
    Closed ops listed → i ∈ rdyE a b ops listed → stMi E P r ops xs i st = some st1 → anyE a b E P r ops xs K f (listed.setIfInBounds i true) st1 → anyE a b E P r ops xs K (f + 1) listed st:=by
  intro f
  induction f with
  | zero =>
    intro listed st st1 hcomm hc hr hm H
    refine ⟨fun h => (by rw [h] at hr; cases hr),fun j hj => ?_⟩
    by_cases hji:j = i
    · subst hji; exact ⟨st1,hm,H⟩
    · have:=rdyE_mono hj hji
      rw [H.1] at this
      cases this
  | succ f ih =>
    intro listed st st1 hcomm hc hr hm H
    refine ⟨fun h => (by rw [h] at hr; cases hr),fun j hj => ?_⟩
    by_cases hji:j = i
    · subst hji; exact ⟨st1,hm,H⟩
    · obtain ⟨st2,h2,H2⟩:=H.2 j (rdyE_mono hj hji)
      have hr0:=mem_rdyE.1 hr
      have hj0:=mem_rdyE.1 hj
      have hi0:=getD_tf (mem_ready.1 hr0.1).1
      have hjf:=getD_tf (mem_ready.1 hj0.1).1
      obtain ⟨st',h3,h4⟩:=hcomm j hji (mem_ready.1 hj0.1).1 (ready_waits hc hi0 hj0.1 n) (by
        rintro ⟨rfl,rfl⟩
        rw [hj0.2 rfl] at hi0
        cases hi0) (by
        rintro ⟨rfl,rfl⟩
        rw [hr0.2 rfl] at hjf
        cases hjf) st st1 st2 hm h2
      refine ⟨st',h3,ih (listed.setIfInBounds j true) st' st2 (fun k hki hun hw => ?_) (hc.add hj0.1) (rdyE_mono hr (Ne.symm hji)) h4 ?_⟩
      · refine hcomm k hki ?_ hw
        by_cases hjk:j = k
        · subst hjk; exact (mem_ready.1 hj0.1).1
        · rw [getD_set_ne true hjk] at hun; exact hun
      · rw [Array.setIfInBounds_comm _ _ hji]
        exact H2
def runI (E:Env) (P:Program) (r:Nat) (ops:Array Oper) (xs:List OI):List Nat → St → Option St
  | [],st => some st
  | k :: l,st => nxt (stMi E P r ops xs k st) (runI E P r ops xs l)
def ordE (a b:Nat) (ops:Array Oper):List Nat → Array Bool → Bool
  | [],listed => (rdyE a b ops listed).isEmpty
  | k :: l,listed => (rdyE a b ops listed).contains k && ordE a b ops l (listed.setIfInBounds k true)
theorem anyE_run {ms:List Nat} {a b:Nat} {xs:List OI} {K:St → Prop} {n:Nat} {st':St} (hK:K st')
    (hcomm:∀ i j,ms.contains i = false → ms.contains j = false → i ≠ j → waitsFor ops n i j = false → waitsFor ops n j i = false → ¬ (i = a ∧ j = b) → ¬ (i = b ∧ j = a) → ∀ st st1 st2,stMi E P r ops xs i st = some st1 → stMi E P r ops xs j st1 = some st2 → ∃ st',stMi E P r ops xs j st = some st' ∧ stMi E P r ops xs i st' = some st2) :
    ∀ (l:List Nat) (listed:Array Bool) (st:St),(∀ j,ms.contains j = true → listed.getD j true = true) → ordE a b ops l listed = true → Closed ops listed → runI E P r ops xs l st = some st' → anyE a b E P r ops xs K l.length listed st
  | [],listed,st,_,hB,_,hl => by
    simp only [runI,Option.some.injEq] at hl
    subst hl
    exact ⟨by simpa [ordE] using hB,hK⟩
  | k :: l,listed,st,hL,hB,hc,hl => by
    simp only [ordE,Bool.and_eq_true] at hB
    obtain ⟨hr,hB'⟩:=hB
    have hr':k ∈ rdyE a b ops listed:=by simpa using hr
    have hr0:=mem_rdyE.1 hr'
    have hun:listed.getD k true = false:=(mem_ready.1 hr0.1).1
    have hmk:ms.contains k = false:=by
      cases hj:ms.contains k with
      | false => rfl
      | true => rw [hL k hj] at hun; cases hun
    simp only [runI] at hl
    unfold nxt at hl
    split at hl
    · rename_i st1 hm
      refine anyE_first (n:=n) l.length listed st st1 (fun j hj hunj hw => hcomm k j hmk ?_ (Ne.symm hj) hw (ready_waits hc (getD_tf hunj) hr0.1 n)) hc hr' hm ?_
      · cases hj:ms.contains j with
        | false => rfl
        | true => rw [hL j hj] at hunj; cases hunj
      · refine anyE_run hK hcomm l _ st1 (fun j hj => ?_) hB' (hc.add hr0.1) hl
        rw [getD_set_ne true (by rintro rfl; rw [hj] at hmk; cases hmk)]
        exact hL j hj
    · simp at hl
/-! plain moves, checks for nil and fields' addresses, taken ahead of all else -/
def preA (P:Program) (ms:List Nat):Nat → List Oper → St → Option St
  | _,[],st => some st
  | k,o :: l,st => if ms.contains k = true then (match o.op,o.guard with
      | .move x,none => match opv st x with
        | some s => preA P ms (k + 1) l (st.set o.dst s)
        | none => none
      | .nilCheck x,none => match opv st x with
        | some (.ptr pl off) => preA P ms (k + 1) l (st.set o.dst (.ptr pl off))
        | _ => none
      | .fieldAddr t x j,none => match opv st x,tfield P t j with
        | some (.ptr pl off),some (fo,ft) => if 0 < tsz P ft then preA P ms (k + 1) l (st.set o.dst (.ptr pl (off + fo))) else none
        | _,_ => none
      | _,_ => none) else preA P ms (k + 1) l st
theorem wpAny_movesA {ms:List Nat} {I:Nat → Nat → Prop} {bs:List Nat} {A:AD} {w0:World} {f:Nat} {listed1:Array Bool} (hsel:Region.noSelect ops = true) (hQ:∀ c a w,¬ Q (.panic c) a w) :
    ∀ (l:List Oper) (k:Nat) (listed:Array Bool) (st st1:St) (a:Act) (w:World) (L:Loc),(∀ j,l[j]? = ops[k + j]?) → movesK ms ops l.length k listed = some listed1 → Closed ops listed → preA P ms k l st = some st1 → Sim (tsz P) I bs A w0 st a w L [] →
      (∀ a' L',Sim (tsz P) I bs A w0 st1 a' w L' [] → Closed ops listed1 → wpAny P .any ops Q f listed1 a' w) → wpAny P .any ops Q (f + cntK ms l.length k) listed a w
  | [],k,listed,st,st1,a,w,L,hl,hB,hc,hp,hs,h => by
    simp only [preA,Option.some.injEq,List.length_nil,movesK] at hp hB
    subst hp
    subst hB
    exact h a L hs hc
  | o :: l,k,listed,st,st1,a,w,L,hl,hB,hc,hp,hs,h => by
    have ho:ops[k]? = some o:=by simpa using (hl 0).symm
    have hl':∀ j,l[j]? = ops[k + 1 + j]?:=fun j => by have:=hl (j + 1); simpa [Nat.add_assoc,Nat.add_comm 1 j] using this
    simp only [List.length_cons,movesK,cntK,preA] at hB hp ⊢
    by_cases hmk:ms.contains k = true
    · rw [if_pos hmk] at hB hp ⊢
      split at hB
      · rename_i hrf
        simp only [Bool.and_eq_true] at hrf
        have hr':k ∈ Region.ready .any ops listed:=by simpa using hrf.1
        have go:∀ (v:Value) (s:SV),o.guard = none → (∀ w,(execOp a.eval o).run P w = .ok (.value v) w) → SVR (tsz P) L w I v s → preA P ms (k + 1) l (st.set o.dst s) = some st1 → wpAny P .any ops Q (f + (cntK ms l.length (k + 1) + 1)) listed a w:=by
          intro v s hg hv hsv hp2
          have hw:Region.wanted o (yielded ops a.tmps) = true:=by simp [Region.wanted,hg]
          refine wpAny_first ho (Region.noSelect_spec hsel) (fun c a w h => absurd h (hQ _ _ _)) (f + cntK ms l.length (k + 1)) listed a w (Region.free_spec ho hrf.2) hr' (.inl ⟨hw,hv⟩) ?_
          have hs':Sim (tsz P) I bs A w0 (st.set o.dst s) (a.put o.dst v) w L []:=hs.setS _ hsv
          exact wpAny_movesA hsel hQ l (k + 1) _ _ st1 _ w L hl' hB (hc.add hr') hp2 hs' h
        split at hp
        · rename_i x hop hg
          split at hp
          · rename_i s hx
            refine go _ s hg (fun w => ?_) (opv_sound hs hx) hp
            unfold execOp
            rw [hop]
            simp [Sem.run_pure]
          · simp at hp
        · rename_i x hop hg
          split at hp
          · rename_i pl off hx
            have hv:=opv_sound hs hx
            have hv':=hv
            simp only [SVR] at hv'
            obtain ⟨b,c0,e,n,cs,_,hv'⟩:=hv'
            refine go (a.eval x) _ hg (fun w => ?_) hv hp
            unfold execOp
            rw [hop]
            simp [hv']
          · simp at hp
        · rename_i t x j hop hg
          split at hp
          · rename_i pl off fo ft hx hf
            split at hp
            · rename_i hsz
              obtain ⟨fs,f',hu,hk,rfl,rfl⟩:=tfield_und hf
              have hv:=opv_sound hs hx
              simp only [SVR] at hv
              obtain ⟨b,cap0,e,n,cs,hl,hv⟩:=hv
              refine go (.pointer (some ⟨b,off + f'.offset,none⟩)) _ hg (fun w => ?_) (by simp only [SVR]; exact ⟨b,cap0,e,n,cs,hl,rfl⟩) hp
              unfold execOp
              rw [hop]
              refine run_v ?_
              have hne:¬ tsz P f'.type = 0:=by omega
              simp only [Instr.fieldAt,hv,Sem.run_bind,run_underlying hu,Result.andThen_ok,hk,Instr.sureAddr,Sem.run_pure,fieldPlace,run_tsz (tsz_info hsz),hne,if_false,add_own]
            · simp at hp
          · simp at hp
        · simp at hp
      · simp at hB
    · rw [if_neg hmk] at hB hp ⊢
      exact wpAny_movesA hsel hQ l (k + 1) _ _ st1 _ w L hl' hB hc hp hs h
/-! the two orders told as runs through the list -/
def idxA (ms:List Nat):Nat → Nat → List Nat
  | 0,_ => []
  | f + 1,k => if ms.contains k = true then idxA ms f (k + 1) else k :: idxA ms f (k + 1)
def idxB (ms:List Nat) (a b:Nat):Nat → Nat → List Nat
  | 0,_ => []
  | f + 1,k => if ms.contains k = true then idxB ms a b f (k + 1) else if k = a then idxB ms a b f (k + 1) else if k = b then b :: a :: idxB ms a b f (k + 1) else k :: idxB ms a b f (k + 1)
def lexRunB (ms:List Nat) (a b:Nat) (E:Env) (P:Program) (r:Nat) (ops:Array Oper):Option (OI × Oper) → List OI → List Oper → Nat → St → Option St
  | _,_,[],_,st => some st
  | _,[],_ :: _,_,_ => none
  | pd,x :: xs,o :: rest,k,st => if ms.contains k = true then lexRunB ms a b E P r ops pd xs rest (k + 1) st else if k = a then lexRunB ms a b E P r ops (some (x,o)) xs rest (k + 1) st else if k = b then (match pd with
      | some (y,q) => nxt (stM E P r ops x b o st) fun st1 => nxt (stM E P r ops y a q st1) (lexRunB ms a b E P r ops none xs rest (k + 1))
      | none => none) else nxt (stM E P r ops x k o st) (lexRunB ms a b E P r ops pd xs rest (k + 1))
theorem lexRunB_nil {ms:List Nat} {a b:Nat} {pd:Option (OI × Oper)} {xs:List OI} {k:Nat} {st:St}:lexRunB ms a b E P r ops pd xs [] k st = some st:=by cases xs <;> rfl
theorem lexRunB_skip {ms:List Nat} {a b:Nat} {pd:Option (OI × Oper)} {x:OI} {xs:List OI} {o:Oper} {rest:List Oper} {k:Nat} {st:St} (h:ms.contains k = true):lexRunB ms a b E P r ops pd (x :: xs) (o :: rest) k st = lexRunB ms a b E P r ops pd xs rest (k + 1) st:=by
  simp only [lexRunB]
  rw [if_pos h]
theorem lexRunB_hold {ms:List Nat} {a b:Nat} {pd:Option (OI × Oper)} {x:OI} {xs:List OI} {o:Oper} {rest:List Oper} {st:St} (h:ms.contains a = false):lexRunB ms a b E P r ops pd (x :: xs) (o :: rest) a st = lexRunB ms a b E P r ops (some (x,o)) xs rest (a + 1) st:=by
  simp only [lexRunB,h,Bool.false_eq_true,if_false,if_true]
theorem lexRunB_give {ms:List Nat} {a b:Nat} {x y:OI} {xs:List OI} {o q:Oper} {rest:List Oper} {st:St} (h:ms.contains b = false) (hab:decide (b = a) = false):lexRunB ms a b E P r ops (some (y,q)) (x :: xs) (o :: rest) b st = nxt (stM E P r ops x b o st) fun st1 => nxt (stM E P r ops y a q st1) (lexRunB ms a b E P r ops none xs rest (b + 1)):=by
  have hab':¬ b = a:=by simpa using hab
  simp only [lexRunB,h,hab',Bool.false_eq_true,if_false,if_true]
theorem lexRunB_take {ms:List Nat} {a b:Nat} {pd:Option (OI × Oper)} {x:OI} {xs:List OI} {o:Oper} {rest:List Oper} {k:Nat} {st:St} (h:(ms.contains k || (decide (k = a) || decide (k = b))) = false):lexRunB ms a b E P r ops pd (x :: xs) (o :: rest) k st = nxt (stM E P r ops x k o st) (lexRunB ms a b E P r ops pd xs rest (k + 1)):=by
  simp only [Bool.or_eq_false_iff,decide_eq_false_iff_not] at h
  simp only [lexRunB]
  rw [if_neg (by simp only [h.1,Bool.false_eq_true,not_false_eq_true]),if_neg h.2.1,if_neg h.2.2]
theorem lexRunX_run {ms:List Nat} {xs:List OI} {st':St}:∀ (l:List Oper) (k:Nat) (st:St),(∀ j,l[j]? = ops[k + j]?) → lexRunX ms E P r ops xs k l st = some st' → runI E P r ops xs (idxA ms l.length k) st = some st'
  | [],k,st,_,h => by simpa [lexRunX,runI,idxA] using h
  | o :: l,k,st,hl,h => by
    have ho:ops[k]? = some o:=by simpa using (hl 0).symm
    have hl':∀ j,l[j]? = ops[k + 1 + j]?:=fun j => by have:=hl (j + 1); simpa [Nat.add_assoc,Nat.add_comm 1 j] using this
    simp only [lexRunX,List.length_cons,idxA] at h ⊢
    by_cases hm:ms.contains k = true
    · rw [if_pos hm] at h ⊢
      exact lexRunX_run l (k + 1) st hl' h
    · rw [if_neg hm] at h ⊢
      split at h
      · rename_i x hx
        unfold nxt at h
        split at h
        · rename_i st1 hs
          have hmi:stMi E P r ops xs k st = some st1:=by unfold stMi; rw [ho,hx]; exact hs
          simp only [runI,hmi,nxt]
          exact lexRunX_run l (k + 1) st1 hl' h
        · simp at h
      · simp at h
theorem lexRunB_run {ms:List Nat} {a b:Nat} {ys:List OI} {st':St}:∀ (l:List Oper) (k:Nat) (pd:Option (OI × Oper)) (xs:List OI) (st:St),(∀ j,l[j]? = ops[k + j]?) → (∀ j,xs[j]? = ys[k + j]?) → (∀ x o,pd = some (x,o) → ys[a]? = some x ∧ ops[a]? = some o) → lexRunB ms a b E P r ops pd xs l k st = some st' → runI E P r ops ys (idxB ms a b l.length k) st = some st'
  | [],k,pd,xs,st,_,_,_,h => by
    rw [lexRunB_nil] at h
    simpa [runI,idxB] using h
  | o :: l,k,pd,[],st,_,_,_,h => by simp [lexRunB] at h
  | o :: l,k,pd,x :: xs,st,hl,hx,hpd,h => by
    have ho:ops[k]? = some o:=by simpa using (hl 0).symm
    have hl':∀ j,l[j]? = ops[k + 1 + j]?:=fun j => by have:=hl (j + 1); simpa [Nat.add_assoc,Nat.add_comm 1 j] using this
    have h0:ys[k]? = some x:=by simpa using (hx 0).symm
    have hx':∀ j,xs[j]? = ys[k + 1 + j]?:=fun j => by have:=hx (j + 1); rwa [List.getElem?_cons_succ,show k + (j + 1) = k + 1 + j by omega] at this
    simp only [lexRunB,List.length_cons,idxB] at h ⊢
    by_cases hm:ms.contains k = true
    · rw [if_pos hm] at h ⊢
      exact lexRunB_run l (k + 1) pd xs st hl' hx' hpd h
    · rw [if_neg hm] at h ⊢
      by_cases hka:k = a
      · rw [if_pos hka] at h ⊢
        refine lexRunB_run l (k + 1) (some (x,o)) xs st hl' hx' (fun y q he => ?_) h
        cases he
        subst hka
        exact ⟨h0,ho⟩
      · rw [if_neg hka] at h ⊢
        by_cases hkb:k = b
        · rw [if_pos hkb] at h ⊢
          subst hkb
          cases pd with
          | some yq =>
            obtain ⟨y,q⟩:=yq
            simp only at h
            obtain ⟨g1,g2⟩:=hpd y q rfl
            unfold nxt at h
            split at h
            · rename_i st1 hs1
              dsimp only at h
              split at h
              · rename_i st2 hs2
                have e1:stMi E P r ops ys k st = some st1:=by unfold stMi; rw [ho,h0]; exact hs1
                have e2:stMi E P r ops ys a st1 = some st2:=by unfold stMi; rw [g1,g2]; exact hs2
                simp only [runI,e1,e2,nxt]
                exact lexRunB_run l (k + 1) none xs st2 hl' hx' (fun _ _ he => by cases he) h
              · simp at h
            · simp at h
          | none => simp at h
        · rw [if_neg hkb] at h ⊢
          unfold nxt at h
          split at h
          · rename_i st1 hs1
            have e1:stMi E P r ops ys k st = some st1:=by unfold stMi; rw [ho,h0]; exact hs1
            simp only [runI,e1,nxt]
            exact lexRunB_run l (k + 1) pd xs st1 hl' hx' hpd h
          · simp at h
def regE (ms:List Nat) (a b:Nat) (ops:Array Oper):Bool:=Region.noSelect ops && ((idxA ms ops.size 0).length + cntK ms ops.size 0 == ops.size && ((idxB ms a b ops.size 0).length == (idxA ms ops.size 0).length && (a != b && match movesK ms ops ops.size 0 (Array.replicate ops.size false) with
  | some l => ordE a b ops (idxA ms ops.size 0) l && (ordE b a ops (idxB ms a b ops.size 0) l && (ms.all (fun j => l.getD j true) && (!l.getD a false && !l.getD b false)))
  | none => false)))
def pairsE (a b:Nat) (r:Nat) (ops:Array Oper) (xs:List OI) (ms:List Nat):Bool:=(List.range ops.size).all fun j => (List.range j).all fun i => (i == a && j == b || (i == b && j == a)) || ((ms.contains i || (ms.contains j || pairAt r ops xs i j)) || waitB ops i j)
theorem drawE {id:Nat} {Q:Exit → St → Prop} {st:St} (ms:List Nat) (a b:Nat) (E:Env) (xs:List OI) (h0:tsz P nilE = 0) (hm:P.follows .mixedOrders = true) (hE:EnvOK P E) (hB:regE ms a b ops = true) (hp:pairsE a b id ops xs ms = true)
    (h:onSome (preA P ms 0 ops.toList st) fun st1 => onSome (lexRunS ms E P id ops xs ops.toList 0 st1) fun st2 => Q .normal st2 ∧ onSome (lexRunB ms a b E P id ops none xs ops.toList 0 st1) fun st3 => st3 = st2):ewp P (.region id ops true) Q st:=by
  unfold onSome at h
  split at h
  · rename_i st1 hpre
    split at h
    · rename_i st2 hr1
      obtain ⟨hQ2,h⟩:=h
      split at h
      · rename_i st3 hr2
        subst h
        have hrx:lexRunX ms E P id ops xs 0 ops.toList st1 = some st3:=by
          rcases lexRunS_eq (ms:=ms) (E:=E) (P:=P) (r:=id) (ops:=ops) xs ops.toList 0 xs st1 (fun j => by rw [Nat.zero_add]) with h2 | h2
          · rw [← h2]; exact hr1
          · rw [h2] at hr1; cases hr1
        have ra:=lexRunX_run (ops:=ops) ops.toList 0 st1 (fun j => by simp) hrx
        have rb:=lexRunB_run (ops:=ops) (ys:=xs) ops.toList 0 none xs st1 (fun j => by simp) (fun j => by rw [Nat.zero_add]) (fun _ _ he => by cases he) hr2
        have esz:ops.toList.length = ops.size:=by simp
        rw [esz] at ra rb
        intro I bs A w0 ac w L hs
        simp only [regE,Bool.and_eq_true,beq_iff_eq,bne_iff_ne,ne_eq] at hB
        obtain ⟨hsel,hfu,hln,hab,hB⟩:=hB
        split at hB
        · rename_i listed1 hmv
          simp only [Bool.and_eq_true,Bool.not_eq_true'] at hB
          obtain ⟨ho1,ho2,hall,hna,hnb⟩:=hB
          refine wp_region_any hm ?_
          have hd:Below w.heap.size w { w with drawn:=w.drawn + 1 }:=drew_below w
          have hs':=hs.grow hd (Nat.le_succ _)
          let Q0:Exit → Act → World → Prop:=fun e a w => e = .normal ∧ ∃ st' L',Sim (tsz P) I bs A w0 st' a w L' [] ∧ Q .normal st'
          refine wpAny_monoQ (Q:=Q0) (fun e a w hh => by obtain ⟨rfl,hh⟩:=hh; exact hh) _ _ _ _ ?_
          have hcl:Closed ops (Array.replicate ops.size false):=by
            intro m hm
            exfalso
            rcases Nat.lt_or_ge m ops.size with h' | h' <;> simp [h'] at hm
          have hcomm:∀ i j,ms.contains i = false → ms.contains j = false → i ≠ j → waitsFor ops 60 i j = false → waitsFor ops 60 j i = false → ¬ (i = a ∧ j = b) → ¬ (i = b ∧ j = a) → ∀ st st1 st2,stMi E P id ops xs i st = some st1 → stMi E P id ops xs j st1 = some st2 → ∃ st',stMi E P id ops xs j st = some st' ∧ stMi E P id ops xs i st' = some st2:=by
            intro i j hmi hmj hij hw1 hw2 hx1 hx2 st st1 st2 h1 h2
            unfold stMi at h1 h2
            split at h1
            · rename_i oi xi hoi hxi
              split at h2
              · rename_i oj xj hoj hxj
                have hi:=(Array.getElem?_eq_some_iff.1 hoi).1
                have hj:=(Array.getElem?_eq_some_iff.1 hoj).1
                have hsep:Sep id ops i j oi oj xi xj:=by
                  rcases Nat.lt_or_ge i j with hlt | hge
                  · have hb:=List.all_eq_true.1 (List.all_eq_true.1 hp j (by simpa using hj)) i (by simpa using hlt)
                    simp only [Bool.or_eq_true,Bool.and_eq_true,beq_iff_eq,pairAt,hoi,hoj,hxi,hxj,hmi,hmj,Bool.false_eq_true,false_or] at hb
                    rcases hb with (hb | hb) | (hb | hb)
                    · exact absurd hb hx1
                    · exact absurd hb hx2
                    · exact sepB_sound hij hb
                    · rw [waitB_sound hb] at hw1; cases hw1
                  · have hlt:j < i:=by omega
                    have hb:=List.all_eq_true.1 (List.all_eq_true.1 hp i (by simpa using hi)) j (by simpa using hlt)
                    simp only [Bool.or_eq_true,Bool.and_eq_true,beq_iff_eq,pairAt,hoi,hoj,hxi,hxj,hmi,hmj,Bool.false_eq_true,false_or] at hb
                    rcases hb with (hb | hb) | (hb | hb)
                    · exact absurd ⟨hb.2,hb.1⟩ hx2
                    · exact absurd ⟨hb.2,hb.1⟩ hx1
                    · exact (sepB_sound (Ne.symm hij) hb).symm
                    · rw [waitB_sound hb] at hw2; cases hw2
                obtain ⟨st',h3,h4⟩:=stM_comm hsep h1 h2
                exact ⟨st',by unfold stMi; rw [hoj,hxj]; exact h3,by unfold stMi; rw [hoi,hxi]; exact h4⟩
              · simp at h2
            · simp at h1
          have:=wpAny_movesA (Q:=Q0) (f:=(idxA ms ops.size 0).length) hsel (fun c a w hh => by obtain ⟨hh,_⟩:=hh; cases hh) ops.toList 0 (Array.replicate ops.size false) st st1 ac { w with drawn:=w.drawn + 1 } L (fun j => by simp) (by simpa using hmv) hcl hpre hs' (by
            intro a' L' g1 g3
            refine anyV_sound (r:=id) (xs:=xs) (K:=Q .normal) h0 hE (fun st a w L h1 h2 => ⟨rfl,st,L,h1,h2⟩) _ _ st1 a' _ L' g1 ?_
            have hL:∀ j,ms.contains j = true → listed1.getD j true = true:=fun j hj => List.all_eq_true.1 hall j (by simpa using hj)
            have k1:=anyE_run (ms:=ms) (a:=a) (b:=b) (E:=E) (P:=P) (r:=id) (ops:=ops) (xs:=xs) (K:=Q .normal) (n:=60) hQ2 hcomm _ listed1 st1 hL ho1 g3 ra
            have k2:=anyE_run (ms:=ms) (a:=b) (b:=a) (E:=E) (P:=P) (r:=id) (ops:=ops) (xs:=xs) (K:=Q .normal) (n:=60) hQ2 (fun i j x1 x2 x3 x4 x5 x6 x7 => hcomm i j x1 x2 x3 x4 x5 x7 x6) _ listed1 st1 hL ho2 g3 rb
            rw [hln] at k2
            exact any_two hab _ listed1 st1 hna hnb k1 k2)
          rw [show (idxA ms ops.size 0).length + cntK ms ops.toList.length 0 = ops.size by simpa using hfu] at this
          exact this
        · cases hB
      · exact h.elim
    · exact h.elim
  · exact h.elim
end
attribute [simp] preA lexRunB_nil lexRunB_skip lexRunB_hold lexRunB_give lexRunB_take
end Go.V
