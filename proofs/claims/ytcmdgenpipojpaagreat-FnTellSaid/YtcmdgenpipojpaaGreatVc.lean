/- The road V: code reckoned over trees of values, proved sound against the model once. No conditions. -/
import Derived.Test.YtcmdgenpipojpaaGreatVb
import Derived.Laws.IdiomCopy
set_option linter.all false
namespace Go.V
open Go.RowKit
set_option linter.unusedSimpArgs false
set_option linter.unusedVariables false

/-! ### a call's arguments: lent, taken to be given back, given away -/
def takeCell (sz:Nat → Nat) (m:Nat) (st:St) (s:SV):Option (PT × Option Pl × Option Pl × St) :=
  if m = 1 then match s with
    | .ref pl off len => match lookP st.hp pl with
      | some (.sl 0 e n cs) => if off = 0 ∧ len = n then some (.sl 0 e n cs,some pl,some pl,⟨st.sl.map (SV.kill pl.pre),hputP st.hp pl .hole⟩) else none
      | _ => none
    | .t p => some (p,none,none,st)
    | _ => none
  else match takeSV sz st s with
    | some (p,k,st1) => some (p,none,k,st1)
    | none => none
/-- The places taken now are neither below nor above those taken before. -/
def clear (ks:List Pl) (s:SV) (k:Option Pl):Bool:=!ks.any (fun pl => s.uses pl.pre) && !k.any (fun q => ks.any (fun pl => q.pre pl))
def takeCells (sz:Nat → Nat) (m:Nat) (st:St) (ks:List Pl):List SV → Option (List (PT × Option Pl) × List Pl × St)
  | [] => some ([],ks,st)
  | s :: ss => match takeCell sz m st s with
    | none => none
    | some (p,back,k,st1) => if clear ks s k = true then match takeCells sz m st1 (k.toList ++ ks) ss with
        | some (xs,ks',st2) => some ((p,back) :: xs,ks',st2)
        | none => none
      else none
inductive AT where
  | lent (s:SV)
  | c (p:PT) (back:Option Pl)
  | agg (l:List (PT × Option Pl))
  | box (p:PT) (back:Option Pl)
def takeArg (sz:Nat → Nat) (m:Nat) (st:St) (ks:List Pl) (s:SV):Option (AT × List Pl × St) :=
  if m = 0 then some (.lent s,ks,st) else match s with
    | .ptr pl 0 => match lookP st.hp pl with
      | some (.sl 0 e 1 cs) => if clear ks s (some pl) = true then some (.box (.sl 0 e 1 cs) (if m = 1 then some pl else none),pl :: ks,⟨st.sl.map (SV.kill pl.pre),hputP st.hp pl .hole⟩) else none
      | _ => none
    | .agg l => match takeCells sz m st ks l with
      | some (xs,ks',st') => some (.agg xs,ks',st')
      | none => none
    | s => if s.oneB = true then match takeCells sz m st ks [s] with
        | some ([(p,back)],ks',st') => some (.c p back,ks',st')
        | _ => none
      else none
def takeArgs (sz:Nat → Nat) (st:St) (ks:List Pl):List (SV × Nat) → Option (List AT × List Pl × St)
  | [] => some ([],ks,st)
  | (s,m) :: r => match takeArg sz m st ks s with
    | some (x,ks1,st1) => match takeArgs sz st1 ks1 r with
      | some (xs,ks2,st2) => some (x :: xs,ks2,st2)
      | none => none
    | none => none

section
variable {sz:Nat → Nat} {I I':Nat → Nat → Prop} {bs:List Nat} {A:AD} {w0 w w':World} {st st' st1 st2:St} {a:Act} {L L' L0 L1 L2:Loc} {hand hand':List LT} {P:Program} {o:Oper} {Q:Exit → Act → World → Prop}

/-- A tree that was taken, and the hole that waits for it. -/
def Taken (L0 L:Loc) (u:LT) (p:PT) (back:Option Pl):Prop :=
  u.erase = p ∧ ∀ pl,back = some pl → ∃ node,look L0 pl = some node ∧ Shp node u ∧ look L pl = some (.leaf u.val .hole)
/-- Holes stay where they are. -/
def HoleStay (ks:List Pl) (L L':Loc):Prop:=∀ pl v,pl ∈ ks → look L pl = some (.leaf v .hole) → look L' pl = some (.leaf v .hole)
theorem HoleStay.refl (ks:List Pl) (L:Loc):HoleStay ks L L:=fun _ _ _ h => h
theorem HoleStay.trans {ks ks':List Pl} (h:HoleStay ks L L1) (k:HoleStay ks' L1 L2) (hs:∀ x ∈ ks,x ∈ ks'):HoleStay ks L L2:=fun pl v hm h' => k pl v (hs pl hm) (h pl v hm h')
theorem HoleStay.of_stays {ks:List Pl} {f:Pl → Bool} (h:Stays f L L') (hf:∀ pl ∈ ks,f pl = false):HoleStay ks L L':=by
  intro pl v hm hl
  obtain ⟨node',h1,h2⟩:=h pl _ (hf pl hm) (by trivial) hl
  simp only [Shp] at h2
  rw [h1,h2]
theorem Taken.stay {u:LT} {p:PT} {back:Option Pl} {ks:List Pl} (h:Taken L0 L u p back) (hk:HoleStay ks L L') (hb:∀ pl,back = some pl → pl ∈ ks):Taken L0 L' u p back :=
  ⟨h.1,fun pl hpl => let ⟨node,h1,h2,h3⟩:=h.2 pl hpl; ⟨node,h1,h2,hk pl _ (hb pl hpl) h3⟩⟩
theorem Taken.of_stays {u:LT} {p:PT} {back:Option Pl} {f:Pl → Bool} (h:Taken L L1 u p back) (hk:Stays f L0 L) (hb:∀ pl,back = some pl → f pl = false ∧ ∃ node,look L0 pl = some node ∧ node.refable):Taken L0 L1 u p back:=by
  refine ⟨h.1,fun pl hpl => ?_⟩
  obtain ⟨node,h1,h2,h3⟩:=h.2 pl hpl
  obtain ⟨hf,node0,hl0,hr0⟩:=hb pl hpl
  obtain ⟨node1,hl1,hs1⟩:=hk pl node0 hf hr0 hl0
  rw [h1] at hl1
  cases hl1
  exact ⟨node0,hl0,hs1.trans h2,h3⟩

theorem takeCell_sound {m:Nat} (h:Sim sz I bs A w0 st a w L hand) {v:Value} {s:SV} {p:PT} {back k:Option Pl} (hr:SVR sz L w I v s) (h1:one v = true) (ht:takeCell sz m st s = some (p,back,k,st1)) :
    ∃ L' u,Sim sz I bs A w0 st1 a w L' (hand ++ [u]) ∧ u.val = v ∧ Taken L L' u p back ∧ Stays (fun q => k.toList.any (·.pre q)) L L' ∧ (∀ pl,back = some pl → k = some pl):=by
  unfold takeCell at ht
  split at ht
  · split at ht
    · rename_i pl off len
      split at ht
      · rename_i e n cs hlp
        split at ht
        · rename_i hc
          simp only [Option.some.injEq,Prod.mk.injEq] at ht
          obtain ⟨rfl,rfl,rfl,rfl⟩:=ht
          obtain ⟨rfl,rfl⟩:=hc
          rw [h.lookP] at hlp
          simp only [SVR] at hr
          rcases hr with ⟨b,cap0,e',n',lcs,o,cap,hl,hv,g1,g2,g3,g4⟩ | ⟨e',hl,_,hn0,ad,hv⟩
          · rw [hl] at hlp
            simp only [Option.map_some,LT.erase,Option.some.injEq,PT.sl.injEq,true_and] at hlp
            obtain ⟨rfl,rfl,rfl⟩:=hlp
            have hnh:=h.look_holds hl
            simp only [LT.holds] at hnh
            have hsz:=hnh.2.2.2.1
            have hcap:cap = cap0:=by
              rw [Nat.zero_add] at g4
              exact Nat.eq_of_mul_eq_mul_right hsz.1 g4
            subst hcap
            have ho:o = 0:=by rcases g1 with g1 | g1 <;> omega
            subst ho
            obtain ⟨L',hs,hhole,hk⟩:=h.take hl (by simp [LT.val,one])
            refine ⟨L',_,hs,by simp [LT.val,hv],⟨by simp [LT.erase],?_⟩,?_,by simp⟩
            · intro pl' hpl
              cases hpl
              exact ⟨_,hl,Shp.refl _,hhole⟩
            · exact fun q node hq hrf hn => hk q node (by simpa using hq) hrf hn
          · rw [hl] at hlp
            simp only [Option.map_some,LT.erase,Option.some.injEq,PT.sl.injEq,true_and] at hlp
            obtain ⟨rfl,rfl,rfl⟩:=hlp
            obtain ⟨L',hs,hhole,hk⟩:=h.take hl h1
            refine ⟨L',_,hs,by simp [LT.val],⟨by simp [LT.erase],?_⟩,?_,by simp⟩
            · intro pl' hpl
              cases hpl
              exact ⟨_,hl,Shp.refl _,hhole⟩
            · exact fun q node hq hrf hn => hk q node (by simpa using hq) hrf hn
        · simp at ht
      · simp at ht
    · rename_i p'
      simp only [Option.some.injEq,Prod.mk.injEq] at ht
      obtain ⟨rfl,rfl,rfl,rfl⟩:=ht
      obtain ⟨L',t,g1,g2,g3,g4⟩:=takeSV_sound h hr h1 (show takeSV sz st (.t p') = some (p',none,st) from rfl)
      exact ⟨L',t,g1,g2,⟨g3,by simp⟩,g4,by simp⟩
    · simp at ht
  · split at ht
    · rename_i p' k' st' hts
      simp only [Option.some.injEq,Prod.mk.injEq] at ht
      obtain ⟨rfl,rfl,rfl,rfl⟩:=ht
      obtain ⟨L',t,g1,g2,g3,g4⟩:=takeSV_sound h hr h1 hts
      exact ⟨L',t,g1,g2,⟨g3,by simp⟩,g4,by simp⟩
    · simp at ht

theorem clear_spec {ks:List Pl} {s:SV} {k:Option Pl} (h:clear ks s k = true):ks.any (fun pl => s.uses pl.pre) = false ∧ ∀ q,k = some q → ∀ pl ∈ ks,q.pre pl = false:=by
  simp only [clear,Bool.and_eq_true,Bool.not_eq_true'] at h
  refine ⟨h.1,fun q hq pl hpl => ?_⟩
  subst hq
  have:=h.2
  simp only [Option.any_some] at this
  exact (List.any_eq_false.1 this) pl hpl |> fun h => by simpa using h
theorem stays_any {ks ks':List Pl} {L L' L'':Loc} (h:Stays (fun q => ks.any (·.pre q)) L L') (k:Stays (fun q => ks'.any (·.pre q)) L' L''):Stays (fun q => (ks' ++ ks).any (·.pre q)) L L'' :=
  h.trans k (fun q hq => by simp only [List.any_append,Bool.or_eq_false_iff] at hq; exact hq.2) (fun q hq => by simp only [List.any_append,Bool.or_eq_false_iff] at hq; exact hq.1)

/-- The trees taken for some cells. -/
def TakenL (L0 L:Loc):List LT → List (PT × Option Pl) → Prop
  | [],[] => True
  | u :: us,x :: xs => Taken L0 L u x.1 x.2 ∧ TakenL L0 L us xs
  | _,_ => False
theorem TakenL.stay {ks:List Pl} (hk:HoleStay ks L L'):∀ {us:List LT} {xs:List (PT × Option Pl)},TakenL L0 L us xs → (∀ x ∈ xs,∀ pl,x.2 = some pl → pl ∈ ks) → TakenL L0 L' us xs
  | [],[],_,_ => trivial
  | u :: us,x :: xs,h,hb => ⟨h.1.stay hk (hb x (by simp)),TakenL.stay hk h.2 fun y hy => hb y (by simp [hy])⟩
  | [],_ :: _,h,_ => h.elim
  | _ :: _,[],h,_ => h.elim
theorem TakenL.erase:∀ {us:List LT} {xs:List (PT × Option Pl)},TakenL L0 L us xs → us.map LT.erase = xs.map (·.1)
  | [],[],_ => rfl
  | u :: us,x :: xs,h => by simp [h.1.1,TakenL.erase h.2]
  | [],_ :: _,h => h.elim
  | _ :: _,[],h => h.elim

theorem takeCells_sound {m:Nat}:∀ (ss:List SV) {st:St} {L:Loc} {hand:List LT} {ks:List Pl} {vs:List Value} {xs:List (PT × Option Pl)} {ks':List Pl} {st':St},Sim sz I bs A w0 st a w L hand → SVRL sz L0 w I vs ss → (∀ v ∈ vs,one v = true) →
    Stays (fun q => ks.any (·.pre q)) L0 L → takeCells sz m st ks ss = some (xs,ks',st') →
    ∃ L' us,Sim sz I bs A w0 st' a w L' (hand ++ us) ∧ us.map LT.val = vs ∧ TakenL L0 L' us xs ∧ Stays (fun q => ks'.any (·.pre q)) L0 L' ∧ HoleStay ks L L' ∧ (∀ x ∈ ks,x ∈ ks') ∧ ∀ x ∈ xs,∀ pl,x.2 = some pl → pl ∈ ks'
  | [],st,L,hand,ks,vs,xs,ks',st',h,hr,_,hk,ht => by
    simp only [takeCells,Option.some.injEq,Prod.mk.injEq] at ht
    obtain ⟨rfl,rfl,rfl⟩:=ht
    simp only [SVRL] at hr
    subst hr
    exact ⟨L,[],by simpa using h,rfl,trivial,hk,HoleStay.refl _ _,fun _ h => h,by simp⟩
  | s :: ss,st,L,hand,ks,vs,xs,ks',st',h,hr,h1,hk,ht => by
    simp only [takeCells] at ht
    split at ht
    · simp at ht
    · rename_i p back k st1 htc
      split at ht
      · rename_i hcl
        split at ht
        · rename_i xs' ks2 st2 hta
          simp only [Option.some.injEq,Prod.mk.injEq] at ht
          obtain ⟨rfl,rfl,rfl⟩:=ht
          simp only [SVRL] at hr
          obtain ⟨v,vs',rfl,hv,hvs⟩:=hr
          obtain ⟨c1,c2⟩:=clear_spec hcl
          have hu:=uses_any ks s c1
          have hv':SVR sz L w I v s:=(SVR.all (fun q => ks.any (·.pre q)) hk (fun _ _ hb => hb) (fun _ _ _ => rfl)).1 v s hu hv
          obtain ⟨L',u,g1,g2,g3,g4,g5⟩:=takeCell_sound h hv' (h1 v (by simp)) htc
          have hk2:=stays_any hk g4
          obtain ⟨L'',us,f1,f2,f3,f4,f5,f6,f7⟩:=takeCells_sound ss g1 hvs (fun u hu => h1 u (by simp [hu])) hk2 hta
          have hback:∀ pl,back = some pl → pl ∈ k.toList ++ ks:=fun pl hpl => by rw [g5 pl hpl]; simp
          have hh1:HoleStay ks L L':=HoleStay.of_stays g4 (fun pl hpl => by
            cases k with
            | none => rfl
            | some q => simpa using c2 q rfl pl hpl)
          refine ⟨L'',u :: us,by simpa using f1,by simp [g2,f2],⟨(g3.of_stays hk fun pl hpl => ?_).stay f5 hback,f3⟩,f4,hh1.trans f5 (fun x hx => List.mem_append_right _ hx),fun x hx => f6 x (List.mem_append_right _ hx),?_⟩
          · -- the place that is taken led somewhere from the first
            have hts:=htc
            unfold takeCell at hts
            split at hts
            · cases s with
              | ref pl' off len =>
                have e:pl' = pl:=by
                  have:=g5 pl hpl
                  subst this
                  simp only at hts
                  split at hts
                  · split at hts
                    · simp only [Option.some.injEq,Prod.mk.injEq] at hts
                      exact hts.2.2.1
                    · simp at hts
                  · simp at hts
                subst e
                simp only [SV.uses] at hu
                refine ⟨hu,?_⟩
                simp only [SVR] at hv
                rcases hv with ⟨b,cap0,e',n',lcs,o,cap,hl,_⟩ | ⟨e',hl,_⟩
                · exact ⟨_,hl,trivial⟩
                · exact ⟨_,hl,trivial⟩
              | t p' => simp only [Option.some.injEq,Prod.mk.injEq] at hts; rw [← hts.2.1] at hpl; simp at hpl
              | _ => simp at hts
            · split at hts
              · simp only [Option.some.injEq,Prod.mk.injEq] at hts; rw [← hts.2.1] at hpl; simp at hpl
              · simp at hts
          · intro x hx pl hpl
            rcases List.mem_cons.1 hx with rfl | hx
            · exact f6 _ (hback pl hpl)
            · exact f7 x hx pl hpl
        · simp at ht
      · simp at ht

/-- What stands for an argument that was taken. -/
def ATR (sz:Nat → Nat) (w:World) (I:Nat → Nat → Prop) (L0 L:Loc) (v:Value):AT → LV → Prop
  | .lent s,la => SVR sz L0 w I v s ∧ la = .tup []
  | .c p back,la => ∃ u,la = .c u ∧ Taken L0 L u p back ∧ u.val = v
  | .agg l,la => ∃ us,la = .agg us ∧ TakenL L0 L us l ∧ v = .agg (us.map LT.val).toArray
  | .box p back,la => ∃ u,la = .bp u ∧ Taken L0 L u p back ∧ u.ptr = v ∧ ∃ b cap e cs,u = .own b cap e 1 cs
def AT.backs:AT → List Pl
  | .lent _ => []
  | .c _ back => back.toList
  | .agg l => l.flatMap fun x => x.2.toList
  | .box _ back => back.toList
def ATRL (sz:Nat → Nat) (w:World) (I:Nat → Nat → Prop) (L0 L:Loc):List Value → List AT → List LV → Prop
  | [],[],[] => True
  | v :: vs,x :: xs,l :: ls => ATR sz w I L0 L v x l ∧ ATRL sz w I L0 L vs xs ls
  | _,_,_ => False
theorem ATR.stay {ks:List Pl} (hk:HoleStay ks L L') {v:Value} {x:AT} {la:LV} (h:ATR sz w I L0 L v x la) (hb:∀ pl ∈ x.backs,pl ∈ ks):ATR sz w I L0 L' v x la:=by
  cases x with
  | lent s => exact h
  | c p back => obtain ⟨u,h1,h2,h3⟩:=h; exact ⟨u,h1,h2.stay hk (fun pl hpl => hb pl (by simp [AT.backs,hpl])),h3⟩
  | agg l => obtain ⟨us,h1,h2,h3⟩:=h; exact ⟨us,h1,h2.stay hk (fun y hy pl hpl => hb pl (by simp only [AT.backs,List.mem_flatMap]; exact ⟨y,hy,by simp [hpl]⟩)),h3⟩
  | box p back => obtain ⟨u,h1,h2,h3⟩:=h; exact ⟨u,h1,h2.stay hk (fun pl hpl => hb pl (by simp [AT.backs,hpl])),h3⟩

theorem takeArg_sound {m:Nat} (h:Sim sz I bs A w0 st a w L hand) {ks ks':List Pl} {v:Value} {s:SV} {x:AT} (hr:SVR sz L0 w I v s) (hk:Stays (fun q => ks.any (·.pre q)) L0 L) (ht:takeArg sz m st ks s = some (x,ks',st1)) :
    ∃ L' la,Sim sz I bs A w0 st1 a w L' (hand ++ la.trees) ∧ ATR sz w I L0 L' v x la ∧ Stays (fun q => ks'.any (·.pre q)) L0 L' ∧ HoleStay ks L L' ∧ (∀ y ∈ ks,y ∈ ks') ∧ ∀ pl ∈ x.backs,pl ∈ ks':=by
  unfold takeArg at ht
  split at ht
  · simp only [Option.some.injEq,Prod.mk.injEq] at ht
    obtain ⟨rfl,rfl,rfl⟩:=ht
    exact ⟨L,.tup [],by simpa [LV.trees,LV.trees.treesL] using h,⟨hr,rfl⟩,hk,HoleStay.refl _ _,fun _ h => h,by simp [AT.backs]⟩
  · split at ht
    · rename_i pl
      split at ht
      · rename_i e cs hlp
        split at ht
        · rename_i hcl
          simp only [Option.some.injEq,Prod.mk.injEq] at ht
          obtain ⟨rfl,rfl,rfl⟩:=ht
          obtain ⟨c1,c2⟩:=clear_spec hcl
          have hu:=uses_any ks _ c1
          have hv':=(SVR.all (fun q => ks.any (·.pre q)) hk (fun _ _ hb => hb) (fun _ _ _ => rfl)).1 v _ hu hr
          simp only [SVR] at hv' hr
          obtain ⟨b,cap0,e',n',lcs,hl,hv⟩:=hv'
          obtain ⟨b0,cap00,e0,n0,lcs0,hl0,hv0⟩:=hr
          rw [h.lookP,hl] at hlp
          simp only [Option.map_some,LT.erase,Option.some.injEq,PT.sl.injEq,true_and] at hlp
          obtain ⟨rfl,rfl,rfl⟩:=hlp
          obtain ⟨L',hs,hhole,hkk⟩:=h.take hl (by simp [LT.val,one])
          have hks:Stays (fun q => [pl].any (·.pre q)) L L':=fun q node hq hrf hn => hkk q node (by simpa using hq) hrf hn
          simp only [SV.uses] at hu
          obtain ⟨node1,hl1,hs1⟩:=hk pl _ hu (by trivial) hl0
          rw [hl] at hl1
          cases hl1
          refine ⟨L',.bp (.own b cap0 e' 1 lcs),by simpa [LV.trees] using hs,⟨_,rfl,⟨by simp [LT.erase],?_⟩,by simp [LT.ptr,hv],b,cap0,e',lcs,rfl⟩,stays_any hk hks,?_,by simp +contextual,?_⟩
          · intro pl' hpl
            have:pl' = pl:=by split at hpl <;> simp_all
            subst this
            exact ⟨_,hl0,hs1,hhole⟩
          · exact HoleStay.of_stays hks (fun q hq => by simpa using c2 pl rfl q hq)
          · simp only [AT.backs]; split <;> simp
        · simp at ht
      · simp at ht
    · rename_i l
      split at ht
      · rename_i xs ks2 st2 hta
        simp only [Option.some.injEq,Prod.mk.injEq] at ht
        obtain ⟨rfl,rfl,rfl⟩:=ht
        simp only [SVR] at hr
        obtain ⟨vs,hv,hl,h1⟩:=hr
        obtain ⟨L',us,f1,f2,f3,f4,f5,f6,f7⟩:=takeCells_sound l h hl h1 hk hta
        refine ⟨L',.agg us,by simpa [LV.trees] using f1,⟨us,rfl,f3,by rw [hv,f2]⟩,f4,f5,f6,?_⟩
        intro pl hpl
        simp only [AT.backs,List.mem_flatMap,Option.mem_toList] at hpl
        obtain ⟨y,hy,hyp⟩:=hpl
        exact f7 y hy pl hyp
      · simp at ht
    · rename_i hs1 hs2
      split at ht
      · rename_i ho
        split at ht
        · rename_i p back ks2 st2 hta
          simp only [Option.some.injEq,Prod.mk.injEq] at ht
          obtain ⟨rfl,rfl,rfl⟩:=ht
          have h1:=oneB_sound hr ho
          obtain ⟨L',us,f1,f2,f3,f4,f5,f6,f7⟩:=takeCells_sound [s] h (vs:=[v]) (by simp only [SVRL]; exact ⟨v,[],rfl,hr,rfl⟩) (by simpa using h1) hk hta
          cases us with
          | nil => simp at f2
          | cons u us =>
            simp only [List.map_cons,List.cons.injEq,List.map_eq_nil_iff] at f2
            obtain ⟨f2,rfl⟩:=f2
            refine ⟨L',.c u,by simpa [LV.trees] using f1,⟨u,rfl,f3.1,f2⟩,f4,f5,f6,?_⟩
            intro pl hpl
            simp only [AT.backs,Option.mem_toList] at hpl
            exact f7 (p,back) (by simp) pl hpl
        · simp at ht
      · simp at ht

theorem takeArgs_sound:∀ (ss:List (SV × Nat)) {st:St} {L:Loc} {hand:List LT} {ks:List Pl} {vs:List Value} {xs:List AT} {ks':List Pl} {st':St},Sim sz I bs A w0 st a w L hand → SVRL sz L0 w I vs (ss.map (·.1)) →
    Stays (fun q => ks.any (·.pre q)) L0 L → takeArgs sz st ks ss = some (xs,ks',st') →
    ∃ L' las,Sim sz I bs A w0 st' a w L' (hand ++ las.flatMap LV.trees) ∧ ATRL sz w I L0 L' vs xs las ∧ Stays (fun q => ks'.any (·.pre q)) L0 L' ∧ HoleStay ks L L' ∧ (∀ y ∈ ks,y ∈ ks') ∧ ∀ x ∈ xs,∀ pl ∈ x.backs,pl ∈ ks'
  | [],st,L,hand,ks,vs,xs,ks',st',h,hr,hk,ht => by
    simp only [takeArgs,Option.some.injEq,Prod.mk.injEq] at ht
    obtain ⟨rfl,rfl,rfl⟩:=ht
    simp only [List.map_nil,SVRL] at hr
    subst hr
    exact ⟨L,[],by simpa using h,trivial,hk,HoleStay.refl _ _,fun _ h => h,by simp⟩
  | (s,m) :: ss,st,L,hand,ks,vs,xs,ks',st',h,hr,hk,ht => by
    simp only [takeArgs] at ht
    split at ht
    · rename_i x ks1 st1 hta
      split at ht
      · rename_i xs' ks2 st2 htr
        simp only [Option.some.injEq,Prod.mk.injEq] at ht
        obtain ⟨rfl,rfl,rfl⟩:=ht
        simp only [List.map_cons,SVRL] at hr
        obtain ⟨v,vs',rfl,hv,hvs⟩:=hr
        obtain ⟨L',la,g1,g2,g3,g4,g5,g6⟩:=takeArg_sound h hv hk hta
        obtain ⟨L'',las,f1,f2,f3,f4,f5,f6⟩:=takeArgs_sound ss g1 hvs g3 htr
        refine ⟨L'',la :: las,by simpa using f1,⟨g2.stay f4 g6,f2⟩,f3,g4.trans f4 g5,fun y hy => f5 y (g5 y hy),?_⟩
        intro y hy pl hpl
        rcases List.mem_cons.1 hy with rfl | hy
        · exact f5 _ (g6 pl hpl)
        · exact f6 y hy pl hpl
      · simp at ht
    · simp at ht
end
end Go.V

namespace Go.V
open Go.RowKit
set_option linter.unusedSimpArgs false
set_option linter.unusedVariables false

/-! ### what is lent -/
mutual
/-- Something that is lent out of what is one's own, or told anew. -/
def SV.lendy:SV → Bool
  | .ref _ _ _ => true
  | .ptr _ _ => true
  | .fnc _ _ => true
  | .agg l => SV.lendyL l
  | _ => false
def SV.lendyL:List SV → Bool
  | [] => false
  | s :: ss => s.lendy || SV.lendyL ss
end
/-- A cell of a captured box: what is one's own is lent, what is only read stays as it is. -/
def PT.lendC:PT → PT
  | .sl 0 _ n cs => .sl 1 0 n (PT.unownL cs)
  | p => p
def PT.lendCL:List PT → List PT
  | [] => []
  | c :: cs => c.lendC :: PT.lendCL cs
def lendCaps (st:St):List SV → Option (List (List PT))
  | [] => some []
  | .ptr pl off :: r => match lookP st.hp pl,lendCaps st r with
    | some (.sl 0 _ _ cs),some l => some (PT.lendCL (cs.drop off) :: l)
    | _,_ => none
  | .ip _ ps :: r => match lendCaps st r with
    | some l => some (ps :: l)
    | none => none
  | _ => none
def lendP (sz:Nat → Nat) (st:St):SV → Option PT
  | .t p => if (SV.t p).oneB = true then some (match p with | .sl 0 _ _ _ => .sl 2 0 0 [] | p => p) else none
  | .ref pl off len => match lookP st.hp pl with
    | some (.sl 0 e _ cs) => some (.sl 1 0 len (PT.unownL ((cs.drop off).take (len * sz e))))
    | _ => none
  | .fnc g caps => (lendCaps st caps).map (.fn 1 g)
  | _ => none
def lendPs (sz:Nat → Nat) (st:St):List SV → Option (List PT)
  | [] => some []
  | s :: ss => match lendP sz st s,lendPs sz st ss with
    | some p,some ps => some (p :: ps)
    | _,_ => none
def lendV (sz:Nat → Nat) (st:St):SV → Option PV
  | .agg l => (lendPs sz st l).map .agg
  | .ptr pl off => match lookP st.hp pl with
    | some (.sl 0 _ _ cs) => some (.ip 1 (PT.unownL (cs.drop off)))
    | _ => none
  | .ip k ps => some (.ip k ps)
  | s => (lendP sz st s).map .c
def lendArgs (sz:Nat → Nat) (st:St) (ks:List Pl):List AT → Option (List PV)
  | [] => some []
  | .lent s :: r => if ks.any (fun pl => s.uses pl.pre) = true then none else match lendV sz st s,lendArgs sz st ks r with
    | some x,some xs => some (x :: xs)
    | _,_ => none
  | .c p _ :: r => (lendArgs sz st ks r).map (.c p :: ·)
  | .agg l :: r => (lendArgs sz st ks r).map (.agg (l.map (·.1)) :: ·)
  | .box p _ :: r => (lendArgs sz st ks r).map (.bp p :: ·)
def AT.lendy:AT → Bool
  | .lent s => s.lendy
  | _ => false

section
variable {sz:Nat → Nat} {I I':Nat → Nat → Prop} {bs:List Nat} {A:AD} {w0 w w':World} {st st' st1 st2:St} {a:Act} {L L' L0 L1 L2:Loc} {hand hand':List LT} {P:Program} {o:Oper} {Q:Exit → Act → World → Prop}

/-- What may be lent: what is one's own, and what is lent to oneself. -/
def Lends (L:Loc) (I I':Nat → Nat → Prop):Prop:=(∀ id t b,L id = some t → b ∈ t.blocks → I' 1 b) ∧ ∀ k b,I k b → I' 1 b
theorem look_blocks {pl:Pl} {t:LT} (h:look L pl = some t):∃ id u,L id = some u ∧ ∀ b ∈ t.blocks,b ∈ u.blocks:=by
  unfold look at h
  cases hi:L pl.id with
  | none => simp [hi] at h
  | some r =>
    simp only [hi] at h
    obtain ⟨rest,q1,_⟩:=LT.split t r pl.path h
    exact ⟨_,r,hi,fun b hb => q1.mem_iff.2 (List.mem_append_left _ hb)⟩
theorem ImL.lift (hI:∀ k b,I k b → I' k b) (h1:∀ k b,I k b → I' 1 b) {k:Nat} {a:Option Addr}:∀ {cs:List PT} {j:Nat},ImL w I k a j cs → ImL w I' 1 a j cs
  | [],_,_ => by simp [ImL]
  | c :: cs,j,h => by
    simp only [ImL] at h ⊢
    obtain ⟨⟨x,u,ha,hb,hc,ho,hu⟩,hr⟩:=h
    exact ⟨⟨x,u,ha,h1 _ _ hb,hc,ho,(Im.all hI (fun _ _ _ => rfl)).1 _ _ hu⟩,ImL.lift hI h1 hr⟩
theorem lend_node (h:Sim sz I bs A w0 st a w L hand) (hI:∀ k b,I k b → I' k b) (hl1:Lends L I I') {pl:Pl} {b cap e n:Nat} {cs:List LT} (hl:look L pl = some (.own b cap e n cs)) (off:Nat) :
    ImL w I' 1 (some ⟨b,off,none⟩) 0 (PT.unownL ((cs.map LT.erase).drop off)):=by
  obtain ⟨id,u,hu,hsub⟩:=look_blocks hl
  have:=own_imm hI hl1.2 _ (h.look_holds hl) (fun x hx => hl1.1 id u x hu (hsub x hx))
  simp only [LT.val,LT.erase,PT.unown,Im] at this
  obtain ⟨ad,cap',hv,_,hm⟩:=this
  simp only [Value.slice.injEq] at hv
  obtain ⟨rfl,_,_⟩:=hv
  have h2:=hm.drop off 0 _
  have h3:=ImL.shift _ off 0 (by simpa using h2)
  rw [add_own,Nat.zero_add] at h3
  rw [PT.unownL_eq] at h3 ⊢
  rwa [← List.map_drop] at h3
theorem PT.lendCL_eq:∀ l:List PT,PT.lendCL l = l.map PT.lendC
  | [] => by simp [PT.lendCL]
  | c :: cs => by simp [PT.lendCL,PT.lendCL_eq cs]
theorem lendC_imm (hI:∀ k b,I k b → I' k b) (h1:∀ k b,I k b → I' 1 b) (t:LT) (ht:t.holds sz w I) (hb:∀ b ∈ t.blocks,I' 1 b):Im w I' t.val t.erase.lendC:=by
  have h2:=own_imm hI h1 t ht hb
  cases t with
  | leaf v p =>
    simp only [LT.holds] at ht
    simp only [LT.val,LT.erase] at h2 ⊢
    unfold PT.lendC
    split
    · simpa only [PT.unown] using h2
    · exact (Im.all hI (fun _ _ _ => rfl)).1 _ _ ht.1
  | own b cap e n cs =>
    simp only [LT.erase,PT.lendC]
    simpa only [LT.erase,PT.unown] using h2
theorem lend_nodeC (h:Sim sz I bs A w0 st a w L hand) (hI:∀ k b,I k b → I' k b) (hl1:Lends L I I') {pl:Pl} {b cap e n:Nat} {cs:List LT} (hl:look L pl = some (.own b cap e n cs)) (off:Nat) :
    ImL w I' 1 (some ⟨b,off,none⟩) 0 (PT.lendCL ((cs.map LT.erase).drop off)):=by
  obtain ⟨id,u,hu,hsub⟩:=look_blocks hl
  have hh:=h.look_holds hl
  have hbl:∀ x ∈ (LT.own b cap e n cs).blocks,I' 1 x:=fun x hx => hl1.1 id u x hu (hsub x hx)
  simp only [LT.holds] at hh
  obtain ⟨⟨arr,h1,h2,h3⟩,h4,h5,h6,h7⟩:=hh
  have key:∀ (ds:List LT) (j:Nat),(∀ i d,ds[i]? = some d → cs[j + i]? = some d) → ImL w I' 1 (some ⟨b,0,none⟩) j (PT.lendCL (ds.map LT.erase)):=by
    intro ds
    induction ds with
    | nil => intro j _; simp [PT.lendCL,ImL]
    | cons d ds ihd =>
      intro j hd
      have hdj:=hd 0 d rfl
      have hdm:=List.mem_of_getElem? hdj
      simp only [List.map_cons,PT.lendCL,ImL]
      refine ⟨⟨_,d.val,rfl,hbl b (by simp [LT.blocks]),?_,LT.holds_one (h7 d hdm),lendC_imm hI hl1.2 d (h7 d hdm) fun x hx => hbl x (by simp only [LT.blocks]; exact List.mem_cons_of_mem _ (List.mem_flatMap.2 ⟨d,hdm,hx⟩))⟩,ihd (j + 1) fun i d' hd' => ?_⟩
      · rw [add_own,Nat.zero_add,cell_at h1]; exact h3 j d hdj
      · have:=hd (i + 1) d' (by simpa using hd'); rwa [show j + 1 + i = j + (i + 1) by omega]
  have h2:=(key cs 0 fun i d hd => by simpa using hd).drop off 0 _
  have h3:=ImL.shift _ off 0 (by simpa using h2)
  rw [add_own,Nat.zero_add] at h3
  rw [PT.lendCL_eq] at h3 ⊢
  rwa [← List.map_drop] at h3
theorem lendCaps_sound (h:Sim sz I bs A w0 st a w L hand) (hI:∀ k b,I k b → I' k b) (hl1:Lends L I I'):∀ {ss:List SV} {vs:List Value} {l:List (List PT)},SVRL sz L w I vs ss → lendCaps st ss = some l → ImC w I' 1 vs l
  | [],vs,l,hr,hl => by
    simp only [lendCaps,Option.some.injEq] at hl
    subst hl
    simp only [SVRL] at hr
    simp [ImC,hr]
  | .ptr pl off :: r,vs,l,hr,hl => by
    simp only [lendCaps] at hl
    split at hl
    · rename_i e n cs l' hlp hl'
      cases hl
      simp only [SVRL] at hr
      obtain ⟨v,vs',rfl,hv,hvs⟩:=hr
      simp only [SVR] at hv
      obtain ⟨b,cap0,e',n',lcs,hlk,rfl⟩:=hv
      rw [h.lookP,hlk] at hlp
      simp only [Option.map_some,LT.erase,Option.some.injEq,PT.sl.injEq,true_and] at hlp
      obtain ⟨rfl,rfl,rfl⟩:=hlp
      simp only [ImC]
      exact ⟨_,_,rfl,lend_nodeC h hI hl1 hlk off,lendCaps_sound h hI hl1 hvs hl'⟩
    · simp at hl
  | .ip k ps :: r,vs,l,hr,hl => by
    simp only [lendCaps] at hl
    split at hl
    · rename_i l' hl'
      cases hl
      simp only [SVRL] at hr
      obtain ⟨v,vs',rfl,hv,hvs⟩:=hr
      simp only [SVR] at hv
      obtain ⟨x,rfl,hx⟩:=hv
      simp only [ImC]
      exact ⟨_,_,rfl,ImL.lift hI hl1.2 hx,lendCaps_sound h hI hl1 hvs hl'⟩
    · simp at hl
  | .t _ :: _,_,_,_,hl => by simp [lendCaps] at hl
  | .ref _ _ _ :: _,_,_,_,hl => by simp [lendCaps] at hl
  | .fnc _ _ :: _,_,_,_,hl => by simp [lendCaps] at hl
  | .agg _ :: _,_,_,_,hl => by simp [lendCaps] at hl
  | .tup _ :: _,_,_,_,hl => by simp [lendCaps] at hl
  | .junk :: _,_,_,_,hl => by simp [lendCaps] at hl

theorem lendP_sound (h:Sim sz I bs A w0 st a w L hand) (hI:∀ k b,I k b → I' k b) {v:Value} {s:SV} {p:PT} (hl1:s.lendy = true → Lends L I I') (hr:SVR sz L w I v s) (hp:lendP sz st s = some p):Im w I' v p ∧ one v = true:=by
  cases s with
  | t q =>
    simp only [lendP] at hp
    split at hp
    · rename_i ho
      simp only [Option.some.injEq] at hp
      subst hp
      refine ⟨?_,oneB_sound hr ho⟩
      have h2:=(Im.all hI (fun _ _ _ => rfl)).1 _ _ (show Im w I v q by simpa only [SVR] using hr)
      split
      · simp only [Im] at h2
        obtain ⟨rfl,rfl,ad,rfl⟩:=h2
        simp only [Im,ImL]
        exact ⟨ad,0,rfl,Nat.le_refl _,trivial⟩
      · exact h2
    · simp at hp
  | ref pl off len =>
    refine ⟨?_,oneB_sound hr rfl⟩
    simp only [lendP] at hp
    split at hp
    · rename_i e n cs hlp
      cases hp
      simp only [SVR] at hr
      rcases hr with ⟨b,cap0,e',n',lcs,o,cap,hl,hv,g1,g2,g3,g4⟩ | ⟨e',hl,_,rfl,ad,hv⟩
      · rw [h.lookP,hl] at hlp
        simp only [Option.map_some,LT.erase,Option.some.injEq,PT.sl.injEq,true_and] at hlp
        obtain ⟨rfl,rfl,rfl⟩:=hlp
        simp only [Im]
        refine ⟨_,_,hv,g2,?_⟩
        rcases g1 with g1 | g1
        · have:len = 0:=by omega
          subst this
          simp [PT.unownL,ImL]
        · subst g1
          have:=(lend_node h hI (hl1 rfl) hl o).take (len * sz e') 0 _
          rw [PT.unownL_eq] at this ⊢
          rwa [List.map_take]
      · simp only [Im,hv,Nat.zero_mul,List.take_zero,PT.unownL,ImL]
        exact ⟨_,_,rfl,Nat.le_refl _,trivial⟩
    · simp at hp
  | fnc g caps =>
    refine ⟨?_,oneB_sound hr rfl⟩
    simp only [lendP,Option.map_eq_some_iff] at hp
    obtain ⟨l,hl,rfl⟩:=hp
    simp only [SVR] at hr
    obtain ⟨vs,hv,hvs⟩:=hr
    simp only [Im]
    exact ⟨vs,hv,lendCaps_sound h hI (hl1 rfl) hvs hl⟩
  | _ => simp [lendP] at hp
theorem lendPs_sound (h:Sim sz I bs A w0 st a w L hand) (hI:∀ k b,I k b → I' k b):∀ {ss:List SV} {vs:List Value} {ps:List PT},(SV.lendyL ss = true → Lends L I I') → SVRL sz L w I vs ss → lendPs sz st ss = some ps →
    ∃ ts:List LT,ts.map LT.val = vs ∧ ts.map LT.erase = ps ∧ ts.flatMap LT.blocks = [] ∧ ∀ t ∈ ts,t.holds sz w I'
  | [],vs,ps,_,hr,hp => by
    simp only [lendPs,Option.some.injEq] at hp
    subst hp
    simp only [SVRL] at hr
    subst hr
    exact ⟨[],by simp⟩
  | s :: ss,vs,ps,hl1,hr,hp => by
    simp only [lendPs] at hp
    split at hp
    · rename_i p ps' h1 h2
      cases hp
      simp only [SVRL] at hr
      obtain ⟨v,vs',rfl,hv,hvs⟩:=hr
      simp only [SV.lendyL,Bool.or_eq_true] at hl1
      obtain ⟨g1,g2⟩:=lendP_sound h hI (fun hx => hl1 (.inl hx)) hv h1
      obtain ⟨ts,f1,f2,f3,f4⟩:=lendPs_sound h hI (fun hx => hl1 (.inr hx)) hvs h2
      refine ⟨.leaf v p :: ts,by simp [LT.val,f1],by simp [LT.erase,f2],by simp [LT.blocks,f3],?_⟩
      intro t ht
      rcases List.mem_cons.1 ht with rfl | ht
      · simp only [LT.holds]; exact ⟨g1,g2⟩
      · exact f4 t ht
    · simp at hp
theorem lendV_sound (h:Sim sz I bs A w0 st a w L hand) (hI:∀ k b,I k b → I' k b) {v:Value} {s:SV} {x:PV} (hl1:s.lendy = true → Lends L I I') (hr:SVR sz L w I v s) (hp:lendV sz st s = some x) :
    ∃ la:LV,la.val = v ∧ la.erase = x ∧ la.blocks = [] ∧ la.holds sz w I':=by
  have one_:∀ p,lendP sz st s = some p → PV.c p = x → ∃ la:LV,la.val = v ∧ la.erase = x ∧ la.blocks = [] ∧ la.holds sz w I':=by
    intro p hp hx
    obtain ⟨g1,g2⟩:=lendP_sound h hI hl1 hr hp
    exact ⟨.c (.leaf v p),by simp [LV.val,LT.val],by simp [LV.erase,LT.erase,hx],by simp [LV.blocks,LT.blocks],by simp only [LV.holds,LT.holds]; exact ⟨g1,g2⟩⟩
  cases s with
  | agg l =>
    simp only [lendV,Option.map_eq_some_iff] at hp
    obtain ⟨ps,hp,rfl⟩:=hp
    simp only [SVR] at hr
    obtain ⟨vs,hv,hl,_⟩:=hr
    obtain ⟨ts,f1,f2,f3,f4⟩:=lendPs_sound h hI (fun hx => hl1 (by simpa [SV.lendy] using hx)) hl hp
    exact ⟨.agg ts,by simp [LV.val,f1,hv],by simp [LV.erase,f2],by simp [LV.blocks,f3],by simp only [LV.holds]; exact f4⟩
  | ptr pl off =>
    simp only [lendV] at hp
    split at hp
    · rename_i e n cs hlp
      cases hp
      simp only [SVR] at hr
      obtain ⟨b,cap0,e',n',lcs,hlk,rfl⟩:=hr
      rw [h.lookP,hlk] at hlp
      simp only [Option.map_some,LT.erase,Option.some.injEq,PT.sl.injEq,true_and] at hlp
      obtain ⟨rfl,rfl,rfl⟩:=hlp
      exact ⟨.ip 1 ⟨b,off,none⟩ _,rfl,rfl,by simp [LV.blocks],by simp only [LV.holds]; exact lend_node h hI (hl1 rfl) hlk off⟩
    · simp at hp
  | ip k ps =>
    simp only [lendV,Option.some.injEq] at hp
    subst hp
    simp only [SVR] at hr
    obtain ⟨y,rfl,hy⟩:=hr
    exact ⟨.ip k y ps,rfl,rfl,by simp [LV.blocks],by simp only [LV.holds]; exact (Im.all hI (fun _ _ _ => rfl)).2.1 _ _ _ _ hy⟩
  | t q => simp only [lendV,Option.map_eq_some_iff] at hp; obtain ⟨p,hp,hx⟩:=hp; exact one_ p hp hx
  | ref pl off len => simp only [lendV,Option.map_eq_some_iff] at hp; obtain ⟨p,hp,hx⟩:=hp; exact one_ p hp hx
  | fnc g caps => simp only [lendV,Option.map_eq_some_iff] at hp; obtain ⟨p,hp,hx⟩:=hp; exact one_ p hp hx
  | tup l => simp [lendV,lendP] at hp
  | junk => simp [lendV,lendP] at hp

/-- What stands for an argument at the call: what is lent has no blocks of one's own. -/
def ATR2 (L0 L:Loc) (v:Value):AT → LV → Prop
  | .lent _,la => la.val = v ∧ la.blocks = []
  | .c p back,la => ∃ u,la = .c u ∧ Taken L0 L u p back ∧ u.val = v
  | .agg l,la => ∃ us,la = .agg us ∧ TakenL L0 L us l ∧ v = .agg (us.map LT.val).toArray
  | .box p back,la => ∃ u,la = .bp u ∧ Taken L0 L u p back ∧ u.ptr = v ∧ ∃ b cap e cs,u = .own b cap e 1 cs
def ATRL2 (L0 L:Loc):List Value → List AT → List LV → Prop
  | [],[],[] => True
  | v :: vs,x :: xs,l :: ls => ATR2 L0 L v x l ∧ ATRL2 L0 L vs xs ls
  | _,_,_ => False
theorem holds_I (hI:∀ k b,I k b → I' k b) {t:LT} (h:t.holds sz w I):t.holds sz w I':=LT.holds_frame hI (fun _ _ _ => rfl) t h (fun _ _ => rfl)
theorem lendArgs_sound (h:Sim sz I bs A w0 st a w L hand) (hI:∀ k b,I k b → I' k b) {ks:List Pl} (hk:Stays (fun q => ks.any (·.pre q)) L0 L):∀ {xs:List AT} {vs:List Value} {las:List LV} {pvs:List PV},
    (xs.any AT.lendy = true → Lends L I I') → ATRL sz w I L0 L vs xs las → (∀ t ∈ las.flatMap LV.trees,t.holds sz w I) → lendArgs sz st ks xs = some pvs →
    ∃ las',las'.map LV.val = vs ∧ las'.map LV.erase = pvs ∧ las'.flatMap LV.blocks = (las.flatMap LV.trees).flatMap LT.blocks ∧ (∀ l ∈ las',l.holds sz w I') ∧ ATRL2 L0 L vs xs las'
  | [],vs,las,pvs,_,ha,_,hp => by
    cases vs <;> cases las <;> simp only [ATRL] at ha
    simp only [lendArgs,Option.some.injEq] at hp
    subst hp
    exact ⟨[],by simp [ATRL2]⟩
  | x :: xs,vs,las,pvs,hl1,ha,hh,hp => by
    cases vs with
    | nil => simp [ATRL] at ha
    | cons v vs =>
      cases las with
      | nil => simp [ATRL] at ha
      | cons la las =>
        simp only [ATRL] at ha
        obtain ⟨ha,har⟩:=ha
        simp only [List.any_cons,Bool.or_eq_true] at hl1
        simp only [List.flatMap_cons,List.mem_append] at hh
        have rest:=fun pvs' hp' => lendArgs_sound (xs:=xs) (las:=las) (vs:=vs) (pvs:=pvs') h hI hk (fun hx => hl1 (.inr hx)) har (fun t ht => hh t (.inr ht)) hp'
        cases x with
        | lent s =>
          simp only [lendArgs] at hp
          split at hp
          · simp at hp
          · rename_i hu
            split at hp
            · rename_i y ys h1 h2
              cases hp
              obtain ⟨hr,rfl⟩:=ha
              have hr':=(SVR.all (fun q => ks.any (·.pre q)) hk (fun _ _ hb => hb) (fun _ _ _ => rfl)).1 v s (uses_any ks s (by simpa using hu)) hr
              obtain ⟨la',g1,g2,g3,g4⟩:=lendV_sound h hI (fun hx => hl1 (.inl hx)) hr' h1
              obtain ⟨las',f1,f2,f3,f4,f5⟩:=rest ys h2
              refine ⟨la' :: las',by simp [g1,f1],by simp [g2,f2],by simp [g3,f3,LV.trees,LV.trees.treesL],?_,⟨⟨g1,g3⟩,f5⟩⟩
              intro l hl
              rcases List.mem_cons.1 hl with rfl | hl
              · exact g4
              · exact f4 l hl
            · simp at hp
        | c p back =>
          simp only [lendArgs,Option.map_eq_some_iff] at hp
          obtain ⟨ys,h2,rfl⟩:=hp
          obtain ⟨u,rfl,hu,hv⟩:=ha
          obtain ⟨las',f1,f2,f3,f4,f5⟩:=rest ys h2
          refine ⟨.c u :: las',by simp [LV.val,hv,f1],by simp [LV.erase,hu.1,f2],by simp [LV.blocks,f3,LV.trees],?_,⟨⟨u,rfl,hu,hv⟩,f5⟩⟩
          intro l hl
          rcases List.mem_cons.1 hl with rfl | hl
          · simp only [LV.holds]; exact holds_I hI (hh u (by simp [LV.trees]))
          · exact f4 l hl
        | agg l =>
          simp only [lendArgs,Option.map_eq_some_iff] at hp
          obtain ⟨ys,h2,rfl⟩:=hp
          obtain ⟨us,rfl,hu,hv⟩:=ha
          obtain ⟨las',f1,f2,f3,f4,f5⟩:=rest ys h2
          refine ⟨.agg us :: las',by simp [LV.val,hv,f1],by simp [LV.erase,hu.erase,f2],by simp [LV.blocks,f3,LV.trees],?_,⟨⟨us,rfl,hu,hv⟩,f5⟩⟩
          intro l hl
          rcases List.mem_cons.1 hl with rfl | hl
          · simp only [LV.holds]; exact fun t ht => holds_I hI (hh t (by simp [LV.trees,ht]))
          · exact f4 l hl
        | box p back =>
          simp only [lendArgs,Option.map_eq_some_iff] at hp
          obtain ⟨ys,h2,rfl⟩:=hp
          obtain ⟨u,rfl,hu,hv,hb⟩:=ha
          obtain ⟨las',f1,f2,f3,f4,f5⟩:=rest ys h2
          refine ⟨.bp u :: las',by simp [LV.val,hv,f1],by simp [LV.erase,hu.1,f2],by simp [LV.blocks,f3,LV.trees],?_,⟨⟨u,rfl,hu,hv,hb⟩,f5⟩⟩
          intro l hl
          rcases List.mem_cons.1 hl with rfl | hl
          · simp only [LV.holds]; exact ⟨holds_I hI (hh u (by simp [LV.trees])),hb⟩
          · exact f4 l hl
end
end Go.V

namespace Go.V
open Go.RowKit
set_option linter.unusedSimpArgs false
set_option linter.unusedVariables false

/-! ### what comes back -/
def backOne:PT → Option Pl → PT → Option (List (Pl × PT))
  | _,none,_ => some []
  | .sl 0 e _ _,some pl,.sl 0 e' n cs => if e = e' then some [(pl,.sl 0 e' n cs)] else none
  | _,_,_ => none
def backCells:List (PT × Option Pl) → List PT → Option (List (Pl × PT))
  | [],[] => some []
  | x :: xs,q :: qs => match backOne x.1 x.2 q,backCells xs qs with
    | some l,some l' => some (l ++ l')
    | _,_ => none
  | _,_ => none
def backArg:AT → PV → Option (List (Pl × PT))
  | .lent _,_ => some []
  | .c p back,.c q => backOne p back q
  | .agg l,.agg qs => backCells l qs
  | .box p back,.bp q => backOne p back q
  | _,_ => none
def backsOf:List AT → List PV → Option (List (Pl × PT))
  | [],[] => some []
  | x :: xs,o :: os => match backArg x o,backsOf xs os with
    | some l,some l' => some (l ++ l')
    | _,_ => none
  | _,_ => none
def putBack (hp:Id → Option PT):List (Pl × PT) → Option (Id → Option PT)
  | [] => some hp
  | (pl,p) :: r => if r.any (fun x => pl.pre x.1 || x.1.pre pl) = true then none else putBack (hputP hp pl p) r
def PV.cells:PV → List PT
  | .c p => [p]
  | .agg ps => ps
  | .tup vs => cellsL vs
  | .bp p => [p]
  | .ip _ _ => []
  | .dup p => [p]
  | .clo _ ps => ps
where cellsL:List PV → List PT
  | [] => []
  | v :: vs => v.cells ++ cellsL vs

section
variable {sz:Nat → Nat} {I I':Nat → Nat → Prop} {bs:List Nat} {A:AD} {w0 w w':World} {st st' st1 st2:St} {a:Act} {L L' L0 L1 L2:Loc} {hand hand':List LT} {P:Program} {o:Oper} {Q:Exit → Act → World → Prop}

/-- The world turns in what the hand holds alone; the hand is told anew. -/
theorem Sim.hands (h:Sim sz I bs A w0 st a w L hand) (ks:List Nat) (hk:Kp ks w w') (hks:∀ b ∈ ks,b ∈ hand.flatMap LT.blocks)
    (hh':∀ x ∈ hand',x.holds sz w' I) (hn:(hand'.flatMap LT.blocks).Nodup) (hb:∀ b ∈ hand'.flatMap LT.blocks,b ∈ hand.flatMap LT.blocks ∨ w.heap.size ≤ b) :
    Sim sz I bs A w0 st a w' L hand':=by
  have hI:∀ k b,I k b → w'.heap[b]? = w.heap[b]?:=by
    intro k b hbI
    refine hk.block b (h.immw k b hbI) fun hx => ?_
    have hne:=h.imm_ne hbI
    rcases h.hown b (hks b hx) with h1 | h1
    · exact hne.1 h1
    · exact hne.2 h1
  have hkeep:∀ b,b < w.heap.size → b ∉ hand.flatMap LT.blocks → w'.heap[b]? = w.heap[b]?:=fun b hlt h2 => hk.block b hlt fun hx => h2 (hks b hx)
  exact
    { keeps:=h.keeps.trans hk (fun b hb => h.hown b (hks b hb))
      imm:=h.imm,nodef:=h.nodef,args:=h.args,er:=h.er,nodup:=h.nodup,own:=h.own,apart:=h.apart
      holds:=fun i x hx => LT.holds_frame (fun _ _ hb => hb) hI x (h.holds i x hx) fun b hbx => hkeep b (LT.blocks_lt x (h.holds _ _ hx) b hbx) (h.hapart _ _ hx b hbx)
      hholds:=hh'
      hnodup:=hn
      hown:=fun b hbm => (hb b hbm).elim (h.hown b) fun h1 => .inr (Nat.le_trans h.keeps.size h1)
      hapart:=fun i x hx b hbx hbm => (hb b hbm).elim (h.hapart _ _ hx b hbx) fun h1 => by
        have:=LT.blocks_lt x (h.holds _ _ hx) b hbx
        omega
      slots:=by
        have:=SVRL.kill (L':=L) (fun _ => false) (fun _ node _ _ hn => ⟨node,hn,Shp.refl _⟩) (fun _ _ hb => hb) hI h.slots
        have e:st.sl.map (SV.kill fun _ => false) = st.sl:=by
          refine (List.map_congr_left fun s _ => ?_).trans (List.map_id _)
          have:s.uses (fun _ => false) = false:=by
            have key:∀ n:Nat,(∀ s:SV,SizeOf.sizeOf s < n → s.uses (fun _ => false) = false) ∧ (∀ ss:List SV,SizeOf.sizeOf ss < n → SV.usesL (fun _ => false) ss = false):=by
              intro n
              induction n with
              | zero => exact ⟨fun _ h => by omega,fun _ h => by omega⟩
              | succ n ih =>
                refine ⟨fun s hs => ?_,fun ss hs => ?_⟩
                · cases s <;> simp only [SV.uses] <;> exact ih.2 _ (by simp at hs; omega)
                · cases ss with
                  | nil => rfl
                  | cons s ss => simp only [SV.usesL,Bool.or_eq_false_iff]; exact ⟨ih.1 _ (by simp at hs; omega),ih.2 _ (by simp at hs; omega)⟩
            exact (key (SizeOf.sizeOf s + 1)).1 s (Nat.lt_succ_self _)
          simp [SV.kill,this]
        rw [e] at this
        exact this }
/-- The slots, told anew. -/
theorem Sim.reslots {sl:List SV} {hp:Id → Option PT} (h:Sim sz I bs A w0 ⟨sl,hp⟩ a w L hand) {sl':List SV} (hs:SVRL sz L w I a.tmps.toList sl'):Sim sz I bs A w0 ⟨sl',hp⟩ a w L hand :=
  { h with slots:=hs,er:=h.er,nodef:=h.nodef }

/-- What is put back has not changed more than a reference to it may tell. -/
theorem shp_back {u u':LT} {e n n':Nat} {cs cs':List PT} (hu:u.holds sz w I) (hu':u'.holds sz w' I') (hv:u'.val = u.val) (he:u.erase = .sl 0 e n cs) (he':u'.erase = .sl 0 e n' cs'):Shp u u':=by
  cases u with
  | leaf v p =>
    simp only [LT.erase] at he
    subst he
    simp only [LT.holds,Im] at hu
    obtain ⟨⟨rfl,rfl,ad,rfl⟩,_⟩:=hu
    cases u' with
    | leaf v' p' =>
      simp only [LT.erase] at he'
      subst he'
      simp only [LT.holds,Im] at hu'
      obtain ⟨⟨rfl,rfl,ad',rfl⟩,_⟩:=hu'
      simp only [LT.val] at hv
      simp only [Shp,hv]
    | own b cap e2 n2 cs2 =>
      simp only [LT.val,Value.slice.injEq] at hv
      simp only [LT.holds] at hu'
      omega
  | own b cap e1 n1 cs1 =>
    simp only [LT.erase,PT.sl.injEq,true_and] at he
    obtain ⟨rfl,rfl,rfl⟩:=he
    simp only [LT.holds] at hu
    cases u' with
    | leaf v' p' =>
      simp only [LT.erase] at he'
      subst he'
      simp only [LT.holds,Im] at hu'
      obtain ⟨⟨rfl,rfl,ad',rfl⟩,_⟩:=hu'
      simp only [LT.val,Value.slice.injEq] at hv
      omega
    | own b2 cap2 e2 n2 cs2 =>
      simp only [LT.val,Value.slice.injEq,Option.some.injEq,Addr.mk.injEq,and_true] at hv
      simp only [LT.erase,PT.sl.injEq,true_and] at he'
      obtain ⟨rfl,rfl,rfl⟩:=hv
      obtain ⟨rfl,rfl,rfl⟩:=he'
      simp only [LT.holds] at hu'
      exact ⟨_,_,rfl,by rw [hu.2.1,hu'.2.1]; exact Nat.le_refl _⟩

/-- What stands at a place that waits, and the tree that comes back. -/
def Backs (L0 L:Loc) (x:Pl × LT):Prop:=(∃ node,look L0 x.1 = some node ∧ Shp node x.2) ∧ look L x.1 = some (.leaf x.2.val .hole) ∧ x.2.refable
theorem refable_of {t:LT} {e n:Nat} {cs:List PT} (h:t.erase = .sl 0 e n cs):t.refable:=by
  cases t with
  | leaf v p => simp only [LT.erase] at h; subst h; trivial
  | own b cap e n cs => trivial
theorem backOne_sound {u u':LT} {p q:PT} {back:Option Pl} {l:List (Pl × PT)} (ht:Taken L0 L u p back) (hu:u.holds sz w I) (hu':u'.holds sz w' I') (hv:u'.val = u.val) (hq:u'.erase = q) (hb:backOne p back q = some l) :
    ∃ bts:List (Pl × LT),bts.map (fun x => (x.1,x.2.erase)) = l ∧ (bts.map (·.2)).Sublist [u'] ∧ (∀ x ∈ bts,Backs L0 L x) ∧ ∀ x ∈ bts,some x.1 = back:=by
  unfold backOne at hb
  split at hb
  · simp only [Option.some.injEq] at hb; subst hb; exact ⟨[],by simp⟩
  · rename_i e n0 cs0 pl e' n cs
    split at hb
    · rename_i he
      subst he
      cases hb
      obtain ⟨node,h1,h2,h3⟩:=ht.2 pl rfl
      refine ⟨[(pl,u')],by simp [hq],by simp,?_,by simp⟩
      intro x hx
      simp only [List.mem_singleton] at hx
      subst hx
      exact ⟨⟨node,h1,h2.trans (shp_back hu hu' hv ht.1 hq)⟩,by rw [h3,hv],refable_of hq⟩
    · simp at hb
  · simp at hb
theorem backCells_sound:∀ {xs:List (PT × Option Pl)} {us us':List LT} {qs:List PT} {l:List (Pl × PT)},TakenL L0 L us xs → (∀ u ∈ us,u.holds sz w I) → (∀ u ∈ us',u.holds sz w' I') → us'.map LT.val = us.map LT.val → us'.map LT.erase = qs → backCells xs qs = some l →
    ∃ bts:List (Pl × LT),bts.map (fun x => (x.1,x.2.erase)) = l ∧ (bts.map (·.2)).Sublist us' ∧ (∀ x ∈ bts,Backs L0 L x) ∧ ∀ x ∈ bts,∃ y ∈ xs,some x.1 = y.2
  | [],us,us',qs,l,ht,_,_,hv,hq,hb => by
    cases us <;> simp only [TakenL] at ht
    simp only [List.map_nil,List.map_eq_nil_iff] at hv
    subst hv
    subst hq
    simp only [List.map_nil,backCells,Option.some.injEq] at hb
    subst hb
    exact ⟨[],by simp⟩
  | x :: xs,us,us',qs,l,ht,hu,hu',hv,hq,hb => by
    cases us with
    | nil => simp [TakenL] at ht
    | cons u us =>
      cases us' with
      | nil => simp at hv
      | cons u' us' =>
        subst hq
        simp only [List.map_cons,backCells] at hb
        simp only [List.map_cons,List.cons.injEq] at hv
        split at hb
        · rename_i l1 l2 h1 h2
          cases hb
          obtain ⟨b1,g1,g2,g3,g4⟩:=backOne_sound ht.1 (hu u (by simp)) (hu' u' (by simp)) hv.1 rfl h1
          obtain ⟨b2,f1,f2,f3,f4⟩:=backCells_sound ht.2 (fun y hy => hu y (by simp [hy])) (fun y hy => hu' y (by simp [hy])) hv.2 rfl h2
          refine ⟨b1 ++ b2,by simp [g1,f1],?_,?_,?_⟩
          · simp only [List.map_append]
            exact g2.append f2
          · intro y hy
            rcases List.mem_append.1 hy with hy | hy
            · exact g3 y hy
            · exact f3 y hy
          · intro y hy
            rcases List.mem_append.1 hy with hy | hy
            · exact ⟨x,by simp,g4 y hy⟩
            · obtain ⟨z,hz,hzz⟩:=f4 y hy; exact ⟨z,by simp [hz],hzz⟩
        · simp at hb

/-- The trees of one's own among what comes back. -/
def ownTrees:List AT → List LV → List LT
  | [],_ => []
  | .lent _ :: xs,_ :: ls => ownTrees xs ls
  | _ :: xs,l :: ls => l.trees ++ ownTrees xs ls
  | _ :: _,[] => []
theorem ownTrees_sub:∀ (xs:List AT) (ls:List LV),(ownTrees xs ls).Sublist (ls.flatMap LV.trees)
  | [],ls => by simp [ownTrees]
  | x :: xs,[] => by cases x <;> simp [ownTrees]
  | x :: xs,l :: ls => by
    have ih:=ownTrees_sub xs ls
    cases x <;> simp only [ownTrees,List.flatMap_cons]
    · exact ih.trans (List.sublist_append_right _ _)
    all_goals exact ih.append_left _

theorem backsOf_sound:∀ {xs:List AT} {vs:List Value} {las los:List LV} {outs:List PV} {l:List (Pl × PT)},ATRL2 L0 L vs xs las → (∀ l ∈ las,l.holds sz w I) → (∀ l ∈ los,l.holds sz w' I') → los.map LV.full = las.map LV.full → los.map LV.erase = outs → backsOf xs outs = some l →
    ∃ bts:List (Pl × LT),bts.map (fun x => (x.1,x.2.erase)) = l ∧ (bts.map (·.2)).Sublist (ownTrees xs los) ∧ (∀ x ∈ bts,Backs L0 L x) ∧ ∀ x ∈ bts,∃ y ∈ xs,x.1 ∈ y.backs
  | [],vs,las,los,outs,l,ha,_,_,hv,ho,hb => by
    cases vs <;> cases las <;> simp only [ATRL2] at ha
    simp only [List.map_nil,List.map_eq_nil_iff] at hv
    subst hv
    subst ho
    simp only [List.map_nil,backsOf,Option.some.injEq] at hb
    subst hb
    exact ⟨[],by simp [ownTrees]⟩
  | x :: xs,vs,las,los,outs,l,ha,hh,hh',hv,ho,hb => by
    cases vs with
    | nil => simp [ATRL2] at ha
    | cons v vs =>
      cases las with
      | nil => simp [ATRL2] at ha
      | cons la las =>
        cases los with
        | nil => simp at hv
        | cons lo los =>
          subst ho
          simp only [List.map_cons,backsOf] at hb
          simp only [List.map_cons,List.cons.injEq] at hv
          simp only [ATRL2] at ha
          split at hb
          · rename_i l1 l2 h1 h2
            cases hb
            obtain ⟨b2,f1,f2,f3,f4⟩:=backsOf_sound ha.2 (fun y hy => hh y (by simp [hy])) (fun y hy => hh' y (by simp [hy])) hv.2 rfl h2
            have hla:=hh la (by simp)
            have hlo:=hh' lo (by simp)
            have main:∃ b1:List (Pl × LT),b1.map (fun x => (x.1,x.2.erase)) = l1 ∧ (b1.map (·.2) ++ b2.map (·.2)).Sublist (ownTrees (x :: xs) (lo :: los)) ∧ (∀ y ∈ b1,Backs L0 L y) ∧ ∀ y ∈ b1,y.1 ∈ x.backs:=by
              cases x with
              | lent s =>
                simp only [backArg,Option.some.injEq] at h1
                subst h1
                exact ⟨[],by simp,by simpa [ownTrees] using f2,by simp,by simp⟩
              | c p back =>
                obtain ⟨u,rfl,hu,hva⟩:=ha.1
                cases lo with
                | c u' =>
                  simp only [LV.erase,backArg] at h1
                  simp only [LV.holds] at hla hlo
                  obtain ⟨b1,g1,g2,g3,g4⟩:=backOne_sound hu hla hlo (by simpa [LV.full,LV.trees] using hv.1) rfl h1
                  exact ⟨b1,g1,by simp only [ownTrees,LV.trees]; exact g2.append f2,g3,fun y hy => by simp only [AT.backs,Option.mem_toList]; exact (g4 y hy).symm⟩
                | _ => simp [LV.erase,backArg] at h1
              | agg ps =>
                obtain ⟨us,rfl,hu,hva⟩:=ha.1
                cases lo with
                | agg us' =>
                  simp only [LV.erase,backArg] at h1
                  simp only [LV.holds] at hla hlo
                  obtain ⟨b1,g1,g2,g3,g4⟩:=backCells_sound hu hla hlo (by simpa [LV.full,LV.trees] using hv.1) rfl h1
                  exact ⟨b1,g1,by simp only [ownTrees,LV.trees]; exact g2.append f2,g3,fun y hy => by
                    obtain ⟨z,hz,hzz⟩:=g4 y hy
                    simp only [AT.backs,List.mem_flatMap,Option.mem_toList]
                    exact ⟨z,hz,hzz.symm⟩⟩
                | _ => simp [LV.erase,backArg] at h1
              | box p back =>
                obtain ⟨u,rfl,hu,hva,_⟩:=ha.1
                cases lo with
                | bp u' =>
                  simp only [LV.erase,backArg] at h1
                  simp only [LV.holds] at hla hlo
                  obtain ⟨b1,g1,g2,g3,g4⟩:=backOne_sound hu hla.1 hlo.1 (by simpa [LV.full,LV.trees] using hv.1) rfl h1
                  exact ⟨b1,g1,by simp only [ownTrees,LV.trees]; exact g2.append f2,g3,fun y hy => by simp only [AT.backs,Option.mem_toList]; exact (g4 y hy).symm⟩
                | _ => simp [LV.erase,backArg] at h1
            obtain ⟨b1,g1,g2,g3,g4⟩:=main
            refine ⟨b1 ++ b2,by simp [g1,f1],by simpa using g2,?_,?_⟩
            · intro y hy
              rcases List.mem_append.1 hy with hy | hy
              · exact g3 y hy
              · exact f3 y hy
            · intro y hy
              rcases List.mem_append.1 hy with hy | hy
              · exact ⟨x,by simp,g4 y hy⟩
              · obtain ⟨z,hz,hzz⟩:=f4 y hy; exact ⟨z,by simp [hz],hzz⟩
          · simp at hb

theorem putBack_sound:∀ (bts:List (Pl × LT)) {sl:List SV} {hp hp':Id → Option PT} {L:Loc} {rest:List LT},Sim sz I bs A w0 ⟨sl,hp⟩ a w L (bts.map (·.2) ++ rest) → (∀ x ∈ bts,look L x.1 = some (.leaf x.2.val .hole) ∧ x.2.refable) →
    putBack hp (bts.map fun x => (x.1,x.2.erase)) = some hp' → ∃ sl' L',Sim sz I bs A w0 ⟨sl',hp'⟩ a w L' rest ∧ Stays (fun q => (bts.map (·.1)).any (·.pre q)) L L' ∧ ∀ x ∈ bts,∃ t,look L' x.1 = some t ∧ Shp x.2 t
  | [],sl,hp,hp',L,rest,h,_,hb => by
    simp only [List.map_nil,putBack,Option.some.injEq] at hb
    subst hb
    exact ⟨sl,L,by simpa using h,Stays.refl _ _,by simp⟩
  | (pl,t) :: bts,sl,hp,hp',L,rest,h,hx,hb => by
    simp only [List.map_cons,putBack] at hb
    split at hb
    · simp at hb
    · rename_i hcl
      have hcl':∀ x ∈ bts,pl.pre x.1 = false ∧ x.1.pre pl = false:=by
        intro x hxm
        have:=hcl
        simp only [Bool.not_eq_true,List.any_eq_false,List.mem_map,Bool.or_eq_true,not_or,forall_exists_index,and_imp] at this
        have:=this _ x hxm rfl
        simpa using this
      obtain ⟨hl,hrf⟩:=hx (pl,t) (by simp)
      have hh:t.holds sz w I:=h.hholds t (by simp)
      have hnd:=h.hnodup
      simp only [List.map_cons,List.cons_append,List.flatMap_cons] at hnd
      obtain ⟨L1,s1,l1,k1⟩:=h.update (hand':=bts.map (·.2) ++ rest) (t':=t) hl [] (Kp.refl _ _) (by simp) rfl hh (fun x hxm => h.hholds x (by simp only [List.map_cons,List.cons_append,List.mem_cons]; exact .inr hxm)) hnd
        (fun b hbm => .inr (.inl (by simp only [List.map_cons,List.cons_append,List.flatMap_cons]; exact hbm))) pl.pre (by
          intro r node hf
          exfalso
          have:pl.pre ⟨pl.id,pl.path ++ r⟩ = true:=by
            simp only [Pl.pre,BEq.rfl,Bool.true_and,List.isPrefixOf_iff_prefix]
            exact ⟨r,rfl⟩
          rw [this] at hf
          cases hf)
      obtain ⟨sl',L2,s2,k2,e2⟩:=putBack_sound bts s1 (fun x hxm => by
        obtain ⟨hlx,hrx⟩:=hx x (by simp [hxm])
        refine ⟨?_,hrx⟩
        obtain ⟨node,n1,n2⟩:=k1 x.1 _ (hcl' x hxm).1 (by trivial) hlx
        simp only [Shp] at n2
        rw [n1,n2]) hb
      refine ⟨sl',L2,s2,?_,?_⟩
      · refine k1.trans k2 (fun q hq => ?_) (fun q hq => ?_)
        · simp only [List.map_cons,List.any_cons,Bool.or_eq_false_iff] at hq; exact hq.1
        · simp only [List.map_cons,List.any_cons,Bool.or_eq_false_iff] at hq; exact hq.2
      · intro x hxm
        rcases List.mem_cons.1 hxm with rfl | hxm
        · exact k2 pl t (by
            rw [List.any_eq_false]
            intro y hy
            obtain ⟨z,hz,rfl⟩:=List.mem_map.1 hy
            simpa using (hcl' z hz).2) hrf l1
        · exact e2 x hxm
end

/-! ### results -/
def setRoots (r i:Nat):Nat → List PT → St → St
  | _,[],st => st
  | j,p :: ps,st => setRoots r i (j + 1) ps (if p.isSl = true then newRoot st (.op r i j) p else st)
def resCell (r i j:Nat):PT → SV
  | .sl 0 _ n _ => .ref ⟨.op r i j,[]⟩ 0 n
  | .hole => .junk
  | p => .t p
def resCells (r i:Nat):Nat → List PT → List SV
  | _,[] => []
  | j,p :: ps => resCell r i j p :: resCells r i (j + 1) ps
def resOne (r i j:Nat):PV → SV
  | .c p => resCell r i j p
  | .agg ps => .agg (resCells r i j ps)
  | _ => .junk
def resMany (r i:Nat):Nat → List PV → List SV
  | _,[] => []
  | j,v :: vs => resOne r i j v :: resMany r i (j + v.cells.length) vs
def cloPtrs (r i:Nat):Nat → List PT → List SV
  | _,[] => []
  | j,_ :: ps => .ptr ⟨.op r i j,[]⟩ 0 :: cloPtrs r i (j + 1) ps
def resShape (r i:Nat):PV → SV
  | .tup vs => .tup (resMany r i 0 vs)
  | .dup p => .tup [resCell r i 0 p,resCell r i 0 p]
  | .clo g ps => .fnc g (cloPtrs r i 0 ps)
  | v => resOne r i 0 v

section
variable {sz:Nat → Nat} {I I':Nat → Nat → Prop} {bs:List Nat} {A:AD} {w0 w w':World} {st st' st1 st2:St} {a:Act} {L L' L0 L1 L2:Loc} {hand hand':List LT} {P:Program} {o:Oper} {Q:Exit → Act → World → Prop}
theorem setRoots_sound (r i:Nat):∀ (ts:List LT) (j:Nat) {st:St} {L:Loc} {rest:List LT},Sim sz I bs A w0 st a w L (ts ++ rest) →
    ∃ L',Sim sz I bs A w0 (setRoots r i j (ts.map LT.erase) st) a w L' rest ∧ (∀ k t,ts[k]? = some t → t.erase.isSl = true → L' (.op r i (j + k)) = some t) ∧ ∀ id,(∀ k,j ≤ k → id ≠ .op r i k) → L' id = L id
  | [],j,st,L,rest,h => ⟨L,by simpa [setRoots] using h,by simp,fun _ _ => rfl⟩
  | t :: ts,j,st,L,rest,h => by
    simp only [List.map_cons,setRoots]
    by_cases hs:t.erase.isSl = true
    · rw [if_pos hs]
      have hnd:=h.hnodup
      simp only [List.cons_append,List.flatMap_cons] at hnd
      have h1:=h.root (hand':=ts ++ rest) (.op r i j) (by simp) (t':=t) [] (Kp.refl _ _) (by simp) (h.hholds t (by simp)) (fun x hx => h.hholds x (by simp only [List.cons_append,List.mem_cons]; exact .inr hx)) hnd
        (fun b hb => .inl (by simp only [List.cons_append,List.flatMap_cons]; exact hb))
      obtain ⟨L',g1,g2,g3⟩:=setRoots_sound r i ts (j + 1) h1
      refine ⟨L',g1,?_,?_⟩
      · intro k u hu hus
        cases k with
        | zero =>
          simp only [List.getElem?_cons_zero,Option.some.injEq] at hu
          subst hu
          rw [Nat.add_zero,g3 _ (fun k hk e => by cases e; omega),updF_same]
        | succ k =>
          have:=g2 k u (by simpa using hu) hus
          rwa [show j + 1 + k = j + (k + 1) by omega] at this
      · intro id hid
        rw [g3 id (fun k hk => hid k (by omega)),updF_ne _ _ (hid j (Nat.le_refl _))]
    · rw [if_neg hs]
      have h1:Sim sz I bs A w0 st a w L (ts ++ rest):=h.drop (List.sublist_cons_self _ _)
      obtain ⟨L',g1,g2,g3⟩:=setRoots_sound r i ts (j + 1) h1
      refine ⟨L',g1,?_,fun id hid => g3 id (fun k hk => hid k (by omega))⟩
      intro k u hu hus
      cases k with
      | zero => simp only [List.getElem?_cons_zero,Option.some.injEq] at hu; subst hu; exact absurd hus hs
      | succ k =>
        have:=g2 k u (by simpa using hu) hus
        rwa [show j + 1 + k = j + (k + 1) by omega] at this

theorem resCell_sound {r i j:Nat} {t:LT} (ht:t.holds sz w I) (hl:t.erase.isSl = true → L (.op r i j) = some t):SVR sz L w I t.val (resCell r i j t.erase):=by
  cases t with
  | leaf v p =>
    simp only [LT.holds] at ht
    simp only [LT.erase,LT.val] at hl ⊢
    cases p with
    | sl k e n cs =>
      cases k with
      | zero =>
        have h1:=ht.1
        simp only [Im] at h1
        obtain ⟨rfl,rfl,ad,rfl⟩:=h1
        simp only [resCell,SVR]
        refine .inr ⟨e,?_,trivial,trivial,ad,rfl⟩
        simp [look,hl (by simp [PT.isSl]),LT.get]
      | succ k => simp only [resCell,SVR]; exact ht.1
    | hole => simp [resCell,SVR]
    | raw u => simp only [resCell,SVR]; exact ht.1
    | fn k g c => simp only [resCell,SVR]; exact ht.1
  | own b cap e n cs =>
    simp only [LT.holds] at ht
    obtain ⟨⟨arr,h1,h2,h3⟩,h4,h5,h6,h7⟩:=ht
    simp only [LT.erase,LT.val,resCell,SVR] at hl ⊢
    refine .inl ⟨b,cap,e,n,cs,0,cap,?_,rfl,.inr rfl,h5,by omega,by omega⟩
    simp [look,hl (by simp [PT.isSl]),LT.get]
theorem resCells_sound {r i:Nat}:∀ (ts:List LT) (j:Nat),(∀ t ∈ ts,t.holds sz w I) → (∀ k t,ts[k]? = some t → t.erase.isSl = true → L (.op r i (j + k)) = some t) →
    SVRL sz L w I (ts.map LT.val) (resCells r i j (ts.map LT.erase))
  | [],_,_,_ => by simp [resCells,SVRL]
  | t :: ts,j,h,hl => by
    simp only [List.map_cons,resCells,SVRL]
    refine ⟨_,_,rfl,resCell_sound (h t (by simp)) (fun hs => by simpa using hl 0 t rfl hs),resCells_sound ts (j + 1) (fun u hu => h u (by simp [hu])) fun k u hu hs => ?_⟩
    have:=hl (k + 1) u (by simpa using hu) hs
    rwa [show j + 1 + k = j + (k + 1) by omega]
theorem resOne_sound {r i:Nat} (la:LV) (j:Nat) (h:∀ t ∈ la.trees,t.holds sz w I) (hl:∀ k t,la.trees[k]? = some t → t.erase.isSl = true → L (.op r i (j + k)) = some t):SVR sz L w I la.val (resOne r i j la.erase):=by
  cases la with
  | c t =>
    simp only [LV.val,LV.erase,resOne]
    exact resCell_sound (h t (by simp [LV.trees])) (fun hs => by simpa using hl 0 t rfl hs)
  | agg ts =>
    simp only [LV.trees] at h
    simp only [LV.val,LV.erase,resOne,SVR]
    exact ⟨_,rfl,resCells_sound ts j h hl,fun u hu => by obtain ⟨t,ht,rfl⟩:=List.mem_map.1 hu; exact LT.holds_one (h t ht)⟩
  | tup vs => simp [LV.erase,resOne,SVR]
  | bp t => simp [LV.erase,resOne,SVR]
  | ip k x ps => simp [LV.erase,resOne,SVR]
  | dup t v1 v2 => simp [LV.erase,resOne,SVR]
  | clo g t => simp [LV.erase,resOne,SVR]
theorem PV.cellsL_eq:∀ l:List PV,PV.cells.cellsL l = l.flatMap PV.cells
  | [] => by simp [PV.cells.cellsL]
  | v :: vs => by simp [PV.cells.cellsL,PV.cellsL_eq vs]
theorem LV.cells_len:∀ n:Nat,(∀ la:LV,SizeOf.sizeOf la < n → la.trees.map LT.erase = la.erase.cells) ∧ (∀ ls:List LV,SizeOf.sizeOf ls < n → (ls.flatMap LV.trees).map LT.erase = (ls.map LV.erase).flatMap PV.cells):=by
  intro n
  induction n with
  | zero => exact ⟨fun _ h => by omega,fun _ h => by omega⟩
  | succ n ih =>
    refine ⟨fun la hla => ?_,fun ls hls => ?_⟩
    · cases la with
      | tup vs =>
        have:=ih.2 vs (by simp at hla; omega)
        simpa [LV.trees,LV.treesL_eq,LV.erase,LV.eraseL_eq,PV.cells,PV.cellsL_eq] using this
      | _ => simp [LV.trees,LV.erase,PV.cells]
    · cases ls with
      | nil => rfl
      | cons l ls =>
        simp only [List.flatMap_cons,List.map_append,List.map_cons]
        rw [ih.1 l (by simp at hls; omega),ih.2 ls (by simp at hls; omega)]
theorem LV.trees_erase (la:LV):la.trees.map LT.erase = la.erase.cells:=(LV.cells_len (SizeOf.sizeOf la + 1)).1 la (Nat.lt_succ_self _)
theorem resMany_sound {r i:Nat}:∀ (ls:List LV) (j:Nat),(∀ t ∈ ls.flatMap LV.trees,t.holds sz w I) → (∀ k t,(ls.flatMap LV.trees)[k]? = some t → t.erase.isSl = true → L (.op r i (j + k)) = some t) →
    SVRL sz L w I (ls.map LV.val) (resMany r i j (ls.map LV.erase))
  | [],_,_,_ => by simp [resMany,SVRL]
  | l :: ls,j,h,hl => by
    simp only [List.map_cons,resMany,SVRL]
    have hlen:l.erase.cells.length = l.trees.length:=by rw [← LV.trees_erase,List.length_map]
    refine ⟨_,_,rfl,resOne_sound l j (fun t ht => h t (by rw [List.flatMap_cons]; exact List.mem_append_left _ ht)) (fun k t hk hs => hl k t ?_ hs),resMany_sound ls _ (fun u hu => h u (by rw [List.flatMap_cons]; exact List.mem_append_right _ hu)) fun k u hu hs => ?_⟩
    · rw [List.flatMap_cons,List.getElem?_append_left (List.getElem?_eq_some_iff.1 hk).1]; exact hk
    · have:=hl (l.trees.length + k) u (by rw [List.flatMap_cons,List.getElem?_append_right (by omega)]; simpa using hu) hs
      rwa [hlen,Nat.add_assoc]
def LV.refs (sz:Nat → Nat):LV → Prop
  | .dup t v1 v2 => RefT sz t v1 ∧ RefT sz t v2
  | .clo _ ts => ∀ t ∈ ts,∃ b cap e cs,t = .own b cap e 1 cs
  | _ => True
theorem LV.refs_of {la:LV} (h:la.holds sz w I):la.refs sz:=by
  cases la with
  | dup t v1 v2 => simp only [LV.holds] at h; exact h.2
  | clo g ts => simp only [LV.holds] at h; exact fun t ht => (h t ht).2
  | _ => trivial
theorem refT_sound {r i j:Nat} {t:LT} {v:Value} (h:RefT sz t v) (hl:t.erase.isSl = true → L (.op r i j) = some t):SVR sz L w I v (resCell r i j t.erase):=by
  cases t with
  | own b cap0 e n cs =>
    obtain ⟨o,cap,h1,h2,h3,h4,h5⟩:=h
    simp only [LT.erase,resCell,SVR]
    exact .inl ⟨b,cap0,e,n,cs,o,cap,by simp [look,hl (by simp [LT.erase,PT.isSl]),LT.get],h1,h2,h3,h4,h5⟩
  | leaf u p =>
    unfold RefT at h
    split at h
    · rename_i heq; cases heq
    · rename_i e heq
      cases heq
      obtain ⟨rfl,a,ha⟩:=h
      have h1:=hl (by simp [LT.erase,PT.isSl])
      have h2:look L ⟨.op r i j,[]⟩ = L (.op r i j):=by unfold look; simp only; rw [h1]; simp [LT.get]
      rw [h1] at h2
      unfold LT.erase resCell
      unfold SVR
      exact .inr ⟨_,h2,rfl,rfl,a,ha⟩
    · exact h.elim
theorem cloPtrs_sound {r i:Nat}:∀ (ts:List LT) (j:Nat),(∀ t ∈ ts,∃ b cap e cs,t = .own b cap e 1 cs) → (∀ k t,ts[k]? = some t → t.erase.isSl = true → L (.op r i (j + k)) = some t) → SVRL sz L w I (ts.map LT.ptr) (cloPtrs r i j (ts.map LT.erase))
  | [],_,_,_ => by simp [cloPtrs,SVRL]
  | t :: ts,j,hd,hl => by
    obtain ⟨b,cap,e,cs,rfl⟩:=hd t (by simp)
    have h0:=hl 0 (.own b cap e 1 cs) rfl (by simp [LT.erase,PT.isSl])
    simp only [List.map_cons,cloPtrs,SVRL]
    refine ⟨_,_,rfl,?_,cloPtrs_sound ts (j + 1) (fun u hu => hd u (by simp [hu])) fun k u hu hs => ?_⟩
    · simp only [SVR,LT.ptr]
      exact ⟨b,cap,e,1,cs,by simp only [Nat.add_zero] at h0; simp [look,h0,LT.get],rfl⟩
    · have:=hl (k + 1) u (by simpa using hu) hs
      rwa [show j + 1 + k = j + (k + 1) by omega]
theorem resShape_sound {r i:Nat} (la:LV) (hd:la.refs sz) (h:∀ t ∈ la.trees,t.holds sz w I) (hl:∀ k t,la.trees[k]? = some t → t.erase.isSl = true → L (.op r i k) = some t):SVR sz L w I la.val (resShape r i la.erase):=by
  cases la with
  | tup vs =>
    simp only [LV.trees,LV.treesL_eq] at h
    simp only [LV.val,LV.erase,resShape,SVR]
    refine ⟨_,rfl,?_⟩
    rw [LV.valL_eq,LV.eraseL_eq]
    exact resMany_sound vs 0 h (fun k t hk hs => by simpa using hl k t (by simpa [LV.trees,LV.treesL_eq] using hk) hs)
  | dup t v1 v2 =>
    simp only [LV.val,LV.erase,resShape,SVR,SVRL]
    have h0:t.erase.isSl = true → L (.op r i 0) = some t:=hl 0 t rfl
    exact ⟨[v1,v2],rfl,v1,[v2],rfl,refT_sound hd.1 h0,v2,[],rfl,refT_sound hd.2 h0,rfl⟩
  | clo g ts =>
    simp only [LV.val,LV.erase,resShape,SVR]
    exact ⟨_,rfl,cloPtrs_sound ts 0 hd fun k t hk hs => by simpa using hl k t hk hs⟩
  | c t => exact resOne_sound (.c t) 0 h (fun k t hk hs => by simpa using hl k t hk hs)
  | agg ts => exact resOne_sound (.agg ts) 0 h (fun k t hk hs => by simpa using hl k t hk hs)
  | bp t => exact resOne_sound (.bp t) 0 h (fun k t hk hs => by simpa using hl k t hk hs)
  | ip q x ps => exact resOne_sound (.ip q x ps) 0 h (fun k t hk hs => by simpa using hl k t hk hs)
theorem trees_holds:∀ n:Nat,(∀ la:LV,SizeOf.sizeOf la < n → la.holds sz w I → ∀ t ∈ la.trees,t.holds sz w I) ∧ (∀ ls:List LV,SizeOf.sizeOf ls < n → (∀ l ∈ ls,l.holds sz w I) → ∀ t ∈ ls.flatMap LV.trees,t.holds sz w I):=by
  intro n
  induction n with
  | zero => exact ⟨fun _ h => by omega,fun _ h => by omega⟩
  | succ n ih =>
    refine ⟨fun la hla h => ?_,fun ls hls h => ?_⟩
    · cases la with
      | tup vs =>
        simp only [LV.holds] at h
        have:=ih.2 vs (by simp at hla; omega) ((LV.holdsL_iff _).1 h)
        simpa [LV.trees,LV.treesL_eq] using this
      | c t => simpa [LV.trees,LV.holds] using h
      | dup t v1 v2 => simp only [LV.holds] at h; simpa [LV.trees] using h.1
      | clo g ts => simp only [LV.holds] at h; simp only [LV.trees]; exact fun t ht => (h t ht).1
      | agg ts => simpa [LV.trees,LV.holds] using h
      | bp t => simp only [LV.holds] at h; simpa [LV.trees] using h.1
      | ip k x ps => simp [LV.trees]
    · cases ls with
      | nil => simp
      | cons l ls =>
        intro t ht
        rw [List.flatMap_cons] at ht
        rcases List.mem_append.1 ht with ht | ht
        · exact ih.1 l (by simp at hls; omega) (h l (by simp)) t ht
        · exact ih.2 ls (by simp at hls; omega) (fun y hy => h y (by simp [hy])) t ht
theorem LV.trees_hold {la:LV} (h:la.holds sz w I):∀ t ∈ la.trees,t.holds sz w I:=(trees_holds (SizeOf.sizeOf la + 1)).1 la (Nat.lt_succ_self _) h
theorem LVs.trees_hold {ls:List LV} (h:∀ l ∈ ls,l.holds sz w I):∀ t ∈ ls.flatMap LV.trees,t.holds sz w I:=(trees_holds (SizeOf.sizeOf ls + 1)).2 ls (Nat.lt_succ_self _) h
theorem trees_blocks:∀ n:Nat,(∀ la:LV,SizeOf.sizeOf la < n → la.trees.flatMap LT.blocks = la.blocks) ∧ (∀ ls:List LV,SizeOf.sizeOf ls < n → (ls.flatMap LV.trees).flatMap LT.blocks = ls.flatMap LV.blocks):=by
  intro n
  induction n with
  | zero => exact ⟨fun _ h => by omega,fun _ h => by omega⟩
  | succ n ih =>
    refine ⟨fun la hla => ?_,fun ls hls => ?_⟩
    · cases la with
      | tup vs =>
        have:=ih.2 vs (by simp at hla; omega)
        simpa only [LV.trees,LV.treesL_eq,LV.blocks,LV.blocksL_eq] using this
      | c t => simp [LV.trees,LV.blocks]
      | dup t v1 v2 => simp [LV.trees,LV.blocks]
      | clo g t => simp [LV.trees,LV.blocks]
      | agg ts => simp [LV.trees,LV.blocks]
      | bp t => simp [LV.trees,LV.blocks]
      | ip k x ps => simp [LV.trees,LV.blocks]
    · cases ls with
      | nil => rfl
      | cons l ls =>
        rw [List.flatMap_cons,List.flatMap_append,List.flatMap_cons,ih.1 l (by simp at hls; omega),ih.2 ls (by simp at hls; omega)]
theorem LV.trees_blocks (la:LV):la.trees.flatMap LT.blocks = la.blocks:=(V.trees_blocks (SizeOf.sizeOf la + 1)).1 la (Nat.lt_succ_self _)
theorem LVs.trees_blocks (ls:List LV):(ls.flatMap LV.trees).flatMap LT.blocks = ls.flatMap LV.blocks:=(V.trees_blocks (SizeOf.sizeOf ls + 1)).2 ls (Nat.lt_succ_self _)
end
end Go.V

namespace Go.V
open Go.RowKit
set_option linter.unusedSimpArgs false
set_option linter.unusedVariables false

/-- What is known of the functions: how each takes its arguments (0 lent, 1 given back, 2 given away), and what it does. -/
structure Env where
  mode:FuncId → List Nat
  call:FuncId → List PV → Option (PV × List PV)
def EnvOK (P:Program) (E:Env):Prop:=∀ f args res outs,E.call f args = some (res,outs) → CallOK P f args res outs

def zipModes:List SV → List Nat → List (SV × Nat)
  | [],_ => []
  | s :: ss,[] => (s,0) :: zipModes ss []
  | s :: ss,m :: ms => (s,m) :: zipModes ss ms
def ownCells:List AT → List PV → List PT
  | [],_ => []
  | .lent _ :: xs,_ :: ls => ownCells xs ls
  | _ :: xs,l :: ls => l.cells ++ ownCells xs ls
  | _ :: _,[] => []
def backHas (bl:List (Pl × PT)) (q:Pl):Bool:=bl.any fun x => x.1 == q
def stInvoke (E:Env) (sz:Nat → Nat) (r i:Nat) (st:St) (f:FuncId) (ss:List SV):Option (St × SV) :=
  match takeArgs sz st [] (zipModes ss (E.mode f)) with
  | none => none
  | some (ats,ks,st1) => match lendArgs sz st1 ks ats with
    | none => none
    | some pvs => match E.call f pvs with
      | none => none
      | some (res,outs) => if (!ats.any AT.lendy || (PT.noTmpL res.cells && PT.noTmpL (ownCells ats outs))) = true then match backsOf ats outs with
          | none => none
          | some bl => match putBack st1.hp bl with
            | none => none
            | some hp2 => some (setRoots r i 0 res.cells ⟨st.sl.map (SV.kill fun q => !backHas bl q && ks.any (·.pre q)),hp2⟩,resShape r i res)
        else none
def calleeOf (st:St) (x:Operand):Option (FuncId × List SV):=match opv st x with
  | some (.t (.fn k g caps)) => some (g,caps.map (.ip k))
  | some (.fnc g caps) => some (g,caps)
  | _ => none
def opvs (st:St):List Operand → Option (List SV)
  | [] => some []
  | x :: xs => match opv st x,opvs st xs with
    | some s,some ss => some (s :: ss)
    | _,_ => none
def stCall (E:Env) (P:Program) (r i:Nat) (st:St) (o:Oper):Option St:=match o.op with
  | .call c => match c.callee with
    | .value x => match calleeOf st x with
      | some (g,caps) => match opvs st c.args.toList with
        | some ss => match stInvoke E (tsz P) r i st g (ss ++ caps) with
          | some (st',s) => some (st'.set o.dst s)
          | none => none
        | none => none
      | none => none
    | _ => none
  | _ => none

section
variable {sz:Nat → Nat} {I I':Nat → Nat → Prop} {bs:List Nat} {A:AD} {w0 w w':World} {st st' st1 st2:St} {a:Act} {L L' L0 L1 L2:Loc} {hand hand':List LT} {P:Program} {o:Oper} {Q:Exit → Act → World → Prop} {E:Env}

theorem CallsF.mono {f:FuncId} {args:Array Value} {R R':Ending → World → Prop} (h:CallsF P f args w R) (hr:∀ e w',R e w' → R' e w'):CallsF P f args w R':=by
  unfold CallsF at h ⊢
  split at h
  · exact h.mono hr
  · exact hr _ _ h
  · exact h.elim

theorem zipModes_fst:∀ (ss:List SV) (ms:List Nat),(zipModes ss ms).map (·.1) = ss
  | [],_ => by simp [zipModes]
  | s :: ss,[] => by simp [zipModes,zipModes_fst ss]
  | s :: ss,m :: ms => by simp [zipModes,zipModes_fst ss]
theorem ownCells_eq:∀ (xs:List AT) (ls:List LV),(ownTrees xs ls).map LT.erase = ownCells xs (ls.map LV.erase)
  | [],ls => by simp [ownTrees,ownCells]
  | x :: xs,[] => by cases x <;> simp [ownTrees,ownCells]
  | x :: xs,l :: ls => by
    have ih:=ownCells_eq xs ls
    cases x <;> simp [ownTrees,ownCells,ih,LV.trees_erase]

theorem stInvoke_sound (h:Sim (tsz P) I bs A w0 st a w L []) (hE:EnvOK P E) {r i:Nat} {f:FuncId} {ss:List SV} {vs:List Value} {s:SV} (hvs:SVRL (tsz P) L w I vs ss) (hi:stInvoke E (tsz P) r i st f ss = some (st',s)) :
    CallsF P f vs.toArray w fun e w' => ∃ v L',e = .returned v ∧ Sim (tsz P) I bs A w0 st' a w' L' [] ∧ SVR (tsz P) L' w' I v s:=by
  unfold stInvoke at hi
  split at hi
  · simp at hi
  · rename_i ats ks st1 hta
    split at hi
    · simp at hi
    · rename_i pvs hla
      split at hi
      · simp at hi
      · rename_i res outs hc
        split at hi
        · rename_i htmp
          split at hi
          · simp at hi
          · rename_i bl hbl
            split at hi
            · simp at hi
            · rename_i hp2 hpb
              simp only [Option.some.injEq,Prod.mk.injEq] at hi
              obtain ⟨rfl,rfl⟩:=hi
              obtain ⟨L1,las,s1,ha,hk,_,_,hbk⟩:=takeArgs_sound _ h (L0:=L) (vs:=vs) (by rw [zipModes_fst]; exact hvs) (by simpa using Stays.refl (fun _ => false) L) hta
              rw [List.nil_append] at s1
              -- what may be read
              let I':Nat → Nat → Prop:=fun k b => I k b ∨ (ats.any AT.lendy = true ∧ k = 1 ∧ ((∃ id t,L1 id = some t ∧ b ∈ t.blocks) ∨ ∃ k',I k' b))
              have hI:∀ k b,I k b → I' k b:=fun k b hb => .inl hb
              have hk1:∀ k b,k ≠ 1 → I' k b → I k b:=fun k b hne hb => hb.elim id fun hx => absurd hx.2.1 hne
              obtain ⟨las',g1,g2,g3,g4,g5⟩:=lendArgs_sound s1 hI hk (fun hx => ⟨fun id t b ht hb => .inr ⟨hx,rfl,.inl ⟨id,t,ht,hb⟩⟩,fun k b hb => .inr ⟨hx,rfl,.inr ⟨k,hb⟩⟩⟩) ha s1.hholds hla
              have hIb:∀ k b,I k b → b < w.heap.size ∧ b ∉ (las.flatMap LV.trees).flatMap LT.blocks:=fun k b hb => ⟨s1.immw k b hb,fun hx => by
                have hne:=s1.imm_ne hb
                exact (s1.hown b hx).elim hne.1 hne.2⟩
              have hcall:=hE f pvs res outs hc I' w las' g2 g4 (by rw [g3]; exact s1.hnodup) (by
                intro k b hb
                rw [g3]
                rcases hb with hb | ⟨_,_,⟨id,t,ht,hbt⟩ | ⟨k',hb⟩⟩
                · exact hIb k b hb
                · exact ⟨LT.blocks_lt t (s1.holds id t ht) b hbt,s1.hapart id t ht b hbt⟩
                · exact hIb k' b hb)
              rw [g1] at hcall
              refine hcall.mono ?_
              rintro e w' ⟨lr,los,rfl,hres,houts,hfull,hlr,hlos,hnd,hblk,hkp⟩
              rw [g3] at hkp hblk
              -- what comes back is held without what was lent
              have toI:∀ t:LT,t.erase.noTmp = true ∨ ats.any AT.lendy = false → t.holds (tsz P) w' I' → t.holds (tsz P) w' I:=by
                intro t ht hh
                rcases ht with ht | ht
                · exact LT.noTmp hk1 t ht hh
                · have e:I' = I:=by
                    funext k b
                    simp [I',ht]
                  rwa [e] at hh
              have hnt:(∀ t ∈ lr.trees,t.holds (tsz P) w' I) ∧ ∀ t ∈ ownTrees ats los,t.holds (tsz P) w' I:=by
                have h1:=LV.trees_hold hlr
                have h2:∀ t ∈ ownTrees ats los,t.holds (tsz P) w' I':=fun t ht => LVs.trees_hold hlos t ((ownTrees_sub ats los).subset ht)
                cases hld:ats.any AT.lendy with
                | false => exact ⟨fun t ht => toI t (.inr hld) (h1 t ht),fun t ht => toI t (.inr hld) (h2 t ht)⟩
                | true =>
                  simp only [hld,Bool.not_true,Bool.false_or,Bool.and_eq_true] at htmp
                  refine ⟨fun t ht => toI t (.inl ?_) (h1 t ht),fun t ht => toI t (.inl ?_) (h2 t ht)⟩
                  · refine (PT.noTmpL_iff _).1 htmp.1 _ ?_
                    rw [← hres,← LV.trees_erase]
                    exact List.mem_map_of_mem ht
                  · refine (PT.noTmpL_iff _).1 htmp.2 _ ?_
                    rw [← houts,← ownCells_eq]
                    exact List.mem_map_of_mem ht
              obtain ⟨bts,b1,b2,b3,b4⟩:=backsOf_sound g5 g4 hlos hfull houts hbl
              have hsub:(bts.map (·.2)).Sublist (los.flatMap LV.trees):=b2.trans (ownTrees_sub ats los)
              have hsubb:=flat_sub LT.blocks hsub
              rw [LVs.trees_blocks] at hsubb
              have s2:=s1.hands (hand':=bts.map (·.2) ++ lr.trees) _ hkp (fun b hb => hb) (by
                intro x hx
                rcases List.mem_append.1 hx with hx | hx
                · exact hnt.2 x (b2.subset hx)
                · exact hnt.1 x hx) (by
                rw [List.flatMap_append,LV.trees_blocks]
                refine (List.perm_append_comm.nodup_iff).1 ?_
                exact hnd.sublist (hsubb.append_left _)) (by
                intro b hb
                rw [List.flatMap_append,LV.trees_blocks] at hb
                refine hblk b ?_
                rcases List.mem_append.1 hb with hb | hb
                · exact List.mem_append_right _ (hsubb.subset hb)
                · exact List.mem_append_left _ hb)
              have hst1:st1 = ⟨st1.sl,st1.hp⟩:=rfl
              rw [hst1] at s2
              obtain ⟨sl',L2,s3,k3,e3⟩:=putBack_sound bts s2 (fun x hx => ⟨(b3 x hx).2.1,(b3 x hx).2.2⟩) (by rw [b1]; exact hpb)
              -- the slots
              have hIw:∀ k b,I k b → w'.heap[b]? = w.heap[b]?:=fun k b hb => hkp.block b (hIb k b hb).1 (hIb k b hb).2
              have hbhas:∀ q,backHas bl q = true ↔ ∃ x ∈ bts,x.1 = q:=by
                intro q
                rw [← b1]
                simp [backHas]
              have hst:Stays (fun q => !backHas bl q && ks.any (·.pre q)) L L2:=by
                intro q node hq hrf hn
                by_cases hb:backHas bl q = true
                · obtain ⟨x,hx,rfl⟩:=(hbhas q).1 hb
                  obtain ⟨⟨node0,n1,n2⟩,_,_⟩:=b3 x hx
                  rw [hn] at n1
                  cases n1
                  obtain ⟨t,t1,t2⟩:=e3 x hx
                  exact ⟨t,t1,n2.trans t2⟩
                · have hq':ks.any (·.pre q) = false:=by simpa [hb] using hq
                  obtain ⟨n1,m1,m2⟩:=hk q node hq' hrf hn
                  obtain ⟨n2,m3,m4⟩:=k3 q n1 (by
                    rw [List.any_eq_false] at hq' ⊢
                    intro y hy
                    obtain ⟨x,hx,rfl⟩:=List.mem_map.1 hy
                    obtain ⟨z,hz,hzz⟩:=b4 x hx
                    exact hq' _ (hbk z hz _ hzz)) (m2.refable hrf) m1
                  exact ⟨n2,m3,m2.trans m4⟩
              have s4:=s3.reslots (SVRL.kill _ hst (fun _ _ hb => hb) hIw h.slots)
              obtain ⟨L3,s5,r1,_⟩:=setRoots_sound r i lr.trees 0 (rest:=[]) (by rw [List.append_nil]; exact s4)
              rw [LV.trees_erase,hres] at s5
              refine ⟨lr.val,L3,rfl,s5,?_⟩
              have:=resShape_sound (sz:=tsz P) (L:=L3) (r:=r) (i:=i) lr (LV.refs_of hlr) hnt.1 (fun k t hk hs => by simpa using r1 k t hk hs)
              rwa [hres] at this
        · simp at hi

/-! ### a call that is lent all that it is handed -/
theorem takeArgs_lent {ks:List Pl}:∀ (ss:List SV) {ms:List Nat},ms.all (· == 0) = true → takeArgs sz st ks (zipModes ss ms) = some (ss.map .lent,ks,st)
  | [],ms,_ => by simp [zipModes,takeArgs]
  | s :: ss,[],h => by simp [zipModes,takeArgs,takeArg,takeArgs_lent ss h]
  | s :: ss,m :: ms,h => by
    simp only [List.all_cons,Bool.and_eq_true,beq_iff_eq] at h
    simp [zipModes,takeArgs,takeArg,h.1,takeArgs_lent ss h.2]
theorem atrl_lent:∀ {vs:List Value} {ss:List SV},SVRL sz L w I vs ss → ATRL sz w I L L vs (ss.map .lent) (ss.map fun _ => LV.tup [])
  | vs,[],h => by simp only [SVRL] at h; subst h; simp [ATRL]
  | vs,s :: ss,h => by
    simp only [SVRL] at h
    obtain ⟨v,vs',rfl,hv,hvs⟩:=h
    simp only [List.map_cons,ATRL,ATR]
    exact ⟨⟨hv,trivial⟩,atrl_lent hvs⟩
theorem trees_lent:∀ ss:List SV,(ss.map fun _ => LV.tup []).flatMap LV.trees = []
  | [] => rfl
  | s :: ss => by simp [List.flatMap_cons,LV.trees,LV.trees.treesL,trees_lent ss]
theorem ownTrees_lent:∀ (ss:List SV) (ls:List LV),ownTrees (ss.map .lent) ls = []
  | [],ls => by cases ls <;> simp [ownTrees]
  | s :: ss,[] => by simp [ownTrees]
  | s :: ss,l :: ls => by simp [ownTrees,ownTrees_lent ss ls]
theorem stInvoke_quiet (h:Sim (tsz P) I bs A w0 st a w L []) (hE:EnvOK P E) {r i:Nat} {f:FuncId} {ss:List SV} {vs:List Value} {s:SV} (hq:(E.mode f).all (· == 0) = true) (hvs:SVRL (tsz P) L w I vs ss) (hi:stInvoke E (tsz P) r i st f ss = some (st',s)) :
    CallsF P f vs.toArray w fun e w' => ∃ v L',e = .returned v ∧ Sim (tsz P) I bs A w0 st' a w' L' [] ∧ SVR (tsz P) L' w' I v s ∧ ∀ id,(∀ k,id ≠ .op r i k) → L' id = L id:=by
  unfold stInvoke at hi
  rw [takeArgs_lent ss hq] at hi
  simp only at hi
  have ha:=atrl_lent hvs
  have htr:=trees_lent ss
  generalize hats:ss.map AT.lent = ats at hi ha
  generalize hlas:(ss.map fun _ => LV.tup []) = las at ha htr
  split at hi
  · simp at hi
  · rename_i pvs hla
    split at hi
    · simp at hi
    · rename_i res outs hc
      split at hi
      · rename_i htmp
        split at hi
        · simp at hi
        · rename_i bl hbl
          split at hi
          · simp at hi
          · rename_i hp2 hpb
            simp only [Option.some.injEq,Prod.mk.injEq] at hi
            obtain ⟨rfl,rfl⟩:=hi
            have s1:Sim (tsz P) I bs A w0 st a w L (las.flatMap LV.trees):=by rw [htr]; exact h
            have hk:Stays (fun q => ([]:List Pl).any (·.pre q)) L L:=Stays.refl _ L
            let I':Nat → Nat → Prop:=fun k b => I k b ∨ (ats.any AT.lendy = true ∧ k = 1 ∧ ((∃ id t,L id = some t ∧ b ∈ t.blocks) ∨ ∃ k',I k' b))
            have hI:∀ k b,I k b → I' k b:=fun k b hb => .inl hb
            have hk1:∀ k b,k ≠ 1 → I' k b → I k b:=fun k b hne hb => hb.elim id fun hx => absurd hx.2.1 hne
            obtain ⟨las',g1,g2,g3,g4,g5⟩:=lendArgs_sound s1 hI hk (fun hx => ⟨fun id t b ht hb => .inr ⟨hx,rfl,.inl ⟨id,t,ht,hb⟩⟩,fun k b hb => .inr ⟨hx,rfl,.inr ⟨k,hb⟩⟩⟩) ha s1.hholds hla
            have hIb:∀ k b,I k b → b < w.heap.size ∧ b ∉ (las.flatMap LV.trees).flatMap LT.blocks:=fun k b hb => ⟨s1.immw k b hb,fun hx => by
              have hne:=s1.imm_ne hb
              exact (s1.hown b hx).elim hne.1 hne.2⟩
            have hcall:=hE f pvs res outs hc I' w las' g2 g4 (by rw [g3]; exact s1.hnodup) (by
              intro k b hb
              rw [g3]
              rcases hb with hb | ⟨_,_,⟨id,t,ht,hbt⟩ | ⟨k',hb⟩⟩
              · exact hIb k b hb
              · exact ⟨LT.blocks_lt t (s1.holds id t ht) b hbt,s1.hapart id t ht b hbt⟩
              · exact hIb k' b hb)
            rw [g1] at hcall
            refine hcall.mono ?_
            rintro e w' ⟨lr,los,rfl,hres,houts,hfull,hlr,hlos,hnd,hblk,hkp⟩
            rw [g3] at hkp hblk
            have toI:∀ t:LT,t.erase.noTmp = true ∨ ats.any AT.lendy = false → t.holds (tsz P) w' I' → t.holds (tsz P) w' I:=by
              intro t ht hh
              rcases ht with ht | ht
              · exact LT.noTmp hk1 t ht hh
              · have e:I' = I:=by
                  funext k b
                  simp [I',ht]
                rwa [e] at hh
            have hnt:∀ t ∈ lr.trees,t.holds (tsz P) w' I:=by
              have h1:=LV.trees_hold hlr
              cases hld:ats.any AT.lendy with
              | false => exact fun t ht => toI t (.inr hld) (h1 t ht)
              | true =>
                simp only [hld,Bool.not_true,Bool.false_or,Bool.and_eq_true] at htmp
                refine fun t ht => toI t (.inl ?_) (h1 t ht)
                refine (PT.noTmpL_iff _).1 htmp.1 _ ?_
                rw [← hres,← LV.trees_erase]
                exact List.mem_map_of_mem ht
            obtain ⟨bts,b1,b2,b3,b4⟩:=backsOf_sound g5 g4 hlos hfull houts hbl
            have hbts:bts = []:=by
              rw [← hats,ownTrees_lent] at b2
              simpa using b2
            subst hbts
            simp only [List.map_nil] at b1
            subst b1
            simp only [putBack,Option.some.injEq] at hpb
            subst hpb
            have s2:=s1.hands (hand':=lr.trees) _ hkp (fun b hb => hb) hnt (by
              rw [LV.trees_blocks]
              exact (List.nodup_append.1 hnd).1) (by
              intro b hb
              rw [LV.trees_blocks] at hb
              exact hblk b (List.mem_append_left _ hb))
            have hIw:∀ k b,I k b → w'.heap[b]? = w.heap[b]?:=fun k b hb => hkp.block b (hIb k b hb).1 (hIb k b hb).2
            have s4:=s2.reslots (SVRL.kill (fun q => !backHas [] q && ([]:List Pl).any (·.pre q)) (by intro q node _ _ hn; exact ⟨node,hn,Shp.refl _⟩) (fun _ _ hb => hb) hIw h.slots)
            obtain ⟨L3,s5,r1,r2⟩:=setRoots_sound r i lr.trees 0 (rest:=[]) (by rw [List.append_nil]; exact s4)
            rw [LV.trees_erase,hres] at s5
            refine ⟨lr.val,L3,rfl,s5,?_,fun id hid => r2 id fun k _ => hid k⟩
            have:=resShape_sound (sz:=tsz P) (L:=L3) (r:=r) (i:=i) lr (LV.refs_of hlr) hnt (fun k t hk hs => by simpa using r1 k t hk hs)
            rwa [hres] at this
      · simp at hi

/-- A call that is lent all that it is handed. -/
def quietB (E:Env) (st:St) (o:Oper):Bool:=match o.op with
  | .call c => match c.callee with
    | .value x => match calleeOf st x with
      | some (g,_) => (E.mode g).all (· == 0)
      | none => false
    | _ => false
  | _ => false

theorem opvs_sound (h:Sim sz I bs A w0 st a w L hand):∀ {xs:List Operand} {ss:List SV},opvs st xs = some ss → SVRL sz L w I (xs.map a.eval) ss
  | [],ss,hx => by simp only [opvs,Option.some.injEq] at hx; subst hx; simp [SVRL]
  | x :: xs,ss,hx => by
    simp only [opvs] at hx
    split at hx
    · rename_i s ss' h1 h2
      cases hx
      simp only [List.map_cons,SVRL]
      exact ⟨_,_,rfl,opv_sound h h1,opvs_sound h h2⟩
    · simp at hx
theorem ImC.svrl {k:Nat}:∀ {caps:List (List PT)} {vs:List Value},ImC w I k vs caps → SVRL sz L w I vs (caps.map (.ip k))
  | [],vs,h => by simp only [ImC] at h; subst h; simp [SVRL]
  | c :: cs,vs,h => by
    simp only [ImC] at h
    obtain ⟨x,vs',rfl,h1,h2⟩:=h
    simp only [List.map_cons,SVRL]
    exact ⟨_,_,rfl,by simp only [SVR]; exact ⟨x,rfl,h1⟩,ImC.svrl h2⟩
theorem callee_sound (h:Sim sz I bs A w0 st a w L hand) {x:Operand} {g:FuncId} {caps:List SV} (hx:calleeOf st x = some (g,caps)):∃ vs:List Value,a.eval x = .func (.func g) #[] vs.toArray ∧ SVRL sz L w I vs caps:=by
  unfold calleeOf at hx
  split at hx
  · rename_i k g' caps' ho
    simp only [Option.some.injEq,Prod.mk.injEq] at hx
    obtain ⟨rfl,rfl⟩:=hx
    have:=opv_sound h ho
    simp only [SVR,Im] at this
    obtain ⟨vs,hv,hc⟩:=this
    exact ⟨vs,hv,ImC.svrl hc⟩
  · rename_i g' caps' ho
    simp only [Option.some.injEq,Prod.mk.injEq] at hx
    obtain ⟨rfl,rfl⟩:=hx
    have:=opv_sound h ho
    simp only [SVR] at this
    exact this
  · simp at hx

theorem wp_callF {c:Call} {x:Operand} {g:FuncId} {vs:List Value} {next:Act → World → Prop} (ho:o.op = .call c) (hc:c.callee = .value x) (hx:a.eval x = .func (.func g) #[] vs.toArray)
    (hcall:CallsF P g ((c.args.toList.map a.eval) ++ vs).toArray w fun e w' => ∃ v,e = .returned v ∧ next (a.put o.dst v) w'):o.wp P a w next Q:=by
  have harr:(c.args.map a.eval) ++ vs.toArray = ((c.args.toList.map a.eval) ++ vs).toArray:=by
    apply Array.ext'
    simp
  have hrun:(execOp a.eval o).run P w = (callFunc g ((c.args.toList.map a.eval) ++ vs).toArray).run P w:=by
    unfold execOp
    rw [ho]
    simp only [resolve,hc,hx,Deferred.ofValue,Sem.run_bind,Sem.run_pure,Result.andThen_ok,invoke,Array.empty_append,harr]
  unfold Oper.wp
  rw [hrun]
  unfold CallsF at hcall
  split at hcall
  · rename_i g' as w1 hr
    rw [hr,Oper.upon_enter]
    exact hcall.mono fun e w' hh => by
      obtain ⟨v,rfl,hn⟩:=hh
      exact hn
  · rename_i v w1 hr
    rw [hr,Oper.upon_value]
    obtain ⟨v',hv,hn⟩:=hcall
    cases hv
    exact hn
  · exact hcall.elim

theorem stCall_sound (h:Sim (tsz P) I bs A w0 st a w L []) (hE:EnvOK P E) {r i:Nat} (hst:stCall E P r i st o = some st'):o.wp P a w (fun a' w' => ∃ L',Sim (tsz P) I bs A w0 st' a' w' L' []) Q:=by
  unfold stCall at hst
  split at hst
  · rename_i c ho
    split at hst
    · rename_i x hc
      split at hst
      · rename_i g caps hcal
        split at hst
        · rename_i ss hss
          split at hst
          · rename_i st2 s hinv
            cases hst
            obtain ⟨vs,hv,hcs⟩:=callee_sound h hcal
            refine wp_callF ho hc hv ((stInvoke_sound h hE ((opvs_sound h hss).append hcs) hinv).mono ?_)
            rintro e w' ⟨v,L',rfl,h1,h2⟩
            exact ⟨v,rfl,L',h1.setS _ h2⟩
          · simp at hst
        · simp at hst
      · simp at hst
    · simp at hst
  · simp at hst
theorem stCall_quiet (h:Sim (tsz P) I bs A w0 st a w L []) (hE:EnvOK P E) {r i:Nat} (hq:quietB E st o = true) (hst:stCall E P r i st o = some st'):o.wp P a w (fun a' w' => ∃ L',Sim (tsz P) I bs A w0 st' a' w' L' [] ∧ ∀ id,(∀ k,id ≠ .op r i k) → L' id = L id) Q:=by
  unfold stCall at hst
  unfold quietB at hq
  split at hst
  · rename_i c ho
    rw [ho] at hq
    simp only at hq
    split at hst
    · rename_i x hc
      rw [hc] at hq
      simp only at hq
      split at hst
      · rename_i g caps hcal
        rw [hcal] at hq
        simp only at hq
        split at hst
        · rename_i ss hss
          split at hst
          · rename_i st2 s hinv
            cases hst
            obtain ⟨vs,hv,hcs⟩:=callee_sound h hcal
            refine wp_callF ho hc hv ((stInvoke_quiet h hE hq ((opvs_sound h hss).append hcs) hinv).mono ?_)
            rintro e w' ⟨v,L',rfl,h1,h2,h3⟩
            exact ⟨v,rfl,L',h1.setS _ h2,h3⟩
          · simp at hst
        · simp at hst
      · simp at hst
    · simp at hst
  · simp at hst
end
end Go.V

namespace Go.V
open Go.RowKit
set_option linter.unusedSimpArgs false
set_option linter.unusedVariables false

/-! ### a struct, written out -/
def fillSV (place:Nat → Option (Nat × Nat)):List SV → List (Nat × SV) → Option (List SV)
  | cells,[] => some cells
  | cells,(i,s) :: rest => match place i with
    | some (off,size) => if s.compsB = true ∧ (comps s).length = size ∧ off + size ≤ cells.length then fillSV place (cells.take off ++ comps s ++ cells.drop (off + size)) rest else none
    | none => none
def opvParts (st:St):List (Nat × Operand) → Option (List (Nat × SV))
  | [] => some []
  | (i,x) :: xs => match opv st x,opvParts st xs with
    | some s,some ss => some ((i,s) :: ss)
    | _,_ => none
def stBuild (P:Program) (st:St) (o:Oper):Option St:=match o.op with
  | .build t parts => match P.underlying t,tzero P t,opvParts st parts.toList with
    | some (.struct fs),some z,some ss => if z.cells.toList.all one = true ∧ fs.toList.all (fun f => (P.info? f.type).isSome) = true then
        match fillSV (fun i => (fs[i]?).map fun f => (f.offset,tsz P f.type)) (z.cells.toList.map fun v => .t (PT.ofV v)) ss with
        | some l => some (st.set o.dst (.agg l))
        | none => none
      else none
    | _,_,_ => none
  | _ => none

section
variable {sz:Nat → Nat} {I I':Nat → Nat → Prop} {bs:List Nat} {A:AD} {w0 w w':World} {st st' st1 st2:St} {a:Act} {L L' L0 L1 L2:Loc} {hand hand':List LT} {P:Program} {o:Oper} {Q:Exit → Act → World → Prop} {E:Env}

theorem opvParts_sound (h:Sim sz I bs A w0 st a w L hand):∀ {xs:List (Nat × Operand)} {ss:List (Nat × SV)},opvParts st xs = some ss → xs.map (·.1) = ss.map (·.1) ∧ SVRL sz L w I (xs.map fun x => a.eval x.2) (ss.map (·.2))
  | [],ss,hx => by simp only [opvParts,Option.some.injEq] at hx; subst hx; simp [SVRL]
  | (i,x) :: xs,ss,hx => by
    simp only [opvParts] at hx
    split at hx
    · rename_i s ss' h1 h2
      cases hx
      obtain ⟨g1,g2⟩:=opvParts_sound h h2
      simp only [List.map_cons,SVRL,g1,true_and]
      exact ⟨_,_,rfl,opv_sound h h1,g2⟩
    · simp at hx

theorem fillSV_sound {place:Nat → Option (Nat × Nat)}:∀ {ss:List (Nat × SV)} {ps:List (Nat × Value)} {cells l:List SV} {vs:List Value},ps.map (·.1) = ss.map (·.1) → SVRL sz L w I (ps.map (·.2)) (ss.map (·.2)) → SVRL sz L w I vs cells → (∀ v ∈ vs,one v = true) → fillSV place cells ss = some l →
    ∃ vs',Instr.fill place vs.toArray ps = some vs'.toArray ∧ SVRL sz L w I vs' l ∧ ∀ v ∈ vs',one v = true
  | [],ps,cells,l,vs,hi,_,hc,h1,hf => by
    simp only [List.map_nil,List.map_eq_nil_iff] at hi
    subst hi
    simp only [fillSV,Option.some.injEq] at hf
    subst hf
    exact ⟨vs,by simp [Instr.fill],hc,h1⟩
  | (i,s) :: ss,ps,cells,l,vs,hi,hp,hc,h1,hf => by
    cases ps with
    | nil => simp at hi
    | cons p ps =>
      obtain ⟨i',v⟩:=p
      simp only [List.map_cons,List.cons.injEq] at hi
      obtain ⟨rfl,hi⟩:=hi
      simp only [List.map_cons,SVRL] at hp
      obtain ⟨v',vs',hv',hv,hvs⟩:=hp
      simp only [List.cons.injEq] at hv'
      obtain ⟨rfl,rfl⟩:=hv'
      simp only [fillSV] at hf
      split at hf
      · rename_i off size hpl
        split at hf
        · rename_i hcond
          obtain ⟨c1,c2,c3⟩:=hcond
          obtain ⟨k1,k2⟩:=compsB_sound hv c1
          have hlen:=hc.len
          have hsz:v.cells.toList.length = size:=by rw [k1.len,c2]
          have hsz':v.cells.size = size:=by simpa using hsz
          have hle:off + v.cells.toList.length ≤ vs.length:=by omega
          have hfold:=fold_sets off v.cells.toList 0 vs (by simpa using hle)
          simp only [Nat.add_zero] at hfold
          have hn:SVRL sz L w I (vs.take off ++ v.cells.toList ++ vs.drop (off + size)) (cells.take off ++ comps s ++ cells.drop (off + size)):=((hc.takeDrop.2 off).append k1).append (hc.takeDrop.1 _)
          obtain ⟨us,f1,f2,f3⟩:=fillSV_sound hi hvs hn (by
            intro u hu
            rcases List.mem_append.1 hu with hu | hu
            · rcases List.mem_append.1 hu with hu | hu
              · exact h1 u (List.mem_of_mem_take hu)
              · exact k2 u hu
            · exact h1 u (List.mem_of_mem_drop hu)) hf
          refine ⟨us,?_,f2,f3⟩
          simp only [Instr.fill,hpl]
          rw [if_neg (by simp; omega)]
          have e:(v.cells.zipIdx.foldl (fun cs (x:Value × Nat) => cs.setIfInBounds (off + x.2) x.1) vs.toArray) = (vs.take off ++ v.cells.toList ++ vs.drop (off + size)).toArray:=by
            apply Array.toList_inj.1
            rw [← Array.foldl_toList,Array.toList_zipIdx]
            rw [hfold]
            simp [hsz']
          have e':(v.cells.zipIdx.foldl (fun cs x => match x with | (c,j) => cs.setIfInBounds (off + j) c) vs.toArray) = (vs.take off ++ v.cells.toList ++ vs.drop (off + size)).toArray:=e
          rw [e']
          exact f1
        · simp at hf
      · simp at hf

theorem run_places:∀ (fs:List Field),fs.all (fun f => (P.info? f.type).isSome) = true → (fs.mapM (fun f => (do pure (f.offset,← Go.sizeOf f.type):Sem (Nat × Nat)))).run P w = .ok (fs.map fun f => (f.offset,tsz P f.type)) w
  | [],_ => by simp
  | f :: fs,h => by
    simp only [List.all_cons,Bool.and_eq_true] at h
    obtain ⟨i,hi⟩:=Option.isSome_iff_exists.1 h.1
    simp only [List.mapM_cons,Sem.run_bind,run_tsz ⟨i,hi⟩,Result.andThen_ok,Sem.run_pure,run_places fs h.2,List.map_cons]

theorem stBuild_sound (h:Sim sz I bs A w0 st a w L []) (hst:stBuild P st o = some st'):o.wp P a w (PurePost sz I w L st a o st') Q:=by
  unfold stBuild at hst
  split at hst
  · rename_i t parts ho
    split at hst
    · rename_i fs z ss hu hz hss
      split at hst
      · rename_i hc
        split at hst
        · rename_i l hf
          cases hst
          obtain ⟨g1,g2⟩:=opvParts_sound h hss
          obtain ⟨vs',f1,f2,f3⟩:=fillSV_sound (ps:=(parts.map fun (i,x) => (i,a.eval x)).toList) (vs:=z.cells.toList) (sz:=sz) (L:=L) (w:=w) (I:=I) (by
            rw [← g1]
            simp [Function.comp_def]) (by simpa [Function.comp_def] using g2) (SVRL.ofVs _) (fun v hv => List.all_eq_true.1 hc.1 v hv) hf
          refine wp_val (v:=.agg vs'.toArray) ?_ ⟨rfl,_,_,rfl,rfl,by simp only [SVR]; exact ⟨vs',rfl,f2,f3⟩⟩
          unfold execOp
          rw [ho]
          refine run_v ?_
          have hmap:(fs.mapM (fun f => (do pure (f.offset,← Go.sizeOf f.type):Sem (Nat × Nat)))).run P w = .ok (fs.map fun f => (f.offset,tsz P f.type)) w:=by
            rw [Array.mapM_eq_mapM_toList,map_eq_pure_bind]
            simp only [Sem.run_bind,run_places fs.toList hc.2,Result.andThen_ok,Sem.run_pure]
            rw [← Array.toList_map]
          have hpl:(fun i:Nat => (fs.map fun (f:Field) => (f.offset,tsz P f.type))[i]?) = fun i => (fs[i]?).map fun (f:Field) => (f.offset,tsz P f.type):=by
            funext i
            simp
          simp only [Instr.build,Sem.run_bind,run_tzero hz,Result.andThen_ok,Sem.run_pure,run_underlying hu,hmap]
          rw [hpl]
          have hf1:Instr.fill (fun i => (fs[i]?).map fun (f:Field) => (f.offset,tsz P f.type)) z.cells (parts.map fun (i,x) => (i,a.eval x)).toList = some vs'.toArray:=by simpa using f1
          rw [hf1]
          rfl
        · simp at hst
      · simp at hst
    · simp at hst
  · simp at hst
end
end Go.V

namespace Go.V
open Go.RowKit
set_option linter.unusedSimpArgs false
set_option linter.unusedVariables false

/-- What lies truly below a place. -/
def Pl.below (p q:Pl):Bool:=p.id == q.id && (p.path.isPrefixOf q.path && decide (p.path.length < q.path.length))
theorem below_cons (pl:Pl) (j:Nat) (r:List Nat):pl.below ⟨pl.id,pl.path ++ j :: r⟩ = true:=by
  have:pl.path.isPrefixOf (pl.path ++ j :: r) = true:=by rw [List.isPrefixOf_iff_prefix]; exact ⟨_,rfl⟩
  simp [Pl.below,this]
/-! ### cells taken out of a row -/
def PT.hollow (p:PT):PT:=if p.isSl = true then .hole else p
def LT.hollow (t:LT):LT:=if t.erase.isSl = true then .leaf t.val .hole else t
theorem LT.hollow_val (t:LT):t.hollow.val = t.val:=by unfold LT.hollow; split <;> rfl
theorem LT.hollow_erase (t:LT):t.hollow.erase = t.erase.hollow:=by unfold LT.hollow PT.hollow; split <;> simp [LT.erase]
theorem LT.hollow_blocks (t:LT):t.hollow.blocks = []:=by
  unfold LT.hollow
  split
  · simp [LT.blocks]
  · rename_i h
    exact notSl_blocks h
section
variable {sz:Nat → Nat} {I:Nat → Nat → Prop} {bs:List Nat} {A:AD} {w0 w w':World} {st st' st1:St} {a:Act} {L L0 L1:Loc} {hand hand':List LT} {P:Program} {o:Oper} {Q:Exit → Act → World → Prop}
theorem LT.hollow_holds {t:LT} (h:t.holds sz w I):t.hollow.holds sz w I:=by
  unfold LT.hollow
  split
  · simp only [LT.holds,Im,true_and]
    exact LT.holds_one h
  · exact h
theorem Sim.takeCells (h:Sim sz I bs A w0 st a w L hand) {pl:Pl} {b cap e n off k:Nat} {lcs:List LT} (hl:look L pl = some (.own b cap e n lcs)) (hk:off + k ≤ lcs.length) :
    ∃ L',Sim sz I bs A w0 ⟨st.sl.map (SV.kill pl.below),hputP st.hp pl (.sl 0 e n ((lcs.map LT.erase).take off ++ (((lcs.map LT.erase).drop off).take k).map PT.hollow ++ (lcs.map LT.erase).drop (off + k)))⟩ a w L' (hand ++ (lcs.drop off).take k) ∧ Stays pl.below L L':=by
  have hh:=h.look_holds hl
  have hh':=hh
  simp only [LT.holds] at hh'
  obtain ⟨⟨arr,q1,q2,q3⟩,q4,q5,q6,q7⟩:=hh'
  obtain ⟨rng,hrng⟩:∃ rng,rng = (lcs.drop off).take k:=⟨_,rfl⟩
  obtain ⟨cs',hcs'⟩:∃ cs',cs' = lcs.take off ++ rng.map LT.hollow ++ lcs.drop (off + k):=⟨_,rfl⟩
  have hsplit:lcs = lcs.take off ++ rng ++ lcs.drop (off + k):=by
    rw [hrng,List.append_assoc,← List.drop_drop,List.take_append_drop,List.take_append_drop]
  have hvals:cs'.map LT.val = lcs.map LT.val:=by
    conv => rhs; rw [hsplit]
    rw [hcs']
    simp only [List.map_append,List.map_map]
    congr 2
    exact List.map_congr_left fun t _ => LT.hollow_val t
  have hlen:cs'.length = lcs.length:=by simpa using congrArg List.length hvals
  have hblk:cs'.flatMap LT.blocks = (lcs.take off).flatMap LT.blocks ++ (lcs.drop (off + k)).flatMap LT.blocks:=by
    have:(rng.map LT.hollow).flatMap LT.blocks = []:=by
      rw [List.flatMap_eq_nil_iff]
      intro t ht
      obtain ⟨d,_,rfl⟩:=List.mem_map.1 ht
      exact LT.hollow_blocks d
    rw [hcs',List.flatMap_append,List.flatMap_append,this,List.append_nil]
  have hl0:lcs.flatMap LT.blocks = (lcs.take off).flatMap LT.blocks ++ rng.flatMap LT.blocks ++ (lcs.drop (off + k)).flatMap LT.blocks:=by
    conv => lhs; rw [hsplit]
    rw [List.flatMap_append,List.flatMap_append]
  have hmem:∀ d ∈ rng,d ∈ lcs:=fun d hd => by rw [hrng] at hd; exact List.mem_of_mem_drop (List.mem_of_mem_take hd)
  have hper:((b :: cs'.flatMap LT.blocks) ++ (hand ++ rng).flatMap LT.blocks).Perm ((b :: lcs.flatMap LT.blocks) ++ hand.flatMap LT.blocks):=by
    rw [hblk,hl0,List.flatMap_append]
    simp only [List.cons_append]
    refine List.Perm.cons _ ?_
    simp only [List.append_assoc]
    refine List.Perm.append_left _ ?_
    rw [← List.append_assoc]
    exact List.perm_append_comm
  have hup:=h.update (w':=w) (hand':=hand ++ rng) (t':=.own b cap e n cs') hl [] (Kp.refl [] w) (by simp) rfl ?_ ?_ ?_ ?_ pl.below ?_
  · obtain ⟨L',s1,_,s3⟩:=hup
    refine ⟨L',?_,s3⟩
    rw [LT.erase,hcs',hrng] at s1
    simpa [List.map_append,List.map_take,List.map_drop,Function.comp_def,LT.hollow_erase] using s1
  · simp only [LT.holds]
    refine ⟨⟨arr,q1,q2,?_⟩,by rw [hlen]; exact q4,q5,q6,?_⟩
    · intro j d hd
      have h1:(cs'.map LT.val)[j]? = some d.val:=by rw [List.getElem?_map,hd]; rfl
      rw [hvals,List.getElem?_map,Option.map_eq_some_iff] at h1
      obtain ⟨d',hd',hv⟩:=h1
      rw [← hv]
      exact q3 j d' hd'
    · intro d hd
      rw [hcs',List.mem_append,List.mem_append] at hd
      rcases hd with (hd | hd) | hd
      · exact q7 d (List.mem_of_mem_take hd)
      · obtain ⟨d',hd',rfl⟩:=List.mem_map.1 hd
        exact LT.hollow_holds (q7 d' (hmem d' hd'))
      · exact q7 d (List.mem_of_mem_drop hd)
  · intro x hx
    rcases List.mem_append.1 hx with hx | hx
    · exact h.hholds x hx
    · exact q7 x (hmem x hx)
  · rw [LT.blocks,hper.nodup_iff]
    have hl1':=hl
    unfold look at hl1'
    cases hi:L pl.id with
    | none => simp [hi] at hl1'
    | some r =>
      simp only [hi] at hl1'
      obtain ⟨rest,p1,_⟩:=LT.split _ r pl.path hl1'
      have hnd:=p1.nodup_iff.1 (h.nodup _ _ hi)
      simp only [LT.blocks] at hnd
      refine List.nodup_append.2 ⟨(List.nodup_append.1 hnd).1,h.hnodup,fun x hx y hy hxy => ?_⟩
      subst hxy
      exact h.hapart _ _ hi x (p1.mem_iff.2 (List.mem_append_left _ (by simpa [LT.blocks] using hx))) hy
  · intro x hx
    rw [LT.blocks] at hx
    have:=hper.mem_iff.1 hx
    rcases List.mem_append.1 this with hx | hx
    · exact .inl (by simpa [LT.blocks] using hx)
    · exact .inr (.inl hx)
  · intro r node hf hrf hnode
    cases r with
    | nil =>
      simp only [LT.get,Option.some.injEq] at hnode
      subst hnode
      exact ⟨_,rfl,n,_,rfl,by omega⟩
    | cons j r =>
      rw [below_cons] at hf
      cases hf
end

/-! ### append of a part of a row with rows in it -/
def isSliceV:Value → Bool
  | .slice _ _ _ => true
  | _ => false
def zRef (P:Program) (e:TypeId):Bool:=(tzero P e).any fun z => z.cells.toList.any isSliceV
def stAppendR (P:Program) (r i:Nat) (st:St) (o:Oper):Option St:=match o.op with
  | .call ⟨.builtin .append,args,tys⟩ => match args.toList,tys.toList with
    | [s,x],[t,t'] => if t = t' then match telem P t,opv st s,opv st x with
      | some e,some sv,some (.ref pl off m) => if zRef P e = true ∧ m ≠ 0 ∧ sv.oneB = true ∧ 0 < tsz P e then match takeSV (tsz P) st sv with
          | some (.sl 0 e0 n cs0,k,st1) => match lookP st1.hp pl with
            | some (.sl 0 e' n' cs) => if e' = e ∧ off + m * tsz P e ≤ cs.length ∧ k.toList.any (·.pre pl) = false then
                stAppFin P r i o ⟨st1.sl.map (SV.kill pl.below),hputP st1.hp pl (.sl 0 e' n' (cs.take off ++ ((cs.drop off).take (m * tsz P e)).map PT.hollow ++ cs.drop (off + m * tsz P e)))⟩ e e0 n m cs0 ((cs.drop off).take (m * tsz P e)) else none
            | _ => none
          | _ => none
        else none
      | _,_,_ => none
      else none
    | _,_ => none
  | _ => none
section
variable {sz:Nat → Nat} {I:Nat → Nat → Prop} {bs:List Nat} {A:AD} {w0 w w':World} {st st' st1:St} {a:Act} {L L0 L1:Loc} {hand hand':List LT} {P:Program} {o:Oper} {Q:Exit → Act → World → Prop}
theorem stAppendR_sound (h:Sim (tsz P) I bs A w0 st a w L []) (h0:tsz P nilE = 0) {r i:Nat} (hst:stAppendR P r i st o = some st'):o.wp P a w (fun a' w' => ∃ L',Sim (tsz P) I bs A w0 st' a' w' L' []) Q:=by
  unfold stAppendR at hst
  split at hst
  · rename_i args tys ho
    split at hst
    · rename_i s x t t' hargs htys
      have ea:args = #[s,x]:=by rw [← Array.toArray_toList (xs:=args),hargs]
      have et:tys = #[t,t']:=by rw [← Array.toArray_toList (xs:=tys),htys]
      subst ea; subst et
      split at hst
      · rename_i htt
        subst htt
        split at hst
        · rename_i e sv pl off m he hs hx
          split at hst
          · rename_i hcond
            obtain ⟨_,hm,ho1,hsz⟩:=hcond
            split at hst
            · rename_i e0 n cs0 k st1 htk
              split at hst
              · rename_i e' n' cs hlp
                split at hst
                · rename_i hc
                  obtain ⟨rfl,c2,c3⟩:=hc
                  have hsv:=opv_sound h hs
                  have hxv:=opv_sound h hx
                  have hrun:∀ {v':Value} {w':World},(Builtin.append_ #[t,t] o.type #[a.eval s,a.eval x]).run P w = .ok v' w' → (execOp a.eval o).run P w = .ok (.value v') w':=by
                    intro v' w' hr
                    unfold execOp
                    rw [ho]
                    simp [resolve,invoke,builtin,hr,Result.andThen]
                  obtain ⟨L1,tsv,g1,g2,g3,g4⟩:=takeSV_sound h hsv (oneB_sound hsv ho1) htk
                  rw [List.nil_append] at g1
                  simp only [SVR] at hxv
                  rcases hxv with ⟨b,cap0,e1,n1,lcs0,o1,cap,hl,hval,hco,hle,hlen,hcap⟩ | ⟨e1,hl,_,hlen0,ad,hval⟩
                  · obtain ⟨node1,hl1,n2,lcs,rfl,hle1⟩:=g4 pl _ c3 (by trivial) hl
                    rw [g1.lookP,hl1] at hlp
                    simp only [Option.map_some,LT.erase,Option.some.injEq,PT.sl.injEq,true_and] at hlp
                    obtain ⟨rfl,rfl,rfl⟩:=hlp
                    have hoo:o1 = off:=by
                      rcases hco with hco | hco
                      · omega
                      · exact hco
                    subst hoo
                    rw [List.length_map] at c2
                    obtain ⟨L2,s1,_⟩:=g1.takeCells hl1 c2
                    have hh:=g1.look_holds hl1
                    simp only [LT.holds] at hh
                    obtain ⟨⟨arr,q1,q2,q3⟩,q4,q5,q6,q7⟩:=hh
                    have htn:((lcs.drop o1).take (m * tsz P e1)).length = m * tsz P e1:=by simp; omega
                    unfold stAppFin at hst
                    split at hst
                    · rename_i hcc
                      cases hst
                      obtain ⟨d1,d2,d3,d4⟩:=hcc
                      rw [Option.any_eq_true] at d4
                      obtain ⟨z,hz,hzs⟩:=d4
                      obtain ⟨v',w',L',r1,r2,r3⟩:=append_core s1 h0 (t:=t) (ty:=o.type) (c:=cap) (x:=⟨b,o1,none⟩) (.op r i 0) (by simp) he g3 d1 d2 d3 hsz hz (by simpa using hzs) htn (by omega) (by
                        intro j u hj
                        rw [List.getElem?_map,Option.map_eq_some_iff] at hj
                        obtain ⟨d,hd,rfl⟩:=hj
                        rw [List.getElem?_take] at hd
                        split at hd
                        · rw [List.getElem?_drop] at hd
                          rw [add_own,cell_at q1]
                          exact q3 _ d hd
                        · simp at hd)
                      have e2:List.map LT.erase (List.take (m * tsz P e1) (List.drop o1 lcs)) = List.take (m * tsz P e1) (List.drop o1 (List.map LT.erase lcs)):=by rw [List.map_take,List.map_drop]
                      rw [e2] at r2
                      refine wp_val (hrun (by rw [hval,← g2]; exact r1)) ⟨L',r2.setS _ r3⟩
                    · simp at hst
                  · omega
                · simp at hst
              · simp at hst
            · simp at hst
          · simp at hst
        · simp at hst
      · simp at hst
    · simp at hst
  · simp at hst
end
end Go.V
