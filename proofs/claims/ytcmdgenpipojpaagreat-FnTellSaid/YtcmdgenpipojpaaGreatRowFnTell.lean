/- FnTell: the law answers true at every input of its types, and the arguments read behind the call as before. No conditions. -/
import Derived.Test.YtcmdgenpipojpaaGreatRows
import Derived.Test.YtcmdgenpipojpaaGreatTaq
import Derived.WalkKit
import Derived.ProofKit
import Derived.OpenShut
import Derived.ShutString
import Derived.ChangeOld
import Derived.Below
import Derived.SizedLaws
set_option linter.all false
namespace Go.Proofs.YtcmdgenpipojpaaGreat.fnTell
open Go.V Go.ChangeShapes Go.WideShapes Go.ChangeAt Go.RowKit
set_option linter.unusedVariables false
set_option maxRecDepth 100000
theorem own:ownKnob Tryz.prog.godebug = Option.none:=by kernel_rfl
theorem runs:∀ xs,TyVs Tryz.prog 8 [22,22] xs → ∃ outs,CallOK Tryz.prog 3 xs (.c (.raw (.bool true))) outs:=by
  intro xs h
  obtain _ | ⟨x0,xs⟩:=xs
  · exact h.elim
  obtain ⟨h0,h⟩:=h
  obtain _ | ⟨x1,xs⟩:=xs
  · exact h.elim
  obtain ⟨h1,h⟩:=h
  obtain _ | ⟨y,xs⟩:=xs
  · unfold TyV at h0
    rw [Tryz.underlying22] at h0
    obtain ⟨p0,rfl,h0⟩:=h0
    obtain ⟨v0,e0,f0⟩:=open_ByteS (n:=6) h0
    simp only [List.cons.injEq,and_true] at e0
    subst e0
    unfold TyV at h1
    rw [Tryz.underlying22] at h1
    obtain ⟨p1,rfl,h1⟩:=h1
    obtain ⟨v1,e1,f1⟩:=open_ByteS (n:=6) h1
    simp only [List.cons.injEq,and_true] at e1
    subst e1
    exact ⟨_,ok_FnTell v0 v1 f0 f1⟩
  · exact h.elim
set_option maxRecDepth 100000 in
theorem lifted (os:Os) (started:os.Started) (H:Type) (enc:TypeId × Value → H) :
    ReturnsInHanded {} Tryz.checked os 3 .any (Rows.fnTellSpec.pre6 enc Tryz.prog Tryz.f3 Rows.fnTellRow.domain false) (Rows.fnTellSpec.post enc Tryz.prog Tryz.f3 false true false false):=by
  refine returnsInHanded_of_change_sized (C:=Tryz.checked) own started (by kernel_rfl) Tryz.func3
    (ChangeSpec.witness6 (enc:=enc) (C:=Tryz.checked) false ⟨#[],#[.slice none 0 0,.slice none 0 0],[]⟩ 8 (by kernel_rfl) (by kernel_rfl) (by kernel_rfl) (by kernel_rfl)) ?_
  intro W base args ds gs before hval0 hW hcnd hsz0 _
  have hsz:(DataW.weightsEach Tryz.prog (Tryz.f3.params.toList ++ Rows.fnTellSpec.plain.varTypes Tryz.prog) (ds ++ gs)).all (· ≤ reachBytes) = true:=hsz0
  have hval:∀ (j:Nat) t v,Tryz.f3.params[j]? = some t → args[j]? = some v → Value.okWide Tryz.prog W .any base t v:=hval0
  have hW':=hW
  obtain ⟨p,q,hA0,hV,rfl,hfz,hnd⟩:=hW
  have hA:DataW.TrodAll enc Tryz.prog W 0 (fun _ => true) true Tryz.f3.params.toList args.toList ds p:=hA0
  obtain ⟨rfl,rfl⟩:=trodVars_none hV
  have hw:∀ m ∈ DataW.weightsEach Tryz.prog Tryz.f3.params.toList ds,m ≤ reachBytes:=by
    intro m hm
    have e1:Rows.fnTellSpec.plain.varTypes Tryz.prog = []:=rfl
    rw [e1,List.append_nil,List.append_nil] at hsz
    simpa using List.all_eq_true.1 hsz m hm
  refine (law_runs (C:=Tryz.checked) (n:=8) Tryz.func3 (by kernel_rfl) (by kernel_rfl) (by kernel_rfl) (by rw [Tryz.params3]; exact runs) hval hA hw).mono fun e W' ⟨he,bel⟩ => ?_
  subst he
  rw [Tryz.params3] at hA
  have hA2:=hA
  obtain ⟨v0,vs0,d0,ds0,p0,q0,hargs0,rfl,rfl,h0,r0⟩:=trodAll_cons hA
  obtain ⟨v1,vs1,d1,ds1,p1,q1,hargs1,rfl,rfl,h1,r1⟩:=trodAll_cons r0
  obtain ⟨_,rfl,_⟩:=trodAll_nil r1
  exact ⟨_,rfl,_,_,_,[],_,[],hW',trodAll_mk1 (shut_bool Tryz.underlying4 _),trodAll_back (by kernel_rfl) bel (by decide +kernel) hA2 hA2.lt,rfl,bel.frame _,fun h => by cases h⟩
theorem over:Rows.fnTellRow.holds Tryz.pinned (OpenSpec.ofChange Rows.fnTellSpec) :=
  OpenClaim.holds_of_wide 3 Tryz.f3 rfl rfl rfl rfl rfl rfl rfl ⟨rfl,rfl,rfl,rfl,rfl⟩ rfl rfl rfl rfl rfl (by kernel_rfl) Tryz.func3 (by kernel_rfl)
    (of_decide_eq_true (by kernel_rfl)) (by unfold Func.isWrapper; first | (rw [if_pos (by decide +kernel)]; kernel_rfl) | (rw [if_neg (by decide +kernel)]; exact ⟨rfl,rfl⟩))
    (fun os started H enc _ => lifted os started H enc)
theorem proved:Rows.FnTellSaid:=over
#print axioms proved
end Go.Proofs.YtcmdgenpipojpaaGreat.fnTell
namespace Go.Proofs.YtcmdgenpipojpaaGreat
/-- The row, under a short name, for the claim. -/
theorem fnTell_holds:Rows.FnTellSaid:=fnTell.proved
end Go.Proofs.YtcmdgenpipojpaaGreat
