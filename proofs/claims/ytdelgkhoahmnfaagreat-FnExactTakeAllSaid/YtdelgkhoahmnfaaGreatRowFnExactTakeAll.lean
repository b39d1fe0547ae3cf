/- FnExactTakeAll: the law answers true at every input of its types, and the arguments read behind the call as before. No conditions. -/
import Derived.Test.YtdelgkhoahmnfaaGreatRows
import Derived.Test.YtdelgkhoahmnfaaGreatTau
import Derived.WalkKit
import Derived.ProofKit
import Derived.OpenShut
import Derived.ShutString
import Derived.ChangeOld
import Derived.Below
import Derived.SizedLaws
set_option linter.all false
namespace Go.Proofs.YtdelgkhoahmnfaaGreat.fnExactTakeAll
open Go.V Go.ChangeShapes Go.WideShapes Go.ChangeAt Go.RowKit
set_option linter.unusedVariables false
set_option maxRecDepth 100000
theorem own : ownKnob Tryz.prog.godebug = Option.none := by kernel_rfl
theorem runs : ∀ xs, TyVs Tryz.prog 8 [3, 45, 59] xs → ∃ outs, CallOK Tryz.prog 6 xs (.c (.raw (.bool true))) outs := by
  intro xs h
  obtain _ | ⟨x0, xs⟩ := xs
  · exact h.elim
  obtain ⟨h0, h⟩ := h
  obtain _ | ⟨x1, xs⟩ := xs
  · exact h.elim
  obtain ⟨h1, h⟩ := h
  obtain _ | ⟨x2, xs⟩ := xs
  · exact h.elim
  obtain ⟨h2, h⟩ := h
  obtain _ | ⟨y, xs⟩ := xs
  · unfold TyV at h0
    rw [Tryz.underlying3] at h0
    obtain ⟨p0, rfl, h0⟩ := h0
    obtain ⟨v0, e0, f0⟩ := open_Int (n := 7) h0
    simp only [List.cons.injEq, and_true] at e0
    subst e0
    unfold TyV at h1
    rw [Tryz.underlying45] at h1
    obtain ⟨p1, rfl, h1⟩ := h1
    obtain ⟨v1, e1, f1⟩ := open_IntS (n := 6) h1
    simp only [List.cons.injEq, and_true] at e1
    subst e1
    unfold TyV at h2
    rw [Tryz.underlying59] at h2
    obtain ⟨p2, rfl, h2⟩ := h2
    obtain ⟨v2, e2, f2⟩ := open_UpdateS (n := 3) h2
    simp only [List.cons.injEq, and_true] at e2
    subst e2
    exact ⟨_, ok_FnExactTakeAll v0 v1 v2 f1 f2⟩
  · exact h.elim
set_option maxRecDepth 100000 in
theorem lifted (os : Os) (started : os.Started) (H : Type) (enc : TypeId × Value → H) :
    ReturnsInHanded {} Tryz.checked os 6 .any (Rows.fnExactTakeAllSpec.pre6 enc Tryz.prog Tryz.f6 Rows.fnExactTakeAllRow.domain false) (Rows.fnExactTakeAllSpec.post enc Tryz.prog Tryz.f6 false true false false) := by
  refine returnsInHanded_of_change_sized (C := Tryz.checked) own started (by kernel_rfl) Tryz.func6
    (ChangeSpec.witness6 (enc := enc) (C := Tryz.checked) false ⟨#[], #[.int .i64 0, .slice none 0 0, .slice none 0 0], []⟩ 8 (by kernel_rfl) (by kernel_rfl) (by kernel_rfl) (by kernel_rfl)) ?_
  intro W base args ds gs before hval0 hW hcnd hsz0 _
  have hsz : (DataW.weightsEach Tryz.prog (Tryz.f6.params.toList ++ Rows.fnExactTakeAllSpec.plain.varTypes Tryz.prog) (ds ++ gs)).all (· ≤ reachBytes) = true := hsz0
  have hval : ∀ (j : Nat) t v, Tryz.f6.params[j]? = some t → args[j]? = some v → Value.okWide Tryz.prog W .any base t v := hval0
  have hW' := hW
  obtain ⟨p, q, hA0, hV, rfl, hfz, hnd⟩ := hW
  have hA : DataW.TrodAll enc Tryz.prog W 0 (fun _ => true) true Tryz.f6.params.toList args.toList ds p := hA0
  obtain ⟨rfl, rfl⟩ := trodVars_none hV
  have hw : ∀ m ∈ DataW.weightsEach Tryz.prog Tryz.f6.params.toList ds, m ≤ reachBytes := by
    intro m hm
    have e1 : Rows.fnExactTakeAllSpec.plain.varTypes Tryz.prog = [] := rfl
    rw [e1, List.append_nil, List.append_nil] at hsz
    simpa using List.all_eq_true.1 hsz m hm
  refine (law_runs (C := Tryz.checked) (n := 8) Tryz.func6 (by kernel_rfl) (by kernel_rfl) (by kernel_rfl) (by rw [Tryz.params6]; exact runs) hval hA hw).mono fun e W' ⟨he, bel⟩ => ?_
  subst he
  rw [Tryz.params6] at hA
  have hA2 := hA
  obtain ⟨v0, vs0, d0, ds0, p0, q0, hargs0, rfl, rfl, h0, r0⟩ := trodAll_cons hA
  obtain ⟨v1, vs1, d1, ds1, p1, q1, hargs1, rfl, rfl, h1, r1⟩ := trodAll_cons r0
  obtain ⟨v2, vs2, d2, ds2, p2, q2, hargs2, rfl, rfl, h2, r2⟩ := trodAll_cons r1
  obtain ⟨_, rfl, _⟩ := trodAll_nil r2
  exact ⟨_, rfl, _, _, _, [], _, [], hW', trodAll_mk1 (shut_bool Tryz.underlying4 _), trodAll_back (by kernel_rfl) bel (by decide +kernel) hA2 hA2.lt, rfl, bel.frame _, fun h => by cases h⟩
theorem over : Rows.fnExactTakeAllRow.holds Tryz.pinned (OpenSpec.ofChange Rows.fnExactTakeAllSpec) :=
  OpenClaim.holds_of_wide 6 Tryz.f6 rfl rfl rfl rfl rfl rfl rfl ⟨rfl, rfl, rfl, rfl, rfl⟩ rfl rfl rfl rfl rfl (by kernel_rfl) Tryz.func6 (by kernel_rfl)
    (of_decide_eq_true (by kernel_rfl)) (by unfold Func.isWrapper; first | (rw [if_pos (by decide +kernel)]; kernel_rfl) | (rw [if_neg (by decide +kernel)]; exact ⟨rfl, rfl⟩))
    (fun os started H enc _ => lifted os started H enc)
theorem proved : Rows.FnExactTakeAllSaid := over
#print axioms proved
end Go.Proofs.YtdelgkhoahmnfaaGreat.fnExactTakeAll
namespace Go.Proofs.YtdelgkhoahmnfaaGreat
/-- The row, under a short name, for the claim. -/
theorem fnExactTakeAll_holds : Rows.FnExactTakeAllSaid := fnExactTakeAll.proved
end Go.Proofs.YtdelgkhoahmnfaaGreat
