/- What functions of the seat's program do, each proved of its code, under the bounds that its theorem names. -/
import Derived.Test.YtcdlflmppicdjaaTab
set_option linter.all false
namespace Go.V
open Go.Proofs
set_option maxHeartbeats 1000000
set_option maxRecDepth 10000
set_option linter.unusedSimpArgs false
set_option linter.unusedVariables false
def rNewRib (n : Int) : GRib × Bool := if isAsnB n = true then (⟨n, []⟩, true) else (⟨0, []⟩, false)
theorem law_iNewRib (v0 : Int) : CallOK Try.prog 12 [.c (pi v0)] (.tup [.agg (GRib.co (rNewRib v0).1), .c (pb (rNewRib v0).2)]) [.c (pi v0)] := by
  refine okS (fn := Try.f12) [] h0 Try.func12 (by kernel_rfl) rfl Try.ntmps12 Try.results12 (by simp) ?_
  simp
  refine Inv_intro (ok_isAsn v0) ?_
  simp
  cases c1 : isAsnB v0 with
  | false => simp [rNewRib, c1]
  | true => simp [rNewRib, c1]
theorem law_sNewRib (v0 : Int) : CallOK Try.prog 11 [.c (pi v0)] (.tup [.agg (GRib.co (rNewRib v0).1), .c (pb (rNewRib v0).2)]) [.c (pi v0)] := by
  refine okS (fn := Try.f11) [] h0 Try.func11 (by kernel_rfl) rfl Try.ntmps11 Try.results11 (by simp) ?_
  simp
  refine Inv_intro (ok_l1In v0 1 65535) ?_
  by_cases c1 : 1 ≤ v0 ∧ v0 ≤ 65535
  · simp [c1, rNewRib, isAsnB, inR_t c1]
  · have c1' : inR v0 1 65535 = false := by simp only [inR, decide_eq_false_iff_not]; exact c1
    simp [c1, rNewRib, isAsnB, c1']
theorem rNewRib_ok (v0 : Int) : GRib.lens (rNewRib v0).1 ∧ GRib.cnT (rNewRib v0).1 ≤ 1152921504606846976 := by
  unfold rNewRib
  split
  · exact ⟨⟨Nat.zero_le _, by simp⟩, by simp [GRib.cnT, cn_RowS, cnR]⟩
  · exact ⟨⟨Nat.zero_le _, by simp⟩, by simp [GRib.cnT, cn_RowS, cnR]⟩
theorem ok_FnExactNewRib (v0 : Int) : CallOK Try.prog 3 [.c (pi v0)] (.c (pb true)) [.c (pi v0)] := by
  refine okS (fn := Try.f3) [(14, [1,0])] h0 Try.func3 (by kernel_rfl) rfl Try.ntmps3 Try.results3 (by simp) ?_
  simp
  have hrr := rNewRib_ok v0 
  obtain ⟨hlr0, hcr0⟩ := hrr
  refine Inv_intro (law_sNewRib v0 ) ?_
  simp
  refine Inv_intro (law_iNewRib v0 ) ?_
  simp
  refine Inv_intro (ok_eqRib 0 0 ((rNewRib v0).1) ((rNewRib v0).1) hlr0 hlr0) ?_
  simp
  have hm0 := GRib.markT_snd ((rNewRib v0).1) (1)
  have hn0 : ¬ (GRib.markT ((rNewRib v0).1) (1)).2 < 0 := by omega
  refine Inv_intro (ok_markRib ((rNewRib v0).1) (1) hlr0 (by omega) (by omega)) ?_
  simp [hn0]
  refine Inv_intro (ok_heldRib 0 ((rNewRib v0).1) (1) hlr0 (by omega) (by omega)) ?_
  simp [hn0]
  refine Inv_intro (law_iNewRib v0 ) ?_
  simp [hn0]
  refine Inv_intro (ok_eqRib 0 0 ((rNewRib v0).1) ((rNewRib v0).1) hlr0 hlr0) ?_
  simp [hn0]
  refine Inv_intro (ok_heldRib 0 ((rNewRib v0).1) (1) hlr0 (by omega) (by omega)) ?_
  simp [hn0]
end Go.V
