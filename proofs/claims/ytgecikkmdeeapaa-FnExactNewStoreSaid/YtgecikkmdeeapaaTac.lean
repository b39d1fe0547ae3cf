/- What functions of the seat's program do, each proved of its code, under the bounds that its theorem names. -/
import Derived.Test.YtgecikkmdeeapaaTab
set_option linter.all false
namespace Go.V
open Go.Proofs
set_option maxHeartbeats 1000000
set_option maxRecDepth 10000
set_option linter.unusedSimpArgs false
set_option linter.unusedVariables false
def firstC : List GLeaf := [⟨[⟨#[118, 101, 114, 115, 105, 111, 110]⟩], ⟨#[48]⟩⟩]
theorem ok_ifirst : CallOK Try.prog 52 [] (.c (.sl 0 88 1 (firstC.flatMap GLeaf.co))) [] := by
  refine okS (fn := Try.f52) [] h0 Try.func52 (by kernel_rfl) rfl Try.ntmps52 Try.results52 (by simp) ?_
  simp [firstC]
theorem ok_sfirst : CallOK Try.prog 51 [] (.c (.sl 0 88 1 (firstC.flatMap GLeaf.co))) [] := by
  refine okS (fn := Try.f51) [] h0 Try.func51 (by kernel_rfl) rfl Try.ntmps51 Try.results51 (by simp) ?_
  simp [firstC]
theorem firstC_len : firstC.length = 1 := rfl
theorem firstC_take : List.take 2 (firstC.flatMap GLeaf.co) = firstC.flatMap GLeaf.co := rfl
def rNewStore : GStore := ⟨firstC, firstC, [firstC], 0⟩
theorem ok_iNewStore : CallOK Try.prog 12 [] (.agg (GStore.co rNewStore)) [] := by
  refine okS (fn := Try.f12) [] h0 Try.func12 (by kernel_rfl) rfl Try.ntmps12 Try.results12 (by simp) ?_
  simp
  refine Inv_intro ok_ifirst ?_
  simp
  refine Inv_intro ok_ifirst ?_
  simp
  refine Inv_intro ok_ifirst ?_
  simp [firstC_len, firstC_take, rNewStore]
theorem ok_sNewStore : CallOK Try.prog 11 [] (.agg (GStore.co rNewStore)) [] := by
  refine okS (fn := Try.f11) [] h0 Try.func11 (by kernel_rfl) rfl Try.ntmps11 Try.results11 (by simp) ?_
  simp
  refine Inv_intro ok_sfirst ?_
  simp
  refine Inv_intro ok_sfirst ?_
  simp
  refine Inv_intro ok_sfirst ?_
  simp [firstC_len, firstC_take, rNewStore]
theorem law_iNewStore : CallOK Try.prog 12 [] (.agg (GStore.co rNewStore)) [] := ok_iNewStore
theorem law_sNewStore : CallOK Try.prog 11 [] (.agg (GStore.co rNewStore)) [] := ok_sNewStore
theorem firstC_ok : lens_LeafS firstC := lens_of_LeafS (by decide)
theorem rNewStore_ok : rNewStore.lens ∧ GStore.cnT rNewStore ≤ 1152921504606846976 := by
  refine ⟨lens_of_Store (by decide), ?_⟩
  exact Nat.le_trans (cn_le_Store rNewStore) (by decide)
theorem ok_FnExactNewStore : CallOK Try.prog 3 [] (.c (pb true)) [] := by
  refine okS (fn := Try.f3) [(14, [1,0])] h0 Try.func3 (by kernel_rfl) rfl Try.ntmps3 Try.results3 (by simp) ?_
  simp
  have hrr := rNewStore_ok  
  obtain ⟨hlr0, hcr0⟩ := hrr
  refine Inv_intro (law_sNewStore  ) ?_
  simp
  refine Inv_intro (law_iNewStore  ) ?_
  simp
  refine Inv_intro (ok_eqStore 0 0 ((rNewStore )) ((rNewStore )) hlr0 hlr0) ?_
  simp
  have hm0 := GStore.markT_snd ((rNewStore )) (1)
  have hn0 : ¬ (GStore.markT ((rNewStore )) (1)).2 < 0 := by omega
  refine Inv_intro (ok_markStore ((rNewStore )) (1) hlr0 (by omega) (by omega)) ?_
  simp [hn0]
  refine Inv_intro (ok_heldStore 0 ((rNewStore )) (1) hlr0 (by omega) (by omega)) ?_
  simp [hn0]
  refine Inv_intro (law_iNewStore  ) ?_
  simp [hn0]
  refine Inv_intro (ok_eqStore 0 0 ((rNewStore )) ((rNewStore )) hlr0 hlr0) ?_
  simp [hn0]
  refine Inv_intro (ok_heldStore 0 ((rNewStore )) (1) hlr0 (by omega) (by omega)) ?_
  simp [hn0]
end Go.V
