/- SealOf of the program returns what the reference's SealOf returns, for every text (the statement itself asks nothing of texts longer than 2^20 bytes). -/
import Derived.Test.YtcogbflcfknbgaaPFnExactSealOfx1
namespace Go.Proofs.Ytcogbflcfknbgaa.Pure
open Go.RowKit Go.Proofs.Ytcogbflcfknbgaa.PFnExactSealOf Go.Proofs.YtcogbflcfknbgaaW.PrintWords Go.Proofs.YtcogbflcfknbgaaW.PrintLast

theorem seal_loops (s : ByteArray) (hs : s.size ≤ 140737488351232) (d : Nat) : ∀ (k : Nat) (x i : Int), 0 ≤ i → i ≤ s.size → (s.size : Int) - i = d → d < k →
    ∃ r, spec_SealOf.l0 k s x i = some r ∧ impl_SealOf.l0 k s x (s.size : Int) i = some r := by
  induction d with
  | zero =>
    intro k x i h0 h1 hd hk
    obtain ⟨k, rfl⟩ : ∃ m, k = m + 1 := ⟨k - 1, by omega⟩
    refine ⟨s ++ strOfNums [x % 256], ?_, ?_⟩
    · simp only [spec_SealOf.l0]
      rw [if_neg (by omega)]
      simp only [Option.bind_some]
      rw [if_pos (by have : (strOfNums [x % 256]).size = 1 := rfl
                     omega)]
    · simp only [impl_SealOf.l0]
      rw [if_neg (by omega)]
      simp only [Option.bind_some]
      rw [if_pos (by have : (strOfNums [x % 256]).size = 1 := rfl
                     omega)]
  | succ d ih =>
    intro k x i h0 h1 hd hk
    obtain ⟨k, rfl⟩ : ∃ m, k = m + 1 := ⟨k - 1, by omega⟩
    have hlt : i < (s.size : Int) := by omega
    have hw : wrap64 (i + 1) = i + 1 := by unfold wrap64; omega
    obtain ⟨r, hr1, hr2⟩ := ih k (Int.tmod (wrap64 ((wrap64 (31 * x)) + (wrap64 (bt s i)))) 251) (i + 1) (by omega) (by omega) (by omega) (by omega)
    refine ⟨r, ?_, ?_⟩
    · simp only [spec_SealOf.l0]
      rw [if_pos hlt, if_pos h0, hw]
      exact hr1
    · simp only [impl_SealOf.l0]
      rw [if_pos hlt, if_pos h0, if_pos hlt, hw]
      exact hr2

theorem seal_same (s : ByteArray) (hs : s.size ≤ 140737488351232) (k : Nat) (hk : s.size < k) : ∃ r, spec_SealOf.f k s = some r ∧ impl_SealOf.f k s = some r := by
  unfold spec_SealOf.f impl_SealOf.f
  exact seal_loops s hs s.size k 7 0 (by omega) (by omega) (by omega) hk

theorem FnExactSealOf : laws_FnExactSealOf.Pure := by
  intro s hs
  refine ⟨s.size + 1, ?_⟩
  unfold laws_FnExactSealOf.f
  split
  · rfl
  · obtain ⟨r, h1, h2⟩ := seal_same s hs (s.size + 1) (by omega)
    rw [h1, h2]
    simp

end Go.Proofs.Ytcogbflcfknbgaa.Pure
