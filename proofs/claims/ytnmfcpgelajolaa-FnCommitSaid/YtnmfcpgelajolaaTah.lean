/- What functions of the seat's program do, each proved of its code, under the bounds that its theorem names. -/
import Derived.Test.YtnmfcpgelajolaaTag
set_option linter.all false
namespace Go.V
open Go.Proofs
set_option maxHeartbeats 1000000
set_option maxRecDepth 10000
set_option linter.unusedSimpArgs false
set_option linter.unusedVariables false
def isOpB (o : GOp) : Bool := decide (1 ≤ o.Kind ∧ o.Kind ≤ 8) && (decide (o.Kind = 1 ∨ o.Kind = 2) || decide (o.Path.length = 0)) && (decide (o.Kind = 1) || decide (o.Value = ⟨#[]⟩)) && (decide (o.Kind = 4 ∨ o.Kind = 6) || decide (o.N = 0))
theorem ok_isOp (k : Nat) (o : GOp) : CallOK Try.prog 31 [.agg (GOp.ci k o)] (.c (pb (isOpB o))) [.agg (GOp.ci k o)] := by
  refine okS (fn := Try.f31) [] h0 Try.func31 (by kernel_rfl) rfl Try.ntmps31 Try.results31 (by simp) ?_
  simp
  by_cases k1 : o.Kind = 1
  · simp [k1]
    refine Inv_intro (ok_within 1 1 8) ?_
    simp [isOpB, k1]
  · by_cases k2 : o.Kind = 2
    · simp [k1, k2]
      refine Inv_intro (ok_within 2 1 8) ?_
      by_cases hv : o.Value = ⟨#[]⟩
      · simp [isOpB, k2, hv]
      · simp [isOpB, k2, hv]
    · have hw := ok_within o.Kind 1 8
      by_cases k4 : o.Kind = 4
      · simp [k1, k2, k4]
        refine Inv_intro (ok_within 4 1 8) ?_
        by_cases hp : o.Path = []
        · by_cases hv : o.Value = ⟨#[]⟩
          · simp [isOpB, k4, hp, hv]
          · simp [isOpB, k4, hp, hv]
        · simp [isOpB, k4, hp]
      · by_cases k6 : o.Kind = 6
        · simp [k1, k2, k4, k6]
          refine Inv_intro (ok_within 6 1 8) ?_
          by_cases hp : o.Path = []
          · by_cases hv : o.Value = ⟨#[]⟩
            · simp [isOpB, k6, hp, hv]
            · simp [isOpB, k6, hp, hv]
          · simp [isOpB, k6, hp]
        · simp [k1, k2, k4, k6]
          refine Inv_intro hw ?_
          by_cases hk : 1 ≤ o.Kind ∧ o.Kind ≤ 8
          · by_cases hp : o.Path = []
            · by_cases hv : o.Value = ⟨#[]⟩
              · simp [isOpB, k1, k2, k4, k6, hp, hv, hk]
              · simp [isOpB, k1, k2, k4, k6, hp, hv, hk]
            · simp [isOpB, k1, k2, k4, k6, hp, hk]
          · simp [isOpB, k1, k2, k4, k6, hk]
def opOK (o : GOp) : Prop := strsOK o.Path ∧ o.Path.length ≤ 1048576 ∧ o.Value.size ≤ 140737488355328
def textB (o : GOp) : Bool := decide (o.Path.length = 0) && decide (o.Value = ⟨#[]⟩)
def l16OpB (o : GOp) : Bool :=
  if o.Kind = 1 then decide (o.N = 0) && isP o.Path && isW o.Value
  else if o.Kind = 2 then decide (o.N = 0) && isP o.Path && decide (o.Value = ⟨#[]⟩)
  else if o.Kind = 4 then textB o && decide (1 ≤ o.N ∧ o.N ≤ 100)
  else if o.Kind = 6 then textB o && decide (0 ≤ o.N ∧ o.N ≤ 9)
  else if o.Kind = 3 ∨ o.Kind = 5 ∨ o.Kind = 7 ∨ o.Kind = 8 then textB o && decide (o.N = 0)
  else false
theorem ok_l16Op (k : Nat) (o : GOp) (ho : opOK o) : CallOK Try.prog 37 [.agg (GOp.ci k o)] (.c (pb (l16OpB o))) [.agg (GOp.ci k o)] := by
  obtain ⟨o1, o2, o3⟩ := ho
  refine okS (fn := Try.f37) [] h0 Try.func37 (by kernel_rfl) rfl Try.ntmps37 Try.results37 (by simp) ?_
  by_cases hp : o.Path = []
  · by_cases hv : o.Value = ⟨#[]⟩
    · by_cases hn : o.N = 0
      · have ht : textB o = true := by simp [textB, hp, hv]
        by_cases k1 : o.Kind = 1
        · have e : l16OpB o = (decide (o.N = 0) && isP o.Path && isW o.Value) := by simp [l16OpB, k1]
          rw [e]
          simp [k1, hp, hv, hn]
          refine Inv_intro (ok_l15Path k [] (by simp) (by simp)) ?_
          simp [isP]
        · by_cases k2 : o.Kind = 2
          · have e : l16OpB o = (decide (o.N = 0) && isP o.Path && decide (o.Value = ⟨#[]⟩)) := by simp [l16OpB, k1, k2]
            rw [e]
            simp [k1, k2, hp, hv, hn]
            refine Inv_intro (ok_l15Path k [] (by simp) (by simp)) ?_
            simp [isP]
          · by_cases k4 : o.Kind = 4
            · have e : l16OpB o = (textB o && decide (1 ≤ o.N ∧ o.N ≤ 100)) := by simp [l16OpB, k1, k2, k4]
              rw [e]
              simp [k1, k2, k4, hp, hv, hn, ht]
              refine Inv_intro (ok_l1In 0 1 100) ?_
              simp
            · by_cases k6 : o.Kind = 6
              · have e : l16OpB o = (textB o && decide (0 ≤ o.N ∧ o.N ≤ 9)) := by simp [l16OpB, k1, k2, k4, k6]
                rw [e]
                simp [k1, k2, k4, k6, hp, hv, hn, ht]
                refine Inv_intro (ok_l1In 0 0 9) ?_
                simp
              · by_cases k3 : o.Kind = 3
                · have e : l16OpB o = (textB o && decide (o.N = 0)) := by simp [l16OpB, k1, k2, k4, k6, k3]
                  rw [e]
                  simp [k1, k2, k4, k6, k3, hp, hv, hn, ht]
                · by_cases k5 : o.Kind = 5
                  · have e : l16OpB o = (textB o && decide (o.N = 0)) := by simp [l16OpB, k1, k2, k4, k6, k3, k5]
                    rw [e]
                    simp [k1, k2, k4, k6, k3, k5, hp, hv, hn, ht]
                  · by_cases k7 : o.Kind = 7
                    · have e : l16OpB o = (textB o && decide (o.N = 0)) := by simp [l16OpB, k1, k2, k4, k6, k3, k5, k7]
                      rw [e]
                      simp [k1, k2, k4, k6, k3, k5, k7, hp, hv, hn, ht]
                    · by_cases k8 : o.Kind = 8
                      · have e : l16OpB o = (textB o && decide (o.N = 0)) := by simp [l16OpB, k1, k2, k4, k6, k3, k5, k7, k8]
                        rw [e]
                        simp [k1, k2, k4, k6, k3, k5, k7, k8, hp, hv, hn, ht]
                      · have e : l16OpB o = false := by simp [l16OpB, k1, k2, k4, k6, k3, k5, k7, k8]
                        rw [e]
                        simp [k1, k2, k4, k6, k3, k5, k7, k8, hp, hv, hn]
      · have ht : textB o = true := by simp [textB, hp, hv]
        by_cases k1 : o.Kind = 1
        · have e : l16OpB o = (decide (o.N = 0) && isP o.Path && isW o.Value) := by simp [l16OpB, k1]
          rw [e]
          simp [k1, hp, hv, hn]
        · by_cases k2 : o.Kind = 2
          · have e : l16OpB o = (decide (o.N = 0) && isP o.Path && decide (o.Value = ⟨#[]⟩)) := by simp [l16OpB, k1, k2]
            rw [e]
            simp [k1, k2, hp, hv, hn]
          · by_cases k4 : o.Kind = 4
            · have e : l16OpB o = (textB o && decide (1 ≤ o.N ∧ o.N ≤ 100)) := by simp [l16OpB, k1, k2, k4]
              rw [e]
              simp [k1, k2, k4, hp, hv, hn, ht]
              refine Inv_intro (ok_l1In o.N 1 100) ?_
              simp
            · by_cases k6 : o.Kind = 6
              · have e : l16OpB o = (textB o && decide (0 ≤ o.N ∧ o.N ≤ 9)) := by simp [l16OpB, k1, k2, k4, k6]
                rw [e]
                simp [k1, k2, k4, k6, hp, hv, hn, ht]
                refine Inv_intro (ok_l1In o.N 0 9) ?_
                simp
              · by_cases k3 : o.Kind = 3
                · have e : l16OpB o = (textB o && decide (o.N = 0)) := by simp [l16OpB, k1, k2, k4, k6, k3]
                  rw [e]
                  simp [k1, k2, k4, k6, k3, hp, hv, hn, ht]
                · by_cases k5 : o.Kind = 5
                  · have e : l16OpB o = (textB o && decide (o.N = 0)) := by simp [l16OpB, k1, k2, k4, k6, k3, k5]
                    rw [e]
                    simp [k1, k2, k4, k6, k3, k5, hp, hv, hn, ht]
                  · by_cases k7 : o.Kind = 7
                    · have e : l16OpB o = (textB o && decide (o.N = 0)) := by simp [l16OpB, k1, k2, k4, k6, k3, k5, k7]
                      rw [e]
                      simp [k1, k2, k4, k6, k3, k5, k7, hp, hv, hn, ht]
                    · by_cases k8 : o.Kind = 8
                      · have e : l16OpB o = (textB o && decide (o.N = 0)) := by simp [l16OpB, k1, k2, k4, k6, k3, k5, k7, k8]
                        rw [e]
                        simp [k1, k2, k4, k6, k3, k5, k7, k8, hp, hv, hn, ht]
                      · have e : l16OpB o = false := by simp [l16OpB, k1, k2, k4, k6, k3, k5, k7, k8]
                        rw [e]
                        simp [k1, k2, k4, k6, k3, k5, k7, k8, hp, hv, hn]
    · by_cases hn : o.N = 0
      · have ht : textB o = false := by simp [textB, hv]
        by_cases k1 : o.Kind = 1
        · have e : l16OpB o = (decide (o.N = 0) && isP o.Path && isW o.Value) := by simp [l16OpB, k1]
          rw [e]
          simp [k1, hp, hv, hn]
          refine Inv_intro (ok_l15Path k [] (by simp) (by simp)) ?_
          simp [isP]
        · by_cases k2 : o.Kind = 2
          · have e : l16OpB o = (decide (o.N = 0) && isP o.Path && decide (o.Value = ⟨#[]⟩)) := by simp [l16OpB, k1, k2]
            rw [e]
            simp [k1, k2, hp, hv, hn]
            refine Inv_intro (ok_l15Path k [] (by simp) (by simp)) ?_
            simp [isP]
          · by_cases k4 : o.Kind = 4
            · have e : l16OpB o = (textB o && decide (1 ≤ o.N ∧ o.N ≤ 100)) := by simp [l16OpB, k1, k2, k4]
              rw [e]
              simp [k1, k2, k4, hp, hv, hn, ht]
            · by_cases k6 : o.Kind = 6
              · have e : l16OpB o = (textB o && decide (0 ≤ o.N ∧ o.N ≤ 9)) := by simp [l16OpB, k1, k2, k4, k6]
                rw [e]
                simp [k1, k2, k4, k6, hp, hv, hn, ht]
              · by_cases k3 : o.Kind = 3
                · have e : l16OpB o = (textB o && decide (o.N = 0)) := by simp [l16OpB, k1, k2, k4, k6, k3]
                  rw [e]
                  simp [k1, k2, k4, k6, k3, hp, hv, hn, ht]
                · by_cases k5 : o.Kind = 5
                  · have e : l16OpB o = (textB o && decide (o.N = 0)) := by simp [l16OpB, k1, k2, k4, k6, k3, k5]
                    rw [e]
                    simp [k1, k2, k4, k6, k3, k5, hp, hv, hn, ht]
                  · by_cases k7 : o.Kind = 7
                    · have e : l16OpB o = (textB o && decide (o.N = 0)) := by simp [l16OpB, k1, k2, k4, k6, k3, k5, k7]
                      rw [e]
                      simp [k1, k2, k4, k6, k3, k5, k7, hp, hv, hn, ht]
                    · by_cases k8 : o.Kind = 8
                      · have e : l16OpB o = (textB o && decide (o.N = 0)) := by simp [l16OpB, k1, k2, k4, k6, k3, k5, k7, k8]
                        rw [e]
                        simp [k1, k2, k4, k6, k3, k5, k7, k8, hp, hv, hn, ht]
                      · have e : l16OpB o = false := by simp [l16OpB, k1, k2, k4, k6, k3, k5, k7, k8]
                        rw [e]
                        simp [k1, k2, k4, k6, k3, k5, k7, k8, hp, hv, hn]
      · have ht : textB o = false := by simp [textB, hv]
        by_cases k1 : o.Kind = 1
        · have e : l16OpB o = (decide (o.N = 0) && isP o.Path && isW o.Value) := by simp [l16OpB, k1]
          rw [e]
          simp [k1, hp, hv, hn]
        · by_cases k2 : o.Kind = 2
          · have e : l16OpB o = (decide (o.N = 0) && isP o.Path && decide (o.Value = ⟨#[]⟩)) := by simp [l16OpB, k1, k2]
            rw [e]
            simp [k1, k2, hp, hv, hn]
          · by_cases k4 : o.Kind = 4
            · have e : l16OpB o = (textB o && decide (1 ≤ o.N ∧ o.N ≤ 100)) := by simp [l16OpB, k1, k2, k4]
              rw [e]
              simp [k1, k2, k4, hp, hv, hn, ht]
            · by_cases k6 : o.Kind = 6
              · have e : l16OpB o = (textB o && decide (0 ≤ o.N ∧ o.N ≤ 9)) := by simp [l16OpB, k1, k2, k4, k6]
                rw [e]
                simp [k1, k2, k4, k6, hp, hv, hn, ht]
              · by_cases k3 : o.Kind = 3
                · have e : l16OpB o = (textB o && decide (o.N = 0)) := by simp [l16OpB, k1, k2, k4, k6, k3]
                  rw [e]
                  simp [k1, k2, k4, k6, k3, hp, hv, hn, ht]
                · by_cases k5 : o.Kind = 5
                  · have e : l16OpB o = (textB o && decide (o.N = 0)) := by simp [l16OpB, k1, k2, k4, k6, k3, k5]
                    rw [e]
                    simp [k1, k2, k4, k6, k3, k5, hp, hv, hn, ht]
                  · by_cases k7 : o.Kind = 7
                    · have e : l16OpB o = (textB o && decide (o.N = 0)) := by simp [l16OpB, k1, k2, k4, k6, k3, k5, k7]
                      rw [e]
                      simp [k1, k2, k4, k6, k3, k5, k7, hp, hv, hn, ht]
                    · by_cases k8 : o.Kind = 8
                      · have e : l16OpB o = (textB o && decide (o.N = 0)) := by simp [l16OpB, k1, k2, k4, k6, k3, k5, k7, k8]
                        rw [e]
                        simp [k1, k2, k4, k6, k3, k5, k7, k8, hp, hv, hn, ht]
                      · have e : l16OpB o = false := by simp [l16OpB, k1, k2, k4, k6, k3, k5, k7, k8]
                        rw [e]
                        simp [k1, k2, k4, k6, k3, k5, k7, k8, hp, hv, hn]
  · have ht : textB o = false := by simp [textB, hp]
    by_cases hn : o.N = 0
    · by_cases hv : o.Value = ⟨#[]⟩
      · have _h := hn
        by_cases k1 : o.Kind = 1
        · have e : l16OpB o = (decide (o.N = 0) && isP o.Path && isW o.Value) := by simp [l16OpB, k1]
          rw [e]
          simp [k1, hp, hv, hn]
          refine Inv_intro (ok_l15Path k o.Path o1.1 o1.2) ?_
          cases c2 : isP o.Path with
          | false => simp
          | true =>
            simp
            refine Inv_intro (ok_l15Word ⟨#[]⟩ (by first | exact o3 | (rw [← hv]; exact o3))) ?_
            simp
        · by_cases k2 : o.Kind = 2
          · have e : l16OpB o = (decide (o.N = 0) && isP o.Path && decide (o.Value = ⟨#[]⟩)) := by simp [l16OpB, k1, k2]
            rw [e]
            simp [k1, k2, hp, hv, hn]
            refine Inv_intro (ok_l15Path k o.Path o1.1 o1.2) ?_
            cases c2 : isP o.Path with
            | false => simp
            | true => simp [hv]
          · by_cases k4 : o.Kind = 4
            · have e : l16OpB o = (textB o && decide (1 ≤ o.N ∧ o.N ≤ 100)) := by simp [l16OpB, k1, k2, k4]
              rw [e]
              simp [k1, k2, k4, hp, hv, hn, ht]
            · by_cases k6 : o.Kind = 6
              · have e : l16OpB o = (textB o && decide (0 ≤ o.N ∧ o.N ≤ 9)) := by simp [l16OpB, k1, k2, k4, k6]
                rw [e]
                simp [k1, k2, k4, k6, hp, hv, hn, ht]
              · by_cases k3 : o.Kind = 3
                · have e : l16OpB o = (textB o && decide (o.N = 0)) := by simp [l16OpB, k1, k2, k4, k6, k3]
                  rw [e]
                  simp [k1, k2, k4, k6, k3, hp, hv, hn, ht]
                · by_cases k5 : o.Kind = 5
                  · have e : l16OpB o = (textB o && decide (o.N = 0)) := by simp [l16OpB, k1, k2, k4, k6, k3, k5]
                    rw [e]
                    simp [k1, k2, k4, k6, k3, k5, hp, hv, hn, ht]
                  · by_cases k7 : o.Kind = 7
                    · have e : l16OpB o = (textB o && decide (o.N = 0)) := by simp [l16OpB, k1, k2, k4, k6, k3, k5, k7]
                      rw [e]
                      simp [k1, k2, k4, k6, k3, k5, k7, hp, hv, hn, ht]
                    · by_cases k8 : o.Kind = 8
                      · have e : l16OpB o = (textB o && decide (o.N = 0)) := by simp [l16OpB, k1, k2, k4, k6, k3, k5, k7, k8]
                        rw [e]
                        simp [k1, k2, k4, k6, k3, k5, k7, k8, hp, hv, hn, ht]
                      · have e : l16OpB o = false := by simp [l16OpB, k1, k2, k4, k6, k3, k5, k7, k8]
                        rw [e]
                        simp [k1, k2, k4, k6, k3, k5, k7, k8, hp, hv, hn]
      · have _h := hn
        by_cases k1 : o.Kind = 1
        · have e : l16OpB o = (decide (o.N = 0) && isP o.Path && isW o.Value) := by simp [l16OpB, k1]
          rw [e]
          simp [k1, hp, hv, hn]
          refine Inv_intro (ok_l15Path k o.Path o1.1 o1.2) ?_
          cases c2 : isP o.Path with
          | false => simp
          | true =>
            simp
            refine Inv_intro (ok_l15Word o.Value (by first | exact o3 | (rw [← hv]; exact o3))) ?_
            simp
        · by_cases k2 : o.Kind = 2
          · have e : l16OpB o = (decide (o.N = 0) && isP o.Path && decide (o.Value = ⟨#[]⟩)) := by simp [l16OpB, k1, k2]
            rw [e]
            simp [k1, k2, hp, hv, hn]
            refine Inv_intro (ok_l15Path k o.Path o1.1 o1.2) ?_
            cases c2 : isP o.Path with
            | false => simp
            | true => simp [hv]
          · by_cases k4 : o.Kind = 4
            · have e : l16OpB o = (textB o && decide (1 ≤ o.N ∧ o.N ≤ 100)) := by simp [l16OpB, k1, k2, k4]
              rw [e]
              simp [k1, k2, k4, hp, hv, hn, ht]
            · by_cases k6 : o.Kind = 6
              · have e : l16OpB o = (textB o && decide (0 ≤ o.N ∧ o.N ≤ 9)) := by simp [l16OpB, k1, k2, k4, k6]
                rw [e]
                simp [k1, k2, k4, k6, hp, hv, hn, ht]
              · by_cases k3 : o.Kind = 3
                · have e : l16OpB o = (textB o && decide (o.N = 0)) := by simp [l16OpB, k1, k2, k4, k6, k3]
                  rw [e]
                  simp [k1, k2, k4, k6, k3, hp, hv, hn, ht]
                · by_cases k5 : o.Kind = 5
                  · have e : l16OpB o = (textB o && decide (o.N = 0)) := by simp [l16OpB, k1, k2, k4, k6, k3, k5]
                    rw [e]
                    simp [k1, k2, k4, k6, k3, k5, hp, hv, hn, ht]
                  · by_cases k7 : o.Kind = 7
                    · have e : l16OpB o = (textB o && decide (o.N = 0)) := by simp [l16OpB, k1, k2, k4, k6, k3, k5, k7]
                      rw [e]
                      simp [k1, k2, k4, k6, k3, k5, k7, hp, hv, hn, ht]
                    · by_cases k8 : o.Kind = 8
                      · have e : l16OpB o = (textB o && decide (o.N = 0)) := by simp [l16OpB, k1, k2, k4, k6, k3, k5, k7, k8]
                        rw [e]
                        simp [k1, k2, k4, k6, k3, k5, k7, k8, hp, hv, hn, ht]
                      · have e : l16OpB o = false := by simp [l16OpB, k1, k2, k4, k6, k3, k5, k7, k8]
                        rw [e]
                        simp [k1, k2, k4, k6, k3, k5, k7, k8, hp, hv, hn]
    · by_cases hv : o.Value = ⟨#[]⟩
      · have _h := hn
        by_cases k1 : o.Kind = 1
        · have e : l16OpB o = (decide (o.N = 0) && isP o.Path && isW o.Value) := by simp [l16OpB, k1]
          rw [e]
          simp [k1, hp, hv, hn]
        · by_cases k2 : o.Kind = 2
          · have e : l16OpB o = (decide (o.N = 0) && isP o.Path && decide (o.Value = ⟨#[]⟩)) := by simp [l16OpB, k1, k2]
            rw [e]
            simp [k1, k2, hp, hv, hn]
          · by_cases k4 : o.Kind = 4
            · have e : l16OpB o = (textB o && decide (1 ≤ o.N ∧ o.N ≤ 100)) := by simp [l16OpB, k1, k2, k4]
              rw [e]
              simp [k1, k2, k4, hp, hv, hn, ht]
            · by_cases k6 : o.Kind = 6
              · have e : l16OpB o = (textB o && decide (0 ≤ o.N ∧ o.N ≤ 9)) := by simp [l16OpB, k1, k2, k4, k6]
                rw [e]
                simp [k1, k2, k4, k6, hp, hv, hn, ht]
              · by_cases k3 : o.Kind = 3
                · have e : l16OpB o = (textB o && decide (o.N = 0)) := by simp [l16OpB, k1, k2, k4, k6, k3]
                  rw [e]
                  simp [k1, k2, k4, k6, k3, hp, hv, hn, ht]
                · by_cases k5 : o.Kind = 5
                  · have e : l16OpB o = (textB o && decide (o.N = 0)) := by simp [l16OpB, k1, k2, k4, k6, k3, k5]
                    rw [e]
                    simp [k1, k2, k4, k6, k3, k5, hp, hv, hn, ht]
                  · by_cases k7 : o.Kind = 7
                    · have e : l16OpB o = (textB o && decide (o.N = 0)) := by simp [l16OpB, k1, k2, k4, k6, k3, k5, k7]
                      rw [e]
                      simp [k1, k2, k4, k6, k3, k5, k7, hp, hv, hn, ht]
                    · by_cases k8 : o.Kind = 8
                      · have e : l16OpB o = (textB o && decide (o.N = 0)) := by simp [l16OpB, k1, k2, k4, k6, k3, k5, k7, k8]
                        rw [e]
                        simp [k1, k2, k4, k6, k3, k5, k7, k8, hp, hv, hn, ht]
                      · have e : l16OpB o = false := by simp [l16OpB, k1, k2, k4, k6, k3, k5, k7, k8]
                        rw [e]
                        simp [k1, k2, k4, k6, k3, k5, k7, k8, hp, hv, hn]
      · have _h := hn
        by_cases k1 : o.Kind = 1
        · have e : l16OpB o = (decide (o.N = 0) && isP o.Path && isW o.Value) := by simp [l16OpB, k1]
          rw [e]
          simp [k1, hp, hv, hn]
        · by_cases k2 : o.Kind = 2
          · have e : l16OpB o = (decide (o.N = 0) && isP o.Path && decide (o.Value = ⟨#[]⟩)) := by simp [l16OpB, k1, k2]
            rw [e]
            simp [k1, k2, hp, hv, hn]
          · by_cases k4 : o.Kind = 4
            · have e : l16OpB o = (textB o && decide (1 ≤ o.N ∧ o.N ≤ 100)) := by simp [l16OpB, k1, k2, k4]
              rw [e]
              simp [k1, k2, k4, hp, hv, hn, ht]
            · by_cases k6 : o.Kind = 6
              · have e : l16OpB o = (textB o && decide (0 ≤ o.N ∧ o.N ≤ 9)) := by simp [l16OpB, k1, k2, k4, k6]
                rw [e]
                simp [k1, k2, k4, k6, hp, hv, hn, ht]
              · by_cases k3 : o.Kind = 3
                · have e : l16OpB o = (textB o && decide (o.N = 0)) := by simp [l16OpB, k1, k2, k4, k6, k3]
                  rw [e]
                  simp [k1, k2, k4, k6, k3, hp, hv, hn, ht]
                · by_cases k5 : o.Kind = 5
                  · have e : l16OpB o = (textB o && decide (o.N = 0)) := by simp [l16OpB, k1, k2, k4, k6, k3, k5]
                    rw [e]
                    simp [k1, k2, k4, k6, k3, k5, hp, hv, hn, ht]
                  · by_cases k7 : o.Kind = 7
                    · have e : l16OpB o = (textB o && decide (o.N = 0)) := by simp [l16OpB, k1, k2, k4, k6, k3, k5, k7]
                      rw [e]
                      simp [k1, k2, k4, k6, k3, k5, k7, hp, hv, hn, ht]
                    · by_cases k8 : o.Kind = 8
                      · have e : l16OpB o = (textB o && decide (o.N = 0)) := by simp [l16OpB, k1, k2, k4, k6, k3, k5, k7, k8]
                        rw [e]
                        simp [k1, k2, k4, k6, k3, k5, k7, k8, hp, hv, hn, ht]
                      · have e : l16OpB o = false := by simp [l16OpB, k1, k2, k4, k6, k3, k5, k7, k8]
                        rw [e]
                        simp [k1, k2, k4, k6, k3, k5, k7, k8, hp, hv, hn]
def zeroS : GStore := ⟨[], [], [], 0⟩
def stepI (s : GStore) (o : GOp) : GStore × Bool :=
  if isOpB o = false then (zeroS, false)
  else if o.Kind = 1 then (⟨(rSetAt s.Candidate o.Path o.Value).1, s.Running, s.History, s.Left⟩, (rSetAt s.Candidate o.Path o.Value).2)
  else if o.Kind = 2 then (⟨(rDeleteAt s.Candidate o.Path).1, s.Running, s.History, s.Left⟩, (rDeleteAt s.Candidate o.Path).2)
  else if o.Kind = 3 then (confirmS ⟨s.Candidate, s.Candidate, s.History, s.Left⟩, true)
  else if o.Kind = 4 then (⟨s.Candidate, s.Candidate, s.History, if s.Candidate = s.History.headD [] then 0 else o.N⟩, decide (1 ≤ o.N ∧ o.N ≤ 100))
  else if o.Kind = 5 then (confirmS s, decide (0 < s.Left))
  else if o.Kind = 6 then (if 0 ≤ o.N ∧ o.N ≤ (s.History.length : Int) - 1 then (⟨s.History.getD o.N.toNat [], s.Running, s.History, s.Left⟩, true) else (zeroS, false))
  else if o.Kind = 7 then (⟨s.Running, s.Running, s.History, s.Left⟩, true)
  else if o.Kind = 8 then (⟨s.Candidate, (if s.Left - 1 = 0 then s.History.headD [] else s.Running), s.History, s.Left - 1⟩, decide (0 < s.Left))
  else (s, true)
theorem ok_stepStore (k k' : Nat) (s : GStore) (o : GOp) (hs : storeB s) (hh : s.History ≠ []) (hF : 0 ≤ s.Left ∧ s.Left ≤ 100) (hl : s.History.length ≤ 10) (ho : opOK o) : CallOK Try.prog 16 [.agg (GStore.ci k s), .agg (GOp.ci k' o)] (.tup [.agg (stepI s o).1.co, .c (pb (stepI s o).2)]) [.agg (GStore.ci k s), .agg (GOp.ci k' o)] := by
  have hown := ok_ownStore k s hs
  have hop := ok_isOp k' o
  have hcf := ok_confirm s hs hh
  obtain ⟨b1, b2, b3, b4⟩ := hs
  obtain ⟨o1, o2, o3⟩ := ho
  have hcf3 := ok_confirm ⟨s.Candidate, s.Candidate, s.History, s.Left⟩ ⟨b1, b1, b3, b4⟩ hh
  obtain ⟨C, R, H, F⟩ := s
  obtain ⟨K, Pa, V, N⟩ := o
  simp only at b1 b2 b3 b4 hh hF hl o1 o2 o3 hown hop hcf hcf3
  obtain ⟨h0', H', rfl⟩ : ∃ x H', H = x :: H' := by
    cases H with
    | nil => exact absurd rfl hh
    | cons x H' => exact ⟨x, H', rfl⟩
  have hb := b4 h0' (List.mem_cons_self ..)
  simp only [List.length_cons] at b3 hl
  have w1 : IntKind.i64.wrap (F - 1) = F - 1 := wrap64 (by omega) (by omega)
  have w2 : IntKind.i64.wrap (H'.length : Int) = (H'.length : Int) := wrap64 (by omega) (by omega)
  refine okS (fn := Try.f16) [(35, [1])] h0 Try.func16 (by kernel_rfl) rfl Try.ntmps16 Try.results16 (by simp) ?_
  simp
  refine Inv_intro hop ?_
  simp
  cases c0 : isOpB ⟨K, Pa, V, N⟩ with
  | false => simp [stepI, c0, zeroS]
  | true =>
    simp
    refine Inv_intro hown ?_
    simp
    by_cases k1 : K = 1
    · have e : stepI ⟨C, R, h0' :: H', F⟩ ⟨K, Pa, V, N⟩ = (⟨(rSetAt C Pa V).1, R, h0' :: H', F⟩, (rSetAt C Pa V).2) := by simp only [stepI, c0]; simp [k1]
      rw [e]
      simp [k1]
      refine Inv_intro (ok_iSetAt k k' C Pa V b1.1 (fun x hx => (b1.2 x hx).1) (boundC_conf b1) o1 o2 o3) ?_
      simp
    · by_cases k2 : K = 2
      · have e : stepI ⟨C, R, h0' :: H', F⟩ ⟨K, Pa, V, N⟩ = (⟨(rDeleteAt C Pa).1, R, h0' :: H', F⟩, (rDeleteAt C Pa).2) := by simp only [stepI, c0]; simp [k1, k2]
        rw [e]
        simp [k1, k2]
        refine Inv_intro (ok_iDeleteAt k k' C Pa b1.1 (fun x hx => (b1.2 x hx).1) (boundC_conf b1) o1) ?_
        simp
      · by_cases k3 : K = 3
        · have e : stepI ⟨C, R, h0' :: H', F⟩ ⟨K, Pa, V, N⟩ = (confirmS ⟨C, C, h0' :: H', F⟩, true) := by simp only [stepI, c0]; simp [k3]
          rw [e]
          simp [k1, k2, k3]
          refine Inv_intro (ok_ownConfig k C b1.1 (fun x hx => (b1.2 x hx).1)) ?_
          simp
          refine Inv_intro hcf3 ?_
          simp
        · by_cases k4 : K = 4
          · have e : stepI ⟨C, R, h0' :: H', F⟩ ⟨K, Pa, V, N⟩ = (⟨C, C, h0' :: H', if C = h0' then 0 else N⟩, decide (1 ≤ N ∧ N ≤ 100)) := by simp only [stepI, c0]; simp [k4]
            rw [e]
            simp [k1, k2, k3, k4]
            refine drawP (tabEnv [] _) [⟨[.op 0 0 0], allD 118, true⟩, ⟨[.op 0 0 0], allD 118, true⟩, ⟨[], allD 118, false⟩, ⟨[.op 0 1 0], allD 118, true⟩, ⟨[.op 0 1 0], allD 118, true⟩, ⟨[.op 3 2 0], allD 118, true⟩, ⟨[.op 3 2 0, .op 14 2 0], [49, 50, 51, 52, 53, 54, 55], false⟩, ⟨[.op 3 2 0], allD 118, true⟩, ⟨[.op 3 2 0], [49, 50, 51, 52, 53, 54, 55], false⟩] h0 hm (tabEnv_ok (tab_cons (ok_ownConfig k C b1.1 (fun x hx => (b1.2 x hx).1)) tab_nil)) (by kernel_rfl) (by kernel_rfl) ?_
            simp
            refine Inv_intro (ok_within N 1 100) ?_
            simp
            refine drawP (tabEnv [] _) [⟨[.op 3 2 0], allD 118, true⟩, ⟨[.op 3 2 0], allD 118, true⟩, ⟨[.op 3 2 0], allD 118, true⟩, ⟨[.op 3 2 0], allD 118, true⟩, ⟨[.op 3 2 0], allD 118, true⟩, ⟨[.op 3 2 0], allD 118, true⟩, ⟨[.op 3 2 0], [59, 60, 61, 62, 63, 64, 65], false⟩] h0 hm (tabEnv_ok (tab_cons (ok_sameConfig 0 0 C h0' (boundC_conf b1) (boundC_conf hb)) tab_nil)) (by kernel_rfl) (by kernel_rfl) ?_
            simp
            by_cases c : C = h0'
            · simp [c]
            · simp [c]
          · by_cases k5 : K = 5
            · have e : stepI ⟨C, R, h0' :: H', F⟩ ⟨K, Pa, V, N⟩ = (confirmS ⟨C, R, h0' :: H', F⟩, decide (0 < F)) := by simp only [stepI, c0]; simp [k5]
              rw [e]
              simp [k1, k2, k3, k4, k5]
              refine Inv_intro hcf ?_
              simp
            · by_cases k6 : K = 6
              · by_cases c : 0 ≤ N ∧ N ≤ (H'.length : Int)
                · have hN : N.toNat < (h0' :: H').length := by rw [List.length_cons]; omega
                  have hbN := b4 _ (List.getElem_mem hN)
                  have e : stepI ⟨C, R, h0' :: H', F⟩ ⟨K, Pa, V, N⟩ = (⟨(h0' :: H')[N.toNat], R, h0' :: H', F⟩, true) := by
                    have c' : 0 ≤ N ∧ N ≤ ((h0' :: H').length : Int) - 1 := by rw [List.length_cons]; omega
                    simp only [stepI, c0]
                    simp only [k6, c', and_self, if_true, List.getD_eq_getElem?_getD, List.getElem?_eq_getElem hN, Option.getD_some]
                    simp
                  rw [e]
                  have hNl : N < (H'.length : Int) + 1 := by omega
                  have hd : List.drop N.toNat (cLeafSi k h0' :: List.map (cLeafSi k) H') = cLeafSi k (h0' :: H')[N.toNat] :: List.drop (N.toNat + 1) (cLeafSi k h0' :: List.map (cLeafSi k) H') := by
                    have h1 : cLeafSi k h0' :: List.map (cLeafSi k) H' = (h0' :: H').map (cLeafSi k) := rfl
                    rw [h1, List.drop_eq_getElem_cons (by rw [List.length_map]; exact hN), List.getElem_map]
                  generalize (h0' :: H')[N.toNat] = x at hbN hd ⊢
                  simp [k1, k2, k3, k4, k5, k6, w2]
                  refine Inv_intro (ok_within N 0 (H'.length : Int)) ?_
                  simp [c, hNl, hd]
                  refine Inv_intro (ok_ownConfig k x hbN.1 (fun y hy => (hbN.2 y hy).1)) ?_
                  simp
                · have e : stepI ⟨C, R, h0' :: H', F⟩ ⟨K, Pa, V, N⟩ = (zeroS, false) := by
                    have c' : ¬ (0 ≤ N ∧ N ≤ ((h0' :: H').length : Int) - 1) := by rw [List.length_cons]; omega
                    simp only [stepI, c0]
                    simp only [k6, c', if_false]
                    simp
                  rw [e]
                  simp [k1, k2, k3, k4, k5, k6, w2]
                  refine Inv_intro (ok_within N 0 (H'.length : Int)) ?_
                  simp [c, zeroS]
              · by_cases k7 : K = 7
                · have e : stepI ⟨C, R, h0' :: H', F⟩ ⟨K, Pa, V, N⟩ = (⟨R, R, h0' :: H', F⟩, true) := by simp only [stepI, c0]; simp [k7]
                  rw [e]
                  simp [k1, k2, k3, k4, k5, k6, k7]
                  refine Inv_intro (ok_ownConfig k R b2.1 (fun x hx => (b2.2 x hx).1)) ?_
                  simp
                · by_cases k8 : K = 8
                  · have e : stepI ⟨C, R, h0' :: H', F⟩ ⟨K, Pa, V, N⟩ = (⟨C, (if F - 1 = 0 then h0' else R), h0' :: H', F - 1⟩, decide (0 < F)) := by simp only [stepI, c0]; simp [k8]
                    rw [e]
                    simp [k1, k2, k3, k4, k5, k6, k7, k8, w1]
                    by_cases c : F - 1 = 0
                    · simp [c]
                      refine Inv_intro (ok_ownConfig 0 h0' hb.1 (fun x hx => (hb.2 x hx).1)) ?_
                      simp
                    · simp [c]
                  · have e : stepI ⟨C, R, h0' :: H', F⟩ ⟨K, Pa, V, N⟩ = (⟨C, R, h0' :: H', F⟩, true) := by simp only [stepI, c0]; simp [k1, k2, k3, k4, k5, k6, k7, k8]
                    rw [e]
                    simp [k1, k2, k3, k4, k5, k6, k7, k8]
end Go.V
