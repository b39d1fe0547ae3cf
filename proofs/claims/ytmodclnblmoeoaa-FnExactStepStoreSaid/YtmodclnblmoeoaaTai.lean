/- What functions of the seat's program do, each proved of its code, under the bounds that its theorem names. -/
import Derived.Test.YtmodclnblmoeoaaTah
set_option linter.all false
namespace Go.V
open Go.Proofs
set_option maxHeartbeats 1000000
set_option maxRecDepth 10000
set_option linter.unusedSimpArgs false
set_option linter.unusedVariables false
def isOpB (o : GOp) : Bool := decide (1 ≤ o.Kind ∧ o.Kind ≤ 8) && (decide (o.Kind = 1 ∨ o.Kind = 2) || decide (o.Path.length = 0)) && (decide (o.Kind = 1) || decide (o.Value = ⟨#[]⟩)) && (decide (o.Kind = 4 ∨ o.Kind = 6) || decide (o.N = 0))
theorem ok_isOp (k : Nat) (o : GOp) : CallOK Try.prog 149 [.agg (GOp.ci k o)] (.c (pb (isOpB o))) [.agg (GOp.ci k o)] := by
  refine okS (fn := Try.f149) [] h0 Try.func149 (by kernel_rfl) rfl Try.ntmps149 Try.results149 (by simp) ?_
  simp
  by_cases k1 : o.Kind = 1
  · simp [k1]
    refine Inv_intro (ok_within 1 1 8) ?_
    simp [isOpB, k1]
  · by_cases k2 : o.Kind = 2
    · simp [k1, k2]
      refine Inv_intro (ok_within 2 1 8) ?_
      by_cases hv : o.Value = ⟨#[]⟩
      · simp [isOpB, k2, hv]
      · simp [isOpB, k2, hv]
    · have hw := ok_within o.Kind 1 8
      by_cases k4 : o.Kind = 4
      · simp [k1, k2, k4]
        refine Inv_intro (ok_within 4 1 8) ?_
        by_cases hp : o.Path = []
        · by_cases hv : o.Value = ⟨#[]⟩
          · simp [isOpB, k4, hp, hv]
          · simp [isOpB, k4, hp, hv]
        · simp [isOpB, k4, hp]
      · by_cases k6 : o.Kind = 6
        · simp [k1, k2, k4, k6]
          refine Inv_intro (ok_within 6 1 8) ?_
          by_cases hp : o.Path = []
          · by_cases hv : o.Value = ⟨#[]⟩
            · simp [isOpB, k6, hp, hv]
            · simp [isOpB, k6, hp, hv]
          · simp [isOpB, k6, hp]
        · simp [k1, k2, k4, k6]
          refine Inv_intro hw ?_
          by_cases hk : 1 ≤ o.Kind ∧ o.Kind ≤ 8
          · by_cases hp : o.Path = []
            · by_cases hv : o.Value = ⟨#[]⟩
              · simp [isOpB, k1, k2, k4, k6, hp, hv, hk]
              · simp [isOpB, k1, k2, k4, k6, hp, hv, hk]
            · simp [isOpB, k1, k2, k4, k6, hp, hk]
          · simp [isOpB, k1, k2, k4, k6, hk]
def opOK (o : GOp) : Prop := strsOK o.Path ∧ o.Path.length ≤ 1048576 ∧ o.Value.size ≤ 140737488355328
def textB (o : GOp) : Bool := decide (o.Path.length = 0) && decide (o.Value = ⟨#[]⟩)
def l16OpB (o : GOp) : Bool :=
  if o.Kind = 1 then decide (o.N = 0) && isP o.Path && isW o.Value
  else if o.Kind = 2 then decide (o.N = 0) && isP o.Path && decide (o.Value = ⟨#[]⟩)
  else if o.Kind = 4 then textB o && decide (1 ≤ o.N ∧ o.N ≤ 100)
  else if o.Kind = 6 then textB o && decide (0 ≤ o.N ∧ o.N ≤ 9)
  else if o.Kind = 3 ∨ o.Kind = 5 ∨ o.Kind = 7 ∨ o.Kind = 8 then textB o && decide (o.N = 0)
  else false
theorem ok_l16Op (k : Nat) (o : GOp) (ho : opOK o) : CallOK Try.prog 147 [.agg (GOp.ci k o)] (.c (pb (l16OpB o))) [.agg (GOp.ci k o)] := by
  obtain ⟨o1, o2, o3⟩ := ho
  refine okS (fn := Try.f147) [] h0 Try.func147 (by kernel_rfl) rfl Try.ntmps147 Try.results147 (by simp) ?_
  by_cases hp : o.Path = []
  · by_cases hv : o.Value = ⟨#[]⟩
    · by_cases hn : o.N = 0
      · have ht : textB o = true := by simp [textB, hp, hv]
        by_cases k1 : o.Kind = 1
        · have e : l16OpB o = (decide (o.N = 0) && isP o.Path && isW o.Value) := by simp [l16OpB, k1]
          rw [e]
          simp [k1, hp, hv, hn]
          refine Inv_intro (ok_l15Path k [] (by simp) (by simp)) ?_
          simp [isP]
        · by_cases k2 : o.Kind = 2
          · have e : l16OpB o = (decide (o.N = 0) && isP o.Path && decide (o.Value = ⟨#[]⟩)) := by simp [l16OpB, k1, k2]
            rw [e]
            simp [k1, k2, hp, hv, hn]
            refine Inv_intro (ok_l15Path k [] (by simp) (by simp)) ?_
            simp [isP]
          · by_cases k4 : o.Kind = 4
            · have e : l16OpB o = (textB o && decide (1 ≤ o.N ∧ o.N ≤ 100)) := by simp [l16OpB, k1, k2, k4]
              rw [e]
              simp [k1, k2, k4, hp, hv, hn, ht]
              refine Inv_intro (ok_l1In 0 1 100) ?_
              simp
            · by_cases k6 : o.Kind = 6
              · have e : l16OpB o = (textB o && decide (0 ≤ o.N ∧ o.N ≤ 9)) := by simp [l16OpB, k1, k2, k4, k6]
                rw [e]
                simp [k1, k2, k4, k6, hp, hv, hn, ht]
                refine Inv_intro (ok_l1In 0 0 9) ?_
                simp
              · by_cases k3 : o.Kind = 3
                · have e : l16OpB o = (textB o && decide (o.N = 0)) := by simp [l16OpB, k1, k2, k4, k6, k3]
                  rw [e]
                  simp [k1, k2, k4, k6, k3, hp, hv, hn, ht]
                · by_cases k5 : o.Kind = 5
                  · have e : l16OpB o = (textB o && decide (o.N = 0)) := by simp [l16OpB, k1, k2, k4, k6, k3, k5]
                    rw [e]
                    simp [k1, k2, k4, k6, k3, k5, hp, hv, hn, ht]
                  · by_cases k7 : o.Kind = 7
                    · have e : l16OpB o = (textB o && decide (o.N = 0)) := by simp [l16OpB, k1, k2, k4, k6, k3, k5, k7]
                      rw [e]
                      simp [k1, k2, k4, k6, k3, k5, k7, hp, hv, hn, ht]
                    · by_cases k8 : o.Kind = 8
                      · have e : l16OpB o = (textB o && decide (o.N = 0)) := by simp [l16OpB, k1, k2, k4, k6, k3, k5, k7, k8]
                        rw [e]
                        simp [k1, k2, k4, k6, k3, k5, k7, k8, hp, hv, hn, ht]
                      · have e : l16OpB o = false := by simp [l16OpB, k1, k2, k4, k6, k3, k5, k7, k8]
                        rw [e]
                        simp [k1, k2, k4, k6, k3, k5, k7, k8, hp, hv, hn]
      · have ht : textB o = true := by simp [textB, hp, hv]
        by_cases k1 : o.Kind = 1
        · have e : l16OpB o = (decide (o.N = 0) && isP o.Path && isW o.Value) := by simp [l16OpB, k1]
          rw [e]
          simp [k1, hp, hv, hn]
        · by_cases k2 : o.Kind = 2
          · have e : l16OpB o = (decide (o.N = 0) && isP o.Path && decide (o.Value = ⟨#[]⟩)) := by simp [l16OpB, k1, k2]
            rw [e]
            simp [k1, k2, hp, hv, hn]
          · by_cases k4 : o.Kind = 4
            · have e : l16OpB o = (textB o && decide (1 ≤ o.N ∧ o.N ≤ 100)) := by simp [l16OpB, k1, k2, k4]
              rw [e]
              simp [k1, k2, k4, hp, hv, hn, ht]
              refine Inv_intro (ok_l1In o.N 1 100) ?_
              simp
            · by_cases k6 : o.Kind = 6
              · have e : l16OpB o = (textB o && decide (0 ≤ o.N ∧ o.N ≤ 9)) := by simp [l16OpB, k1, k2, k4, k6]
                rw [e]
                simp [k1, k2, k4, k6, hp, hv, hn, ht]
                refine Inv_intro (ok_l1In o.N 0 9) ?_
                simp
              · by_cases k3 : o.Kind = 3
                · have e : l16OpB o = (textB o && decide (o.N = 0)) := by simp [l16OpB, k1, k2, k4, k6, k3]
                  rw [e]
                  simp [k1, k2, k4, k6, k3, hp, hv, hn, ht]
                · by_cases k5 : o.Kind = 5
                  · have e : l16OpB o = (textB o && decide (o.N = 0)) := by simp [l16OpB, k1, k2, k4, k6, k3, k5]
                    rw [e]
                    simp [k1, k2, k4, k6, k3, k5, hp, hv, hn, ht]
                  · by_cases k7 : o.Kind = 7
                    · have e : l16OpB o = (textB o && decide (o.N = 0)) := by simp [l16OpB, k1, k2, k4, k6, k3, k5, k7]
                      rw [e]
                      simp [k1, k2, k4, k6, k3, k5, k7, hp, hv, hn, ht]
                    · by_cases k8 : o.Kind = 8
                      · have e : l16OpB o = (textB o && decide (o.N = 0)) := by simp [l16OpB, k1, k2, k4, k6, k3, k5, k7, k8]
                        rw [e]
                        simp [k1, k2, k4, k6, k3, k5, k7, k8, hp, hv, hn, ht]
                      · have e : l16OpB o = false := by simp [l16OpB, k1, k2, k4, k6, k3, k5, k7, k8]
                        rw [e]
                        simp [k1, k2, k4, k6, k3, k5, k7, k8, hp, hv, hn]
    · by_cases hn : o.N = 0
      · have ht : textB o = false := by simp [textB, hv]
        by_cases k1 : o.Kind = 1
        · have e : l16OpB o = (decide (o.N = 0) && isP o.Path && isW o.Value) := by simp [l16OpB, k1]
          rw [e]
          simp [k1, hp, hv, hn]
          refine Inv_intro (ok_l15Path k [] (by simp) (by simp)) ?_
          simp [isP]
        · by_cases k2 : o.Kind = 2
          · have e : l16OpB o = (decide (o.N = 0) && isP o.Path && decide (o.Value = ⟨#[]⟩)) := by simp [l16OpB, k1, k2]
            rw [e]
            simp [k1, k2, hp, hv, hn]
            refine Inv_intro (ok_l15Path k [] (by simp) (by simp)) ?_
            simp [isP]
          · by_cases k4 : o.Kind = 4
            · have e : l16OpB o = (textB o && decide (1 ≤ o.N ∧ o.N ≤ 100)) := by simp [l16OpB, k1, k2, k4]
              rw [e]
              simp [k1, k2, k4, hp, hv, hn, ht]
            · by_cases k6 : o.Kind = 6
              · have e : l16OpB o = (textB o && decide (0 ≤ o.N ∧ o.N ≤ 9)) := by simp [l16OpB, k1, k2, k4, k6]
                rw [e]
                simp [k1, k2, k4, k6, hp, hv, hn, ht]
              · by_cases k3 : o.Kind = 3
                · have e : l16OpB o = (textB o && decide (o.N = 0)) := by simp [l16OpB, k1, k2, k4, k6, k3]
                  rw [e]
                  simp [k1, k2, k4, k6, k3, hp, hv, hn, ht]
                · by_cases k5 : o.Kind = 5
                  · have e : l16OpB o = (textB o && decide (o.N = 0)) := by simp [l16OpB, k1, k2, k4, k6, k3, k5]
                    rw [e]
                    simp [k1, k2, k4, k6, k3, k5, hp, hv, hn, ht]
                  · by_cases k7 : o.Kind = 7
                    · have e : l16OpB o = (textB o && decide (o.N = 0)) := by simp [l16OpB, k1, k2, k4, k6, k3, k5, k7]
                      rw [e]
                      simp [k1, k2, k4, k6, k3, k5, k7, hp, hv, hn, ht]
                    · by_cases k8 : o.Kind = 8
                      · have e : l16OpB o = (textB o && decide (o.N = 0)) := by simp [l16OpB, k1, k2, k4, k6, k3, k5, k7, k8]
                        rw [e]
                        simp [k1, k2, k4, k6, k3, k5, k7, k8, hp, hv, hn, ht]
                      · have e : l16OpB o = false := by simp [l16OpB, k1, k2, k4, k6, k3, k5, k7, k8]
                        rw [e]
                        simp [k1, k2, k4, k6, k3, k5, k7, k8, hp, hv, hn]
      · have ht : textB o = false := by simp [textB, hv]
        by_cases k1 : o.Kind = 1
        · have e : l16OpB o = (decide (o.N = 0) && isP o.Path && isW o.Value) := by simp [l16OpB, k1]
          rw [e]
          simp [k1, hp, hv, hn]
        · by_cases k2 : o.Kind = 2
          · have e : l16OpB o = (decide (o.N = 0) && isP o.Path && decide (o.Value = ⟨#[]⟩)) := by simp [l16OpB, k1, k2]
            rw [e]
            simp [k1, k2, hp, hv, hn]
          · by_cases k4 : o.Kind = 4
            · have e : l16OpB o = (textB o && decide (1 ≤ o.N ∧ o.N ≤ 100)) := by simp [l16OpB, k1, k2, k4]
              rw [e]
              simp [k1, k2, k4, hp, hv, hn, ht]
            · by_cases k6 : o.Kind = 6
              · have e : l16OpB o = (textB o && decide (0 ≤ o.N ∧ o.N ≤ 9)) := by simp [l16OpB, k1, k2, k4, k6]
                rw [e]
                simp [k1, k2, k4, k6, hp, hv, hn, ht]
              · by_cases k3 : o.Kind = 3
                · have e : l16OpB o = (textB o && decide (o.N = 0)) := by simp [l16OpB, k1, k2, k4, k6, k3]
                  rw [e]
                  simp [k1, k2, k4, k6, k3, hp, hv, hn, ht]
                · by_cases k5 : o.Kind = 5
                  · have e : l16OpB o = (textB o && decide (o.N = 0)) := by simp [l16OpB, k1, k2, k4, k6, k3, k5]
                    rw [e]
                    simp [k1, k2, k4, k6, k3, k5, hp, hv, hn, ht]
                  · by_cases k7 : o.Kind = 7
                    · have e : l16OpB o = (textB o && decide (o.N = 0)) := by simp [l16OpB, k1, k2, k4, k6, k3, k5, k7]
                      rw [e]
                      simp [k1, k2, k4, k6, k3, k5, k7, hp, hv, hn, ht]
                    · by_cases k8 : o.Kind = 8
                      · have e : l16OpB o = (textB o && decide (o.N = 0)) := by simp [l16OpB, k1, k2, k4, k6, k3, k5, k7, k8]
                        rw [e]
                        simp [k1, k2, k4, k6, k3, k5, k7, k8, hp, hv, hn, ht]
                      · have e : l16OpB o = false := by simp [l16OpB, k1, k2, k4, k6, k3, k5, k7, k8]
                        rw [e]
                        simp [k1, k2, k4, k6, k3, k5, k7, k8, hp, hv, hn]
  · have ht : textB o = false := by simp [textB, hp]
    by_cases hn : o.N = 0
    · by_cases hv : o.Value = ⟨#[]⟩
      · have _h := hn
        by_cases k1 : o.Kind = 1
        · have e : l16OpB o = (decide (o.N = 0) && isP o.Path && isW o.Value) := by simp [l16OpB, k1]
          rw [e]
          simp [k1, hp, hv, hn]
          refine Inv_intro (ok_l15Path k o.Path o1.1 o1.2) ?_
          cases c2 : isP o.Path with
          | false => simp
          | true =>
            simp
            refine Inv_intro (ok_l15Word ⟨#[]⟩ (by first | exact o3 | (rw [← hv]; exact o3))) ?_
            simp
        · by_cases k2 : o.Kind = 2
          · have e : l16OpB o = (decide (o.N = 0) && isP o.Path && decide (o.Value = ⟨#[]⟩)) := by simp [l16OpB, k1, k2]
            rw [e]
            simp [k1, k2, hp, hv, hn]
            refine Inv_intro (ok_l15Path k o.Path o1.1 o1.2) ?_
            cases c2 : isP o.Path with
            | false => simp
            | true => simp [hv]
          · by_cases k4 : o.Kind = 4
            · have e : l16OpB o = (textB o && decide (1 ≤ o.N ∧ o.N ≤ 100)) := by simp [l16OpB, k1, k2, k4]
              rw [e]
              simp [k1, k2, k4, hp, hv, hn, ht]
            · by_cases k6 : o.Kind = 6
              · have e : l16OpB o = (textB o && decide (0 ≤ o.N ∧ o.N ≤ 9)) := by simp [l16OpB, k1, k2, k4, k6]
                rw [e]
                simp [k1, k2, k4, k6, hp, hv, hn, ht]
              · by_cases k3 : o.Kind = 3
                · have e : l16OpB o = (textB o && decide (o.N = 0)) := by simp [l16OpB, k1, k2, k4, k6, k3]
                  rw [e]
                  simp [k1, k2, k4, k6, k3, hp, hv, hn, ht]
                · by_cases k5 : o.Kind = 5
                  · have e : l16OpB o = (textB o && decide (o.N = 0)) := by simp [l16OpB, k1, k2, k4, k6, k3, k5]
                    rw [e]
                    simp [k1, k2, k4, k6, k3, k5, hp, hv, hn, ht]
                  · by_cases k7 : o.Kind = 7
                    · have e : l16OpB o = (textB o && decide (o.N = 0)) := by simp [l16OpB, k1, k2, k4, k6, k3, k5, k7]
                      rw [e]
                      simp [k1, k2, k4, k6, k3, k5, k7, hp, hv, hn, ht]
                    · by_cases k8 : o.Kind = 8
                      · have e : l16OpB o = (textB o && decide (o.N = 0)) := by simp [l16OpB, k1, k2, k4, k6, k3, k5, k7, k8]
                        rw [e]
                        simp [k1, k2, k4, k6, k3, k5, k7, k8, hp, hv, hn, ht]
                      · have e : l16OpB o = false := by simp [l16OpB, k1, k2, k4, k6, k3, k5, k7, k8]
                        rw [e]
                        simp [k1, k2, k4, k6, k3, k5, k7, k8, hp, hv, hn]
      · have _h := hn
        by_cases k1 : o.Kind = 1
        · have e : l16OpB o = (decide (o.N = 0) && isP o.Path && isW o.Value) := by simp [l16OpB, k1]
          rw [e]
          simp [k1, hp, hv, hn]
          refine Inv_intro (ok_l15Path k o.Path o1.1 o1.2) ?_
          cases c2 : isP o.Path with
          | false => simp
          | true =>
            simp
            refine Inv_intro (ok_l15Word o.Value (by first | exact o3 | (rw [← hv]; exact o3))) ?_
            simp
        · by_cases k2 : o.Kind = 2
          · have e : l16OpB o = (decide (o.N = 0) && isP o.Path && decide (o.Value = ⟨#[]⟩)) := by simp [l16OpB, k1, k2]
            rw [e]
            simp [k1, k2, hp, hv, hn]
            refine Inv_intro (ok_l15Path k o.Path o1.1 o1.2) ?_
            cases c2 : isP o.Path with
            | false => simp
            | true => simp [hv]
          · by_cases k4 : o.Kind = 4
            · have e : l16OpB o = (textB o && decide (1 ≤ o.N ∧ o.N ≤ 100)) := by simp [l16OpB, k1, k2, k4]
              rw [e]
              simp [k1, k2, k4, hp, hv, hn, ht]
            · by_cases k6 : o.Kind = 6
              · have e : l16OpB o = (textB o && decide (0 ≤ o.N ∧ o.N ≤ 9)) := by simp [l16OpB, k1, k2, k4, k6]
                rw [e]
                simp [k1, k2, k4, k6, hp, hv, hn, ht]
              · by_cases k3 : o.Kind = 3
                · have e : l16OpB o = (textB o && decide (o.N = 0)) := by simp [l16OpB, k1, k2, k4, k6, k3]
                  rw [e]
                  simp [k1, k2, k4, k6, k3, hp, hv, hn, ht]
                · by_cases k5 : o.Kind = 5
                  · have e : l16OpB o = (textB o && decide (o.N = 0)) := by simp [l16OpB, k1, k2, k4, k6, k3, k5]
                    rw [e]
                    simp [k1, k2, k4, k6, k3, k5, hp, hv, hn, ht]
                  · by_cases k7 : o.Kind = 7
                    · have e : l16OpB o = (textB o && decide (o.N = 0)) := by simp [l16OpB, k1, k2, k4, k6, k3, k5, k7]
                      rw [e]
                      simp [k1, k2, k4, k6, k3, k5, k7, hp, hv, hn, ht]
                    · by_cases k8 : o.Kind = 8
                      · have e : l16OpB o = (textB o && decide (o.N = 0)) := by simp [l16OpB, k1, k2, k4, k6, k3, k5, k7, k8]
                        rw [e]
                        simp [k1, k2, k4, k6, k3, k5, k7, k8, hp, hv, hn, ht]
                      · have e : l16OpB o = false := by simp [l16OpB, k1, k2, k4, k6, k3, k5, k7, k8]
                        rw [e]
                        simp [k1, k2, k4, k6, k3, k5, k7, k8, hp, hv, hn]
    · by_cases hv : o.Value = ⟨#[]⟩
      · have _h := hn
        by_cases k1 : o.Kind = 1
        · have e : l16OpB o = (decide (o.N = 0) && isP o.Path && isW o.Value) := by simp [l16OpB, k1]
          rw [e]
          simp [k1, hp, hv, hn]
        · by_cases k2 : o.Kind = 2
          · have e : l16OpB o = (decide (o.N = 0) && isP o.Path && decide (o.Value = ⟨#[]⟩)) := by simp [l16OpB, k1, k2]
            rw [e]
            simp [k1, k2, hp, hv, hn]
          · by_cases k4 : o.Kind = 4
            · have e : l16OpB o = (textB o && decide (1 ≤ o.N ∧ o.N ≤ 100)) := by simp [l16OpB, k1, k2, k4]
              rw [e]
              simp [k1, k2, k4, hp, hv, hn, ht]
            · by_cases k6 : o.Kind = 6
              · have e : l16OpB o = (textB o && decide (0 ≤ o.N ∧ o.N ≤ 9)) := by simp [l16OpB, k1, k2, k4, k6]
                rw [e]
                simp [k1, k2, k4, k6, hp, hv, hn, ht]
              · by_cases k3 : o.Kind = 3
                · have e : l16OpB o = (textB o && decide (o.N = 0)) := by simp [l16OpB, k1, k2, k4, k6, k3]
                  rw [e]
                  simp [k1, k2, k4, k6, k3, hp, hv, hn, ht]
                · by_cases k5 : o.Kind = 5
                  · have e : l16OpB o = (textB o && decide (o.N = 0)) := by simp [l16OpB, k1, k2, k4, k6, k3, k5]
                    rw [e]
                    simp [k1, k2, k4, k6, k3, k5, hp, hv, hn, ht]
                  · by_cases k7 : o.Kind = 7
                    · have e : l16OpB o = (textB o && decide (o.N = 0)) := by simp [l16OpB, k1, k2, k4, k6, k3, k5, k7]
                      rw [e]
                      simp [k1, k2, k4, k6, k3, k5, k7, hp, hv, hn, ht]
                    · by_cases k8 : o.Kind = 8
                      · have e : l16OpB o = (textB o && decide (o.N = 0)) := by simp [l16OpB, k1, k2, k4, k6, k3, k5, k7, k8]
                        rw [e]
                        simp [k1, k2, k4, k6, k3, k5, k7, k8, hp, hv, hn, ht]
                      · have e : l16OpB o = false := by simp [l16OpB, k1, k2, k4, k6, k3, k5, k7, k8]
                        rw [e]
                        simp [k1, k2, k4, k6, k3, k5, k7, k8, hp, hv, hn]
      · have _h := hn
        by_cases k1 : o.Kind = 1
        · have e : l16OpB o = (decide (o.N = 0) && isP o.Path && isW o.Value) := by simp [l16OpB, k1]
          rw [e]
          simp [k1, hp, hv, hn]
        · by_cases k2 : o.Kind = 2
          · have e : l16OpB o = (decide (o.N = 0) && isP o.Path && decide (o.Value = ⟨#[]⟩)) := by simp [l16OpB, k1, k2]
            rw [e]
            simp [k1, k2, hp, hv, hn]
          · by_cases k4 : o.Kind = 4
            · have e : l16OpB o = (textB o && decide (1 ≤ o.N ∧ o.N ≤ 100)) := by simp [l16OpB, k1, k2, k4]
              rw [e]
              simp [k1, k2, k4, hp, hv, hn, ht]
            · by_cases k6 : o.Kind = 6
              · have e : l16OpB o = (textB o && decide (0 ≤ o.N ∧ o.N ≤ 9)) := by simp [l16OpB, k1, k2, k4, k6]
                rw [e]
                simp [k1, k2, k4, k6, hp, hv, hn, ht]
              · by_cases k3 : o.Kind = 3
                · have e : l16OpB o = (textB o && decide (o.N = 0)) := by simp [l16OpB, k1, k2, k4, k6, k3]
                  rw [e]
                  simp [k1, k2, k4, k6, k3, hp, hv, hn, ht]
                · by_cases k5 : o.Kind = 5
                  · have e : l16OpB o = (textB o && decide (o.N = 0)) := by simp [l16OpB, k1, k2, k4, k6, k3, k5]
                    rw [e]
                    simp [k1, k2, k4, k6, k3, k5, hp, hv, hn, ht]
                  · by_cases k7 : o.Kind = 7
                    · have e : l16OpB o = (textB o && decide (o.N = 0)) := by simp [l16OpB, k1, k2, k4, k6, k3, k5, k7]
                      rw [e]
                      simp [k1, k2, k4, k6, k3, k5, k7, hp, hv, hn, ht]
                    · by_cases k8 : o.Kind = 8
                      · have e : l16OpB o = (textB o && decide (o.N = 0)) := by simp [l16OpB, k1, k2, k4, k6, k3, k5, k7, k8]
                        rw [e]
                        simp [k1, k2, k4, k6, k3, k5, k7, k8, hp, hv, hn, ht]
                      · have e : l16OpB o = false := by simp [l16OpB, k1, k2, k4, k6, k3, k5, k7, k8]
                        rw [e]
                        simp [k1, k2, k4, k6, k3, k5, k7, k8, hp, hv, hn]
def confirmS (s : GStore) : GStore := if s.History.head? = some s.Running then { s with Left := 0 } else { s with Left := 0, History := (s.Running :: s.History).take 10 }
theorem ok_l16Confirm (s : GStore) (hs : storeB s) (hh : s.History ≠ []) : CallOK Try.prog 148 [.agg s.co] (.agg (confirmS s).co) [.agg [.hole, .hole, .hole, pi s.Left]] := by
  obtain ⟨b1, b2, b3, b4⟩ := hs
  obtain ⟨C, R, H, F⟩ := s
  simp only at b1 b2 b3 b4 hh
  obtain ⟨h0', H', rfl⟩ : ∃ x H', H = x :: H' := by
    cases H with
    | nil => exact absurd rfl hh
    | cons x H' => exact ⟨x, H', rfl⟩
  have hb := b4 h0' (List.mem_cons_self ..)
  simp only [List.length_cons] at b3
  refine okS (fn := Try.f148) [] h0 Try.func148 (by kernel_rfl) rfl Try.ntmps148 Try.results148 (by simp) ?_
  simp
  refine drawP (tabEnv [] _) [⟨[.op 0 0 0], allD 29, true⟩, ⟨[.op 0 0 0], allD 29, true⟩, ⟨[.op 0 0 0], allD 29, true⟩, ⟨[.op 0 0 0], allD 29, true⟩, ⟨[.op 0 0 0], allD 29, true⟩, ⟨[.op 0 0 0], allD 29, true⟩, ⟨[.op 0 0 0], [5, 6, 7, 8, 9, 10, 11], false⟩] h0 hm (tabEnv_ok (tab_cons (ok_l16Same 0 0 R h0' (boundC_conf b2) (boundC_conf hb)) tab_nil)) (by kernel_rfl) (by kernel_rfl) ?_
  simp
  refine brn_app (fun a => ?_) (fun a => ?_)
  · simp at a
    have e : confirmS ⟨C, R, h0' :: H', F⟩ = ⟨C, R, h0' :: H', 0⟩ := by simp [confirmS, a]
    rw [e]
    simp
  · simp at a
    have ha : ¬ h0' = R := fun e => a e.symm
    have e : confirmS ⟨C, R, h0' :: H', F⟩ = ⟨C, R, (R :: h0' :: H').take 10, 0⟩ := by simp [confirmS, ha]
    rw [e]
    simp
    refine Inv_intro (ok_l15Own 0 R b2.1 (fun x hx => (b2.2 x hx).1)) ?_
    have b5 : (1 + (H'.length + 1)) * 24 ≤ 140737488355328 := by omega
    have b6 : 1 + (H'.length + 1) ≤ 9223372036854775807 := by omega
    simp [b5, b6]
    refine brn_app (fun c => ?_) (fun c => ?_)
    · simp at c
      have c1 : 10 ≤ 1 + (H'.length + 1) := by omega
      have c2 : min 8 H'.length = 8 := by omega
      have c3 : 8 ≤ H'.length := by omega
      have hbnd : bnd none (some (some (Value.int IntKind.i64 10))) (1 + (H'.length + 1)) = some (0, 10) := bnd_ns (by decide) (by omega)
      have hT : ∀ X : List PT, List.take 8 (List.take 8 X) = List.take 8 X := fun X => by rw [List.take_take]; rfl
      simp [c1, c2, c3, hbnd, hT]
    · simp at c
      have c2 : min 8 H'.length = H'.length := by omega
      have c3 : List.take 8 (H'.map cLeafSo) = H'.map cLeafSo := List.take_of_length_le (by rw [List.length_map]; omega)
      have c4 : 1 + (H'.length + 1) = H'.length + 1 + 1 := by omega
      have c5 : ∀ a b : PT, List.take (H'.length + 1 + 1) (a :: b :: H'.map cLeafSo) = a :: b :: H'.map cLeafSo := fun a b => List.take_of_length_le (by simp)
      simp [c2, c3, c4, c5]
def stepSp (s : GStore) (o : GOp) : GStore × Bool :=
  if l16OpB o = false then (s, false)
  else if o.Kind = 1 then (⟨(rSetAt s.Candidate o.Path o.Value).1, s.Running, s.History, s.Left⟩, (rSetAt s.Candidate o.Path o.Value).2)
  else if o.Kind = 2 then (⟨(rDeleteAt s.Candidate o.Path).1, s.Running, s.History, s.Left⟩, (rDeleteAt s.Candidate o.Path).2)
  else if o.Kind = 3 then (confirmS ⟨s.Candidate, s.Candidate, s.History, s.Left⟩, true)
  else if o.Kind = 4 then (⟨s.Candidate, s.Candidate, s.History, if s.Candidate = s.History.headD [] then 0 else o.N⟩, true)
  else if o.Kind = 5 then (if s.Left = 0 then (s, false) else (confirmS s, true))
  else if o.Kind = 6 then (if (s.History.length : Int) ≤ o.N then (s, false) else (⟨s.History.getD o.N.toNat [], s.Running, s.History, s.Left⟩, true))
  else if o.Kind = 7 then (⟨s.Running, s.Running, s.History, s.Left⟩, true)
  else (if s.Left = 0 then (s, false) else (⟨s.Candidate, (if s.Left - 1 = 0 then s.History.headD [] else s.Running), s.History, s.Left - 1⟩, true))
theorem ok_l16Step (k' : Nat) (s : GStore) (o : GOp) (hs : storeB s) (hh : s.History ≠ []) (hF : 0 ≤ s.Left ∧ s.Left ≤ 100) (hl : s.History.length ≤ 10) (ho : opOK o) : CallOK Try.prog 110 [.agg s.co, .agg (GOp.ci k' o)] (.tup [.agg (stepSp s o).1.co, .c (pb (stepSp s o).2)]) [.agg [.hole, .hole, .hole, pi s.Left], .agg (GOp.ci k' o)] := by
  have hop := ok_l16Op k' o ho
  have hcf := ok_l16Confirm s hs hh
  obtain ⟨b1, b2, b3, b4⟩ := hs
  obtain ⟨o1, o2, o3⟩ := ho
  have hcf3 := ok_l16Confirm ⟨s.Candidate, s.Candidate, s.History, s.Left⟩ ⟨b1, b1, b3, b4⟩ hh
  obtain ⟨C, R, H, F⟩ := s
  obtain ⟨K, Pa, V, N⟩ := o
  simp only at b1 b2 b3 b4 hh hF hl o1 o2 o3 hop hcf hcf3
  obtain ⟨h0', H', rfl⟩ : ∃ x H', H = x :: H' := by
    cases H with
    | nil => exact absurd rfl hh
    | cons x H' => exact ⟨x, H', rfl⟩
  have hb := b4 h0' (List.mem_cons_self ..)
  simp only [List.length_cons] at b3 hl
  have w1 : IntKind.i64.wrap (F - 1) = F - 1 := wrap64 (by omega) (by omega)
  refine okS (fn := Try.f110) [(148, [2])] h0 Try.func110 (by kernel_rfl) rfl Try.ntmps110 Try.results110 (by simp) ?_
  simp
  refine Inv_intro hop ?_
  simp
  cases c0 : l16OpB ⟨K, Pa, V, N⟩ with
  | false =>
    have e : stepSp ⟨C, R, h0' :: H', F⟩ ⟨K, Pa, V, N⟩ = (⟨C, R, h0' :: H', F⟩, false) := by simp only [stepSp, c0]; simp
    rw [e]
    simp
  | true =>
    simp
    by_cases k1 : K = 1
    · have e : stepSp ⟨C, R, h0' :: H', F⟩ ⟨K, Pa, V, N⟩ = (⟨(rSetAt C Pa V).1, R, h0' :: H', F⟩, (rSetAt C Pa V).2) := by simp only [stepSp, c0]; simp [k1]
      rw [e]
      simp [k1]
      refine Inv_intro (ok_sSetAt 0 k' C Pa V b1.1 (fun x hx => (b1.2 x hx).1) (boundC_conf b1) o1 o2 o3) ?_
      simp
    · by_cases k2 : K = 2
      · have e : stepSp ⟨C, R, h0' :: H', F⟩ ⟨K, Pa, V, N⟩ = (⟨(rDeleteAt C Pa).1, R, h0' :: H', F⟩, (rDeleteAt C Pa).2) := by simp only [stepSp, c0]; simp [k1, k2]
        rw [e]
        simp [k1, k2]
        refine Inv_intro (ok_sDeleteAt 0 k' C Pa b1.1 (fun x hx => (b1.2 x hx).1) (boundC_conf b1) o1) ?_
        simp
      · by_cases k3 : K = 3
        · have e : stepSp ⟨C, R, h0' :: H', F⟩ ⟨K, Pa, V, N⟩ = (confirmS ⟨C, C, h0' :: H', F⟩, true) := by simp only [stepSp, c0]; simp [k3]
          rw [e]
          simp [k1, k2, k3]
          refine Inv_intro (ok_l15Own 0 C b1.1 (fun x hx => (b1.2 x hx).1)) ?_
          simp
          refine Inv_intro hcf3 ?_
          simp
        · by_cases k4 : K = 4
          · have e : stepSp ⟨C, R, h0' :: H', F⟩ ⟨K, Pa, V, N⟩ = (⟨C, C, h0' :: H', if C = h0' then 0 else N⟩, true) := by simp only [stepSp, c0]; simp [k4]
            rw [e]
            simp [k1, k2, k3, k4]
            refine Inv_intro (ok_l15Own 0 C b1.1 (fun x hx => (b1.2 x hx).1)) ?_
            simp
            refine drawP (tabEnv [] _) [⟨[.op 0 0 0], allD 123, true⟩, ⟨[.op 0 0 0], allD 123, true⟩, ⟨[.op 0 0 0], allD 123, true⟩, ⟨[.op 0 0 0], allD 123, true⟩, ⟨[.op 0 0 0], allD 123, true⟩, ⟨[.op 0 0 0], allD 123, true⟩, ⟨[.op 0 0 0], [63, 64, 65, 66, 67, 68, 69], false⟩] h0 hm (tabEnv_ok (tab_cons (ok_l16Same 0 0 C h0' (boundC_conf b1) (boundC_conf hb)) tab_nil)) (by kernel_rfl) (by kernel_rfl) ?_
            simp
            by_cases c : C = h0'
            · simp [c]
            · simp [c]
          · by_cases k5 : K = 5
            · by_cases c : F = 0
              · have e : stepSp ⟨C, R, h0' :: H', F⟩ ⟨K, Pa, V, N⟩ = (⟨C, R, h0' :: H', F⟩, false) := by simp only [stepSp, c0]; simp [k5, c]
                rw [e]
                simp [k1, k2, k3, k4, k5, c]
              · have e : stepSp ⟨C, R, h0' :: H', F⟩ ⟨K, Pa, V, N⟩ = (confirmS ⟨C, R, h0' :: H', F⟩, true) := by simp only [stepSp, c0]; simp [k5, c]
                rw [e]
                simp [k1, k2, k3, k4, k5, c]
                refine Inv_intro hcf ?_
                simp
            · by_cases k6 : K = 6
              · have hN9 : 0 ≤ N := by
                  simp [l16OpB, k6] at c0
                  omega
                by_cases c : (H'.length : Int) + 1 ≤ N
                · have e : stepSp ⟨C, R, h0' :: H', F⟩ ⟨K, Pa, V, N⟩ = (⟨C, R, h0' :: H', F⟩, false) := by
                    have c' : ((h0' :: H').length : Int) ≤ N := by rw [List.length_cons]; omega
                    simp only [stepSp, c0]
                    simp only [k6, c', if_true]
                    simp
                  rw [e]
                  simp [k1, k2, k3, k4, k5, k6, c]
                · have hN : N.toNat < (h0' :: H').length := by rw [List.length_cons]; omega
                  have hbN := b4 _ (List.getElem_mem hN)
                  have e : stepSp ⟨C, R, h0' :: H', F⟩ ⟨K, Pa, V, N⟩ = (⟨(h0' :: H')[N.toNat], R, h0' :: H', F⟩, true) := by
                    have c' : ¬ ((h0' :: H').length : Int) ≤ N := by rw [List.length_cons]; omega
                    simp only [stepSp, c0]
                    simp only [k6, c', if_false, List.getD_eq_getElem?_getD, List.getElem?_eq_getElem hN, Option.getD_some]
                    simp
                  rw [e]
                  have hNl : N < (H'.length : Int) + 1 := by omega
                  have hd : ∀ h : N.toNat < (cLeafSo h0' :: List.map cLeafSo H').length, (cLeafSo h0' :: List.map cLeafSo H')[N.toNat]'h = cLeafSo (h0' :: H')[N.toNat] := fun h => List.getElem_map (l := h0' :: H') cLeafSo
                  generalize (h0' :: H')[N.toNat] = x at hbN hd ⊢
                  simp [k1, k2, k3, k4, k5, k6, c, hN9, hNl, hd]
                  refine Inv_intro (ok_l15Own 0 x hbN.1 (fun y hy => (hbN.2 y hy).1)) ?_
                  simp
              · by_cases k7 : K = 7
                · have e : stepSp ⟨C, R, h0' :: H', F⟩ ⟨K, Pa, V, N⟩ = (⟨R, R, h0' :: H', F⟩, true) := by simp only [stepSp, c0]; simp [k7]
                  rw [e]
                  simp [k1, k2, k3, k4, k5, k6, k7]
                  refine Inv_intro (ok_l15Own 0 R b2.1 (fun x hx => (b2.2 x hx).1)) ?_
                  simp
                · by_cases c : F = 0
                  · have e : stepSp ⟨C, R, h0' :: H', F⟩ ⟨K, Pa, V, N⟩ = (⟨C, R, h0' :: H', F⟩, false) := by simp only [stepSp, c0]; simp [k1, k2, k3, k4, k5, k6, k7, c]
                    rw [e]
                    simp [k1, k2, k3, k4, k5, k6, k7, c]
                  · have e : stepSp ⟨C, R, h0' :: H', F⟩ ⟨K, Pa, V, N⟩ = (⟨C, (if F - 1 = 0 then h0' else R), h0' :: H', F - 1⟩, true) := by simp only [stepSp, c0]; simp [k1, k2, k3, k4, k5, k6, k7, c]
                    rw [e]
                    simp [k1, k2, k3, k4, k5, k6, k7, w1, c]
                    by_cases c1 : F - 1 = 0
                    · simp [c1]
                      refine Inv_intro (ok_l15Own 0 h0' hb.1 (fun x hx => (hb.2 x hx).1)) ?_
                      simp
                    · simp [c1]
end Go.V
