/- What functions of the seat's program do, each proved of its code, under the bounds that its theorem names. -/
import Derived.Test.YtmodclnblmoeoaaTah
set_option linter.all false
namespace Go.V
open Go.Proofs
set_option maxHeartbeats 1000000
set_option maxRecDepth 10000
set_option linter.unusedSimpArgs false
set_option linter.unusedVariables false
theorem ins_b24 (n : Nat) (h : n + 1 ≤ 1048576) : (n + 1 + 1) * 24 ≤ 140737488355328 := by omega
theorem ok_confirm (s : GStore) (hs : storeB s) (hh : s.History ≠ []) : CallOK Try.prog 151 [.bp (.sl 0 57 1 s.co)] (.tup []) [.bp (.sl 0 57 1 (confirmS s).co)] := by
  obtain ⟨b1, b2, b3, b4⟩ := hs
  obtain ⟨C, R, H, F⟩ := s
  simp only at b1 b2 b3 b4 hh
  obtain ⟨h0', H', rfl⟩ : ∃ x H', H = x :: H' := by
    cases H with
    | nil => exact absurd rfl hh
    | cons x H' => exact ⟨x, H', rfl⟩
  have hb := b4 h0' (List.mem_cons_self ..)
  simp only [List.length_cons] at b3
  refine okS (fn := Try.f151) [(171, [2,0,2])] h0 Try.func151 (by kernel_rfl) rfl Try.ntmps151 Try.results151 (by simp) ?_
  simp
  refine drawP (tabEnv [] _) [⟨[.arg 0 0], allD 45, true⟩, ⟨[.arg 0 0], allD 45, true⟩, ⟨[.arg 0 0], allD 45, true⟩, ⟨[.arg 0 0], allD 45, true⟩, ⟨[.arg 0 0], allD 45, true⟩, ⟨[.arg 0 0], allD 45, true⟩, ⟨[.arg 0 0], allD 45, true⟩, ⟨[.arg 0 0], allD 45, true⟩, ⟨[.arg 0 0], allD 45, true⟩, ⟨[.arg 0 0], allD 45, true⟩, ⟨[.arg 0 0], [2, 3, 4, 5, 6, 7, 8, 9, 10, 11, 12, 13], false⟩, ⟨[], allD 45, true⟩] h0 hm (tabEnv_ok (tab_cons (ok_sameConfig 0 0 R h0' (boundC_conf b2) (boundC_conf hb)) tab_nil)) (by kernel_rfl) (by kernel_rfl) ?_
  simp
  refine brn_app (fun a => ?_) (fun a => ?_)
  · simp at a
    have ha : ¬ h0' = R := fun e => a e.symm
    have e : confirmS ⟨C, R, h0' :: H', F⟩ = ⟨C, R, (R :: h0' :: H').take 10, 0⟩ := by simp [confirmS, ha]
    rw [e]
    simp
    have b5 : (1 + (H'.length + 1)) * 24 ≤ 140737488355328 := by omega
    have b6 : 1 + (H'.length + 1) ≤ 9223372036854775807 := by omega
    have b7 : (H'.length + 1 + 1) * 24 ≤ 140737488355328 := ins_b24 _ b3
    have b8 : (cLeafSo h0' :: H'.map cLeafSo).length = (H'.length + 1) * 1 := by rw [List.length_cons, List.length_map, Nat.mul_one]
    have hIns := ok_Insert_LeafS (H'.length + 1) 0 (cLeafSo h0' :: H'.map cLeafSo) [cLeafSo R] b8 (by rfl) (Nat.zero_le _) b7
    simp only [Nat.zero_mul, List.take_zero, List.drop_zero, List.nil_append, List.cons_append] at hIns
    refine drawM 1 (tabEnv [(171, [2, 0, 2])] _) [⟨[.arg 0 0], allD 45, true⟩, ⟨[.arg 0 0], allD 45, true⟩, ⟨[.arg 0 0], allD 45, true⟩, ⟨[.arg 0 0], allD 45, true⟩, ⟨[.arg 0 0], allD 45, true⟩, ⟨[.arg 0 0], allD 45, true⟩, ⟨[.arg 0 0], allD 45, true⟩, ⟨[.arg 0 0], allD 45, true⟩, ⟨[.arg 0 0], allD 45, true⟩, ⟨[.arg 0 0], allD 45, true⟩, ⟨[.op 1 9 0], [15, 16, 17, 18, 19, 20, 21, 22, 23, 24, 25, 26, 27], false⟩, ⟨[.arg 0 0, .op 1 10 0], [15, 16, 17, 18, 19, 20, 21, 22, 23, 24, 25, 26, 27], false⟩, ⟨[.arg 0 0], allD 45, true⟩, ⟨[.arg 0 0], allD 45, true⟩, ⟨[.arg 0 0, .op 1 11 0], [15, 16, 17, 18, 19, 20, 21, 22, 23, 24, 25, 26, 27], false⟩] h0 hm (tabEnv_ok (tab_cons (ok_ownConfig 0 R b2.1 (fun x hx => (b2.2 x hx).1)) (tab_cons hIns tab_nil))) (by kernel_rfl) (by kernel_rfl) ?_
    simp [b5, b6]
    rcases Nat.lt_or_ge 8 H'.length with c | c
    · have c1 : (10 : Int) < ↑(H'.length + 1 + 1) := by omega
      have c1' : (10 : Int) < (H'.length : Int) + 1 + 1 := by omega
      have c2 : min 8 H'.length = 8 := by omega
      have c3 : 8 ≤ H'.length := by omega
      have c4 : 10 ≤ H'.length + 1 + 1 := by omega
      have hbnd : bnd none (some (some (Value.int IntKind.i64 10))) (H'.length + 1 + 1) = some (0, 10) := bnd_ns (by decide) (by omega)
      have hT : ∀ X : List PT, List.take 8 (List.take 8 X) = List.take 8 X := fun X => by rw [List.take_take]; rfl
      refine drawM 1 (tabEnv [] []) [⟨[.arg 0 0], allD 45, true⟩, ⟨[.arg 0 0], allD 45, true⟩, ⟨[.arg 0 0], allD 45, true⟩, ⟨[.arg 0 0], allD 45, true⟩, ⟨[.arg 0 0], allD 45, true⟩, ⟨[.arg 0 0], allD 45, true⟩, ⟨[.arg 0 0], allD 45, true⟩, ⟨[.arg 0 0], allD 45, true⟩, ⟨[.arg 0 0], allD 45, true⟩, ⟨[.arg 0 0], allD 45, true⟩, ⟨[.arg 0 0], allD 45, true⟩, ⟨[.arg 0 0], allD 45, true⟩, ⟨[.arg 0 0], allD 45, true⟩, ⟨[.arg 0 0], allD 45, true⟩, ⟨[.arg 0 0], [29, 30, 31, 32, 33, 34, 35, 36, 37, 38, 39, 40, 41], false⟩] h0 hm (tabEnv_ok tab_nil) (by kernel_rfl) (by kernel_rfl) ?_
      simp [c1, c1', c2, c3, c4, hbnd, hT]
    · have c1 : ¬ (10 : Int) < ↑(H'.length + 1 + 1) := by omega
      have c1' : ¬ (10 : Int) < (H'.length : Int) + 1 + 1 := by omega
      have c2 : min 8 H'.length = H'.length := by omega
      have c3 : List.take 8 (H'.map cLeafSo) = H'.map cLeafSo := List.take_of_length_le (by rw [List.length_map]; omega)
      have c5 : ∀ a b : PT, List.take (H'.length + 1 + 1) (a :: b :: H'.map cLeafSo) = a :: b :: H'.map cLeafSo := fun a b => List.take_of_length_le (by simp)
      have hbnd : bnd none (some (some (Value.int IntKind.i64 ((H'.length : Int) + 1 + 1)))) (H'.length + 1 + 1) = some (0, H'.length + 1 + 1) := bnd_ns (by omega) (by omega)
      refine drawM 1 (tabEnv [] []) [⟨[.arg 0 0], allD 45, true⟩, ⟨[.arg 0 0], allD 45, true⟩, ⟨[.arg 0 0], allD 45, true⟩, ⟨[.arg 0 0], allD 45, true⟩, ⟨[.arg 0 0], allD 45, true⟩, ⟨[.arg 0 0], allD 45, true⟩, ⟨[.arg 0 0], allD 45, true⟩, ⟨[.arg 0 0], allD 45, true⟩, ⟨[.arg 0 0], allD 45, true⟩, ⟨[.arg 0 0], allD 45, true⟩, ⟨[.arg 0 0], allD 45, true⟩, ⟨[.arg 0 0], allD 45, true⟩, ⟨[.arg 0 0], allD 45, true⟩, ⟨[.arg 0 0], allD 45, true⟩, ⟨[.arg 0 0], [29, 30, 31, 32, 33, 34, 35, 36, 37, 38, 39, 40, 41], false⟩] h0 hm (tabEnv_ok tab_nil) (by kernel_rfl) (by kernel_rfl) ?_
      simp [c1, c1', c2, c3, c5, hbnd]
  · simp at a
    have e : confirmS ⟨C, R, h0' :: H', F⟩ = ⟨C, R, h0' :: H', 0⟩ := by simp [confirmS, a]
    rw [e]
    simp
def zeroS : GStore := ⟨[], [], [], 0⟩
def stepI (s : GStore) (o : GOp) : GStore × Bool :=
  if isOpB o = false then (zeroS, false)
  else if o.Kind = 1 then (⟨(rSetAt s.Candidate o.Path o.Value).1, s.Running, s.History, s.Left⟩, (rSetAt s.Candidate o.Path o.Value).2)
  else if o.Kind = 2 then (⟨(rDeleteAt s.Candidate o.Path).1, s.Running, s.History, s.Left⟩, (rDeleteAt s.Candidate o.Path).2)
  else if o.Kind = 3 then (confirmS ⟨s.Candidate, s.Candidate, s.History, s.Left⟩, true)
  else if o.Kind = 4 then (⟨s.Candidate, s.Candidate, s.History, if s.Candidate = s.History.headD [] then 0 else o.N⟩, decide (1 ≤ o.N ∧ o.N ≤ 100))
  else if o.Kind = 5 then (confirmS s, decide (0 < s.Left))
  else if o.Kind = 6 then (if 0 ≤ o.N ∧ o.N ≤ (s.History.length : Int) - 1 then (⟨s.History.getD o.N.toNat [], s.Running, s.History, s.Left⟩, true) else (zeroS, false))
  else if o.Kind = 7 then (⟨s.Running, s.Running, s.History, s.Left⟩, true)
  else if o.Kind = 8 then (⟨s.Candidate, (if s.Left - 1 = 0 then s.History.headD [] else s.Running), s.History, s.Left - 1⟩, decide (0 < s.Left))
  else (s, true)
theorem ok_stepStore (k k' : Nat) (s : GStore) (o : GOp) (hs : storeB s) (hh : s.History ≠ []) (hF : 0 ≤ s.Left ∧ s.Left ≤ 100) (hl : s.History.length ≤ 10) (ho : opOK o) : CallOK Try.prog 112 [.agg (GStore.ci k s), .agg (GOp.ci k' o)] (.tup [.agg (stepI s o).1.co, .c (pb (stepI s o).2)]) [.agg (GStore.ci k s), .agg (GOp.ci k' o)] := by
  have hown := ok_ownStore k s hs
  have hop := ok_isOp k' o
  have hcf := ok_confirm s hs hh
  obtain ⟨b1, b2, b3, b4⟩ := hs
  obtain ⟨o1, o2, o3⟩ := ho
  have hcf3 := ok_confirm ⟨s.Candidate, s.Candidate, s.History, s.Left⟩ ⟨b1, b1, b3, b4⟩ hh
  obtain ⟨C, R, H, F⟩ := s
  obtain ⟨K, Pa, V, N⟩ := o
  simp only at b1 b2 b3 b4 hh hF hl o1 o2 o3 hown hop hcf hcf3
  obtain ⟨h0', H', rfl⟩ : ∃ x H', H = x :: H' := by
    cases H with
    | nil => exact absurd rfl hh
    | cons x H' => exact ⟨x, H', rfl⟩
  have hb := b4 h0' (List.mem_cons_self ..)
  simp only [List.length_cons] at b3 hl
  have w1 : IntKind.i64.wrap (F - 1) = F - 1 := wrap64 (by omega) (by omega)
  have w2 : IntKind.i64.wrap (H'.length : Int) = (H'.length : Int) := wrap64 (by omega) (by omega)
  refine okS (fn := Try.f112) [(151, [1])] h0 Try.func112 (by kernel_rfl) rfl Try.ntmps112 Try.results112 (by simp) ?_
  simp
  refine Inv_intro hop ?_
  simp
  cases c0 : isOpB ⟨K, Pa, V, N⟩ with
  | false => simp [stepI, c0, zeroS]
  | true =>
    simp
    refine Inv_intro hown ?_
    simp
    by_cases k1 : K = 1
    · have e : stepI ⟨C, R, h0' :: H', F⟩ ⟨K, Pa, V, N⟩ = (⟨(rSetAt C Pa V).1, R, h0' :: H', F⟩, (rSetAt C Pa V).2) := by simp only [stepI, c0]; simp [k1]
      rw [e]
      simp [k1]
      refine Inv_intro (ok_iSetAt k k' C Pa V b1.1 (fun x hx => (b1.2 x hx).1) (boundC_conf b1) o1 o2 o3) ?_
      simp
    · by_cases k2 : K = 2
      · have e : stepI ⟨C, R, h0' :: H', F⟩ ⟨K, Pa, V, N⟩ = (⟨(rDeleteAt C Pa).1, R, h0' :: H', F⟩, (rDeleteAt C Pa).2) := by simp only [stepI, c0]; simp [k1, k2]
        rw [e]
        simp [k1, k2]
        refine Inv_intro (ok_iDeleteAt k k' C Pa b1.1 (fun x hx => (b1.2 x hx).1) (boundC_conf b1) o1) ?_
        simp
      · by_cases k3 : K = 3
        · have e : stepI ⟨C, R, h0' :: H', F⟩ ⟨K, Pa, V, N⟩ = (confirmS ⟨C, C, h0' :: H', F⟩, true) := by simp only [stepI, c0]; simp [k3]
          rw [e]
          simp [k1, k2, k3]
          refine Inv_intro (ok_ownConfig k C b1.1 (fun x hx => (b1.2 x hx).1)) ?_
          simp
          refine Inv_intro hcf3 ?_
          simp
        · by_cases k4 : K = 4
          · have e : stepI ⟨C, R, h0' :: H', F⟩ ⟨K, Pa, V, N⟩ = (⟨C, C, h0' :: H', if C = h0' then 0 else N⟩, decide (1 ≤ N ∧ N ≤ 100)) := by simp only [stepI, c0]; simp [k4]
            rw [e]
            simp [k1, k2, k3, k4]
            refine drawP (tabEnv [] _) [⟨[.op 0 0 0], allD 118, true⟩, ⟨[.op 0 0 0], allD 118, true⟩, ⟨[], allD 118, false⟩, ⟨[.op 0 1 0], allD 118, true⟩, ⟨[.op 0 1 0], allD 118, true⟩, ⟨[.op 3 2 0], allD 118, true⟩, ⟨[.op 3 2 0, .op 14 2 0], [49, 50, 51, 52, 53, 54, 55], false⟩, ⟨[.op 3 2 0], allD 118, true⟩, ⟨[.op 3 2 0], [49, 50, 51, 52, 53, 54, 55], false⟩] h0 hm (tabEnv_ok (tab_cons (ok_ownConfig k C b1.1 (fun x hx => (b1.2 x hx).1)) tab_nil)) (by kernel_rfl) (by kernel_rfl) ?_
            simp
            refine Inv_intro (ok_within N 1 100) ?_
            simp
            refine drawP (tabEnv [] _) [⟨[.op 3 2 0], allD 118, true⟩, ⟨[.op 3 2 0], allD 118, true⟩, ⟨[.op 3 2 0], allD 118, true⟩, ⟨[.op 3 2 0], allD 118, true⟩, ⟨[.op 3 2 0], allD 118, true⟩, ⟨[.op 3 2 0], allD 118, true⟩, ⟨[.op 3 2 0], [59, 60, 61, 62, 63, 64, 65], false⟩] h0 hm (tabEnv_ok (tab_cons (ok_sameConfig 0 0 C h0' (boundC_conf b1) (boundC_conf hb)) tab_nil)) (by kernel_rfl) (by kernel_rfl) ?_
            simp
            by_cases c : C = h0'
            · simp [c]
            · simp [c]
          · by_cases k5 : K = 5
            · have e : stepI ⟨C, R, h0' :: H', F⟩ ⟨K, Pa, V, N⟩ = (confirmS ⟨C, R, h0' :: H', F⟩, decide (0 < F)) := by simp only [stepI, c0]; simp [k5]
              rw [e]
              simp [k1, k2, k3, k4, k5]
              refine Inv_intro hcf ?_
              simp
            · by_cases k6 : K = 6
              · by_cases c : 0 ≤ N ∧ N ≤ (H'.length : Int)
                · have hN : N.toNat < (h0' :: H').length := by rw [List.length_cons]; omega
                  have hbN := b4 _ (List.getElem_mem hN)
                  have e : stepI ⟨C, R, h0' :: H', F⟩ ⟨K, Pa, V, N⟩ = (⟨(h0' :: H')[N.toNat], R, h0' :: H', F⟩, true) := by
                    have c' : 0 ≤ N ∧ N ≤ ((h0' :: H').length : Int) - 1 := by rw [List.length_cons]; omega
                    simp only [stepI, c0]
                    simp only [k6, c', and_self, if_true, List.getD_eq_getElem?_getD, List.getElem?_eq_getElem hN, Option.getD_some]
                    simp
                  rw [e]
                  have hNl : N < (H'.length : Int) + 1 := by omega
                  have hd : List.drop N.toNat (cLeafSi k h0' :: List.map (cLeafSi k) H') = cLeafSi k (h0' :: H')[N.toNat] :: List.drop (N.toNat + 1) (cLeafSi k h0' :: List.map (cLeafSi k) H') := by
                    have h1 : cLeafSi k h0' :: List.map (cLeafSi k) H' = (h0' :: H').map (cLeafSi k) := rfl
                    rw [h1, List.drop_eq_getElem_cons (by rw [List.length_map]; exact hN), List.getElem_map]
                  generalize (h0' :: H')[N.toNat] = x at hbN hd ⊢
                  simp [k1, k2, k3, k4, k5, k6, w2]
                  refine Inv_intro (ok_within N 0 (H'.length : Int)) ?_
                  simp [c, hNl, hd]
                  refine Inv_intro (ok_ownConfig k x hbN.1 (fun y hy => (hbN.2 y hy).1)) ?_
                  simp
                · have e : stepI ⟨C, R, h0' :: H', F⟩ ⟨K, Pa, V, N⟩ = (zeroS, false) := by
                    have c' : ¬ (0 ≤ N ∧ N ≤ ((h0' :: H').length : Int) - 1) := by rw [List.length_cons]; omega
                    simp only [stepI, c0]
                    simp only [k6, c', if_false]
                    simp
                  rw [e]
                  simp [k1, k2, k3, k4, k5, k6, w2]
                  refine Inv_intro (ok_within N 0 (H'.length : Int)) ?_
                  simp [c, zeroS]
              · by_cases k7 : K = 7
                · have e : stepI ⟨C, R, h0' :: H', F⟩ ⟨K, Pa, V, N⟩ = (⟨R, R, h0' :: H', F⟩, true) := by simp only [stepI, c0]; simp [k7]
                  rw [e]
                  simp [k1, k2, k3, k4, k5, k6, k7]
                  refine Inv_intro (ok_ownConfig k R b2.1 (fun x hx => (b2.2 x hx).1)) ?_
                  simp
                · by_cases k8 : K = 8
                  · have e : stepI ⟨C, R, h0' :: H', F⟩ ⟨K, Pa, V, N⟩ = (⟨C, (if F - 1 = 0 then h0' else R), h0' :: H', F - 1⟩, decide (0 < F)) := by simp only [stepI, c0]; simp [k8]
                    rw [e]
                    simp [k1, k2, k3, k4, k5, k6, k7, k8, w1]
                    by_cases c : F - 1 = 0
                    · simp [c]
                      refine Inv_intro (ok_ownConfig 0 h0' hb.1 (fun x hx => (hb.2 x hx).1)) ?_
                      simp
                    · simp [c]
                  · have e : stepI ⟨C, R, h0' :: H', F⟩ ⟨K, Pa, V, N⟩ = (⟨C, R, h0' :: H', F⟩, true) := by simp only [stepI, c0]; simp [k1, k2, k3, k4, k5, k6, k7, k8]
                    rw [e]
                    simp [k1, k2, k3, k4, k5, k6, k7, k8]
theorem ok_sGoodConfig (k : Nat) (l : List GLeaf) (hl : confOK l) : CallOK Try.prog 78 [.c (rd k l.length (l.flatMap (GLeaf.ci k)))] (.c (pb (goodC l))) [.c (rd k l.length (l.flatMap (GLeaf.ci k)))] := by
  obtain ⟨hll, hlx⟩ := hl
  refine okS (fn := Try.f78) [] h0 Try.func78 (by kernel_rfl) rfl Try.ntmps78 Try.results78 (by simp) ?_
  simp
  refine loopS [0, 5, 6, 7] [] (fun n st => ∃ (i : Nat), i + n = l.length ∧ goodG (prevC l i) (l.drop i) = goodG none l ∧ st = ⟨slOf 51 [(0, .t (rd k l.length (l.flatMap (GLeaf.ci k)))), (5, .t (rd k l.length (l.flatMap (GLeaf.ci k)))), (6, .t (pi l.length)), (7, .t (pi i))], ofL []⟩) l.length ?_ ?_
  · rintro Inv hI
    simp
    subst hI
    exact ⟨0, by omega, rfl, rfl⟩
  · rintro Inv hI n st ⟨i, hi, hg, rfl⟩
    refine ewr_sound (M := []) h0 ?_
    simp
    refine brn_app (fun a => ?_) (fun a => ?_)
    · simp at a
      have hx := hlx l[i] (List.getElem_mem a)
      obtain ⟨⟨hx1, hx2⟩, hx3⟩ := hx
      rw [drop_step _ i a, goodG] at hg
      have hd := fm_drop (GLeaf.ci k) 2 (fun _ => rfl) l i a
      have hlen := fm_len (GLeaf.ci k) 2 (fun _ => rfl) l
      have hlt : i * 2 < l.length * 2 := by omega
      have en : prevC l (i + 1) = some l[i] := prevC_next l i a
      simp [a, hd, hlen, hlt]
      refine Inv_intro (ok_l15Path k l[i].Path hx1 hx2) ?_
      simp
      cases c1 : isP l[i].Path with
      | false =>
        have hk : okLeaf l[i] = false := by simp [okLeaf, c1]
        rw [hk, Bool.false_and, Bool.false_and] at hg
        simp [goodC, ← hg]
      | true =>
        simp
        refine Inv_intro (ok_l15Word l[i].Value hx3) ?_
        simp
        cases c2 : isW l[i].Value with
        | false =>
          have hk : okLeaf l[i] = false := by simp [okLeaf, c2]
          rw [hk, Bool.false_and, Bool.false_and] at hg
          simp [goodC, ← hg]
        | true =>
          have hk : okLeaf l[i] = true := by simp [okLeaf, c1, c2]
          rw [hk, Bool.true_and] at hg
          simp
          by_cases c0 : i = 0
          · have e0 : ¬ 0 < i := by omega
            have ep : prevC l i = none := by simp [prevC, c0]
            rw [ep, adjC, Bool.true_and] at hg
            refine drawP (tabEnv [] _) [⟨[], allD 51, true⟩, ⟨[], allD 51, true⟩, ⟨[], allD 51, true⟩, ⟨[], allD 51, true⟩, ⟨[], allD 51, true⟩, ⟨[], allD 51, true⟩, ⟨[], allD 51, true⟩, ⟨[], allD 51, true⟩, ⟨[], allD 51, true⟩, ⟨[.op 3 3 0], allD 51, true⟩, ⟨[.op 3 3 0], allD 51, true⟩, ⟨[], allD 51, false⟩, ⟨[], allD 51, true⟩, ⟨[], allD 51, true⟩, ⟨[], allD 51, true⟩, ⟨[], allD 51, true⟩, ⟨[], allD 51, true⟩, ⟨[], allD 51, true⟩, ⟨[], allD 51, true⟩, ⟨[], allD 51, true⟩, ⟨[.op 3 3 0], allD 51, true⟩, ⟨[.op 3 3 0], allD 51, true⟩, ⟨[], allD 51, false⟩, ⟨[], allD 51, true⟩, ⟨[], allD 51, true⟩] h0 hm (tabEnv_ok tab_nil) (by kernel_rfl) (by kernel_rfl) ?_
            simp [e0]
            subst hI
            exact Less_mk (n - 1) (by omega) ⟨i + 1, by omega, by rw [en]; exact hg, by rw [wrNext i (by omega)]⟩
          · obtain ⟨j, hj⟩ : ∃ j, i = j + 1 := ⟨i - 1, by omega⟩
            have aj : j < l.length := by omega
            have ep : prevC l i = some l[j] := by subst hj; exact prevC_next l j aj
            obtain ⟨⟨hy1, hy2⟩, hy3⟩ := hlx l[j] (List.getElem_mem aj)
            have hdj := fm_drop (GLeaf.ci k) 2 (fun _ => rfl) l j aj
            have hltj : j * 2 < l.length * 2 := by omega
            have hw : IntKind.wrap .i64 ((i : Int) - 1) = j := (wrap64 (by omega) (by omega)).trans (by omega)
            have e0 : 0 < i := by omega
            rw [ep, adjC] at hg
            refine drawP (tabEnv [] _) [⟨[], allD 51, true⟩, ⟨[], allD 51, true⟩, ⟨[], allD 51, true⟩, ⟨[], allD 51, true⟩, ⟨[], allD 51, true⟩, ⟨[], allD 51, true⟩, ⟨[], allD 51, true⟩, ⟨[], allD 51, true⟩, ⟨[], allD 51, true⟩, ⟨[.op 3 3 0], allD 51, true⟩, ⟨[.op 3 3 0], allD 51, true⟩, ⟨[], allD 51, false⟩, ⟨[], allD 51, true⟩, ⟨[], allD 51, true⟩, ⟨[], allD 51, true⟩, ⟨[], allD 51, true⟩, ⟨[], allD 51, true⟩, ⟨[], allD 51, true⟩, ⟨[], allD 51, true⟩, ⟨[], allD 51, true⟩, ⟨[.op 3 3 0], allD 51, true⟩, ⟨[.op 3 3 0], allD 51, true⟩, ⟨[], allD 51, false⟩, ⟨[], allD 51, true⟩, ⟨[], allD 51, true⟩] h0 hm (tabEnv_ok (tab_cons (ok_l15Less k k l[j].Path l[i].Path hy1 hx1) (tab_cons (ok_l15Begins k k l[j].Path l[i].Path hy1 hx1) tab_nil))) (by kernel_rfl) (by kernel_rfl) ?_
            cases c3 : lessP l[j].Path l[i].Path with
            | false =>
              rw [c3, Bool.false_and, Bool.false_and] at hg
              simp [c3, e0, hw, aj, hdj, hlen, hltj, goodC, ← hg]
            | true =>
              cases c4 : begP l[j].Path l[i].Path with
              | true =>
                rw [c3, c4] at hg
                have hg' : false = goodG none l := hg
                simp [c3, c4, e0, hw, aj, hdj, hlen, hltj, goodC, ← hg']
              | false =>
                rw [c3, c4] at hg
                have hg' : goodG (some l[i]) (l.drop (i + 1)) = goodG none l := hg
                simp [c3, c4, e0, hw, aj, hdj, hlen, hltj]
                subst hI
                exact Less_mk (n - 1) (by omega) ⟨i + 1, by omega, by rw [en]; exact hg', by rw [wrNext i (by omega)]⟩
    · simp at a
      rw [List.drop_of_length_le (by omega)] at hg
      have hg' : true = goodG none l := by rw [← hg]; cases prevC l i <;> rfl
      simp [goodC, ← hg']
      omega
theorem strs_ok {p : List ByteArray} (h : wt_StringS p ≤ 1048576) : strsOK p := by
  have := len_wt_StringS p
  refine ⟨by omega, fun s hs => ?_⟩
  have := mem_wt_StringS hs
  omega
theorem leaf_ok {x : GLeaf} (h : GLeaf.wt x ≤ 1048576) : leafOK x := by
  unfold GLeaf.wt at h
  exact ⟨strs_ok (by omega), by omega⟩
theorem conf_ok {l : List GLeaf} (h : wt_LeafS l ≤ 1048576) : confOK l := by
  have := len_wt_LeafS l
  refine ⟨by omega, fun x hx => leaf_ok ?_⟩
  have := mem_wt_LeafS hx
  omega
theorem conf_len {l : List GLeaf} (h : wt_LeafS l ≤ 1048576) : l.length ≤ 1048576 ∧ ∀ x ∈ l, x.Path.length ≤ 1048576 := by
  have := len_wt_LeafS l
  refine ⟨by omega, fun x hx => ?_⟩
  have := mem_wt_LeafS hx
  have := len_wt_StringS x.Path
  unfold GLeaf.wt at *
  omega
def rGoodConfig (v0 : List GLeaf) : Bool := goodC v0
theorem law_iGoodConfig (v0 : List GLeaf) (h0 : wt_LeafS v0 ≤ 1048576) : CallOK Try.prog 81 [.c (rd 0 v0.length (v0.flatMap (GLeaf.ci 0)))] (.c (pb (rGoodConfig v0))) [.c (rd 0 v0.length (v0.flatMap (GLeaf.ci 0)))] := ok_iGoodConfig 0 v0 (conf_ok h0)
theorem law_sGoodConfig (v0 : List GLeaf) (h0 : wt_LeafS v0 ≤ 1048576) : CallOK Try.prog 78 [.c (rd 0 v0.length (v0.flatMap (GLeaf.ci 0)))] (.c (pb (rGoodConfig v0))) [.c (rd 0 v0.length (v0.flatMap (GLeaf.ci 0)))] := ok_sGoodConfig 0 v0 (conf_ok h0)
theorem idxOf_cases {α : Type} (p : α → Bool) (xs : List α) : (idxOf p xs = -1 ∧ xs.find? p = none) ∨ ∃ (i : Nat) (h : i < xs.length), idxOf p xs = i ∧ xs.find? p = some xs[i] := by
  unfold idxOf
  cases h : xs.findIdx? p with
  | none =>
    rw [List.findIdx?_eq_none_iff] at h
    exact .inl ⟨rfl, List.find?_eq_none.2 fun x hx => by simp [h x hx]⟩
  | some i =>
    rw [List.findIdx?_eq_some_iff_getElem] at h
    obtain ⟨h1, h2, h3⟩ := h
    exact .inr ⟨i, h1, rfl, List.find?_eq_some_iff_getElem.2 ⟨h2, i, h1, rfl, fun j hj => by simpa using h3 j hj⟩⟩
def atP (p : List ByteArray) (x : GLeaf) : Bool := decide (x.Path = p)
theorem ok_find1 (q k k' : Nat) (x : GLeaf) (p : List ByteArray) (hx : x.Path.length ≤ 140737488351232) (hp : p.length ≤ 140737488351232) : CallOK Try.prog 159 [.agg (GLeaf.ci k x), .ip q [rd k' p.length (p.map ps)]] (.c (pb (atP p x))) [.agg (GLeaf.ci k x), .ip q [rd k' p.length (p.map ps)]] := by
  refine okS (fn := Try.f159) [] h0 Try.func159 (by kernel_rfl) rfl Try.ntmps159 Try.results159 (by simp) ?_
  simp
  refine Inv_intro (ok_EqualS k k' x.Path p hx hp) ?_
  simp [atP]
theorem ok_find (k k' : Nat) (l : List GLeaf) (p : List ByteArray) (hl : confOK l) (hp : p.length ≤ 140737488351232) : CallOK Try.prog 128 [.c (rd k l.length (l.flatMap (GLeaf.ci k))), .c (rd k' p.length (p.map ps))] (.c (pi (idxOf (atP p) l))) [.c (rd k l.length (l.flatMap (GLeaf.ci k))), .c (rd k' p.length (p.map ps))] := by
  refine okS (fn := Try.f128) [] h0 Try.func128 (by kernel_rfl) rfl Try.ntmps128 Try.results128 (by simp) ?_
  simp
  refine Inv_intro (ok_IndexFunc_Leaf k 1 159 [[rd 0 p.length (p.map ps)]] (atP p) l hl.1 (fun x hx => ok_find1 1 k 0 x p (hl.2 x hx).1.1 hp)) ?_
  simp
theorem fmap_snoc {α β : Type} (f : α → Bool) (g : α → β) (l : List α) (i : Nat) (h : i < l.length) : ((l.take (i + 1)).filter f).map g = ((l.take i).filter f).map g ++ (if f l[i] = true then [g l[i]] else []) := by
  rw [take_step l i h, List.filter_append, List.map_append]
  congr 1
  by_cases hb : f l[i] = true <;> simp [hb]
theorem fmap_len {α β : Type} (f : α → Bool) (g : α → β) (l : List α) : ((l.filter f).map g).length ≤ l.length := by
  rw [List.length_map]
  exact List.length_filter_le _ _
def goneC (b : List GLeaf) (x : GLeaf) : Bool := (b.find? (atP x.Path)).isNone
def delCo (x : GLeaf) : GCommand := ⟨false, x.Path, ByteArray.empty⟩
def freshC (a : List GLeaf) (x : GLeaf) : Bool := match a.find? (atP x.Path) with
  | some y => !decide (y.Value = x.Value)
  | none => true
def setCo (x : GLeaf) : GCommand := ⟨true, x.Path, x.Value⟩
def diffL (a b : List GLeaf) : List GCommand := (a.filter (goneC b)).map delCo ++ (b.filter (freshC a)).map setCo
theorem ok_diffOf (k k' : Nat) (a b : List GLeaf) (ha : a.length ≤ 1048576) (hax : ∀ x ∈ a, x.Path.length ≤ 1048576) (hb : b.length ≤ 1048576) (hbx : ∀ x ∈ b, x.Path.length ≤ 1048576) (hao : confOK a) (hbo : confOK b) : CallOK Try.prog 92 [.c (rd k a.length (a.flatMap (GLeaf.ci k))), .c (rd k' b.length (b.flatMap (GLeaf.ci k')))] (.c (.sl 0 28 (diffL a b).length ((diffL a b).flatMap GCommand.co))) [.c (rd k a.length (a.flatMap (GLeaf.ci k))), .c (rd k' b.length (b.flatMap (GLeaf.ci k')))] := by
  refine okS (fn := Try.f92) [] h0 Try.func92 (by kernel_rfl) rfl Try.ntmps92 Try.results92 (by simp) ?_
  simp
  refine ewp_sw (.op 1 0 0) (.op 6 6 0) rfl rfl ?_
  simp
  refine loopS [0, 1, 5, 12, 13, 14] [.op 6 6 0] (fun n st => ∃ (i : Nat), i + n = a.length ∧ st = ⟨slOf 64 [(0, .t (rd k a.length (a.flatMap (GLeaf.ci k)))), (1, .t (rd k' b.length (b.flatMap (GLeaf.ci k')))), (5, .ref ⟨.op 6 6 0, []⟩ 0 (((a.take i).filter (goneC b)).map delCo).length), (12, .t (rd k a.length (a.flatMap (GLeaf.ci k)))), (13, .t (pi a.length)), (14, .t (pi i))], ofL [(.op 6 6 0, .sl 0 28 (((a.take i).filter (goneC b)).map delCo).length ((((a.take i).filter (goneC b)).map delCo).flatMap GCommand.co))]⟩) a.length ?_ ?_
  · rintro Inv hI
    simp
    subst hI
    exact ⟨0, by omega, by simp⟩
  · rintro Inv hI n st ⟨i, hi, rfl⟩
    have hO : (((a.take i).filter (goneC b)).map delCo).length ≤ i := Nat.le_trans (fmap_len _ _ _) (by simp; omega)
    have hS := fmap_snoc (goneC b) delCo a i
    generalize hOe : ((a.take i).filter (goneC b)).map delCo = O at hO hS ⊢
    have hA := fm_len GCommand.co 3 (fun _ => rfl) O
    have hAm : ∀ y, (O ++ [y]).flatMap GCommand.co = O.flatMap GCommand.co ++ GCommand.co y := fun y => by simp
    generalize hAe : O.flatMap GCommand.co = A at hA hAm ⊢
    refine ewr_sound (M := []) h0 ?_
    simp
    refine brn_app (fun c => ?_) (fun c => ?_)
    · simp at c
      have hd := fm_drop (GLeaf.ci k) 2 (fun _ => rfl) a i c
      have hlen := fm_len (GLeaf.ci k) 2 (fun _ => rfl) a
      have hlt : i * 2 < a.length * 2 := by omega
      have hp1 := hax _ (List.getElem_mem c)
      have hS' := hS c
      have hb1 : (O.length + 1) * 48 ≤ 140737488355328 := by omega
      have hb2 : O.length ≤ 9223372036854775806 := by omega
      have ht : A.take (O.length * 3) = A := List.take_of_length_le (by omega)
      simp [c, hd, hlen, hlt]
      refine Inv_intro (ok_find k' k b a[i].Path hbo (by omega)) ?_
      simp
      have hc2 := idxOf_cases (atP a[i].Path) b
      refine brn_app (fun d => ?_) (fun d => ?_)
      · simp at d
        have hg : goneC b a[i] = true := by
          rcases hc2 with ⟨e1, e2⟩ | ⟨j, hj, e1, e2⟩
          · simp only [goneC, e2, Option.isNone_none]
          · omega
        simp
        refine Inv_intro (ok_Clone_String k a[i].Path hp1) ?_
        simp [hA, hb1, hb2, ht]
        rw [hg] at hS'
        subst hI
        refine Less_mk (n - 1) (by omega) ⟨i + 1, by omega, ?_⟩
        rw [wrNext i (by omega), hS']
        simp [hAm, hAe, delCo]
      · simp at d
        have hg : goneC b a[i] = false := by
          rcases hc2 with ⟨e1, e2⟩ | ⟨j, hj, e1, e2⟩
          · omega
          · simp only [goneC, e2, Option.isNone_some]
        simp
        rw [hg] at hS'
        subst hI
        refine Less_mk (n - 1) (by omega) ⟨i + 1, by omega, ?_⟩
        rw [wrNext i (by omega), hS']
        simp [hAe]
    · simp at c
      have ht : List.take i a = a := List.take_of_length_le (by omega)
      rw [ht] at hOe
      simp
      refine ewp_sw (.op 6 6 0) (.op 13 8 0) rfl rfl ?_
      simp
      refine loopS [0, 5, 31, 32, 33] [.op 13 8 0] (fun n st => ∃ (i : Nat), i + n = b.length ∧ st = ⟨slOf 64 [(0, .t (rd k a.length (a.flatMap (GLeaf.ci k)))), (5, .ref ⟨.op 13 8 0, []⟩ 0 (O.length + (((b.take i).filter (freshC a)).map setCo).length)), (31, .t (rd k' b.length (b.flatMap (GLeaf.ci k')))), (32, .t (pi b.length)), (33, .t (pi i))], ofL [(.op 13 8 0, .sl 0 28 (O.length + (((b.take i).filter (freshC a)).map setCo).length) (A ++ (((b.take i).filter (freshC a)).map setCo).flatMap GCommand.co))]⟩) b.length ?_ ?_
      · rintro Inv hI
        simp
        subst hI
        exact ⟨0, by omega, by simp⟩
      · rintro Inv hI n st ⟨i, hi, rfl⟩
        have hO2 : (((b.take i).filter (freshC a)).map setCo).length ≤ i := Nat.le_trans (fmap_len _ _ _) (by simp; omega)
        have hS2 := fmap_snoc (freshC a) setCo b i
        generalize hOe2 : ((b.take i).filter (freshC a)).map setCo = O2 at hO2 hS2 ⊢
        have hA2 := fm_len GCommand.co 3 (fun _ => rfl) O2
        have hAm2 : ∀ y, (O2 ++ [y]).flatMap GCommand.co = O2.flatMap GCommand.co ++ GCommand.co y := fun y => by simp
        generalize hAe2 : O2.flatMap GCommand.co = A2 at hA2 hAm2 ⊢
        have hAA : (A ++ A2).length = (O.length + O2.length) * 3 := by simp [hA, hA2]; omega
        generalize hAX : A ++ A2 = X at hAA ⊢
        refine ewr_sound (M := []) h0 ?_
        simp
        refine brn_app (fun c2 => ?_) (fun c2 => ?_)
        · simp at c2
          have hd := fm_drop (GLeaf.ci k') 2 (fun _ => rfl) b i c2
          have hlen := fm_len (GLeaf.ci k') 2 (fun _ => rfl) b
          have hlt : i * 2 < b.length * 2 := by omega
          have hp1 := hbx _ (List.getElem_mem c2)
          have hS' := hS2 c2
          have hb1 : (O.length + O2.length + 1) * 48 ≤ 140737488355328 := by omega
          have hb2 : O.length + O2.length ≤ 9223372036854775806 := by omega
          have ht2 : X.take ((O.length + O2.length) * 3) = X := List.take_of_length_le (by omega)
          have next : ∀ B : Bool, freshC a b[i] = B → ∀ X' m, X' = X ++ (if B = true then GCommand.co (setCo b[i]) else []) → m = O.length + O2.length + (if B = true then 1 else 0) → Less Inv n ⟨slOf 64 [(0, .t (rd k a.length (a.flatMap (GLeaf.ci k)))), (5, .ref ⟨.op 13 8 0, []⟩ 0 m), (31, .t (rd k' b.length (b.flatMap (GLeaf.ci k')))), (32, .t (pi b.length)), (33, .t (pi (IntKind.wrap .i64 ((i : Int) + 1))))], ofL [(.op 13 8 0, .sl 0 28 m X')]⟩ := by
            rintro B hB X' m rfl rfl
            rw [hB] at hS'
            subst hI
            refine Less_mk (n - 1) (by omega) ⟨i + 1, by omega, ?_⟩
            rw [wrNext i (by omega), hS', ← hAX]
            cases B <;> simp [hAm2, hAe2, Nat.add_assoc]
          simp [c2, hd, hlen, hlt]
          refine Inv_intro (ok_find k k' a b[i].Path hao (by omega)) ?_
          simp
          rcases idxOf_cases (atP b[i].Path) a with ⟨e1, e2⟩ | ⟨j, hj, e1, e2⟩
          · refine drawP (tabEnv [] _) [⟨[], allD 64, true⟩, ⟨[], allD 64, true⟩, ⟨[], allD 64, true⟩, ⟨[], allD 64, true⟩, ⟨[], allD 64, true⟩, ⟨[], allD 64, true⟩, ⟨[], allD 64, true⟩, ⟨[], allD 64, true⟩, ⟨[.op 10 2 0], allD 64, true⟩, ⟨[.op 10 2 0], allD 64, true⟩, ⟨[], allD 64, true⟩, ⟨[], allD 64, true⟩] h0 hm (tabEnv_ok tab_nil) (by kernel_rfl) (by kernel_rfl) ?_
            simp [e1]
            have hB : freshC a b[i] = true := by simp only [freshC, e2]
            refine drawP (tabEnv [] _) [⟨[.op 13 8 0], allD 64, true⟩, ⟨[.op 10 2 0], allD 64, true⟩, ⟨[.op 10 2 0], allD 64, true⟩, ⟨[], allD 64, false⟩, ⟨[.op 10 2 0], allD 64, true⟩, ⟨[.op 10 2 0], allD 64, true⟩, ⟨[.op 13 3 0], allD 64, true⟩, ⟨[.op 13 3 0, .op 13 6 0], [53, 54, 55, 56, 57, 58, 59, 60, 61, 5], false⟩, ⟨[.op 13 8 0, .op 13 7 0], [53, 54, 55, 56, 57, 58, 59, 60, 61, 5], false⟩, ⟨[.op 13 8 0], allD 64, true⟩] h0 hm (tabEnv_ok (tab_cons (ok_Clone_String k' b[i].Path hp1) tab_nil)) (by kernel_rfl) (by kernel_rfl) ?_
            simp [hAA, hb1, hb2, ht2]
            exact next true hB _ _ (by simp [setCo]) rfl
          · have hdj := fm_drop (GLeaf.ci k) 2 (fun _ => rfl) a j hj
            have hlenj := fm_len (GLeaf.ci k) 2 (fun _ => rfl) a
            have hltj : j * 2 < a.length * 2 := by omega
            have hn : ¬ (j : Int) < 0 := by omega
            refine drawP (tabEnv [] _) [⟨[], allD 64, true⟩, ⟨[], allD 64, true⟩, ⟨[], allD 64, true⟩, ⟨[], allD 64, true⟩, ⟨[], allD 64, true⟩, ⟨[], allD 64, true⟩, ⟨[], allD 64, true⟩, ⟨[], allD 64, true⟩, ⟨[.op 10 2 0], allD 64, true⟩, ⟨[.op 10 2 0], allD 64, true⟩, ⟨[], allD 64, true⟩, ⟨[], allD 64, true⟩] h0 hm (tabEnv_ok tab_nil) (by kernel_rfl) (by kernel_rfl) ?_
            simp [e1, hn, hj, hdj, hlenj, hltj]
            refine brn_app (fun d => ?_) (fun d => ?_)
            · simp at d
              simp
              have hB : freshC a b[i] = true := by simp only [freshC, e2]; simp [d]
              refine drawP (tabEnv [] _) [⟨[.op 13 8 0], allD 64, true⟩, ⟨[.op 10 2 0], allD 64, true⟩, ⟨[.op 10 2 0], allD 64, true⟩, ⟨[], allD 64, false⟩, ⟨[.op 10 2 0], allD 64, true⟩, ⟨[.op 10 2 0], allD 64, true⟩, ⟨[.op 13 3 0], allD 64, true⟩, ⟨[.op 13 3 0, .op 13 6 0], [53, 54, 55, 56, 57, 58, 59, 60, 61, 5], false⟩, ⟨[.op 13 8 0, .op 13 7 0], [53, 54, 55, 56, 57, 58, 59, 60, 61, 5], false⟩, ⟨[.op 13 8 0], allD 64, true⟩] h0 hm (tabEnv_ok (tab_cons (ok_Clone_String k' b[i].Path hp1) tab_nil)) (by kernel_rfl) (by kernel_rfl) ?_
              simp [hAA, hb1, hb2, ht2]
              exact next true hB _ _ (by simp [setCo]) rfl
            · simp at d
              simp
              exact next false (by simp only [freshC, e2]; simp [d]) _ _ (by simp) rfl
        · simp at c2
          have ht : List.take i b = b := List.take_of_length_le (by omega)
          rw [ht] at hOe2
          have hD : diffL a b = O ++ O2 := by rw [diffL, hOe, hOe2]
          have hX' : (diffL a b).flatMap GCommand.co = X := by rw [hD, List.flatMap_append, hAe, hAe2, hAX]
          have hm' : (diffL a b).length = O.length + O2.length := by rw [hD, List.length_append]
          have htX : X.take ((O.length + O2.length) * 3) = X := List.take_of_length_le (by omega)
          rw [hX', hm']
          simp [hAA, htX]
end Go.V
