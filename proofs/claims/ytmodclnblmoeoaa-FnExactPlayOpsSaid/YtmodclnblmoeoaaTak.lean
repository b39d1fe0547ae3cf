/- What functions of the seat's program do, each proved of its code, under the bounds that its theorem names. -/
import Derived.Test.YtmodclnblmoeoaaTaj
set_option linter.all false
namespace Go.V
open Go.Proofs
set_option maxHeartbeats 1000000
set_option maxRecDepth 10000
set_option linter.unusedSimpArgs false
set_option linter.unusedVariables false
theorem keptL_len (p : List ByteArray) (l : List GLeaf) : (keptL p l).length ≤ l.length := List.length_filter_le _ _
theorem keptL_snoc (p : List ByteArray) (l : List GLeaf) (i : Nat) (h : i < l.length) : keptL p (l.take (i + 1)) = keptL p (l.take i) ++ (if clashB p l[i] = true then [] else [l[i]]) := by
  unfold keptL
  rw [take_step l i h, List.filter_append]
  by_cases hb : clashB p l[i] = true <;> simp [hb]
theorem ok_sSetAt (k k' : Nat) (l : List GLeaf) (p : List ByteArray) (v : ByteArray) (hl : l.length ≤ 1048576) (hx : ∀ x ∈ l, x.Path.length ≤ 1048576) (hlo : confOK l) (hp : strsOK p) (hp1 : p.length ≤ 1048576) (hv : v.size ≤ 140737488355328) : CallOK Try.prog 46 [.c (rd k l.length (l.flatMap (GLeaf.ci k))), .c (rd k' p.length (p.map ps)), .c (ps v)] (.tup [.c (.sl 0 103 (rSetAt l p v).1.length ((rSetAt l p v).1.flatMap GLeaf.co)), .c (pb (rSetAt l p v).2)]) [.c (rd k l.length (l.flatMap (GLeaf.ci k))), .c (rd k' p.length (p.map ps)), .c (ps v)] := by
  refine okS (fn := Try.f46) [(103, [2,2])] h0 Try.func46 (by kernel_rfl) rfl Try.ntmps46 Try.results46 (by simp) ?_
  simp
  refine Inv_intro (ok_sGoodConfig k l hlo) ?_
  simp
  cases c1 : goodC l with
  | false => simp [rSetAt, c1]
  | true =>
    simp
    refine Inv_intro (ok_l15Path k' p hp.1 hp.2) ?_
    simp
    cases c2 : isP p with
    | false => simp [rSetAt, c2]
    | true =>
      simp
      refine Inv_intro (ok_l15Word v hv) ?_
      simp
      cases c3 : isW v with
      | false => simp [rSetAt, c3]
      | true =>
        simp
        refine Inv_intro (ok_l15Own k l hl hx) ?_
        simp
        refine ewp_nil 8 (.op 8 3 0) 103 (by decide) rfl rfl rfl ?_
        refine loopS [1, 2, 8, 25, 26, 27] [.op 8 3 0, .op 4 1 0] (fun n st => ∃ (i : Nat) (C : List PT), i + n = l.length ∧ C.length = l.length * 2 ∧ C.drop (i * 2) = (l.drop i).flatMap GLeaf.co ∧ st = ⟨slOf 59 [(1, .t (rd k' p.length (p.map ps))), (2, .t (ps v)), (8, .ref ⟨.op 8 3 0, []⟩ 0 (keptL p (l.take i)).length), (25, .ref ⟨.op 4 1 0, []⟩ 0 l.length), (26, .t (pi l.length)), (27, .t (pi i))], ofL [(.op 8 3 0, .sl 0 103 (keptL p (l.take i)).length ((keptL p (l.take i)).flatMap GLeaf.co)), (.op 4 1 0, .sl 0 103 l.length C)]⟩) l.length ?_ ?_
        · rintro Inv hI
          simp
          subst hI
          exact ⟨0, l.flatMap GLeaf.co, by omega, fm_len GLeaf.co 2 (fun _ => rfl) l, rfl, rfl⟩
        · rintro Inv hI n st ⟨i, C, hi, hCl, hCd0, rfl⟩
          have hO : (keptL p (l.take i)).length ≤ i := Nat.le_trans (keptL_len _ _) (by simp; omega)
          have hS := keptL_snoc p l i
          have hfin : i = l.length → keptL p (l.take i) = keptL p l := by rintro rfl; rw [List.take_length]
          generalize hOe : keptL p (l.take i) = O at hO hS hfin ⊢
          have hA := fm_len GLeaf.co 2 (fun _ => rfl) O
          have hAm : ∀ y, (O ++ [y]).flatMap GLeaf.co = O.flatMap GLeaf.co ++ GLeaf.co y := fun y => by simp
          refine ewr_sound (M := [(103, [2, 2])]) h0 ?_
          simp
          refine brn_app (fun a => ?_) (fun a => ?_)
          · simp at a
            have hS' := hS a
            have hCd : C.drop (i * 2) = .sl 0 9 l[i].Path.length (l[i].Path.map ps) :: ps l[i].Value :: (l.drop (i + 1)).flatMap GLeaf.co := by
              rw [hCd0, drop_step _ i a, List.flatMap_cons]
              rfl
            have hCg : ∀ h : i * 2 < C.length, C[i * 2] = .sl 0 9 l[i].Path.length (l[i].Path.map ps) := by
              intro h
              rw [List.drop_eq_getElem_cons h] at hCd
              exact (List.cons.inj hCd).1
            have hCn : C.drop ((i + 1) * 2) = (l.drop (i + 1)).flatMap GLeaf.co := by
              have : (i + 1) * 2 = i * 2 + 2 := by omega
              rw [this, ← List.drop_drop, hCd]
              rfl
            have hb : i * 2 + 2 ≤ l.length * 2 := by omega
            have hp1 := hx _ (List.getElem_mem a)
            simp [a, hCl, hCd, hCg, hb]
            refine Inv_intro (ok_l15Begins 0 k' l[i].Path p (by omega) hp.1) ?_
            cases b1 : begP l[i].Path p with
            | true =>
              have hb : clashB p l[i] = true := by simp [clashB, b1]
              rw [if_pos hb, List.append_nil] at hS'
              simp
              subst hI
              refine Less_mk (n - 1) (by omega) ⟨i + 1, C.set (i * 2) .hole, by omega, by rw [List.length_set]; exact hCl, by rw [set_drop C _ _ _ (by omega), hCn], ?_⟩
              rw [hS', wrNext i (by omega)]
            | false =>
              simp
              refine Inv_intro (ok_l15Begins k' 0 p l[i].Path hp.1 (by omega)) ?_
              cases b2 : begP p l[i].Path with
              | true =>
                have hb : clashB p l[i] = true := by simp [clashB, b2]
                rw [if_pos hb, List.append_nil] at hS'
                simp
                subst hI
                refine Less_mk (n - 1) (by omega) ⟨i + 1, C.set (i * 2) .hole, by omega, by rw [List.length_set]; exact hCl, by rw [set_drop C _ _ _ (by omega), hCn], ?_⟩
                rw [hS', wrNext i (by omega)]
              | false =>
                have hb : ¬ clashB p l[i] = true := by simp [clashB, b1, b2]
                rw [if_neg hb] at hS'
                generalize hAe : O.flatMap GLeaf.co = A at hA hAm ⊢
                have ht : A.take (O.length * 2) = A := List.take_of_length_le (by omega)
                have hb1 : (O.length + 1) * 40 ≤ 140737488355328 := by omega
                have hb2 : O.length + 1 ≤ 9223372036854775807 := by omega
                simp [hA, ht, hb1, hb2]
                subst hI
                refine Less_mk (n - 1) (by omega) ⟨i + 1, C.set (i * 2) .hole, by omega, by rw [List.length_set]; exact hCl, by rw [set_drop C _ _ _ (by omega), hCn], ?_⟩
                rw [hS', wrNext i (by omega), hAm, List.length_append]
                rfl
          · simp at a
            have hin : i = l.length := by omega
            have hfin := hfin hin
            have hOl : O.length ≤ l.length := by omega
            subst hfin
            have ht : ((keptL p l).flatMap GLeaf.co).take ((keptL p l).length * 2) = (keptL p l).flatMap GLeaf.co := List.take_of_length_le (by omega)
            have hpe : ¬ p = [] := by
              rintro rfl
              simp [isP] at c2
            have hq1 : p.length * 16 ≤ 140737488355328 := by omega
            have hq2 : p.length ≤ 9223372036854775807 := by omega
            have hput := ok_l15Put (keptL p l) ⟨p, v⟩ (kept_conf hlo) (by omega) hp.1
            have hsl : putL p v (keptL p l) = setC p v l := rfl
            rw [hsl] at hput
            have hso := set_conf (p := p) (v := v) hlo hl hp hv
            simp [hpe, hq1, hq2, hA, ht]
            refine Inv_intro hput ?_
            simp
            refine Inv_intro (ok_sGoodConfig 0 (setC p v l) hso) ?_
            simp
            cases c4 : goodC (setC p v l) with
            | false => simp [rSetAt, c4]
            | true =>
              have er : rSetAt l p v = (setC p v l, true) := by simp [rSetAt, c1, c2, c3, c4]
              rw [er]
              simp
def stepSp (s : GStore) (o : GOp) : GStore × Bool :=
  if l16OpB o = false then (s, false)
  else if o.Kind = 1 then (⟨(rSetAt s.Candidate o.Path o.Value).1, s.Running, s.History, s.Left⟩, (rSetAt s.Candidate o.Path o.Value).2)
  else if o.Kind = 2 then (⟨(rDeleteAt s.Candidate o.Path).1, s.Running, s.History, s.Left⟩, (rDeleteAt s.Candidate o.Path).2)
  else if o.Kind = 3 then (confirmS ⟨s.Candidate, s.Candidate, s.History, s.Left⟩, true)
  else if o.Kind = 4 then (⟨s.Candidate, s.Candidate, s.History, if s.Candidate = s.History.headD [] then 0 else o.N⟩, true)
  else if o.Kind = 5 then (if s.Left = 0 then (s, false) else (confirmS s, true))
  else if o.Kind = 6 then (if (s.History.length : Int) ≤ o.N then (s, false) else (⟨s.History.getD o.N.toNat [], s.Running, s.History, s.Left⟩, true))
  else if o.Kind = 7 then (⟨s.Running, s.Running, s.History, s.Left⟩, true)
  else (if s.Left = 0 then (s, false) else (⟨s.Candidate, (if s.Left - 1 = 0 then s.History.headD [] else s.Running), s.History, s.Left - 1⟩, true))
theorem ok_l16Step (k' : Nat) (s : GStore) (o : GOp) (hs : storeB s) (hh : s.History ≠ []) (hF : 0 ≤ s.Left ∧ s.Left ≤ 100) (hl : s.History.length ≤ 10) (ho : opOK o) : CallOK Try.prog 110 [.agg s.co, .agg (GOp.ci k' o)] (.tup [.agg (stepSp s o).1.co, .c (pb (stepSp s o).2)]) [.agg [.hole, .hole, .hole, pi s.Left], .agg (GOp.ci k' o)] := by
  have hop := ok_l16Op k' o ho
  have hcf := ok_l16Confirm s hs hh
  obtain ⟨b1, b2, b3, b4⟩ := hs
  obtain ⟨o1, o2, o3⟩ := ho
  have hcf3 := ok_l16Confirm ⟨s.Candidate, s.Candidate, s.History, s.Left⟩ ⟨b1, b1, b3, b4⟩ hh
  obtain ⟨C, R, H, F⟩ := s
  obtain ⟨K, Pa, V, N⟩ := o
  simp only at b1 b2 b3 b4 hh hF hl o1 o2 o3 hop hcf hcf3
  obtain ⟨h0', H', rfl⟩ : ∃ x H', H = x :: H' := by
    cases H with
    | nil => exact absurd rfl hh
    | cons x H' => exact ⟨x, H', rfl⟩
  have hb := b4 h0' (List.mem_cons_self ..)
  simp only [List.length_cons] at b3 hl
  have w1 : IntKind.i64.wrap (F - 1) = F - 1 := wrap64 (by omega) (by omega)
  refine okS (fn := Try.f110) [(148, [2])] h0 Try.func110 (by kernel_rfl) rfl Try.ntmps110 Try.results110 (by simp) ?_
  simp
  refine Inv_intro hop ?_
  simp
  cases c0 : l16OpB ⟨K, Pa, V, N⟩ with
  | false =>
    have e : stepSp ⟨C, R, h0' :: H', F⟩ ⟨K, Pa, V, N⟩ = (⟨C, R, h0' :: H', F⟩, false) := by simp only [stepSp, c0]; simp
    rw [e]
    simp
  | true =>
    simp
    by_cases k1 : K = 1
    · have e : stepSp ⟨C, R, h0' :: H', F⟩ ⟨K, Pa, V, N⟩ = (⟨(rSetAt C Pa V).1, R, h0' :: H', F⟩, (rSetAt C Pa V).2) := by simp only [stepSp, c0]; simp [k1]
      rw [e]
      simp [k1]
      refine Inv_intro (ok_sSetAt 0 k' C Pa V b1.1 (fun x hx => (b1.2 x hx).1) (boundC_conf b1) o1 o2 o3) ?_
      simp
    · by_cases k2 : K = 2
      · have e : stepSp ⟨C, R, h0' :: H', F⟩ ⟨K, Pa, V, N⟩ = (⟨(rDeleteAt C Pa).1, R, h0' :: H', F⟩, (rDeleteAt C Pa).2) := by simp only [stepSp, c0]; simp [k1, k2]
        rw [e]
        simp [k1, k2]
        refine Inv_intro (ok_sDeleteAt 0 k' C Pa b1.1 (fun x hx => (b1.2 x hx).1) (boundC_conf b1) o1) ?_
        simp
      · by_cases k3 : K = 3
        · have e : stepSp ⟨C, R, h0' :: H', F⟩ ⟨K, Pa, V, N⟩ = (confirmS ⟨C, C, h0' :: H', F⟩, true) := by simp only [stepSp, c0]; simp [k3]
          rw [e]
          simp [k1, k2, k3]
          refine Inv_intro (ok_l15Own 0 C b1.1 (fun x hx => (b1.2 x hx).1)) ?_
          simp
          refine Inv_intro hcf3 ?_
          simp
        · by_cases k4 : K = 4
          · have e : stepSp ⟨C, R, h0' :: H', F⟩ ⟨K, Pa, V, N⟩ = (⟨C, C, h0' :: H', if C = h0' then 0 else N⟩, true) := by simp only [stepSp, c0]; simp [k4]
            rw [e]
            simp [k1, k2, k3, k4]
            refine Inv_intro (ok_l15Own 0 C b1.1 (fun x hx => (b1.2 x hx).1)) ?_
            simp
            refine drawP (tabEnv [] _) [⟨[.op 0 0 0], allD 123, true⟩, ⟨[.op 0 0 0], allD 123, true⟩, ⟨[.op 0 0 0], allD 123, true⟩, ⟨[.op 0 0 0], allD 123, true⟩, ⟨[.op 0 0 0], allD 123, true⟩, ⟨[.op 0 0 0], allD 123, true⟩, ⟨[.op 0 0 0], [63, 64, 65, 66, 67, 68, 69], false⟩] h0 hm (tabEnv_ok (tab_cons (ok_l16Same 0 0 C h0' (boundC_conf b1) (boundC_conf hb)) tab_nil)) (by kernel_rfl) (by kernel_rfl) ?_
            simp
            by_cases c : C = h0'
            · simp [c]
            · simp [c]
          · by_cases k5 : K = 5
            · by_cases c : F = 0
              · have e : stepSp ⟨C, R, h0' :: H', F⟩ ⟨K, Pa, V, N⟩ = (⟨C, R, h0' :: H', F⟩, false) := by simp only [stepSp, c0]; simp [k5, c]
                rw [e]
                simp [k1, k2, k3, k4, k5, c]
              · have e : stepSp ⟨C, R, h0' :: H', F⟩ ⟨K, Pa, V, N⟩ = (confirmS ⟨C, R, h0' :: H', F⟩, true) := by simp only [stepSp, c0]; simp [k5, c]
                rw [e]
                simp [k1, k2, k3, k4, k5, c]
                refine Inv_intro hcf ?_
                simp
            · by_cases k6 : K = 6
              · have hN9 : 0 ≤ N := by
                  simp [l16OpB, k6] at c0
                  omega
                by_cases c : (H'.length : Int) + 1 ≤ N
                · have e : stepSp ⟨C, R, h0' :: H', F⟩ ⟨K, Pa, V, N⟩ = (⟨C, R, h0' :: H', F⟩, false) := by
                    have c' : ((h0' :: H').length : Int) ≤ N := by rw [List.length_cons]; omega
                    simp only [stepSp, c0]
                    simp only [k6, c', if_true]
                    simp
                  rw [e]
                  simp [k1, k2, k3, k4, k5, k6, c]
                · have hN : N.toNat < (h0' :: H').length := by rw [List.length_cons]; omega
                  have hbN := b4 _ (List.getElem_mem hN)
                  have e : stepSp ⟨C, R, h0' :: H', F⟩ ⟨K, Pa, V, N⟩ = (⟨(h0' :: H')[N.toNat], R, h0' :: H', F⟩, true) := by
                    have c' : ¬ ((h0' :: H').length : Int) ≤ N := by rw [List.length_cons]; omega
                    simp only [stepSp, c0]
                    simp only [k6, c', if_false, List.getD_eq_getElem?_getD, List.getElem?_eq_getElem hN, Option.getD_some]
                    simp
                  rw [e]
                  have hNl : N < (H'.length : Int) + 1 := by omega
                  have hd : ∀ h : N.toNat < (cLeafSo h0' :: List.map cLeafSo H').length, (cLeafSo h0' :: List.map cLeafSo H')[N.toNat]'h = cLeafSo (h0' :: H')[N.toNat] := fun h => List.getElem_map (l := h0' :: H') cLeafSo
                  generalize (h0' :: H')[N.toNat] = x at hbN hd ⊢
                  simp [k1, k2, k3, k4, k5, k6, c, hN9, hNl, hd]
                  refine Inv_intro (ok_l15Own 0 x hbN.1 (fun y hy => (hbN.2 y hy).1)) ?_
                  simp
              · by_cases k7 : K = 7
                · have e : stepSp ⟨C, R, h0' :: H', F⟩ ⟨K, Pa, V, N⟩ = (⟨R, R, h0' :: H', F⟩, true) := by simp only [stepSp, c0]; simp [k7]
                  rw [e]
                  simp [k1, k2, k3, k4, k5, k6, k7]
                  refine Inv_intro (ok_l15Own 0 R b2.1 (fun x hx => (b2.2 x hx).1)) ?_
                  simp
                · by_cases c : F = 0
                  · have e : stepSp ⟨C, R, h0' :: H', F⟩ ⟨K, Pa, V, N⟩ = (⟨C, R, h0' :: H', F⟩, false) := by simp only [stepSp, c0]; simp [k1, k2, k3, k4, k5, k6, k7, c]
                    rw [e]
                    simp [k1, k2, k3, k4, k5, k6, k7, c]
                  · have e : stepSp ⟨C, R, h0' :: H', F⟩ ⟨K, Pa, V, N⟩ = (⟨C, (if F - 1 = 0 then h0' else R), h0' :: H', F - 1⟩, true) := by simp only [stepSp, c0]; simp [k1, k2, k3, k4, k5, k6, k7, c]
                    rw [e]
                    simp [k1, k2, k3, k4, k5, k6, k7, w1, c]
                    by_cases c1 : F - 1 = 0
                    · simp [c1]
                      refine Inv_intro (ok_l15Own 0 h0' hb.1 (fun x hx => (hb.2 x hx).1)) ?_
                      simp
                    · simp [c1]
theorem wtR_leC {α : Type} (f : α → Nat) (b : Nat) : ∀ l : List α, (∀ x ∈ l, f x ≤ b) → wtR f l ≤ l.length * (b + 1)
  | [], _ => by simp [wtR]
  | x :: l, h => by
    have ih := wtR_leC f b l fun y hy => h y (by simp [hy])
    have hx := h x (by simp)
    simp only [wtR, List.map_cons, List.sum_cons, List.length_cons] at ih ⊢
    rw [Nat.succ_mul]
    omega
theorem isW_size {w : ByteArray} (h : isW w = true) : w.size ≤ 8 := by
  simp only [isW, Bool.and_eq_true, decide_eq_true_eq] at h
  omega
def smC (l : List GLeaf) : Prop := l.length ≤ 30 ∧ ∀ x ∈ l, okLeaf x = true
theorem goodC_sm {l : List GLeaf} (h : goodC l = true) : smC l := by
  refine ⟨?_, goodC_all h⟩
  simp only [goodC, Bool.and_eq_true, decide_eq_true_eq] at h
  exact h.2
theorem smC_wt {l : List GLeaf} (h : smC l) : wt_LeafS l ≤ 2000 := by
  have hl := h.1
  have h1 : wtR GLeaf.wt l ≤ l.length * (53 + 1) := by
    refine wtR_leC GLeaf.wt 53 l fun x hx => ?_
    have ho := h.2 x hx
    simp only [okLeaf, Bool.and_eq_true, isP, decide_eq_true_eq] at ho
    obtain ⟨⟨h2, h3⟩, h4⟩ := ho
    have h5 := isW_size h4
    have h6 : wtR ByteArray.size x.Path ≤ x.Path.length * (8 + 1) := wtR_leC ByteArray.size 8 x.Path fun w hw => isW_size (List.all_eq_true.1 h3 w hw)
    unfold GLeaf.wt
    show wtR ByteArray.size x.Path + x.Value.size ≤ 53
    omega
  show wtR GLeaf.wt l ≤ 2000
  omega
def invS (s : GStore) : Prop := smC s.Candidate ∧ smC s.Running ∧ 1 ≤ s.History.length ∧ s.History.length ≤ 10 ∧ (∀ l ∈ s.History, smC l) ∧ (0 ≤ s.Left ∧ s.Left ≤ 100)
theorem goodS_inv {s : GStore} (h : goodS s = true) : invS s := by
  simp only [goodS, Bool.and_eq_true, decide_eq_true_eq, List.all_eq_true] at h
  obtain ⟨⟨⟨⟨⟨h1, h2⟩, h3⟩, h4⟩, h5⟩, h6⟩ := h
  exact ⟨goodC_sm h1, goodC_sm h2, by omega, by omega, fun l hl => goodC_sm (h4 l hl), h5⟩
theorem invS_wt {s : GStore} (h : invS s) : GStore.wt s ≤ 1048576 := by
  obtain ⟨h1, h2, h3, h4, h5, _⟩ := h
  have a1 := smC_wt h1
  have a2 := smC_wt h2
  have a3 : wtR wt_LeafS s.History ≤ s.History.length * (2000 + 1) := wtR_leC wt_LeafS 2000 s.History fun l hl => smC_wt (h5 l hl)
  unfold GStore.wt
  show wt_LeafS s.Candidate + wt_LeafS s.Running + wtR wt_LeafS s.History ≤ 1048576
  omega
theorem wt_storeB {s : GStore} (h : GStore.wt s ≤ 1048576) : storeB s := by
  unfold GStore.wt at h
  have key : ∀ l : List GLeaf, wt_LeafS l ≤ 1048576 → boundC l := fun l hl => ⟨(conf_len hl).1, fun x hx => ⟨(conf_len hl).2 x hx, (conf_ok hl).2 x hx⟩⟩
  exact ⟨key _ (by omega), key _ (by omega), by have := len_wt_LeafSS s.History; omega, fun l hl => key _ (by have := mem_wt_LeafSS hl; omega)⟩
theorem wt_opOK {o : GOp} (h : GOp.wt o ≤ 1048576) : opOK o := by
  unfold GOp.wt at h
  have := len_wt_StringS o.Path
  exact ⟨strs_ok (by omega), by omega, by omega⟩
theorem step_agree {s : GStore} (o : GOp) (hs : invS s) : (stepSp s o).2 = (stepI s o).2 ∧ ((stepI s o).2 = true → (stepSp s o).1 = (stepI s o).1) := by
  obtain ⟨h1, h2, h3, h4, h5, h6⟩ := hs
  obtain ⟨C, R, H, F⟩ := s
  obtain ⟨K, Pa, V, N⟩ := o
  simp only at h1 h2 h3 h4 h5 h6
  by_cases k1 : K = 1
  · subst k1
    cases c1 : isP Pa <;> cases c2 : isW V <;> by_cases c3 : N = 0 <;> simp [stepSp, stepI, isOpB, l16OpB, rSetAt, c1, c2, c3, zeroS]
  by_cases k2 : K = 2
  · subst k2
    cases c1 : isP Pa <;> by_cases c2 : V = ⟨#[]⟩ <;> by_cases c3 : N = 0 <;> simp [stepSp, stepI, isOpB, l16OpB, rDeleteAt, c1, c2, c3, zeroS]
  by_cases k3 : K = 3
  · subst k3
    by_cases c1 : Pa = [] <;> by_cases c2 : V = ⟨#[]⟩ <;> by_cases c3 : N = 0 <;> simp [stepSp, stepI, isOpB, l16OpB, textB, c1, c2, c3, zeroS]
  by_cases k4 : K = 4
  · subst k4
    by_cases c1 : Pa = [] <;> by_cases c2 : V = ⟨#[]⟩ <;> by_cases c3 : 1 ≤ N ∧ N ≤ 100 <;> simp [stepSp, stepI, isOpB, l16OpB, textB, c1, c2, c3, zeroS]
  by_cases k5 : K = 5
  · subst k5
    by_cases c1 : Pa = [] <;> by_cases c2 : V = ⟨#[]⟩ <;> by_cases c3 : N = 0 <;> by_cases c4 : F = 0 <;> simp [stepSp, stepI, isOpB, l16OpB, textB, c1, c2, c3, c4, zeroS]
    omega
  by_cases k6 : K = 6
  · subst k6
    by_cases c1 : Pa = [] <;> by_cases c2 : V = ⟨#[]⟩ <;> by_cases c3 : 0 ≤ N ∧ N ≤ 9
    all_goals
      by_cases c4 : (H.length : Int) ≤ N
      · have c5 : ¬ (0 ≤ N ∧ N ≤ (H.length : Int) - 1) := by omega
        have c6 : ¬ N ≤ (H.length : Int) - 1 := by omega
        simp [c6, stepSp, stepI, isOpB, l16OpB, textB, c1, c2, c3, c4, c5, zeroS]
      · by_cases c5 : 0 ≤ N ∧ N ≤ (H.length : Int) - 1
        · first
          | (exfalso; omega)
          | simp [stepSp, stepI, isOpB, l16OpB, textB, c1, c2, c3, c4, c5, zeroS]
        · first
          | (exfalso; omega)
          | simp [stepSp, stepI, isOpB, l16OpB, textB, c1, c2, c3, c4, c5, zeroS]
  by_cases k7 : K = 7
  · subst k7
    by_cases c1 : Pa = [] <;> by_cases c2 : V = ⟨#[]⟩ <;> by_cases c3 : N = 0 <;> simp [stepSp, stepI, isOpB, l16OpB, textB, c1, c2, c3, zeroS]
  by_cases k8 : K = 8
  · subst k8
    by_cases c1 : Pa = [] <;> by_cases c2 : V = ⟨#[]⟩ <;> by_cases c3 : N = 0 <;> by_cases c4 : F = 0 <;> simp [stepSp, stepI, isOpB, l16OpB, textB, c1, c2, c3, c4, zeroS]
    omega
  · have c1 : ¬ (1 ≤ K ∧ K ≤ 8) := by omega
    simp [stepSp, stepI, isOpB, l16OpB, k1, k2, k3, k4, k5, k6, k7, k8, c1]
theorem headD_mem {H : List (List GLeaf)} (h : 1 ≤ H.length) : H.headD [] ∈ H := by
  cases H with
  | nil => simp at h
  | cons x H => simp
theorem confirmS_inv {s : GStore} (h1 : smC s.Candidate) (h2 : smC s.Running) (h3 : 1 ≤ s.History.length) (h4 : s.History.length ≤ 10) (h5 : ∀ l ∈ s.History, smC l) : invS (confirmS s) := by
  obtain ⟨C, R, H, F⟩ := s
  simp only at h1 h2 h3 h4 h5
  have h0 : (0 : Int) ≤ 0 ∧ (0 : Int) ≤ 100 := by decide
  unfold confirmS
  split
  · exact ⟨h1, h2, h3, h4, h5, h0⟩
  · refine ⟨h1, h2, ?_, ?_, ?_, h0⟩
    · simp only [List.take_succ_cons, List.length_cons]; omega
    · simp only [List.length_take]; omega
    · intro l hl
      have := List.mem_of_mem_take hl
      rcases List.mem_cons.1 this with rfl | h
      · exact h2
      · exact h5 l h
theorem step_inv {s : GStore} {o : GOp} (hs : invS s) (ho : (stepI s o).2 = true) : invS (stepI s o).1 := by
  have hs' := hs
  obtain ⟨h1, h2, h3, h4, h5, h6⟩ := hs
  have hhd := h5 _ (headD_mem h3)
  obtain ⟨C, R, H, F⟩ := s
  obtain ⟨K, Pa, V, N⟩ := o
  simp only at h1 h2 h3 h4 h5 h6 hhd
  unfold stepI at ho ⊢
  simp only at ho ⊢
  split at ho
  · simp at ho
  rename_i c0
  rw [if_neg c0]
  split at ho
  · rename_i k
    rw [if_pos k]
    refine ⟨?_, h2, h3, h4, h5, h6⟩
    unfold rSetAt at ho ⊢
    split at ho
    · rename_i hg
      rw [if_pos hg]
      simp only [Bool.and_eq_true] at hg
      exact goodC_sm hg.2
    · simp at ho
  rename_i k1
  rw [if_neg k1]
  split at ho
  · rename_i k
    rw [if_pos k]
    refine ⟨?_, h2, h3, h4, h5, h6⟩
    unfold rDeleteAt at ho ⊢
    split at ho
    · rename_i hg
      rw [if_pos hg]
      exact ⟨Nat.le_trans (delL_len _ _) h1.1, fun x hx => h1.2 x (List.mem_filter.1 hx).1⟩
    · simp at ho
  rename_i k2
  rw [if_neg k2]
  split at ho
  · rename_i k
    rw [if_pos k]
    exact confirmS_inv h1 h1 h3 h4 h5
  rename_i k3
  rw [if_neg k3]
  split at ho
  · rename_i k
    rw [if_pos k]
    simp only [decide_eq_true_eq] at ho
    refine ⟨h1, h1, h3, h4, h5, ?_⟩
    show 0 ≤ (if C = H.headD [] then (0 : Int) else N) ∧ (if C = H.headD [] then (0 : Int) else N) ≤ 100
    split <;> omega
  rename_i k4
  rw [if_neg k4]
  split at ho
  · rename_i k
    rw [if_pos k]
    exact confirmS_inv h1 h2 h3 h4 h5
  rename_i k5
  rw [if_neg k5]
  split at ho
  · rename_i k
    rw [if_pos k]
    split at ho
    · rename_i hN
      rw [if_pos hN]
      refine ⟨?_, h2, h3, h4, h5, h6⟩
      have hlt : N.toNat < H.length := by omega
      show smC (H.getD N.toNat [])
      rw [List.getD_eq_getElem?_getD, List.getElem?_eq_getElem hlt]
      exact h5 _ (List.getElem_mem hlt)
    · simp at ho
  rename_i k6
  rw [if_neg k6]
  split at ho
  · rename_i k
    rw [if_pos k]
    exact ⟨h2, h2, h3, h4, h5, h6⟩
  rename_i k7
  rw [if_neg k7]
  split at ho
  · rename_i k
    rw [if_pos k]
    simp only [decide_eq_true_eq] at ho
    refine ⟨h1, ?_, h3, h4, h5, by show 0 ≤ F - 1 ∧ F - 1 ≤ 100; omega⟩
    show smC (if F - 1 = 0 then H.headD [] else R)
    split
    · exact hhd
    · exact h2
  rename_i k8
  rw [if_neg k8]
  exact hs'
def rStepStore (v0 : GStore) (v1 : GOp) : GStore × Bool := if goodS v0 = true ∧ (stepI v0 v1).2 = true then ((stepI v0 v1).1, true) else (zeroS, false)
theorem rStepStore_ok (v0 : GStore) (v1 : GOp) (hv0 : GStore.wt v0 ≤ 1048576) (hv1 : GOp.wt v1 ≤ 1048576) : (rStepStore v0 v1).1.lens ∧ GStore.cnT (rStepStore v0 v1).1 ≤ 1152921504606846976 := by
  have key : GStore.wt (rStepStore v0 v1).1 ≤ 1048576 := by
    unfold rStepStore
    split
    · rename_i h; exact invS_wt (step_inv (goodS_inv h.1) h.2)
    · decide
  exact ⟨lens_of_Store key, by have := cn_le_Store (rStepStore v0 v1).1; omega⟩
def plS (l : List GOp) : Nat → GStore × List Bool
  | 0 => (rNewStore, [])
  | i + 1 => match l[i]? with
    | none => plS l i
    | some o => (if (stepI (plS l i).1 o).2 = true then (stepI (plS l i).1 o).1 else (plS l i).1, (plS l i).2 ++ [(stepI (plS l i).1 o).2])
theorem plS_succ (l : List GOp) (i : Nat) (h : i < l.length) : plS l (i + 1) = (if (stepI (plS l i).1 l[i]).2 = true then (stepI (plS l i).1 l[i]).1 else (plS l i).1, (plS l i).2 ++ [(stepI (plS l i).1 l[i]).2]) := by
  simp only [plS, List.getElem?_eq_getElem h]
theorem smC_first : smC firstC := ⟨by decide, by decide⟩
theorem invS_new : invS rNewStore := ⟨smC_first, smC_first, by decide, by decide, fun x hx => by
  have : x = firstC := by simpa [rNewStore] using hx
  rw [this]; exact smC_first, by decide⟩
theorem plS_inv (l : List GOp) : ∀ i, invS (plS l i).1
  | 0 => invS_new
  | i + 1 => by
    unfold plS
    split
    · exact plS_inv l i
    · simp only
      split
      · rename_i h; exact step_inv (plS_inv l i) h
      · exact plS_inv l i
theorem plS_len (l : List GOp) : ∀ i, i ≤ l.length → (plS l i).2.length = i
  | 0, _ => rfl
  | i + 1, h => by
    rw [plS_succ l i (by omega)]
    simp [plS_len l i (by omega)]
def rPlayOps (v0 : List GOp) : GStore × List Bool × Bool := if v0.length ≤ 60 then ((plS v0 v0.length).1, (plS v0 v0.length).2, true) else (zeroS, [], false)
theorem rPlayOps_ok (v0 : List GOp) (hv0 : wt_OpS v0 ≤ 1048576) : ((rPlayOps v0).1.lens ∧ GStore.cnT (rPlayOps v0).1 ≤ 1152921504606846976) ∧ (lens_BoolS (rPlayOps v0).2.1 ∧ cn_BoolS (rPlayOps v0).2.1 ≤ 2000) := by
  have key : GStore.wt (rPlayOps v0).1 ≤ 1048576 := by
    unfold rPlayOps
    split
    · exact invS_wt (plS_inv v0 _)
    · decide
  have kb : (rPlayOps v0).2.1.length ≤ 60 := by
    unfold rPlayOps
    split
    · rename_i h
      show (plS v0 v0.length).2.length ≤ 60
      rw [plS_len v0 _ (Nat.le_refl _)]; exact h
    · exact Nat.zero_le _
  refine ⟨⟨lens_of_Store key, by have := cn_le_Store (rPlayOps v0).1; omega⟩, lens_of_BoolS ?_, by have := cn_len_BoolS (rPlayOps v0).2.1; omega⟩
  show (rPlayOps v0).2.1.length ≤ 1048576
  omega
theorem op_ok_mem {l : List GOp} {o : GOp} (h : wt_OpS l ≤ 1048576) (ho : o ∈ l) : opOK o := wt_opOK (by have := mem_wt_OpS ho; omega)
theorem law_iPlayOps (v0 : List GOp) (hw0 : wt_OpS v0 ≤ 1048576) : CallOK Try.prog 66 [.c (rd 0 v0.length (v0.flatMap (GOp.ci 0)))] (.tup [.agg (rPlayOps v0).1.co, .c (.sl 0 4 (rPlayOps v0).2.1.length ((rPlayOps v0).2.1.map pb)), .c (pb (rPlayOps v0).2.2)]) [.c (rd 0 v0.length (v0.flatMap (GOp.ci 0)))] := by
  have hl0 := len_wt_OpS v0
  refine okS (fn := Try.f66) [] h0 Try.func66 (by kernel_rfl) rfl Try.ntmps66 Try.results66 (by simp) ?_
  simp
  refine brn_app (fun a => ?_) (fun a => ?_)
  · simp at a
    have e : rPlayOps v0 = (zeroS, [], false) := by unfold rPlayOps; rw [if_neg (by omega)]
    rw [e]
    simp [zeroS]
  · simp at a
    have e : rPlayOps v0 = ((plS v0 v0.length).1, (plS v0 v0.length).2, true) := by unfold rPlayOps; rw [if_pos (by omega)]
    rw [e]
    simp
    refine Inv_intro ok_iNewStore ?_
    simp
    refine ewp_sw (.op 4 0 0) (.op 11 3 0) rfl rfl ?_
    simp
    refine loopS [2, 5, 6, 17, 18, 19] [.op 0 0 0, .op 3 1 0, .op 11 3 0] (fun n st => ∃ (i : Nat), i + n = v0.length ∧ st = ⟨slOf 38 [(2, .ptr ⟨.op 0 0 0, []⟩ 0), (5, .ptr ⟨.op 3 1 0, []⟩ 0), (6, .ref ⟨.op 11 3 0, []⟩ 0 i), (17, .t (rd 0 v0.length (v0.flatMap (GOp.ci 0)))), (18, .t (pi v0.length)), (19, .t (pi i))], ofL [(.op 0 0 0, .sl 0 57 1 [.sl 0 nilE 0 [], .sl 0 nilE 0 [], .sl 0 nilE 0 [], pi 0]), (.op 3 1 0, .sl 0 57 1 (plS v0 i).1.co), (.op 11 3 0, .sl 0 4 i ((plS v0 i).2.map pb))]⟩) v0.length ?_ ?_
    · rintro Inv hI
      simp
      subst hI
      exact ⟨0, by omega, rfl⟩
    · rintro Inv hI n st ⟨i, hi, rfl⟩
      have hinv := plS_inv v0 i
      have hlen := plS_len v0 i (by omega)
      refine ewr_sound (M := []) h0 ?_
      by_cases c : i < v0.length
      · have hs := plS_succ v0 i c
        have hd := fm_drop (GOp.ci 0) 4 (fun _ => rfl) v0 i c
        have hfl := fm_len (GOp.ci 0) 4 (fun _ => rfl) v0
        have hlt : i * 4 < v0.length * 4 := by omega
        have ho := op_ok_mem hw0 (List.getElem_mem c)
        generalize plS v0 i = SD at hinv hlen hs ⊢
        obtain ⟨S, D⟩ := SD
        simp only at hinv hlen hs
        have hwt := invS_wt hinv
        obtain ⟨i1, i2, i3, i4, i5, i6⟩ := hinv
        simp [c, hd, hfl, hlt]
        refine Inv_intro (ok_stepStore 0 0 S v0[i] (wt_storeB hwt) (fun e => by rw [e] at i3; simp at i3) i6 i4 ho) ?_
        generalize stepI S v0[i] = X at hs ⊢
        obtain ⟨X1, X2⟩ := X
        have hb1 : (i + 1) * 1 ≤ 140737488355328 := by omega
        have hb2 : i ≤ 9223372036854775806 := by omega
        have hb3 : i ≤ 140737488355327 := by omega
        have hml : (D.map pb).length = i := by rw [List.length_map, hlen]
        have hmt : List.take i (D.map pb) = D.map pb := List.take_of_length_le (by omega)
        cases X2 with
        | false =>
          simp [hlen, hb1, hb2, hb3, hml, hmt]
          subst hI
          refine Less_mk (n - 1) (by omega) ⟨i + 1, by omega, ?_⟩
          rw [wrNext i (by omega), hs]
          simp
        | true =>
          simp [hlen, hb1, hb2, hb3, hml, hmt]
          subst hI
          refine Less_mk (n - 1) (by omega) ⟨i + 1, by omega, ?_⟩
          rw [wrNext i (by omega), hs]
          simp
      · have hil : i = v0.length := by omega
        have hmt : List.take i ((plS v0 i).2.map pb) = (plS v0 i).2.map pb := List.take_of_length_le (by rw [List.length_map]; omega)
        subst hil
        simp [hlen, hmt]
theorem ok_l16Own (k : Nat) (s : GStore) (hs : storeB s) : CallOK Try.prog 111 [.agg (GStore.ci k s)] (.agg s.co) [.agg (GStore.ci k s)] := by
  obtain ⟨b1, b2, b3, b4⟩ := hs
  refine okS (fn := Try.f111) [] h0 Try.func111 (by kernel_rfl) rfl Try.ntmps111 Try.results111 (by simp) ?_
  simp
  have hE := f2_at2 (a1 := [PV.c (rd k s.Candidate.length (s.Candidate.flatMap (GLeaf.ci k)))]) (a2 := [PV.c (rd k s.Running.length (s.Running.flatMap (GLeaf.ci k)))]) (r1 := .c (.sl 0 103 s.Candidate.length (s.Candidate.flatMap GLeaf.co))) (r2 := .c (.sl 0 103 s.Running.length (s.Running.flatMap GLeaf.co))) (fun e => by
    simp only [List.cons.injEq, PV.c.injEq, rd, PT.sl.injEq, and_true, true_and] at e
    rw [ci_inj e.2])
  refine drawP (fnEnv 87 (f2 [PV.c (rd k s.Candidate.length (s.Candidate.flatMap (GLeaf.ci k)))] [PV.c (rd k s.Running.length (s.Running.flatMap (GLeaf.ci k)))] (.c (.sl 0 103 s.Candidate.length (s.Candidate.flatMap GLeaf.co))) (.c (.sl 0 103 s.Running.length (s.Running.flatMap GLeaf.co)))) (tabEnv [] [])) [⟨[.op 0 0 0], allD 31, true⟩, ⟨[.op 0 0 0], allD 31, true⟩, ⟨[], allD 31, false⟩, ⟨[.op 0 0 0], allD 31, true⟩, ⟨[.op 0 0 0], allD 31, true⟩, ⟨[], allD 31, false⟩, ⟨[.op 0 0 0], allD 31, true⟩, ⟨[.op 0 0 0], allD 31, true⟩, ⟨[.op 1 2 0, .op 1 5 0], allD 31, true⟩, ⟨[], allD 31, false⟩, ⟨[.op 1 9 0, .op 1 2 0, .op 1 5 0], [6, 7, 8, 9, 10, 11, 12, 13, 14, 3], false⟩] h0 hm (fnEnv_ok (tabEnv_ok tab_nil) (f2_ok (ok_l15Own k s.Candidate b1.1 (fun x hx => (b1.2 x hx).1)) (ok_l15Own k s.Running b2.1 (fun x hx => (b2.2 x hx).1)))) (by kernel_rfl) (by kernel_rfl) ?_
  simp [f2_at1, hE]
  refine loopS [2, 3, 16, 17, 18] [.op 1 9 0, .op 0 1 0] (fun m st => ∃ (i : Nat), i + m = s.History.length ∧ st = ⟨slOf 31 [(2, .ptr ⟨.op 0 1 0, []⟩ 0), (3, .ptr ⟨.op 1 9 0, []⟩ 0), (16, .t (rd k s.History.length (s.History.map (cLeafSi k)))), (17, .t (pi s.History.length)), (18, .t (pi i))], ofL [(.op 1 9 0, .sl 0 57 1 [.sl 0 103 s.Candidate.length (s.Candidate.flatMap GLeaf.co), .sl 0 103 s.Running.length (s.Running.flatMap GLeaf.co), (if i = 0 then .sl 0 nilE 0 [] else .sl 0 35 i ((s.History.take i).map cLeafSo)), pi s.Left]), (.op 0 1 0, .sl 0 57 1 [.sl 0 nilE 0 [], .sl 0 nilE 0 [], .sl 0 nilE 0 [], pi 0])]⟩) s.History.length ?_ ?_
  · rintro Inv hI
    simp
    subst hI
    exact ⟨0, by omega, rfl⟩
  · rintro Inv hI m st ⟨i, hi, rfl⟩
    have hts0 : ∀ a : i < s.History.length, (s.History.take (i + 1)).map cLeafSo = (s.History.take i).map cLeafSo ++ [cLeafSo s.History[i]] := fun a => by rw [take_step _ i a, List.map_append]; rfl
    have hln0 : i ≤ s.History.length → ((s.History.take i).map cLeafSo).length = i := fun h => by simp; omega
    have hfin : i = s.History.length → (s.History.take i).map cLeafSo = s.History.map cLeafSo := by rintro rfl; rw [List.take_length]
    have hA0 : i = 0 → (s.History.take i).map cLeafSo = [] := by rintro rfl; rfl
    generalize (s.History.take i).map cLeafSo = A at hts0 hln0 hfin hA0 ⊢
    refine ewr_sound (M := []) h0 ?_
    simp
    refine brn_app (fun a => ?_) (fun a => ?_)
    · simp at a
      have hts := hts0 a
      have hln := hln0 (by omega)
      have hb := b4 _ (List.getElem_mem a)
      have hb1 : (i + 1) * 24 ≤ 140737488355328 := by omega
      have hb2 : i + 1 ≤ 9223372036854775807 := by omega
      simp [a]
      by_cases hi0 : i = 0
      · subst hi0
        simp
        refine drawP (tabEnv [] _) [⟨[.op 1 9 0], allD 31, true⟩, ⟨[.op 1 9 0], allD 31, true⟩, ⟨[], allD 31, true⟩, ⟨[], allD 31, false⟩, ⟨[.op 5 3 0], [22, 23, 24, 25, 26, 27, 28], false⟩, ⟨[.op 1 9 0, .op 5 3 0, .op 5 4 0], [22, 23, 24, 25, 26, 27, 28], false⟩, ⟨[.op 1 9 0], allD 31, true⟩, ⟨[.op 1 9 0, .op 5 4 0, .op 5 5 0], [22, 23, 24, 25, 26, 27, 28], false⟩] h0 hm (tabEnv_ok (tab_cons (ok_l15Own k s.History[0] hb.1 (fun x hx => (hb.2 x hx).1)) tab_nil)) (by kernel_rfl) (by kernel_rfl) ?_
        simp
        subst hI
        refine Less_mk (m - 1) (by omega) ⟨0 + 1, by omega, ?_⟩
        rw [if_neg (by omega), hts, hA0 rfl]
        rfl
      · simp [hi0]
        refine drawP (tabEnv [] _) [⟨[.op 1 9 0], allD 31, true⟩, ⟨[.op 1 9 0], allD 31, true⟩, ⟨[], allD 31, true⟩, ⟨[], allD 31, false⟩, ⟨[.op 5 3 0], [22, 23, 24, 25, 26, 27, 28], false⟩, ⟨[.op 1 9 0, .op 5 3 0, .op 5 4 0, .op 5 5 0], [22, 23, 24, 25, 26, 27, 28], false⟩, ⟨[.op 1 9 0], allD 31, true⟩, ⟨[.op 1 9 0, .op 5 4 0, .op 5 5 0], [22, 23, 24, 25, 26, 27, 28], false⟩] h0 hm (tabEnv_ok (tab_cons (ok_l15Own k s.History[i] hb.1 (fun x hx => (hb.2 x hx).1)) tab_nil)) (by kernel_rfl) (by kernel_rfl) ?_
        have ht : A.take i = A := List.take_of_length_le (by omega)
        simp [hln, hb1, hb2, ht]
        subst hI
        refine Less_mk (m - 1) (by omega) ⟨i + 1, by omega, ?_⟩
        rw [if_neg (by omega), hts, wrNext i (by omega)]
    · simp at a
      have hin : i = s.History.length := by omega
      by_cases hi0 : i = 0
      · subst hi0
        have : s.History = [] := List.length_eq_zero_iff.1 hin.symm
        simp [this]
      · have hfin := hfin hin
        subst hin
        simp [hi0, hfin]
end Go.V
