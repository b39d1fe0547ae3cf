/- What functions of the seat's program do, each proved of its code, under the bounds that its theorem names. -/
import Derived.Test.YtmodclnblmoeoaaTab
set_option linter.all false
namespace Go.V
open Go.Proofs
set_option maxHeartbeats 1000000
set_option maxRecDepth 10000
set_option linter.unusedSimpArgs false
set_option linter.unusedVariables false
theorem strs_ok {p : List ByteArray} (h : wt_StringS p ≤ 1048576) : strsOK p := by
  have := len_wt_StringS p
  refine ⟨by omega, fun s hs => ?_⟩
  have := mem_wt_StringS hs
  omega
theorem leaf_ok {x : GLeaf} (h : GLeaf.wt x ≤ 1048576) : leafOK x := by
  unfold GLeaf.wt at h
  exact ⟨strs_ok (by omega), by omega⟩
theorem conf_ok {l : List GLeaf} (h : wt_LeafS l ≤ 1048576) : confOK l := by
  have := len_wt_LeafS l
  refine ⟨by omega, fun x hx => leaf_ok ?_⟩
  have := mem_wt_LeafS hx
  omega
theorem conf_len {l : List GLeaf} (h : wt_LeafS l ≤ 1048576) : l.length ≤ 1048576 ∧ ∀ x ∈ l, x.Path.length ≤ 1048576 := by
  have := len_wt_LeafS l
  refine ⟨by omega, fun x hx => ?_⟩
  have := mem_wt_LeafS hx
  have := len_wt_StringS x.Path
  unfold GLeaf.wt at *
  omega
def rGoodConfig (v0 : List GLeaf) : Bool := goodC v0
theorem law_iGoodConfig (v0 : List GLeaf) (h0 : wt_LeafS v0 ≤ 1048576) : CallOK Try.prog 81 [.c (rd 0 v0.length (v0.flatMap (GLeaf.ci 0)))] (.c (pb (rGoodConfig v0))) [.c (rd 0 v0.length (v0.flatMap (GLeaf.ci 0)))] := ok_iGoodConfig 0 v0 (conf_ok h0)
theorem law_sGoodConfig (v0 : List GLeaf) (h0 : wt_LeafS v0 ≤ 1048576) : CallOK Try.prog 78 [.c (rd 0 v0.length (v0.flatMap (GLeaf.ci 0)))] (.c (pb (rGoodConfig v0))) [.c (rd 0 v0.length (v0.flatMap (GLeaf.ci 0)))] := ok_sGoodConfig 0 v0 (conf_ok h0)
theorem wt_filter {l : List GLeaf} (f : GLeaf → Bool) (g : GLeaf → GLeaf) (hg : ∀ x, GLeaf.wt (g x) ≤ GLeaf.wt x) : wt_LeafS ((l.filter f).map g) ≤ wt_LeafS l := by
  induction l with
  | nil => simp
  | cons x l ih =>
    have := hg x
    rw [List.filter_cons]
    split
    · simp only [List.map_cons, wt_LeafS, wtR, List.length_cons, List.sum_cons] at ih ⊢
      omega
    · simp only [wt_LeafS, wtR, List.map_cons, List.length_cons, List.sum_cons] at ih ⊢
      omega
theorem wt_drop (p : List ByteArray) : ∀ n : Nat, wt_StringS (p.drop n) ≤ wt_StringS p := by
  induction p with
  | nil => simp
  | cons s p ih =>
    intro n
    cases n with
    | zero => simp
    | succ n =>
      have := ih n
      simp only [List.drop_succ_cons, wt_StringS, wtR, List.map_cons, List.length_cons, List.sum_cons] at this ⊢
      omega
theorem leafs_ok {l : List GLeaf} (h : wt_LeafS l ≤ 1048576) : lens_LeafS l ∧ cn_LeafS l ≤ 1152921504606846976 := by
  have := cn_le_LeafS l
  exact ⟨lens_of_LeafS h, by omega⟩
theorem ok_l15Own (k : Nat) (l : List GLeaf) (hl : l.length ≤ 1048576) (hx : ∀ x ∈ l, x.Path.length ≤ 1048576) : CallOK Try.prog 87 [.c (rd k l.length (l.flatMap (GLeaf.ci k)))] (.c (.sl 0 103 l.length (l.flatMap GLeaf.co))) [.c (rd k l.length (l.flatMap (GLeaf.ci k)))] := by
  refine okS (fn := Try.f87) [] h0 Try.func87 (by kernel_rfl) rfl Try.ntmps87 Try.results87 (by simp) ?_
  simp
  refine ewp_nil 3 (.op 5 9 0) 103 (by decide) rfl rfl rfl ?_
  refine loopS [3, 6, 7, 8] [.op 5 9 0] (fun n st => ∃ (i : Nat), i + n = l.length ∧ st = ⟨slOf 24 [(3, .ref ⟨.op 5 9 0, []⟩ 0 i), (6, .t (rd k l.length (l.flatMap (GLeaf.ci k)))), (7, .t (pi l.length)), (8, .t (pi i))], ofL [(.op 5 9 0, .sl 0 103 i ((l.take i).flatMap GLeaf.co))]⟩) l.length ?_ ?_
  · rintro Inv hI
    simp
    subst hI
    exact ⟨0, by omega, by simp⟩
  · rintro Inv hI n st ⟨i, hi, rfl⟩
    have hA := fm_take_len GLeaf.co 2 (fun _ => rfl) l i (by omega)
    generalize hAe : ((l.take i).flatMap GLeaf.co) = A at hA ⊢
    refine ewr_sound (M := []) h0 ?_
    simp
    refine brn_app (fun a => ?_) (fun a => ?_)
    · simp at a
      have hd := fm_drop (GLeaf.ci k) 2 (fun _ => rfl) l i a
      have hlen := fm_len (GLeaf.ci k) 2 (fun _ => rfl) l
      have hlt : i * 2 < l.length * 2 := by omega
      have hb1 : (i + 1) * 40 ≤ 140737488355328 := by omega
      have hb2 : i ≤ 9223372036854775806 := by omega
      have hp := hx _ (List.getElem_mem a)
      have hp1 : l[i].Path.length * 16 ≤ 140737488355328 := by omega
      have hp2 : l[i].Path.length ≤ 9223372036854775807 := by omega
      have ht : A.take (i * 2) = A := List.take_of_length_le (by omega)
      have e3 : ((l.take (i + 1)).flatMap GLeaf.co) = A ++ GLeaf.co l[i] := by rw [take_step l i a, List.flatMap_append, hAe, List.flatMap_cons, List.flatMap_nil, List.append_nil]
      simp [a, hd, hlen, hlt]
      by_cases hpe : l[i].Path = []
      · refine drawP (tabEnv [] _) [⟨[.op 5 9 0], allD 24, true⟩, ⟨[], allD 24, false⟩, ⟨[.op 4 2 0], allD 24, true⟩, ⟨[.op 4 2 0], allD 24, true⟩, ⟨[.op 5 1 0], [12, 13, 14, 15, 16, 17, 18, 19, 20, 21, 3], false⟩, ⟨[.op 4 2 0], allD 24, true⟩, ⟨[.op 4 2 0], allD 24, true⟩, ⟨[.op 5 1 0], allD 24, true⟩, ⟨[.op 5 1 0, .op 5 7 0], [12, 13, 14, 15, 16, 17, 18, 19, 20, 21, 3], false⟩, ⟨[.op 5 9 0, .op 5 8 0], [12, 13, 14, 15, 16, 17, 18, 19, 20, 21, 3], false⟩, ⟨[.op 5 9 0], allD 24, true⟩] h0 hm (tabEnv_ok tab_nil) (by kernel_rfl) (by kernel_rfl) ?_
        simp [hA, hb1, hb2, ht, hpe]
        subst hI
        refine Less_mk (n - 1) (by omega) ⟨i + 1, by omega, ?_⟩
        rw [wrNext i (by omega), e3]
        all_goals simp [hpe]
      · refine drawP (tabEnv [] _) [⟨[.op 5 9 0], allD 24, true⟩, ⟨[], allD 24, false⟩, ⟨[.op 4 2 0], allD 24, true⟩, ⟨[.op 4 2 0], allD 24, true⟩, ⟨[.op 5 1 0], [12, 13, 14, 15, 16, 17, 18, 19, 20, 21, 3], false⟩, ⟨[.op 4 2 0], allD 24, true⟩, ⟨[.op 4 2 0], allD 24, true⟩, ⟨[.op 5 4 0], allD 24, true⟩, ⟨[.op 5 4 0, .op 5 7 0], [12, 13, 14, 15, 16, 17, 18, 19, 20, 21, 3], false⟩, ⟨[.op 5 9 0, .op 5 8 0], [12, 13, 14, 15, 16, 17, 18, 19, 20, 21, 3], false⟩, ⟨[.op 5 9 0], allD 24, true⟩] h0 hm (tabEnv_ok tab_nil) (by kernel_rfl) (by kernel_rfl) ?_
        simp [hA, hb1, hb2, ht, hpe, hp1, hp2]
        subst hI
        refine Less_mk (n - 1) (by omega) ⟨i + 1, by omega, ?_⟩
        rw [wrNext i (by omega), e3]
        all_goals simp
    · simp at a
      have hn : n = 0 := by omega
      subst hn
      have ht : List.take i l = l := List.take_of_length_le (by omega)
      have hil : i = l.length := by omega
      rw [← hAe, ht, hil]
      simp
theorem delL_snoc (p : List ByteArray) (l : List GLeaf) (i : Nat) (h : i < l.length) : delL p (l.take (i + 1)) = delL p (l.take i) ++ (if begP p l[i].Path = true then [] else [l[i]]) := by
  unfold delL
  rw [take_step l i h, List.filter_append]
  by_cases hb : begP p l[i].Path = true <;> simp [hb, begL]
theorem ok_sDeleteAt (k k' : Nat) (l : List GLeaf) (p : List ByteArray) (hl : l.length ≤ 1048576) (hx : ∀ x ∈ l, x.Path.length ≤ 1048576) (hlo : confOK l) (hp : strsOK p) : CallOK Try.prog 31 [.c (rd k l.length (l.flatMap (GLeaf.ci k))), .c (rd k' p.length (p.map ps))] (.tup [.c (.sl 0 103 (rDeleteAt l p).1.length ((rDeleteAt l p).1.flatMap GLeaf.co)), .c (pb (rDeleteAt l p).2)]) [.c (rd k l.length (l.flatMap (GLeaf.ci k))), .c (rd k' p.length (p.map ps))] := by
  refine okS (fn := Try.f31) [] h0 Try.func31 (by kernel_rfl) rfl Try.ntmps31 Try.results31 (by simp) ?_
  simp
  refine Inv_intro (ok_sGoodConfig k l hlo) ?_
  simp
  cases c1 : goodC l with
  | false => simp [rDeleteAt, c1]
  | true =>
    simp
    refine Inv_intro (ok_l15Path k' p hp.1 hp.2) ?_
    simp
    cases c2 : isP p with
    | false => simp [rDeleteAt, c2]
    | true =>
      simp
      refine Inv_intro (ok_l15Own k l hl hx) ?_
      have hll := delL_len p l
      have er : rDeleteAt l p = if (delL p l).length = l.length then ([], false) else (delL p l, true) := by
        unfold rDeleteAt
        by_cases h : (delL p l).length = l.length <;> simp [c1, c2, h]
      rw [er]
      simp
      refine ewp_nil 6 (.op 8 3 0) 103 (by decide) rfl rfl rfl ?_
      refine loopS [0, 1, 6, 18, 19, 20] [.op 8 3 0, .op 4 1 0] (fun n st => ∃ (i : Nat) (C : List PT), i + n = l.length ∧ C.length = l.length * 2 ∧ C.drop (i * 2) = (l.drop i).flatMap GLeaf.co ∧ st = ⟨slOf 40 [(0, .t (rd k l.length (l.flatMap (GLeaf.ci k)))), (1, .t (rd k' p.length (p.map ps))), (6, .ref ⟨.op 8 3 0, []⟩ 0 (delL p (l.take i)).length), (18, .ref ⟨.op 4 1 0, []⟩ 0 l.length), (19, .t (pi l.length)), (20, .t (pi i))], ofL [(.op 8 3 0, .sl 0 103 (delL p (l.take i)).length ((delL p (l.take i)).flatMap GLeaf.co)), (.op 4 1 0, .sl 0 103 l.length C)]⟩) l.length ?_ ?_
      · rintro Inv hI
        simp
        subst hI
        exact ⟨0, l.flatMap GLeaf.co, by omega, fm_len GLeaf.co 2 (fun _ => rfl) l, rfl, rfl⟩
      · rintro Inv hI n st ⟨i, C, hi, hCl, hCd0, rfl⟩
        have hO : (delL p (l.take i)).length ≤ i := Nat.le_trans (delL_len _ _) (by simp; omega)
        have hS := delL_snoc p l i
        have hfin : i = l.length → delL p (l.take i) = delL p l := by rintro rfl; rw [List.take_length]
        generalize hOe : delL p (l.take i) = O at hO hS hfin ⊢
        have hA := fm_len GLeaf.co 2 (fun _ => rfl) O
        have hAm : ∀ y, (O ++ [y]).flatMap GLeaf.co = O.flatMap GLeaf.co ++ GLeaf.co y := fun y => by simp
        refine ewr_sound (M := []) h0 ?_
        simp
        refine brn_app (fun a => ?_) (fun a => ?_)
        · simp at a
          have hS' := hS a
          have hCd : C.drop (i * 2) = .sl 0 9 l[i].Path.length (l[i].Path.map ps) :: ps l[i].Value :: (l.drop (i + 1)).flatMap GLeaf.co := by
            rw [hCd0, drop_step _ i a, List.flatMap_cons]
            rfl
          have hCg : ∀ h : i * 2 < C.length, C[i * 2] = .sl 0 9 l[i].Path.length (l[i].Path.map ps) := by
            intro h
            rw [List.drop_eq_getElem_cons h] at hCd
            exact (List.cons.inj hCd).1
          have hCn : C.drop ((i + 1) * 2) = (l.drop (i + 1)).flatMap GLeaf.co := by
            have : (i + 1) * 2 = i * 2 + 2 := by omega
            rw [this, ← List.drop_drop, hCd]
            rfl
          have hb : i * 2 + 2 ≤ l.length * 2 := by omega
          have hp1 := hx _ (List.getElem_mem a)
          simp [a, hCl, hCd, hCg, hb]
          refine Inv_intro (ok_l15Begins k' 0 p l[i].Path hp.1 (by omega)) ?_
          simp
          refine brn_app (fun b => ?_) (fun b => ?_)
          · simp at b
            rw [if_neg (by simp [b])] at hS'
            generalize hAe : O.flatMap GLeaf.co = A at hA hAm ⊢
            have ht : A.take (O.length * 2) = A := List.take_of_length_le (by omega)
            have hb1 : (O.length + 1) * 40 ≤ 140737488355328 := by omega
            have hb2 : O.length + 1 ≤ 9223372036854775807 := by omega
            simp [hA, ht, hb1, hb2]
            subst hI
            refine Less_mk (n - 1) (by omega) ⟨i + 1, C.set (i * 2) .hole, by omega, by rw [List.length_set]; exact hCl, by rw [set_drop C _ _ _ (by omega), hCn], ?_⟩
            rw [hS', wrNext i (by omega), hAm, List.length_append]
            rfl
          · simp at b
            rw [if_pos b, List.append_nil] at hS'
            simp
            subst hI
            refine Less_mk (n - 1) (by omega) ⟨i + 1, C.set (i * 2) .hole, by omega, by rw [List.length_set]; exact hCl, by rw [set_drop C _ _ _ (by omega), hCn], ?_⟩
            rw [hS', wrNext i (by omega)]
        · simp at a
          have hin : i = l.length := by omega
          have hfin := hfin hin
          subst hfin
          simp
          refine brn_app (fun b => ?_) (fun b => ?_)
          · simp at b
            have h : (delL p l).length = l.length := by omega
            simp [h]
          · simp at b
            have h : ¬ (delL p l).length = l.length := by omega
            have ht : ((delL p l).flatMap GLeaf.co).take ((delL p l).length * 2) = (delL p l).flatMap GLeaf.co := List.take_of_length_le (by omega)
            simp [h, hA, ht]
theorem law_iDeleteAt (v0 : List GLeaf) (v1 : List ByteArray) (h0 : wt_LeafS v0 ≤ 1048576) (h1 : wt_StringS v1 ≤ 1048576) : CallOK Try.prog 32 [.c (rd 0 v0.length (v0.flatMap (GLeaf.ci 0))), .c (rd 0 v1.length (v1.map ps))] (.tup [.c (.sl 0 103 (rDeleteAt v0 v1).1.length ((rDeleteAt v0 v1).1.flatMap GLeaf.co)), .c (pb (rDeleteAt v0 v1).2)]) [.c (rd 0 v0.length (v0.flatMap (GLeaf.ci 0))), .c (rd 0 v1.length (v1.map ps))] := ok_iDeleteAt 0 0 v0 v1 (conf_len h0).1 (conf_len h0).2 (conf_ok h0) (strs_ok h1)
theorem law_sDeleteAt (v0 : List GLeaf) (v1 : List ByteArray) (h0 : wt_LeafS v0 ≤ 1048576) (h1 : wt_StringS v1 ≤ 1048576) : CallOK Try.prog 31 [.c (rd 0 v0.length (v0.flatMap (GLeaf.ci 0))), .c (rd 0 v1.length (v1.map ps))] (.tup [.c (.sl 0 103 (rDeleteAt v0 v1).1.length ((rDeleteAt v0 v1).1.flatMap GLeaf.co)), .c (pb (rDeleteAt v0 v1).2)]) [.c (rd 0 v0.length (v0.flatMap (GLeaf.ci 0))), .c (rd 0 v1.length (v1.map ps))] := ok_sDeleteAt 0 0 v0 v1 (conf_len h0).1 (conf_len h0).2 (conf_ok h0) (strs_ok h1)
theorem rDeleteAt_ok (v0 : List GLeaf) (v1 : List ByteArray) (h0 : wt_LeafS v0 ≤ 1048576) (h1 : wt_StringS v1 ≤ 1048576) : lens_LeafS (rDeleteAt v0 v1).1 ∧ cn_LeafS (rDeleteAt v0 v1).1 ≤ 1152921504606846976 := by
  refine leafs_ok ?_
  unfold rDeleteAt
  split
  · unfold delL
    have e := wt_filter (fun x => !begL v1 x) id (fun x => Nat.le_refl _) (l := v0)
    rw [List.map_id] at e
    exact Nat.le_trans e h0
  · exact Nat.zero_le _
theorem ok_eqStringS (k k' : Nat) (xs ys : List ByteArray) (ha : lens_StringS xs) (hb : lens_StringS ys) : CallOK Try.prog 27 [.c (rd k xs.length (xs.map ps)), .c (rd k' ys.length (ys.map ps))] (.c (pb (decide (xs = ys)))) [.c (rd k xs.length (xs.map ps)), .c (rd k' ys.length (ys.map ps))] := by
  obtain ⟨ha, hax⟩ := ha
  obtain ⟨hb, hbx⟩ := hb
  refine okS (fn := Try.f27) [] h0 Try.func27 (by kernel_rfl) rfl Try.ntmps27 Try.results27 (by simp) ?_
  simp
  refine brn_app (fun h => ?_) (fun h => ?_)
  · simp at h
    simp
    rintro rfl
    exact h rfl
  · simp at h
    have hl : ys.length = xs.length := by omega
    simp
    refine loopS [0, 1, 5] [] (fun n st => ∃ (i : Nat), i + n = xs.length ∧ (xs.drop i = ys.drop i ↔ xs = ys) ∧ st = ⟨slOf 26 [(0, .t (rd k xs.length (xs.map ps))), (1, .t (rd k' ys.length (ys.map ps))), (5, .t (pi i))], ofL []⟩) xs.length ?_ ?_
    · rintro Inv hI
      simp
      subst hI
      exact ⟨0, by omega, by simp, rfl⟩
    · rintro Inv hI n st ⟨i, hi, htk, rfl⟩
      refine ewr_sound (M := []) h0 ?_
      simp
      refine brn_app (fun h => ?_) (fun h => ?_)
      · simp at h
        have hib : i < ys.length := by omega
        rw [drop_step xs i h, drop_step ys i hib, List.cons.injEq] at htk
        simp
        refine drawP E0 [⟨[], allD 26, true⟩, ⟨[], allD 26, true⟩, ⟨[], allD 26, true⟩, ⟨[], allD 26, true⟩, ⟨[], allD 26, true⟩, ⟨[], allD 26, true⟩, ⟨[], allD 26, true⟩, ⟨[], allD 26, true⟩, ⟨[], allD 26, true⟩] h0 hm (E0_ok _) (by kernel_rfl) (by kernel_rfl) ?_
        simp [h, hib]
        refine brn_app (fun h2 => ?_) (fun h2 => ?_)
        · simp at h2
          simp
          intro he
          exact h2 (htk.2 he).1
        · simp at h2
          simp
          subst hI
          exact Less_mk (n - 1) (by omega) ⟨i + 1, by omega, ⟨fun h4 => htk.1 ⟨h2, h4⟩, fun h4 => (htk.2 h4).2⟩, by rw [wrNext i (by omega)]⟩
      · simp at h
        rw [List.drop_of_length_le (by omega), List.drop_of_length_le (by omega)] at htk
        simp
        exact htk.1 rfl
theorem ok_eqLeaf (k k' : Nat) (x y : GLeaf) (ha : GLeaf.lens x) (hb : GLeaf.lens y) : CallOK Try.prog 84 [.agg (GLeaf.ci k x), .agg (GLeaf.ci k' y)] (.c (pb (decide (x = y)))) [.agg (GLeaf.ci k x), .agg (GLeaf.ci k' y)] := by
  simp only [GLeaf.lens] at ha hb
  refine okS (fn := Try.f84) [] h0 Try.func84 (by kernel_rfl) rfl Try.ntmps84 Try.results84 (by simp) ?_
  simp
  refine Inv_intro (ok_eqStringS k k' x.Path y.Path (ha) (hb)) ?_
  simp
  refine brn_app (fun a0 => ?_) (fun a0 => ?_)
  · simp at a0
    simp
    rintro rfl
    exact a0 rfl
  · simp at a0
    simp
    refine brn_app (fun a1 => ?_) (fun a1 => ?_)
    · simp at a1
      simp
      rintro rfl
      exact a1 rfl
    · simp at a1
      simp
      cases x
      cases y
      simp_all
theorem ok_eqLeafS (k k' : Nat) (xs ys : List GLeaf) (ha : lens_LeafS xs) (hb : lens_LeafS ys) : CallOK Try.prog 26 [.c (rd k xs.length (xs.flatMap (GLeaf.ci k))), .c (rd k' ys.length (ys.flatMap (GLeaf.ci k')))] (.c (pb (decide (xs = ys)))) [.c (rd k xs.length (xs.flatMap (GLeaf.ci k))), .c (rd k' ys.length (ys.flatMap (GLeaf.ci k')))] := by
  obtain ⟨ha, hax⟩ := ha
  obtain ⟨hb, hbx⟩ := hb
  refine okS (fn := Try.f26) [] h0 Try.func26 (by kernel_rfl) rfl Try.ntmps26 Try.results26 (by simp) ?_
  simp
  refine brn_app (fun h => ?_) (fun h => ?_)
  · simp at h
    simp
    rintro rfl
    exact h rfl
  · simp at h
    have hl : ys.length = xs.length := by omega
    simp
    refine loopS [0, 1, 5] [] (fun n st => ∃ (i : Nat), i + n = xs.length ∧ (xs.drop i = ys.drop i ↔ xs = ys) ∧ st = ⟨slOf 27 [(0, .t (rd k xs.length (xs.flatMap (GLeaf.ci k)))), (1, .t (rd k' ys.length (ys.flatMap (GLeaf.ci k')))), (5, .t (pi i))], ofL []⟩) xs.length ?_ ?_
    · rintro Inv hI
      simp
      subst hI
      exact ⟨0, by omega, by simp, rfl⟩
    · rintro Inv hI n st ⟨i, hi, htk, rfl⟩
      refine ewr_sound (M := []) h0 ?_
      simp
      refine brn_app (fun h => ?_) (fun h => ?_)
      · simp at h
        have hib : i < ys.length := by omega
        rw [drop_step xs i h, drop_step ys i hib, List.cons.injEq] at htk
        simp
        have hd := fm_drop (GLeaf.ci k) 2 (fun _ => rfl) xs i h
        have hd' := fm_drop (GLeaf.ci k') 2 (fun _ => rfl) ys i hib
        have hlen := fm_len (GLeaf.ci k) 2 (fun _ => rfl) xs
        have hlen' := fm_len (GLeaf.ci k') 2 (fun _ => rfl) ys
        have hlt : i * 2 < xs.length * 2 := by omega
        have hlt' : i * 2 < ys.length * 2 := by omega
        have hE := ok_eqLeaf k k' xs[i] ys[i] (hax _ (List.getElem_mem h)) (hbx _ (List.getElem_mem hib))
        refine drawP (tabEnv [] [(84, [.agg (GLeaf.ci k xs[i]), .agg (GLeaf.ci k' ys[i])], .c (pb (decide (xs[i] = ys[i]))), [.agg (GLeaf.ci k xs[i]), .agg (GLeaf.ci k' ys[i])])]) [⟨[], allD 27, true⟩, ⟨[], allD 27, true⟩, ⟨[], allD 27, true⟩, ⟨[], allD 27, true⟩, ⟨[], allD 27, true⟩, ⟨[], allD 27, true⟩, ⟨[], allD 27, true⟩, ⟨[], allD 27, true⟩, ⟨[], allD 27, false⟩, ⟨[], allD 27, true⟩] h0 hm (tabEnv_ok (by intro x hx; simp only [List.mem_singleton] at hx; subst hx; exact hE)) (by kernel_rfl) (by kernel_rfl) ?_
        simp [h, hib, hd, hd', hlen, hlen', hlt, hlt']
        refine brn_app (fun h2 => ?_) (fun h2 => ?_)
        · simp at h2
          simp
          intro he
          exact h2 (htk.2 he).1
        · simp at h2
          simp
          subst hI
          exact Less_mk (n - 1) (by omega) ⟨i + 1, by omega, ⟨fun h4 => htk.1 ⟨h2, h4⟩, fun h4 => (htk.2 h4).2⟩, by rw [wrNext i (by omega)]⟩
      · simp at h
        rw [List.drop_of_length_le (by omega), List.drop_of_length_le (by omega)] at htk
        simp
        exact htk.1 rfl
theorem ok_heldStringS (q : Nat) (xs : List ByteArray) (k : Int) (hls : lens_StringS xs) (hk : 0 < k) (hk2 : k + cn_StringS xs ≤ 2305843009213693952) : CallOK Try.prog 86 [.c (rd q xs.length ((mk_StringS xs k).1.map ps)), .c (pi k)] (.c (pi (mk_StringS xs k).2)) [.c (rd q xs.length ((mk_StringS xs k).1.map ps)), .c (pi k)] := by
  obtain ⟨hl0, hlx⟩ := hls
  unfold mk_StringS
  unfold cn_StringS at hk2
  have hyl := mkR_len (fun (_ : ByteArray) k => (mtext k, k + 1)) xs k
  have hyi : ∀ (i : Nat) (h : i < xs.length) (h' : i < (mkR (fun (_ : ByteArray) k => (mtext k, k + 1)) xs k).1.length), (mkR (fun (_ : ByteArray) k => (mtext k, k + 1)) xs k).1[i] = ((fun (_ : ByteArray) k => (mtext k, k + 1)) xs[i] (mkR (fun (_ : ByteArray) k => (mtext k, k + 1)) (xs.take i) k).2).1 := fun i h _ => mkR_get (fun (_ : ByteArray) k => (mtext k, k + 1)) xs i h k
  have hend : (mkR (fun (_ : ByteArray) k => (mtext k, k + 1)) xs k).2 = k + cnR (fun (_ : ByteArray) => 1) xs := mkR_snd (f := (fun (_ : ByteArray) k => (mtext k, k + 1))) (g := (fun (_ : ByteArray) => 1)) (fun _ _ => rfl) xs k
  generalize hY : (mkR (fun (_ : ByteArray) k => (mtext k, k + 1)) xs k).1 = ys at hyl hyi ⊢
  refine okS (fn := Try.f86) [] h0 Try.func86 (by kernel_rfl) rfl Try.ntmps86 Try.results86 (by simp) ?_
  simp
  refine loopS [0, 1, 5] [] (fun n st => ∃ (i : Nat), i + n = xs.length ∧ st = ⟨slOf 22 [(0, .t (rd q xs.length (ys.map ps))), (1, .t (pi (mkR (fun (_ : ByteArray) k => (mtext k, k + 1)) (xs.take i) k).2)), (5, .t (pi i))], ofL []⟩) xs.length ?_ ?_
  · rintro Inv hI
    simp
    subst hI
    exact ⟨0, by omega, rfl⟩
  · rintro Inv hI n st ⟨i, hi, rfl⟩
    have hKb := mkR_snd (f := (fun (_ : ByteArray) k => (mtext k, k + 1))) (g := (fun (_ : ByteArray) => 1)) (fun _ _ => rfl) (xs.take i) k
    have hyK : ∀ (h : i < xs.length), ys[i]'(by omega) = ((fun (_ : ByteArray) k => (mtext k, k + 1)) xs[i] (mkR (fun (_ : ByteArray) k => (mtext k, k + 1)) (xs.take i) k).2).1 := fun h => hyi i h (by omega)
    generalize hK : (mkR (fun (_ : ByteArray) k => (mtext k, k + 1)) (xs.take i) k).2 = K at hKb hyK ⊢
    refine ewr_sound (M := []) h0 ?_
    simp
    refine brn_app (fun h => ?_) (fun h => ?_)
    · simp at h
      obtain ⟨m, rfl⟩ : ∃ m, n = m + 1 := ⟨n - 1, by omega⟩
      have hcn := cnR_take (fun (_ : ByteArray) => 1) xs i h
      have hb : i < ys.length := by omega
      have ey := hyK h
      have hw0 : IntKind.wrap .i64 (K + 1) = K + 1 := wrap64 (by omega) (by omega)
      simp [h, hb, ey, hw0]
      refine drawP (tabEnv [] _) [⟨[], allD 22, true⟩, ⟨[], allD 22, true⟩, ⟨[], allD 22, true⟩, ⟨[], allD 22, true⟩, ⟨[], allD 22, true⟩, ⟨[], allD 22, false⟩, ⟨[], allD 22, true⟩] h0 hm (tabEnv_ok (tab_cons (ok_markText (K) (by omega)) tab_nil)) (by kernel_rfl) (by kernel_rfl) ?_
      simp [h, hb, ey, hw0]
      have e4 := mkR_take (fun (_ : ByteArray) k => (mtext k, k + 1)) xs i h k
      rw [hK] at e4
      subst hI
      refine Less_mk m (by omega) ⟨i + 1, by omega, ?_⟩
      rw [wrNext i (by omega), e4]
      all_goals rfl
    · simp at h
      have hx : xs.take i = xs := List.take_of_length_le (by omega)
      rw [hx] at hK
      simp [hK]
theorem ok_heldLeafS (q : Nat) (xs : List GLeaf) (k : Int) (hls : lens_LeafS xs) (hk : 0 < k) (hk2 : k + cn_LeafS xs ≤ 2305843009213693952) : CallOK Try.prog 30 [.c (rd q xs.length ((mk_LeafS xs k).1.flatMap (GLeaf.ci q))), .c (pi k)] (.c (pi (mk_LeafS xs k).2)) [.c (rd q xs.length ((mk_LeafS xs k).1.flatMap (GLeaf.ci q))), .c (pi k)] := by
  obtain ⟨hl0, hlx⟩ := hls
  unfold mk_LeafS
  unfold cn_LeafS at hk2
  have hyl := mkR_len GLeaf.mark xs k
  have hyi : ∀ (i : Nat) (h : i < xs.length) (h' : i < (mkR GLeaf.mark xs k).1.length), (mkR GLeaf.mark xs k).1[i] = (GLeaf.mark xs[i] (mkR GLeaf.mark (xs.take i) k).2).1 := fun i h _ => mkR_get GLeaf.mark xs i h k
  have hend : (mkR GLeaf.mark xs k).2 = k + cnR GLeaf.cn xs := mkR_snd (f := GLeaf.mark) (g := GLeaf.cn) (GLeaf.mark_snd) xs k
  generalize hY : (mkR GLeaf.mark xs k).1 = ys at hyl hyi ⊢
  refine okS (fn := Try.f30) [] h0 Try.func30 (by kernel_rfl) rfl Try.ntmps30 Try.results30 (by simp) ?_
  simp
  refine loopS [0, 1, 5] [] (fun n st => ∃ (i : Nat), i + n = xs.length ∧ st = ⟨slOf 32 [(0, .t (rd q xs.length (ys.flatMap (GLeaf.ci q)))), (1, .t (pi (mkR GLeaf.mark (xs.take i) k).2)), (5, .t (pi i))], ofL []⟩) xs.length ?_ ?_
  · rintro Inv hI
    simp
    subst hI
    exact ⟨0, by omega, rfl⟩
  · rintro Inv hI n st ⟨i, hi, rfl⟩
    have hKb := mkR_snd (f := GLeaf.mark) (g := GLeaf.cn) (GLeaf.mark_snd) (xs.take i) k
    have hyK : ∀ (h : i < xs.length), ys[i]'(by omega) = (GLeaf.mark xs[i] (mkR GLeaf.mark (xs.take i) k).2).1 := fun h => hyi i h (by omega)
    generalize hK : (mkR GLeaf.mark (xs.take i) k).2 = K at hKb hyK ⊢
    refine ewr_sound (M := []) h0 ?_
    simp
    refine brn_app (fun h => ?_) (fun h => ?_)
    · simp at h
      obtain ⟨m, rfl⟩ : ∃ m, n = m + 1 := ⟨n - 1, by omega⟩
      have hcn := cnR_take GLeaf.cn xs i h
      have hb : i < ys.length := by omega
      have ey := hyK h
      have hd := fm_drop (GLeaf.ci q) 2 (fun _ => rfl) ys i hb
      have hlen := fm_len (GLeaf.ci q) 2 (fun _ => rfl) ys
      have hlt : i * 2 < ys.length * 2 := by omega
      rw [ey] at hd
      simp only [GLeaf.cn] at hcn
      have hxl := hlx _ (List.getElem_mem h)
      have hs0 := mk_StringS_snd xs[i].Path K
      have hn0 : ¬ (mk_StringS xs[i].Path K).2 < 0 := by omega
      have hw1 : IntKind.wrap .i64 ((mk_StringS xs[i].Path K).2 + 1) = (mk_StringS xs[i].Path K).2 + 1 := wrap64 (by omega) (by omega)
      simp [h, hb, hd, hlen, hlt, GLeaf.mark, hn0, hw1]
      refine Inv_intro (ok_heldStringS q xs[i].Path (K) hxl (by omega) (by omega)) ?_
      simp [h, hb, hd, hlen, hlt, GLeaf.mark, hn0, hw1]
      refine drawP (tabEnv [] _) [⟨[], allD 32, true⟩, ⟨[], allD 32, true⟩, ⟨[], allD 32, true⟩, ⟨[], allD 32, true⟩, ⟨[], allD 32, true⟩, ⟨[], allD 32, true⟩, ⟨[], allD 32, false⟩, ⟨[], allD 32, true⟩] h0 hm (tabEnv_ok (tab_cons (ok_markText ((mk_StringS xs[i].Path K).2) (by omega)) tab_nil)) (by kernel_rfl) (by kernel_rfl) ?_
      simp [h, hb, hd, hlen, hlt, GLeaf.mark, hn0, hw1]
      have e4 := mkR_take GLeaf.mark xs i h k
      rw [hK] at e4
      subst hI
      refine Less_mk m (by omega) ⟨i + 1, by omega, ?_⟩
      rw [wrNext i (by omega), e4]
      all_goals rfl
    · simp at h
      have hx : xs.take i = xs := List.take_of_length_le (by omega)
      rw [hx] at hK
      simp [hK]
theorem ok_markStringS (xs : List ByteArray) (k : Int) (hls : lens_StringS xs) (hk : 0 < k) (hk2 : k + cn_StringS xs ≤ 2305843009213693952) : CallOK Try.prog 29 [.c (.sl 0 9 xs.length (xs.map ps)), .c (pi k)] (.c (pi (mk_StringS xs k).2)) [.c (.sl 0 9 xs.length ((mk_StringS xs k).1.map ps)), .c (pi k)] := by
  obtain ⟨hl0, hlx⟩ := hls
  unfold mk_StringS
  unfold cn_StringS at hk2
  refine okS (fn := Try.f29) [] h0 Try.func29 (by kernel_rfl) rfl Try.ntmps29 Try.results29 (by simp) ?_
  simp
  refine loopS [0, 1, 5] [] (fun n st => ∃ (i : Nat), i + n = xs.length ∧ st = ⟨slOf 20 [(0, .ref ⟨.arg 0 0, []⟩ 0 xs.length), (1, .t (pi (mkR (fun (_ : ByteArray) k => (mtext k, k + 1)) (xs.take i) k).2)), (5, .t (pi i))], ofL [(.arg 0 0, .sl 0 9 xs.length (((mkR (fun (_ : ByteArray) k => (mtext k, k + 1)) (xs.take i) k).1.map ps) ++ ((xs.drop i).map ps)))]⟩) xs.length ?_ ?_
  · rintro Inv hI
    simp
    subst hI
    exact ⟨0, by omega, rfl⟩
  · rintro Inv hI n st ⟨i, hi, rfl⟩
    have hAl : (((mkR (fun (_ : ByteArray) k => (mtext k, k + 1)) (xs.take i) k).1.map ps)).length = i * 1 := by rw [List.length_map, mkR_len, len_take xs i (by omega), Nat.mul_one]
    have hKb := mkR_snd (f := (fun (_ : ByteArray) k => (mtext k, k + 1))) (g := (fun (_ : ByteArray) => 1)) (fun _ _ => rfl) (xs.take i) k
    generalize hA : ((mkR (fun (_ : ByteArray) k => (mtext k, k + 1)) (xs.take i) k).1.map ps) = A at hAl ⊢
    generalize hK : (mkR (fun (_ : ByteArray) k => (mtext k, k + 1)) (xs.take i) k).2 = K at hKb ⊢
    generalize hB : ((xs.drop i).map ps) = B
    refine ewr_sound (M := []) h0 ?_
    simp
    refine brn_app (fun h => ?_) (fun h => ?_)
    · simp at h
      obtain ⟨m, rfl⟩ : ∃ m, n = m + 1 := ⟨n - 1, by omega⟩
      have hcn := cnR_take (fun (_ : ByteArray) => 1) xs i h
      have hBe : B = [ps xs[i]] ++ ((xs.drop (i + 1)).map ps) := by rw [← hB, drop_step xs i h]; rfl
      generalize hC : ((xs.drop (i + 1)).map ps) = D at hBe
      subst hBe
      rw [Nat.mul_one] at hAl
      have hw0 : IntKind.wrap .i64 (K + 1) = K + 1 := wrap64 (by omega) (by omega)
      simp [h, hAl, hw0]
      refine Inv_intro (ok_markText (K) (by omega)) ?_
      simp [h, hAl, hw0]
      have e4 := mkR_take (fun (_ : ByteArray) k => (mtext k, k + 1)) xs i h k
      rw [hK] at e4
      have e3 : ((mkR (fun (_ : ByteArray) k => (mtext k, k + 1)) (xs.take (i + 1)) k).1.map ps) = A ++ [ps ((fun (_ : ByteArray) k => (mtext k, k + 1)) xs[i] K).1] := by rw [e4, List.map_append, hA]; rfl
      subst hI
      refine Less_mk m (by omega) ⟨i + 1, by omega, ?_⟩
      rw [wrNext i (by omega), e3, e4, hC, List.append_assoc]
      all_goals rfl
    · simp at h
      have hx : xs.take i = xs := List.take_of_length_le (by omega)
      have hBn : B = [] := by rw [← hB, List.drop_of_length_le (by omega)]; rfl
      subst hBn
      rw [hx] at hA hK
      subst hK
      subst hA
      simp
theorem ok_markLeafS (xs : List GLeaf) (k : Int) (hls : lens_LeafS xs) (hk : 0 < k) (hk2 : k + cn_LeafS xs ≤ 2305843009213693952) : CallOK Try.prog 28 [.c (.sl 0 103 xs.length (xs.flatMap GLeaf.co)), .c (pi k)] (.c (pi (mk_LeafS xs k).2)) [.c (.sl 0 103 xs.length ((mk_LeafS xs k).1.flatMap GLeaf.co)), .c (pi k)] := by
  obtain ⟨hl0, hlx⟩ := hls
  unfold mk_LeafS
  unfold cn_LeafS at hk2
  refine okS (fn := Try.f28) [(29, [1,0])] h0 Try.func28 (by kernel_rfl) rfl Try.ntmps28 Try.results28 (by simp) ?_
  simp
  refine loopS [0, 1, 5] [] (fun n st => ∃ (i : Nat), i + n = xs.length ∧ st = ⟨slOf 28 [(0, .ref ⟨.arg 0 0, []⟩ 0 xs.length), (1, .t (pi (mkR GLeaf.mark (xs.take i) k).2)), (5, .t (pi i))], ofL [(.arg 0 0, .sl 0 103 xs.length (((mkR GLeaf.mark (xs.take i) k).1.flatMap GLeaf.co) ++ ((xs.drop i).flatMap GLeaf.co)))]⟩) xs.length ?_ ?_
  · rintro Inv hI
    simp
    subst hI
    exact ⟨0, by omega, rfl⟩
  · rintro Inv hI n st ⟨i, hi, rfl⟩
    have hAl : (((mkR GLeaf.mark (xs.take i) k).1.flatMap GLeaf.co)).length = i * 2 := by rw [fm_len GLeaf.co 2 (fun _ => rfl), mkR_len, len_take xs i (by omega)]
    have hKb := mkR_snd (f := GLeaf.mark) (g := GLeaf.cn) (GLeaf.mark_snd) (xs.take i) k
    generalize hA : ((mkR GLeaf.mark (xs.take i) k).1.flatMap GLeaf.co) = A at hAl ⊢
    generalize hK : (mkR GLeaf.mark (xs.take i) k).2 = K at hKb ⊢
    generalize hB : ((xs.drop i).flatMap GLeaf.co) = B
    refine ewr_sound (M := [(29, [1, 0])]) h0 ?_
    simp
    refine brn_app (fun h => ?_) (fun h => ?_)
    · simp at h
      obtain ⟨m, rfl⟩ : ∃ m, n = m + 1 := ⟨n - 1, by omega⟩
      have hcn := cnR_take GLeaf.cn xs i h
      have hBe : B = [.sl 0 9 xs[i].Path.length (xs[i].Path.map ps), ps xs[i].Value] ++ ((xs.drop (i + 1)).flatMap GLeaf.co) := by rw [← hB, drop_step xs i h]; rfl
      generalize hC : ((xs.drop (i + 1)).flatMap GLeaf.co) = D at hBe
      subst hBe
      have hxl := hlx _ (List.getElem_mem h)
      simp only [GLeaf.cn] at hcn
      have hs0 := mk_StringS_snd xs[i].Path K
      have hw1 : IntKind.wrap .i64 ((mk_StringS xs[i].Path K).2 + 1) = (mk_StringS xs[i].Path K).2 + 1 := wrap64 (by omega) (by omega)
      simp [h, hAl, hw1]
      refine Inv_intro (ok_markStringS xs[i].Path (K) hxl (by omega) (by omega)) ?_
      simp [h, hAl, hw1]
      refine Inv_intro (ok_markText ((mk_StringS xs[i].Path K).2) (by omega)) ?_
      simp [h, hAl, hw1]
      have e4 := mkR_take GLeaf.mark xs i h k
      rw [hK] at e4
      have e3 : ((mkR GLeaf.mark (xs.take (i + 1)) k).1.flatMap GLeaf.co) = A ++ GLeaf.co (GLeaf.mark xs[i] K).1 := by rw [e4, List.flatMap_append, hA, List.flatMap_cons, List.flatMap_nil, List.append_nil]
      subst hI
      refine Less_mk m (by omega) ⟨i + 1, by omega, ?_⟩
      rw [wrNext i (by omega), e3, e4, hC, List.append_assoc]
      all_goals first | rfl | simp [GLeaf.mark] | simp
    · simp at h
      have hx : xs.take i = xs := List.take_of_length_le (by omega)
      have hBn : B = [] := by rw [← hB, List.drop_of_length_le (by omega)]; rfl
      subst hBn
      rw [hx] at hA hK
      subst hK
      subst hA
      simp
end Go.V
