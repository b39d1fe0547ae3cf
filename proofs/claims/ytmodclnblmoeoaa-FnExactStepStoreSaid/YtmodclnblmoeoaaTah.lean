/- What functions of the seat's program do, each proved of its code, under the bounds that its theorem names. -/
import Derived.Test.YtmodclnblmoeoaaTag
set_option linter.all false
namespace Go.V
open Go.Proofs
set_option maxHeartbeats 1000000
set_option maxRecDepth 10000
set_option linter.unusedSimpArgs false
set_option linter.unusedVariables false
theorem ok_l15Own (k : Nat) (l : List GLeaf) (hl : l.length ≤ 1048576) (hx : ∀ x ∈ l, x.Path.length ≤ 1048576) : CallOK Try.prog 87 [.c (rd k l.length (l.flatMap (GLeaf.ci k)))] (.c (.sl 0 103 l.length (l.flatMap GLeaf.co))) [.c (rd k l.length (l.flatMap (GLeaf.ci k)))] := by
  refine okS (fn := Try.f87) [] h0 Try.func87 (by kernel_rfl) rfl Try.ntmps87 Try.results87 (by simp) ?_
  simp
  refine ewp_nil 3 (.op 5 9 0) 103 (by decide) rfl rfl rfl ?_
  refine loopS [3, 6, 7, 8] [.op 5 9 0] (fun n st => ∃ (i : Nat), i + n = l.length ∧ st = ⟨slOf 24 [(3, .ref ⟨.op 5 9 0, []⟩ 0 i), (6, .t (rd k l.length (l.flatMap (GLeaf.ci k)))), (7, .t (pi l.length)), (8, .t (pi i))], ofL [(.op 5 9 0, .sl 0 103 i ((l.take i).flatMap GLeaf.co))]⟩) l.length ?_ ?_
  · rintro Inv hI
    simp
    subst hI
    exact ⟨0, by omega, by simp⟩
  · rintro Inv hI n st ⟨i, hi, rfl⟩
    have hA := fm_take_len GLeaf.co 2 (fun _ => rfl) l i (by omega)
    generalize hAe : ((l.take i).flatMap GLeaf.co) = A at hA ⊢
    refine ewr_sound (M := []) h0 ?_
    simp
    refine brn_app (fun a => ?_) (fun a => ?_)
    · simp at a
      have hd := fm_drop (GLeaf.ci k) 2 (fun _ => rfl) l i a
      have hlen := fm_len (GLeaf.ci k) 2 (fun _ => rfl) l
      have hlt : i * 2 < l.length * 2 := by omega
      have hb1 : (i + 1) * 40 ≤ 140737488355328 := by omega
      have hb2 : i ≤ 9223372036854775806 := by omega
      have hp := hx _ (List.getElem_mem a)
      have hp1 : l[i].Path.length * 16 ≤ 140737488355328 := by omega
      have hp2 : l[i].Path.length ≤ 9223372036854775807 := by omega
      have ht : A.take (i * 2) = A := List.take_of_length_le (by omega)
      have e3 : ((l.take (i + 1)).flatMap GLeaf.co) = A ++ GLeaf.co l[i] := by rw [take_step l i a, List.flatMap_append, hAe, List.flatMap_cons, List.flatMap_nil, List.append_nil]
      simp [a, hd, hlen, hlt]
      by_cases hpe : l[i].Path = []
      · refine drawP (tabEnv [] _) [⟨[.op 5 9 0], allD 24, true⟩, ⟨[], allD 24, false⟩, ⟨[.op 4 2 0], allD 24, true⟩, ⟨[.op 4 2 0], allD 24, true⟩, ⟨[.op 5 1 0], [12, 13, 14, 15, 16, 17, 18, 19, 20, 21, 3], false⟩, ⟨[.op 4 2 0], allD 24, true⟩, ⟨[.op 4 2 0], allD 24, true⟩, ⟨[.op 5 1 0], allD 24, true⟩, ⟨[.op 5 1 0, .op 5 7 0], [12, 13, 14, 15, 16, 17, 18, 19, 20, 21, 3], false⟩, ⟨[.op 5 9 0, .op 5 8 0], [12, 13, 14, 15, 16, 17, 18, 19, 20, 21, 3], false⟩, ⟨[.op 5 9 0], allD 24, true⟩] h0 hm (tabEnv_ok tab_nil) (by kernel_rfl) (by kernel_rfl) ?_
        simp [hA, hb1, hb2, ht, hpe]
        subst hI
        refine Less_mk (n - 1) (by omega) ⟨i + 1, by omega, ?_⟩
        rw [wrNext i (by omega), e3]
        all_goals simp [hpe]
      · refine drawP (tabEnv [] _) [⟨[.op 5 9 0], allD 24, true⟩, ⟨[], allD 24, false⟩, ⟨[.op 4 2 0], allD 24, true⟩, ⟨[.op 4 2 0], allD 24, true⟩, ⟨[.op 5 1 0], [12, 13, 14, 15, 16, 17, 18, 19, 20, 21, 3], false⟩, ⟨[.op 4 2 0], allD 24, true⟩, ⟨[.op 4 2 0], allD 24, true⟩, ⟨[.op 5 4 0], allD 24, true⟩, ⟨[.op 5 4 0, .op 5 7 0], [12, 13, 14, 15, 16, 17, 18, 19, 20, 21, 3], false⟩, ⟨[.op 5 9 0, .op 5 8 0], [12, 13, 14, 15, 16, 17, 18, 19, 20, 21, 3], false⟩, ⟨[.op 5 9 0], allD 24, true⟩] h0 hm (tabEnv_ok tab_nil) (by kernel_rfl) (by kernel_rfl) ?_
        simp [hA, hb1, hb2, ht, hpe, hp1, hp2]
        subst hI
        refine Less_mk (n - 1) (by omega) ⟨i + 1, by omega, ?_⟩
        rw [wrNext i (by omega), e3]
        all_goals simp
    · simp at a
      have hn : n = 0 := by omega
      subst hn
      have ht : List.take i l = l := List.take_of_length_le (by omega)
      have hil : i = l.length := by omega
      rw [← hAe, ht, hil]
      simp
theorem ok_l16Own (k : Nat) (s : GStore) (hs : storeB s) : CallOK Try.prog 111 [.agg (GStore.ci k s)] (.agg s.co) [.agg (GStore.ci k s)] := by
  obtain ⟨b1, b2, b3, b4⟩ := hs
  refine okS (fn := Try.f111) [] h0 Try.func111 (by kernel_rfl) rfl Try.ntmps111 Try.results111 (by simp) ?_
  simp
  have hE := f2_at2 (a1 := [PV.c (rd k s.Candidate.length (s.Candidate.flatMap (GLeaf.ci k)))]) (a2 := [PV.c (rd k s.Running.length (s.Running.flatMap (GLeaf.ci k)))]) (r1 := .c (.sl 0 103 s.Candidate.length (s.Candidate.flatMap GLeaf.co))) (r2 := .c (.sl 0 103 s.Running.length (s.Running.flatMap GLeaf.co))) (fun e => by
    simp only [List.cons.injEq, PV.c.injEq, rd, PT.sl.injEq, and_true, true_and] at e
    rw [ci_inj e.2])
  refine drawP (fnEnv 87 (f2 [PV.c (rd k s.Candidate.length (s.Candidate.flatMap (GLeaf.ci k)))] [PV.c (rd k s.Running.length (s.Running.flatMap (GLeaf.ci k)))] (.c (.sl 0 103 s.Candidate.length (s.Candidate.flatMap GLeaf.co))) (.c (.sl 0 103 s.Running.length (s.Running.flatMap GLeaf.co)))) (tabEnv [] [])) [⟨[.op 0 0 0], allD 31, true⟩, ⟨[.op 0 0 0], allD 31, true⟩, ⟨[], allD 31, false⟩, ⟨[.op 0 0 0], allD 31, true⟩, ⟨[.op 0 0 0], allD 31, true⟩, ⟨[], allD 31, false⟩, ⟨[.op 0 0 0], allD 31, true⟩, ⟨[.op 0 0 0], allD 31, true⟩, ⟨[.op 1 2 0, .op 1 5 0], allD 31, true⟩, ⟨[], allD 31, false⟩, ⟨[.op 1 9 0, .op 1 2 0, .op 1 5 0], [6, 7, 8, 9, 10, 11, 12, 13, 14, 3], false⟩] h0 hm (fnEnv_ok (tabEnv_ok tab_nil) (f2_ok (ok_l15Own k s.Candidate b1.1 (fun x hx => (b1.2 x hx).1)) (ok_l15Own k s.Running b2.1 (fun x hx => (b2.2 x hx).1)))) (by kernel_rfl) (by kernel_rfl) ?_
  simp [f2_at1, hE]
  refine loopS [2, 3, 16, 17, 18] [.op 1 9 0, .op 0 1 0] (fun m st => ∃ (i : Nat), i + m = s.History.length ∧ st = ⟨slOf 31 [(2, .ptr ⟨.op 0 1 0, []⟩ 0), (3, .ptr ⟨.op 1 9 0, []⟩ 0), (16, .t (rd k s.History.length (s.History.map (cLeafSi k)))), (17, .t (pi s.History.length)), (18, .t (pi i))], ofL [(.op 1 9 0, .sl 0 57 1 [.sl 0 103 s.Candidate.length (s.Candidate.flatMap GLeaf.co), .sl 0 103 s.Running.length (s.Running.flatMap GLeaf.co), (if i = 0 then .sl 0 nilE 0 [] else .sl 0 35 i ((s.History.take i).map cLeafSo)), pi s.Left]), (.op 0 1 0, .sl 0 57 1 [.sl 0 nilE 0 [], .sl 0 nilE 0 [], .sl 0 nilE 0 [], pi 0])]⟩) s.History.length ?_ ?_
  · rintro Inv hI
    simp
    subst hI
    exact ⟨0, by omega, rfl⟩
  · rintro Inv hI m st ⟨i, hi, rfl⟩
    have hts0 : ∀ a : i < s.History.length, (s.History.take (i + 1)).map cLeafSo = (s.History.take i).map cLeafSo ++ [cLeafSo s.History[i]] := fun a => by rw [take_step _ i a, List.map_append]; rfl
    have hln0 : i ≤ s.History.length → ((s.History.take i).map cLeafSo).length = i := fun h => by simp; omega
    have hfin : i = s.History.length → (s.History.take i).map cLeafSo = s.History.map cLeafSo := by rintro rfl; rw [List.take_length]
    have hA0 : i = 0 → (s.History.take i).map cLeafSo = [] := by rintro rfl; rfl
    generalize (s.History.take i).map cLeafSo = A at hts0 hln0 hfin hA0 ⊢
    refine ewr_sound (M := []) h0 ?_
    simp
    refine brn_app (fun a => ?_) (fun a => ?_)
    · simp at a
      have hts := hts0 a
      have hln := hln0 (by omega)
      have hb := b4 _ (List.getElem_mem a)
      have hb1 : (i + 1) * 24 ≤ 140737488355328 := by omega
      have hb2 : i + 1 ≤ 9223372036854775807 := by omega
      simp [a]
      by_cases hi0 : i = 0
      · subst hi0
        simp
        refine drawP (tabEnv [] _) [⟨[.op 1 9 0], allD 31, true⟩, ⟨[.op 1 9 0], allD 31, true⟩, ⟨[], allD 31, true⟩, ⟨[], allD 31, false⟩, ⟨[.op 5 3 0], [22, 23, 24, 25, 26, 27, 28], false⟩, ⟨[.op 1 9 0, .op 5 3 0, .op 5 4 0], [22, 23, 24, 25, 26, 27, 28], false⟩, ⟨[.op 1 9 0], allD 31, true⟩, ⟨[.op 1 9 0, .op 5 4 0, .op 5 5 0], [22, 23, 24, 25, 26, 27, 28], false⟩] h0 hm (tabEnv_ok (tab_cons (ok_l15Own k s.History[0] hb.1 (fun x hx => (hb.2 x hx).1)) tab_nil)) (by kernel_rfl) (by kernel_rfl) ?_
        simp
        subst hI
        refine Less_mk (m - 1) (by omega) ⟨0 + 1, by omega, ?_⟩
        rw [if_neg (by omega), hts, hA0 rfl]
        rfl
      · simp [hi0]
        refine drawP (tabEnv [] _) [⟨[.op 1 9 0], allD 31, true⟩, ⟨[.op 1 9 0], allD 31, true⟩, ⟨[], allD 31, true⟩, ⟨[], allD 31, false⟩, ⟨[.op 5 3 0], [22, 23, 24, 25, 26, 27, 28], false⟩, ⟨[.op 1 9 0, .op 5 3 0, .op 5 4 0, .op 5 5 0], [22, 23, 24, 25, 26, 27, 28], false⟩, ⟨[.op 1 9 0], allD 31, true⟩, ⟨[.op 1 9 0, .op 5 4 0, .op 5 5 0], [22, 23, 24, 25, 26, 27, 28], false⟩] h0 hm (tabEnv_ok (tab_cons (ok_l15Own k s.History[i] hb.1 (fun x hx => (hb.2 x hx).1)) tab_nil)) (by kernel_rfl) (by kernel_rfl) ?_
        have ht : A.take i = A := List.take_of_length_le (by omega)
        simp [hln, hb1, hb2, ht]
        subst hI
        refine Less_mk (m - 1) (by omega) ⟨i + 1, by omega, ?_⟩
        rw [if_neg (by omega), hts, wrNext i (by omega)]
    · simp at a
      have hin : i = s.History.length := by omega
      by_cases hi0 : i = 0
      · subst hi0
        have : s.History = [] := List.length_eq_zero_iff.1 hin.symm
        simp [this]
      · have hfin := hfin hin
        subst hin
        simp [hi0, hfin]
theorem delL_snoc (p : List ByteArray) (l : List GLeaf) (i : Nat) (h : i < l.length) : delL p (l.take (i + 1)) = delL p (l.take i) ++ (if begP p l[i].Path = true then [] else [l[i]]) := by
  unfold delL
  rw [take_step l i h, List.filter_append]
  by_cases hb : begP p l[i].Path = true <;> simp [hb, begL]
theorem ok_sDeleteAt (k k' : Nat) (l : List GLeaf) (p : List ByteArray) (hl : l.length ≤ 1048576) (hx : ∀ x ∈ l, x.Path.length ≤ 1048576) (hlo : confOK l) (hp : strsOK p) : CallOK Try.prog 31 [.c (rd k l.length (l.flatMap (GLeaf.ci k))), .c (rd k' p.length (p.map ps))] (.tup [.c (.sl 0 103 (rDeleteAt l p).1.length ((rDeleteAt l p).1.flatMap GLeaf.co)), .c (pb (rDeleteAt l p).2)]) [.c (rd k l.length (l.flatMap (GLeaf.ci k))), .c (rd k' p.length (p.map ps))] := by
  refine okS (fn := Try.f31) [] h0 Try.func31 (by kernel_rfl) rfl Try.ntmps31 Try.results31 (by simp) ?_
  simp
  refine Inv_intro (ok_sGoodConfig k l hlo) ?_
  simp
  cases c1 : goodC l with
  | false => simp [rDeleteAt, c1]
  | true =>
    simp
    refine Inv_intro (ok_l15Path k' p hp.1 hp.2) ?_
    simp
    cases c2 : isP p with
    | false => simp [rDeleteAt, c2]
    | true =>
      simp
      refine Inv_intro (ok_l15Own k l hl hx) ?_
      have hll := delL_len p l
      have er : rDeleteAt l p = if (delL p l).length = l.length then ([], false) else (delL p l, true) := by
        unfold rDeleteAt
        by_cases h : (delL p l).length = l.length <;> simp [c1, c2, h]
      rw [er]
      simp
      refine ewp_nil 6 (.op 8 3 0) 103 (by decide) rfl rfl rfl ?_
      refine loopS [0, 1, 6, 18, 19, 20] [.op 8 3 0, .op 4 1 0] (fun n st => ∃ (i : Nat) (C : List PT), i + n = l.length ∧ C.length = l.length * 2 ∧ C.drop (i * 2) = (l.drop i).flatMap GLeaf.co ∧ st = ⟨slOf 40 [(0, .t (rd k l.length (l.flatMap (GLeaf.ci k)))), (1, .t (rd k' p.length (p.map ps))), (6, .ref ⟨.op 8 3 0, []⟩ 0 (delL p (l.take i)).length), (18, .ref ⟨.op 4 1 0, []⟩ 0 l.length), (19, .t (pi l.length)), (20, .t (pi i))], ofL [(.op 8 3 0, .sl 0 103 (delL p (l.take i)).length ((delL p (l.take i)).flatMap GLeaf.co)), (.op 4 1 0, .sl 0 103 l.length C)]⟩) l.length ?_ ?_
      · rintro Inv hI
        simp
        subst hI
        exact ⟨0, l.flatMap GLeaf.co, by omega, fm_len GLeaf.co 2 (fun _ => rfl) l, rfl, rfl⟩
      · rintro Inv hI n st ⟨i, C, hi, hCl, hCd0, rfl⟩
        have hO : (delL p (l.take i)).length ≤ i := Nat.le_trans (delL_len _ _) (by simp; omega)
        have hS := delL_snoc p l i
        have hfin : i = l.length → delL p (l.take i) = delL p l := by rintro rfl; rw [List.take_length]
        generalize hOe : delL p (l.take i) = O at hO hS hfin ⊢
        have hA := fm_len GLeaf.co 2 (fun _ => rfl) O
        have hAm : ∀ y, (O ++ [y]).flatMap GLeaf.co = O.flatMap GLeaf.co ++ GLeaf.co y := fun y => by simp
        refine ewr_sound (M := []) h0 ?_
        simp
        refine brn_app (fun a => ?_) (fun a => ?_)
        · simp at a
          have hS' := hS a
          have hCd : C.drop (i * 2) = .sl 0 9 l[i].Path.length (l[i].Path.map ps) :: ps l[i].Value :: (l.drop (i + 1)).flatMap GLeaf.co := by
            rw [hCd0, drop_step _ i a, List.flatMap_cons]
            rfl
          have hCg : ∀ h : i * 2 < C.length, C[i * 2] = .sl 0 9 l[i].Path.length (l[i].Path.map ps) := by
            intro h
            rw [List.drop_eq_getElem_cons h] at hCd
            exact (List.cons.inj hCd).1
          have hCn : C.drop ((i + 1) * 2) = (l.drop (i + 1)).flatMap GLeaf.co := by
            have : (i + 1) * 2 = i * 2 + 2 := by omega
            rw [this, ← List.drop_drop, hCd]
            rfl
          have hb : i * 2 + 2 ≤ l.length * 2 := by omega
          have hp1 := hx _ (List.getElem_mem a)
          simp [a, hCl, hCd, hCg, hb]
          refine Inv_intro (ok_l15Begins k' 0 p l[i].Path hp.1 (by omega)) ?_
          simp
          refine brn_app (fun b => ?_) (fun b => ?_)
          · simp at b
            rw [if_neg (by simp [b])] at hS'
            generalize hAe : O.flatMap GLeaf.co = A at hA hAm ⊢
            have ht : A.take (O.length * 2) = A := List.take_of_length_le (by omega)
            have hb1 : (O.length + 1) * 40 ≤ 140737488355328 := by omega
            have hb2 : O.length + 1 ≤ 9223372036854775807 := by omega
            simp [hA, ht, hb1, hb2]
            subst hI
            refine Less_mk (n - 1) (by omega) ⟨i + 1, C.set (i * 2) .hole, by omega, by rw [List.length_set]; exact hCl, by rw [set_drop C _ _ _ (by omega), hCn], ?_⟩
            rw [hS', wrNext i (by omega), hAm, List.length_append]
            rfl
          · simp at b
            rw [if_pos b, List.append_nil] at hS'
            simp
            subst hI
            refine Less_mk (n - 1) (by omega) ⟨i + 1, C.set (i * 2) .hole, by omega, by rw [List.length_set]; exact hCl, by rw [set_drop C _ _ _ (by omega), hCn], ?_⟩
            rw [hS', wrNext i (by omega)]
        · simp at a
          have hin : i = l.length := by omega
          have hfin := hfin hin
          subst hfin
          simp
          refine brn_app (fun b => ?_) (fun b => ?_)
          · simp at b
            have h : (delL p l).length = l.length := by omega
            simp [h]
          · simp at b
            have h : ¬ (delL p l).length = l.length := by omega
            have ht : ((delL p l).flatMap GLeaf.co).take ((delL p l).length * 2) = (delL p l).flatMap GLeaf.co := List.take_of_length_le (by omega)
            simp [h, hA, ht]
theorem ofL_mv (n : Nat) (l : List (Id × PT)) (i : Id) (t : PT) (h : ((l.take n).all fun p => !decide (p.1 = i)) = true) : ofL ((i, t) :: l) = ofL (l.take n ++ (i, t) :: l.drop n) := by
  induction n generalizing l with
  | zero => rfl
  | succ n ih => cases l with
    | nil => rfl
    | cons p l =>
      obtain ⟨j, y⟩ := p
      simp at h
      have ih := ih l (by simpa using h.2)
      show ofL ((i, t) :: (j, y) :: l) = ofL ((j, y) :: (l.take n ++ (i, t) :: l.drop n))
      have e : ofL ((j, y) :: (l.take n ++ (i, t) :: l.drop n)) = ofL ((j, y) :: (i, t) :: l) := by
        funext q
        simp only [ofL]
        rw [← ih]
        rfl
      rw [e]
      funext q
      by_cases c : q = i
      · subst c
        have h1 := h.1
        simp [ofL, Ne.symm h1]
      · simp [ofL, c]
theorem ofL_sw2 {a b c : Id} {x y z : PT} (h : b ≠ c) : ofL [(a, x), (c, z), (b, y)] = ofL [(a, x), (b, y), (c, z)] := by
  funext q
  by_cases e : q = c
  · subst e
    simp [ofL, h.symm]
  · simp [ofL, e]
theorem ok_l15Put (m : List GLeaf) (x : GLeaf) (hm' : confOK m) (hl : m.length ≤ 1048576) (hx : x.Path.length ≤ 140737488351232) : CallOK Try.prog 103 [.c (.sl 0 103 m.length (m.flatMap GLeaf.co)), .agg x.co] (.c (.sl 0 103 (putL x.Path x.Value m).length ((putL x.Path x.Value m).flatMap GLeaf.co))) [.c (.sl 0 103 m.length ((m.flatMap GLeaf.co).map PT.hollow)), .agg [.hole, ps x.Value]] := by
  refine okS (fn := Try.f103) [] h0 Try.func103 (by kernel_rfl) rfl Try.ntmps103 Try.results103 (by simp) ?_
  simp
  refine loopS [0, 3, 5] [.arg 0 0, .op 0 0 0] (fun n st => ∃ (k : Nat), k + n = m.length ∧ (∀ (j : Nat) (hj : j < k) (hj' : j < m.length), cmpP m[j].Path x.Path < 0) ∧ st = ⟨slOf 37 [(0, .ref ⟨.arg 0 0, []⟩ 0 m.length), (3, .ptr ⟨.op 0 0 0, []⟩ 0), (5, .t (pi k))], ofL [(.arg 0 0, .sl 0 103 m.length (m.flatMap GLeaf.co)), (.arg 1 0, .hole), (.op 0 0 0, .sl 0 103 1 x.co)]⟩) m.length ?_ ?_
  · rintro Inv hI
    simp
    subst hI
    exact ⟨0, by omega, by intro j hj; omega, rfl⟩
  · rintro Inv hI n st ⟨k, hk, hall, rfl⟩
    have hml := hm'.1
    have hat : ∀ (h : k < m.length), 0 ≤ cmpP m[k].Path x.Path → atI x.Path m = k := fun h h2 => bsI_eq _ m k (by omega) hall fun _ => h2
    have hat2 : k = m.length → atI x.Path m = k := fun h => bsI_eq _ m k (by omega) hall fun h2 => by omega
    have hcm := fm_len GLeaf.co 2 (fun _ => rfl) m
    refine ewr_sound (M := []) h0 ?_
    simp
    by_cases c1 : k < m.length
    · have c1' : (k : Int) < m.length := by omega
      have hd := fm_drop GLeaf.co 2 (fun _ => rfl) m k c1
      have hlt : k * 2 < m.length * 2 := by omega
      have hCg : ∀ h : k * 2 < (m.flatMap GLeaf.co).length, (m.flatMap GLeaf.co)[k * 2] = .sl 0 9 m[k].Path.length (m[k].Path.map ps) := by
        intro h
        have hd2 := hd
        rw [List.drop_eq_getElem_cons h] at hd2
        exact (List.cons.inj hd2).1
      refine drawP (tabEnv [] _) [⟨[], allD 37, true⟩, ⟨[.arg 0 0], allD 37, true⟩, ⟨[.arg 0 0], allD 37, true⟩, ⟨[], allD 37, true⟩, ⟨[], allD 37, true⟩, ⟨[.arg 0 0], allD 37, true⟩, ⟨[], allD 37, true⟩, ⟨[.arg 0 0], allD 37, true⟩, ⟨[.arg 0 0], allD 37, true⟩, ⟨[.arg 0 0], allD 37, true⟩, ⟨[.op 0 0 0], allD 37, true⟩, ⟨[.op 0 0 0], allD 37, true⟩, ⟨[.arg 0 0, .op 0 0 0], [7, 8, 9, 10, 11, 12, 13, 14, 15, 16, 17, 18, 19, 20], false⟩, ⟨[], allD 37, true⟩] h0 hm (tabEnv_ok (tab_cons (ok_l15Less 0 0 m[k].Path x.Path (hm'.2 _ (List.getElem_mem c1)).1.1 hx) tab_nil)) (by kernel_rfl) (by kernel_rfl) ?_
      simp [c1, c1', hd, hcm, hlt, hCg]
      cases c2 : lessP m[k].Path x.Path with
      | true =>
        have h2 := (cmpP_neg _ _).2 c2
        simp
        subst hI
        refine Less_mk (n - 1) (by omega) ⟨k + 1, by omega, ?_, ?_⟩
        · intro j hj hj'
          rcases Nat.lt_or_ge j k with h' | h'
          · exact hall j h' hj'
          · have : j = k := by omega
            subst this
            exact h2
        · rw [wrNext k (by omega), ofL_sw2 (by decide)]
          rfl
      | false =>
        have h2 : 0 ≤ cmpP m[k].Path x.Path := Int.not_lt.1 fun hc => by rw [(cmpP_neg _ _).1 hc] at c2; cases c2
        have hat := hat c1 h2
        have hkl : k ≤ m.length := by omega
        have hpc := putL_co x.Path x.Value m
        have hpl := putL_len x.Path x.Value m
        rw [hat] at hpc
        rw [hpc, hpl]
        generalize m.flatMap GLeaf.co = F at *
        have hb1 : k * 2 ≤ m.length * 2 := by omega
        have hb2 : k * 40 ≤ 140737488355328 := by omega
        have hb3 : k ≤ 9223372036854775807 := by omega
        have hb4 : (k + 1) * 40 ≤ 140737488355328 := by omega
        have hb5 : k + 1 ≤ 9223372036854775807 := by omega
        have hb6 : (m.length + 1) * 40 ≤ 140737488355328 := by omega
        have hb7 : m.length ≤ 9223372036854775806 := by omega
        have hTl : (F.take (k * 2)).length = k * 2 := by rw [List.length_take]; omega
        have hmk : ¬ m.length - k = 0 := by omega
        by_cases hk0 : k = 0
        · subst hk0
          have hmn : ¬ m = [] := by rintro rfl; simp at c1
          have hd1 : m.length * 2 ≤ F.length := by omega
          have hd2 : (1 + m.length) * 40 ≤ 140737488355328 := by omega
          have hd3 : 1 + m.length ≤ 9223372036854775807 := by omega
          have hTF : F.take (m.length * 2) = F := List.take_of_length_le (by omega)
          have hHF : (F.map PT.hollow).take (m.length * 2) ++ F.drop (m.length * 2) = F.map PT.hollow := by rw [List.take_of_length_le (by rw [List.length_map]; omega), List.drop_of_length_le (by omega), List.append_nil]
          have hnn : 1 + m.length = m.length + 1 := by omega
          have hD0 : F.drop (m.length * 2) = [] := List.drop_of_length_le (by omega)
          have hr1 : (m.length + 1) * 2 ≤ m.length * 2 + 1 + 1 := by omega
          have hr2 : ∀ a b : PT, List.take ((m.length + 1) * 2) (a :: b :: F) = a :: b :: F := fun a b => List.take_of_length_le (by simp only [List.length_cons]; omega)
          simp [hkl, hmn, hd1, hd2, hd3, hTF, hHF, hnn, hb6, hb7, hD0, hcm, hr1, hr2]
        · have he1 : k * 2 + (m.length - k) * 2 ≤ m.length * 2 := by omega
          have he2 : (k + 1 + (m.length - k)) * 40 ≤ 140737488355328 := by omega
          have he3 : k + 1 + (m.length - k) ≤ 9223372036854775807 := by omega
          have hTT : (F.take (k * 2)).take (k * 2) = F.take (k * 2) := List.take_of_length_le (by omega)
          have hDD : (F.drop (k * 2)).take ((m.length - k) * 2) = F.drop (k * 2) := List.take_of_length_le (by rw [List.length_drop]; omega)
          have hHF : (F.map PT.hollow).take (k * 2) ++ (((F.map PT.hollow).drop (k * 2)).take ((m.length - k) * 2) ++ F.drop (k * 2 + (m.length - k) * 2)) = F.map PT.hollow := by rw [List.drop_of_length_le (l := F) (by omega), List.append_nil, List.take_of_length_le (l := (F.map PT.hollow).drop (k * 2)) (by rw [List.length_drop, List.length_map]; omega), List.take_append_drop]
          have hnn : k + 1 + (m.length - k) = m.length + 1 := by omega
          have hD0 : F.drop (k * 2 + (m.length - k) * 2) = [] := List.drop_of_length_le (by omega)
          have hr1 : (m.length + 1) * 2 ≤ k * 2 + (m.length * 2 - k * 2 + 1 + 1) := by omega
          have hr2 : ∀ a b : PT, List.take ((m.length + 1) * 2) (F.take (k * 2) ++ a :: b :: F.drop (k * 2)) = F.take (k * 2) ++ a :: b :: F.drop (k * 2) := fun a b => List.take_of_length_le (by simp only [List.length_append, List.length_cons, List.length_drop, hTl]; omega)
          simp [hkl, hk0, hb1, hb2, hb3, hb4, hb5, hb6, hb7, hcm, hTl, hmk, he1, he2, he3, hTT, hDD, hHF, hnn, hD0, hr1, hr2]
    · have c1' : ¬ (k : Int) < m.length := by omega
      refine drawP (tabEnv [] _) [⟨[], allD 37, true⟩, ⟨[.arg 0 0], allD 37, true⟩, ⟨[.arg 0 0], allD 37, true⟩, ⟨[], allD 37, true⟩, ⟨[], allD 37, true⟩, ⟨[.arg 0 0], allD 37, true⟩, ⟨[], allD 37, true⟩, ⟨[.arg 0 0], allD 37, true⟩, ⟨[.arg 0 0], allD 37, true⟩, ⟨[.arg 0 0], allD 37, true⟩, ⟨[.op 0 0 0], allD 37, true⟩, ⟨[.op 0 0 0], allD 37, true⟩, ⟨[.arg 0 0, .op 0 0 0], [7, 8, 9, 10, 11, 12, 13, 14, 15, 16, 17, 18, 19, 20], false⟩, ⟨[], allD 37, true⟩] h0 hm (tabEnv_ok tab_nil) (by kernel_rfl) (by kernel_rfl) ?_
      simp [c1, c1']
      have hkn : k = m.length := by omega
      have hat := hat2 hkn
      have hpc := putL_co x.Path x.Value m
      have hpl := putL_len x.Path x.Value m
      rw [hat] at hpc
      rw [hpc, hpl]
      subst hkn
      generalize m.flatMap GLeaf.co = F at *
      have hb2 : m.length * 40 ≤ 140737488355328 := by omega
      have hb3 : m.length ≤ 9223372036854775807 := by omega
      have hb6 : (m.length + 1) * 40 ≤ 140737488355328 := by omega
      have hb7 : m.length ≤ 9223372036854775806 := by omega
      have hTF : F.take (m.length * 2) = F := List.take_of_length_le (by omega)
      have hD0 : F.drop (m.length * 2) = [] := List.drop_of_length_le (by omega)
      have hHT : (F.map PT.hollow).take (m.length * 2) = F.map PT.hollow := List.take_of_length_le (by rw [List.length_map]; omega)
      by_cases hk0 : m = []
      · subst hk0
        have hF0 : F = [] := List.length_eq_zero_iff.1 (by simpa using hcm)
        subst hF0
        simp
      · have hk1 : ¬ m.length = 0 := fun e => hk0 (List.length_eq_zero_iff.1 e)
        simp [hk0, hk1, hb2, hb3, hb6, hb7, hcm, hTF, hD0, hHT]
theorem keptL_len (p : List ByteArray) (l : List GLeaf) : (keptL p l).length ≤ l.length := List.length_filter_le _ _
theorem keptL_snoc (p : List ByteArray) (l : List GLeaf) (i : Nat) (h : i < l.length) : keptL p (l.take (i + 1)) = keptL p (l.take i) ++ (if clashB p l[i] = true then [] else [l[i]]) := by
  unfold keptL
  rw [take_step l i h, List.filter_append]
  by_cases hb : clashB p l[i] = true <;> simp [hb]
theorem ok_sSetAt (k k' : Nat) (l : List GLeaf) (p : List ByteArray) (v : ByteArray) (hl : l.length ≤ 1048576) (hx : ∀ x ∈ l, x.Path.length ≤ 1048576) (hlo : confOK l) (hp : strsOK p) (hp1 : p.length ≤ 1048576) (hv : v.size ≤ 140737488355328) : CallOK Try.prog 46 [.c (rd k l.length (l.flatMap (GLeaf.ci k))), .c (rd k' p.length (p.map ps)), .c (ps v)] (.tup [.c (.sl 0 103 (rSetAt l p v).1.length ((rSetAt l p v).1.flatMap GLeaf.co)), .c (pb (rSetAt l p v).2)]) [.c (rd k l.length (l.flatMap (GLeaf.ci k))), .c (rd k' p.length (p.map ps)), .c (ps v)] := by
  refine okS (fn := Try.f46) [(103, [2,2])] h0 Try.func46 (by kernel_rfl) rfl Try.ntmps46 Try.results46 (by simp) ?_
  simp
  refine Inv_intro (ok_sGoodConfig k l hlo) ?_
  simp
  cases c1 : goodC l with
  | false => simp [rSetAt, c1]
  | true =>
    simp
    refine Inv_intro (ok_l15Path k' p hp.1 hp.2) ?_
    simp
    cases c2 : isP p with
    | false => simp [rSetAt, c2]
    | true =>
      simp
      refine Inv_intro (ok_l15Word v hv) ?_
      simp
      cases c3 : isW v with
      | false => simp [rSetAt, c3]
      | true =>
        simp
        refine Inv_intro (ok_l15Own k l hl hx) ?_
        simp
        refine ewp_nil 8 (.op 8 3 0) 103 (by decide) rfl rfl rfl ?_
        refine loopS [1, 2, 8, 25, 26, 27] [.op 8 3 0, .op 4 1 0] (fun n st => ∃ (i : Nat) (C : List PT), i + n = l.length ∧ C.length = l.length * 2 ∧ C.drop (i * 2) = (l.drop i).flatMap GLeaf.co ∧ st = ⟨slOf 59 [(1, .t (rd k' p.length (p.map ps))), (2, .t (ps v)), (8, .ref ⟨.op 8 3 0, []⟩ 0 (keptL p (l.take i)).length), (25, .ref ⟨.op 4 1 0, []⟩ 0 l.length), (26, .t (pi l.length)), (27, .t (pi i))], ofL [(.op 8 3 0, .sl 0 103 (keptL p (l.take i)).length ((keptL p (l.take i)).flatMap GLeaf.co)), (.op 4 1 0, .sl 0 103 l.length C)]⟩) l.length ?_ ?_
        · rintro Inv hI
          simp
          subst hI
          exact ⟨0, l.flatMap GLeaf.co, by omega, fm_len GLeaf.co 2 (fun _ => rfl) l, rfl, rfl⟩
        · rintro Inv hI n st ⟨i, C, hi, hCl, hCd0, rfl⟩
          have hO : (keptL p (l.take i)).length ≤ i := Nat.le_trans (keptL_len _ _) (by simp; omega)
          have hS := keptL_snoc p l i
          have hfin : i = l.length → keptL p (l.take i) = keptL p l := by rintro rfl; rw [List.take_length]
          generalize hOe : keptL p (l.take i) = O at hO hS hfin ⊢
          have hA := fm_len GLeaf.co 2 (fun _ => rfl) O
          have hAm : ∀ y, (O ++ [y]).flatMap GLeaf.co = O.flatMap GLeaf.co ++ GLeaf.co y := fun y => by simp
          refine ewr_sound (M := [(103, [2, 2])]) h0 ?_
          simp
          refine brn_app (fun a => ?_) (fun a => ?_)
          · simp at a
            have hS' := hS a
            have hCd : C.drop (i * 2) = .sl 0 9 l[i].Path.length (l[i].Path.map ps) :: ps l[i].Value :: (l.drop (i + 1)).flatMap GLeaf.co := by
              rw [hCd0, drop_step _ i a, List.flatMap_cons]
              rfl
            have hCg : ∀ h : i * 2 < C.length, C[i * 2] = .sl 0 9 l[i].Path.length (l[i].Path.map ps) := by
              intro h
              rw [List.drop_eq_getElem_cons h] at hCd
              exact (List.cons.inj hCd).1
            have hCn : C.drop ((i + 1) * 2) = (l.drop (i + 1)).flatMap GLeaf.co := by
              have : (i + 1) * 2 = i * 2 + 2 := by omega
              rw [this, ← List.drop_drop, hCd]
              rfl
            have hb : i * 2 + 2 ≤ l.length * 2 := by omega
            have hp1 := hx _ (List.getElem_mem a)
            simp [a, hCl, hCd, hCg, hb]
            refine Inv_intro (ok_l15Begins 0 k' l[i].Path p (by omega) hp.1) ?_
            cases b1 : begP l[i].Path p with
            | true =>
              have hb : clashB p l[i] = true := by simp [clashB, b1]
              rw [if_pos hb, List.append_nil] at hS'
              simp
              subst hI
              refine Less_mk (n - 1) (by omega) ⟨i + 1, C.set (i * 2) .hole, by omega, by rw [List.length_set]; exact hCl, by rw [set_drop C _ _ _ (by omega), hCn], ?_⟩
              rw [hS', wrNext i (by omega)]
            | false =>
              simp
              refine Inv_intro (ok_l15Begins k' 0 p l[i].Path hp.1 (by omega)) ?_
              cases b2 : begP p l[i].Path with
              | true =>
                have hb : clashB p l[i] = true := by simp [clashB, b2]
                rw [if_pos hb, List.append_nil] at hS'
                simp
                subst hI
                refine Less_mk (n - 1) (by omega) ⟨i + 1, C.set (i * 2) .hole, by omega, by rw [List.length_set]; exact hCl, by rw [set_drop C _ _ _ (by omega), hCn], ?_⟩
                rw [hS', wrNext i (by omega)]
              | false =>
                have hb : ¬ clashB p l[i] = true := by simp [clashB, b1, b2]
                rw [if_neg hb] at hS'
                generalize hAe : O.flatMap GLeaf.co = A at hA hAm ⊢
                have ht : A.take (O.length * 2) = A := List.take_of_length_le (by omega)
                have hb1 : (O.length + 1) * 40 ≤ 140737488355328 := by omega
                have hb2 : O.length + 1 ≤ 9223372036854775807 := by omega
                simp [hA, ht, hb1, hb2]
                subst hI
                refine Less_mk (n - 1) (by omega) ⟨i + 1, C.set (i * 2) .hole, by omega, by rw [List.length_set]; exact hCl, by rw [set_drop C _ _ _ (by omega), hCn], ?_⟩
                rw [hS', wrNext i (by omega), hAm, List.length_append]
                rfl
          · simp at a
            have hin : i = l.length := by omega
            have hfin := hfin hin
            have hOl : O.length ≤ l.length := by omega
            subst hfin
            have ht : ((keptL p l).flatMap GLeaf.co).take ((keptL p l).length * 2) = (keptL p l).flatMap GLeaf.co := List.take_of_length_le (by omega)
            have hpe : ¬ p = [] := by
              rintro rfl
              simp [isP] at c2
            have hq1 : p.length * 16 ≤ 140737488355328 := by omega
            have hq2 : p.length ≤ 9223372036854775807 := by omega
            have hput := ok_l15Put (keptL p l) ⟨p, v⟩ (kept_conf hlo) (by omega) hp.1
            have hsl : putL p v (keptL p l) = setC p v l := rfl
            rw [hsl] at hput
            have hso := set_conf (p := p) (v := v) hlo hl hp hv
            simp [hpe, hq1, hq2, hA, ht]
            refine Inv_intro hput ?_
            simp
            refine Inv_intro (ok_sGoodConfig 0 (setC p v l) hso) ?_
            simp
            cases c4 : goodC (setC p v l) with
            | false => simp [rSetAt, c4]
            | true =>
              have er : rSetAt l p v = (setC p v l, true) := by simp [rSetAt, c1, c2, c3, c4]
              rw [er]
              simp
end Go.V
