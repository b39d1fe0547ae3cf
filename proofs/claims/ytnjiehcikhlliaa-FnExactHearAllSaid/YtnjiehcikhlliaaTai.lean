/- What functions of the seat's program do, each proved of its code, under the bounds that its theorem names. -/
import Derived.Test.YtnjiehcikhlliaaTah
set_option linter.all false
namespace Go.V
open Go.Proofs
set_option maxHeartbeats 1000000
set_option maxRecDepth 10000
set_option linter.unusedSimpArgs false
set_option linter.unusedVariables false
theorem ok_findRoute1 (k : Nat) (o : GRoute) (n : GPrefix) : CallOK Try.prog 60 [.agg (GRoute.ci k o), .agg n.c] (.c (pi (cmpPx o.Prefix n))) [.agg (GRoute.ci k o), .agg n.c] := by
  refine okS (fn := Try.f60) [] h0 Try.func60 (by kernel_rfl) rfl Try.ntmps60 Try.results60 (by simp) ?_
  simp
  refine Inv_intro (ok_compare o.Prefix n) ?_
  simp
theorem ok_BS_Route (k : Nat) (xs : List GRoute) (n : GPrefix) (hl : xs.length ≤ 140737488351232) (hmono : ∀ (i j : Nat) (hij : i < j) (hj : j < xs.length), cmpPx xs[j].Prefix n < 0 → cmpPx xs[i].Prefix n < 0) :
    CallOK Try.prog 59 [.c (rd k xs.length (xs.flatMap (GRoute.ci k))), .agg n.c, .c (.fn 0 60 [])] (.tup [.c (pi (bsI (fun o : GRoute => cmpPx o.Prefix n) xs)), .c (pb (bsF (fun o : GRoute => cmpPx o.Prefix n) xs))]) [.c (rd k xs.length (xs.flatMap (GRoute.ci k))), .agg n.c, .c (.fn 0 60 [])] := by
  refine okS (fn := Try.f59) [] h0 Try.func59 (by kernel_rfl) rfl Try.ntmps59 Try.results59 (by simp) ?_
  simp
  refine loopS [0, 2, 4, 8, 9, 10] [.op 0 0 0] (fun m st => ∃ (i j : Nat), i + m = j ∧ j ≤ xs.length ∧ (∀ (q : Nat) (hq : q < i) (hl : q < xs.length), cmpPx xs[q].Prefix n < 0) ∧ (∀ (q : Nat) (hq : j ≤ q) (hl : q < xs.length), 0 ≤ cmpPx xs[q].Prefix n) ∧ st = ⟨slOf 49 [(0, .t (rd k xs.length (xs.flatMap (GRoute.ci k)))), (2, .t (.fn 0 60 [])), (4, .ptr ⟨.op 0 0 0, []⟩ 0), (8, .t (pi xs.length)), (9, .t (pi i)), (10, .t (pi j))], ofL [(.op 0 0 0, .sl 0 56 1 n.c)]⟩) xs.length ?_ ?_
  · rintro Inv hI
    simp
    subst hI
    exact ⟨0, xs.length, by omega, by omega, by intro q hq; omega, by intro q hq h; omega, rfl⟩
  · rintro Inv hI m st ⟨i, j, hm', hj, hlo, hhi, rfl⟩
    refine ewr_sound (M := []) h0 ?_
    simp
    refine brn_app (fun a => ?_) (fun a => ?_)
    · simp at a
      have hw0 : IntKind.wrap .i64 ((i : Int) + j) = (i : Int) + j := wrap64 (by omega) (by omega)
      have hw := half_u64 i j (by omega)
      obtain ⟨h, hh⟩ : ∃ h, h = (i + j) / 2 := ⟨_, rfl⟩
      rw [← hh] at hw
      have hb : h < xs.length := by omega
      have hd := fm_drop (GRoute.ci k) 8 (fun _ => rfl) xs h hb
      have hlen := fm_len (GRoute.ci k) 8 (fun _ => rfl) xs
      have hlt : h * 8 < xs.length * 8 := by omega
      simp [hw0, hw]
      refine drawP (tabEnv [] _) [⟨[], allD 49, true⟩, ⟨[], allD 49, true⟩, ⟨[], allD 49, true⟩, ⟨[], allD 49, true⟩, ⟨[], allD 49, true⟩, ⟨[.op 0 0 0], allD 49, true⟩, ⟨[], allD 49, false⟩, ⟨[], allD 49, true⟩] h0 hm (tabEnv_ok (tab_cons (ok_findRoute1 k xs[h] n) tab_nil)) (by kernel_rfl) (by kernel_rfl) ?_
      simp [hb, hd, hlen, hlt]
      refine brn_app (fun b => ?_) (fun b => ?_)
      · simp at b
        have hn1 : IntKind.wrap .i64 ((h : Int) + 1) = ((h + 1 : Nat) : Int) := wrNext h (by omega)
        simp
        subst hI
        refine Less_mk (j - (h + 1)) (by omega) ⟨h + 1, j, by omega, hj, ?_, hhi, by rw [hn1]; rfl⟩
        intro q hq hql
        rcases Nat.lt_or_ge q h with h' | h'
        · exact hmono q h h' hb b
        · have : q = h := by omega
          subst this
          exact b
      · simp at b
        simp
        subst hI
        refine Less_mk (h - i) (by omega) ⟨i, h, by omega, by omega, hlo, ?_, rfl⟩
        intro q hq hql
        rcases Nat.eq_or_lt_of_le hq with h' | h'
        · subst h'
          exact b
        · exact Int.not_lt.1 fun hc => by have := hmono h q h' hql hc; omega
    · simp at a
      have hij : i = j := by omega
      subst hij
      have e1 : bsI (fun o : GRoute => cmpPx o.Prefix n) xs = i := bsI_eq _ xs i hj hlo fun h => hhi i (Nat.le_refl _) h
      simp
      by_cases hb : i < xs.length
      · have hd := fm_drop (GRoute.ci k) 8 (fun _ => rfl) xs i hb
        have hlen := fm_len (GRoute.ci k) 8 (fun _ => rfl) xs
        have hlt : i * 8 < xs.length * 8 := by omega
        have e2 : bsF (fun o : GRoute => cmpPx o.Prefix n) xs = decide (cmpPx xs[i].Prefix n = 0) := by simp only [bsF, e1, List.getElem?_eq_getElem hb]
        refine drawP (tabEnv [] _) [⟨[], allD 49, true⟩, ⟨[], allD 49, true⟩, ⟨[], allD 49, true⟩, ⟨[], allD 49, true⟩, ⟨[], allD 49, true⟩, ⟨[], allD 49, true⟩, ⟨[], allD 49, true⟩, ⟨[], allD 49, true⟩, ⟨[], allD 49, true⟩, ⟨[], allD 49, true⟩, ⟨[.op 0 0 0], allD 49, true⟩, ⟨[], allD 49, false⟩, ⟨[], allD 49, true⟩, ⟨[], allD 49, true⟩, ⟨[], allD 49, true⟩, ⟨[], allD 49, true⟩] h0 hm (tabEnv_ok (tab_cons (ok_findRoute1 k xs[i] n) tab_nil)) (by kernel_rfl) (by kernel_rfl) ?_
        simp [hb, hd, hlen, hlt, e1, e2]
      · have e2 : bsF (fun o : GRoute => cmpPx o.Prefix n) xs = false := by simp only [bsF, e1, List.getElem?_eq_none (Nat.le_of_not_lt hb)]
        refine drawP E0 [⟨[], allD 49, true⟩, ⟨[], allD 49, true⟩, ⟨[], allD 49, true⟩, ⟨[], allD 49, true⟩, ⟨[], allD 49, true⟩, ⟨[], allD 49, true⟩, ⟨[], allD 49, true⟩, ⟨[], allD 49, true⟩, ⟨[], allD 49, true⟩, ⟨[], allD 49, true⟩, ⟨[.op 0 0 0], allD 49, true⟩, ⟨[], allD 49, false⟩, ⟨[], allD 49, true⟩, ⟨[], allD 49, true⟩, ⟨[], allD 49, true⟩, ⟨[], allD 49, true⟩] h0 hm (E0_ok _) (by kernel_rfl) (by kernel_rfl) ?_
        simp [hb, e1, e2]
theorem ok_findRoute (k : Nat) (l : List GRoute) (p : GPrefix) (hl : l.length ≤ 140737488351232) (hs : srt l) : CallOK Try.prog 27 [.c (rd k l.length (l.flatMap (GRoute.ci k))), .agg p.c] (.tup [.c (pi (kAt p l)), .c (pb (fnd p l))]) [.c (rd k l.length (l.flatMap (GRoute.ci k))), .agg p.c] := by
  refine okS (fn := Try.f27) [] h0 Try.func27 (by kernel_rfl) rfl Try.ntmps27 Try.results27 (by simp) ?_
  simp
  refine Inv_intro (ok_BS_Route k l p hl (srt_mono hs)) ?_
  simp [kAt, fnd]
theorem ofL_two {a b : Id} {x y : PT} (h : a ≠ b) : ofL [(a, x), (b, y)] = ofL [(b, y), (a, x)] := by
  funext q
  by_cases e : q = a
  · subst e
    simp [ofL, h]
  · by_cases e2 : q = b
    · subst e2
      simp [ofL, e]
    · simp [ofL, e, e2]
theorem del_co {p : GPrefix} {l : List GRoute} (h : srt l) (hf : fnd p l = true) : kAt p l < l.length ∧ (l.flatMap GRoute.co).take (kAt p l * 8) ++ (l.flatMap GRoute.co).drop ((kAt p l + 1) * 8) = (delR p l).flatMap GRoute.co ∧ kAt p l + (l.length - (kAt p l + 1)) = (delR p l).length := by
  obtain ⟨h1, h2, h3, h4, h5, h6⟩ := srt_split p l h
  rw [if_pos hf] at h2
  have h7 := h5 hf
  rw [fm_take GRoute.co 8 (fun _ => rfl), fm_dropAll GRoute.co 8 (fun _ => rfl), h3, ← h1, ← h2]
  refine ⟨h7, by rw [List.flatMap_append], ?_⟩
  rw [List.length_append, List.length_take, List.length_drop]
  omega
theorem ins_co (r : GRoute) {l : List GRoute} (h : srt l) (hf : fnd r.Prefix l = false) : kAt r.Prefix l ≤ l.length ∧ (l.flatMap GRoute.co).take (kAt r.Prefix l * 8) ++ GRoute.co r ++ (l.flatMap GRoute.co).drop (kAt r.Prefix l * 8) = (putR r l).flatMap GRoute.co ∧ l.length + 1 = (putR r l).length := by
  obtain ⟨h1, h2, h3, h4, h5, h6⟩ := srt_split r.Prefix l h
  obtain ⟨g1, g2⟩ := putR_co r h
  have ht : tl r l = kAt r.Prefix l := by unfold tl; rw [hf]; rfl
  rw [ht] at g1 g2
  refine ⟨h4, by rw [g1, List.append_assoc], by rw [g2]; omega⟩
theorem set_co (r : GRoute) {l : List GRoute} (h : srt l) (hf : fnd r.Prefix l = true) : kAt r.Prefix l < l.length ∧ (l.flatMap GRoute.co).take (kAt r.Prefix l * 8) ++ (GRoute.co r ++ (l.flatMap GRoute.co).drop ((kAt r.Prefix l + 1) * 8)) = (putR r l).flatMap GRoute.co ∧ l.length = (putR r l).length := by
  obtain ⟨h1, h2, h3, h4, h5, h6⟩ := srt_split r.Prefix l h
  obtain ⟨g1, g2⟩ := putR_co r h
  have ht : tl r l = kAt r.Prefix l + 1 := by unfold tl; rw [hf]; rfl
  rw [ht] at g1 g2
  have h7 := h5 hf
  exact ⟨h7, g1.symm, by rw [g2]; omega⟩
theorem law_iHearAll (v0 : List GRoute) (v1 : List GUpdate) (hw0 : wt_RouteS v0 ≤ 1048576) (hw1 : wt_UpdateS v1 ≤ 1048576) : CallOK Try.prog 9 [.c (rd 0 v0.length (v0.flatMap (GRoute.ci 0))), .c (rd 0 v1.length (v1.flatMap (GUpdate.ci 0)))] (.tup [.c (.sl 0 58 (rHearAll v0 v1).1.length ((rHearAll v0 v1).1.flatMap GRoute.co)), .c (pb (rHearAll v0 v1).2)]) [.c (rd 0 v0.length (v0.flatMap (GRoute.ci 0))), .c (rd 0 v1.length (v1.flatMap (GUpdate.ci 0)))] := by
  have hl1 := len_wt_UpdateS v1
  have hus := wt_upds hw1
  refine okS (fn := Try.f9) [(28, [2]), (30, [2,0,2])] h0 Try.func9 (by kernel_rfl) rfl Try.ntmps9 Try.results9 (by simp) ?_
  simp
  refine Inv_intro (ok_iGoodRoutes 0 v0 (routes_ok hw0)) ?_
  simp
  cases c1 : goodRs v0 with
  | false => simp [rHearAll, c1]
  | true =>
    by_cases h60 : v1.length ≤ 60
    · have d60 : ¬ (60 : Int) < (v1.length : Int) := by omega
      simp [d60]
      refine Inv_intro (ok_ContainsFunc_Update 0 0 24 [] (fun u => !goodU u) v1 (by omega) fun u hu => ok_HearAll1 0 u (updB_ok (hus u hu))) ?_
      rw [any_not]
      cases c2 : v1.all goodU with
      | false => simp [rHearAll, c2]
      | true =>
        have hgu : ∀ u ∈ v1, goodU u = true := List.all_eq_true.1 c2
        obtain ⟨hg, h20⟩ := goodRs_L c1
        have hb0 : hrB v0 := ⟨hg.1, h20, wt_rB hw0⟩
        have er : rHearAll v0 v1 = match hrI v0 v1 v1.length with
            | some o => (o, true)
            | none => ([], false) := by
          unfold rHearAll
          rw [if_pos ⟨c1, h60, c2⟩]
          all_goals (cases hrI v0 v1 v1.length <;> rfl)
        simp
        refine ewp_sw (.op 3 0 0) (.op 7 4 0) rfl rfl ?_
        simp
        refine loopS [1, 6, 33, 34, 35] [.op 7 4 0] (fun n st => ∃ (i : Nat), i + n = v0.length ∧ st = ⟨slOf 105 [(1, .t (rd 0 v1.length (v1.flatMap (GUpdate.ci 0)))), (6, .ref ⟨.op 7 4 0, []⟩ 0 i), (33, .t (rd 0 v0.length (v0.flatMap (GRoute.ci 0)))), (34, .t (pi v0.length)), (35, .t (pi i))], ofL [(.op 7 4 0, .sl 0 58 i ((v0.take i).flatMap GRoute.co))]⟩) v0.length ?_ ?_
        · rintro Inv hI
          simp
          subst hI
          exact ⟨0, by omega, by simp⟩
        · rintro Inv hI n st ⟨i, hi, rfl⟩
          have hA := fm_take_len GRoute.co 8 (fun _ => rfl) v0 i (by omega)
          refine ewr_sound (M := [(28, [2]), (30, [2, 0, 2])]) h0 ?_
          by_cases a : i < v0.length
          · generalize hAe : ((v0.take i).flatMap GRoute.co) = A at hA ⊢
            have hd := fm_drop (GRoute.ci 0) 8 (fun _ => rfl) v0 i a
            have hlen := fm_len (GRoute.ci 0) 8 (fun _ => rfl) v0
            have hlt : i * 8 < v0.length * 8 := by omega
            have hx := hb0.2.2 _ (List.getElem_mem a)
            have hb1 : (i + 1) * 96 ≤ 140737488355328 := by omega
            have hb2 : i ≤ 9223372036854775806 := by omega
            have ht : A.take (i * 8) = A := List.take_of_length_le (by omega)
            have e3 : ((v0.take (i + 1)).flatMap GRoute.co) = A ++ GRoute.co v0[i] := by rw [take_step v0 i a, List.flatMap_append, hAe, List.flatMap_cons, List.flatMap_nil, List.append_nil]
            simp [a, hd, hlen, hlt]
            refine Inv_intro (ok_ownRoute 0 v0[i] hx.1 hx.2) ?_
            simp [hA, hb1, hb2, ht]
            subst hI
            refine Less_mk (n - 1) (by omega) ⟨i + 1, by omega, ?_⟩
            rw [wrNext i (by omega), e3]
            all_goals simp
          · have hil : i = v0.length := by omega
            subst hil
            rw [List.take_length]
            simp
            refine loopS [6, 45, 46, 47] [.op 7 4 0] (fun n st => ∃ (i : Nat) (o : List GRoute), i + n = v1.length ∧ hrI v0 v1 i = some o ∧ st = ⟨slOf 105 [(6, .ref ⟨.op 7 4 0, []⟩ 0 o.length), (45, .t (rd 0 v1.length (v1.flatMap (GUpdate.ci 0)))), (46, .t (pi v1.length)), (47, .t (pi i))], ofL [(.op 7 4 0, .sl 0 58 o.length (o.flatMap GRoute.co))]⟩) v1.length ?_ ?_
            · rintro Inv1 hI1
              simp
              subst hI1
              exact ⟨0, v0, by omega, rfl, rfl⟩
            · rintro Inv1 hI1 m st ⟨i, o, hi, ho, rfl⟩
              obtain ⟨b1, b2, b3⟩ := hrI_B hb0 hus i o ho
              obtain ⟨⟨g1, g2⟩, _⟩ := hrI_good ⟨hg, h20⟩ hgu i o ho
              refine ewr_sound (M := [(28, [2]), (30, [2, 0, 2])]) h0 ?_
              by_cases a : i < v1.length
              · have hd := fm_drop (GUpdate.ci 0) 8 (fun _ => rfl) v1 i a
                have hlen := fm_len (GUpdate.ci 0) 8 (fun _ => rfl) v1
                have hlt : i * 8 < v1.length * 8 := by omega
                have hub := hus _ (List.getElem_mem a)
                have hgi := hgu _ (List.getElem_mem a)
                have hnext := hrI_next a ho
                generalize hu : v1[i]'a = u at hd hub hgi hnext
                have hu10 := goodU_spec hgi
                simp [a, hd, hlen, hlt]
                refine loopW [6, 10, 45, 46, 47, 52, 53, 54] [.op 17 4 0, .op 7 4 0, .op 11 2 0] [.op 7 4 0, .op 11 2 0] (fun n st => ∃ (j : Nat), j + n = u.Gone.length ∧ st = ⟨slOf 105 [(6, .ref ⟨.op 7 4 0, []⟩ 0 (goneL o u j).length), (10, .ptr ⟨.op 11 2 0, []⟩ 0), (45, .t (rd 0 v1.length (v1.flatMap (GUpdate.ci 0)))), (46, .t (pi v1.length)), (47, .t (pi i)), (52, .t (rd 0 u.Gone.length (u.Gone.flatMap GPrefix.c))), (53, .t (pi u.Gone.length)), (54, .t (pi j))], ofL [(.op 7 4 0, .sl 0 58 (goneL o u j).length ((goneL o u j).flatMap GRoute.co)), (.op 11 2 0, .sl 0 54 1 (GUpdate.ci 0 u))]⟩) u.Gone.length ?_ ?_
                · rintro Inv2 hI2
                  simp
                  subst hI2
                  exact ⟨0, by omega, by rw [goneL_zero]; rfl⟩
                · rintro Inv2 hI2 m2 st ⟨j, hj, rfl⟩
                  have hsj := srt_gone b1 u j
                  have hlj := len_gone o u j
                  have hgs := goneL_succ o u j
                  have hgl : j = u.Gone.length → goneL o u j = comeL o u 0 := by rintro rfl; rw [comeL_zero]
                  generalize goneL o u j = B at hsj hlj hgs hgl ⊢
                  refine ewr_sound (M := [(28, [2]), (30, [2, 0, 2])]) h0 ?_
                  by_cases a2 : j < u.Gone.length
                  · have hd2 := fm_drop GPrefix.c 2 (fun _ => rfl) u.Gone j a2
                    have hlen2 := fm_len GPrefix.c 2 (fun _ => rfl) u.Gone
                    have hlt2 : j * 2 < u.Gone.length * 2 := by omega
                    have hgs' := hgs a2
                    generalize hp : u.Gone[j]'a2 = p at hd2 hgs'
                    have hB := fm_len GRoute.co 8 (fun _ => rfl) B
                    have ht : (B.flatMap GRoute.co).take (B.length * 8) = B.flatMap GRoute.co := List.take_of_length_le (by omega)
                    have hfind := ok_findRoute 0 B p (by omega) hsj
                    have hdel := del_co (p := p) hsj
                    have hno := (srt_split p B hsj).2.2.2.2.2
                    simp [a2, hd2, hlen2, hlt2, ht]
                    refine Inv_intro hfind ?_
                    cases c3 : fnd p B with
                    | true =>
                      obtain ⟨d1, d2, d3⟩ := hdel c3
                      generalize hk : kAt p B = k at *
                      have w1 : IntKind.i64.wrap ((k : Int) + 1) = (k : Int) + 1 := wrap64 (by omega) (by omega)
                      have hDel := ok_Delete_Route B.length k (k + 1) (B.flatMap GRoute.co) hB (by omega) (by omega)
                      rw [d2, d3, Int.natCast_add, Int.natCast_one] at hDel
                      simp [ht, w1]
                      refine Inv_intro hDel ?_
                      simp
                      refine LessW_mk (m2 - 1) (.op 17 4 0) (.op 7 4 0) (by omega) rfl rfl ?_
                      simp
                      subst hI2
                      refine ⟨j + 1, by omega, ?_⟩
                      rw [wrNext j (by omega), hgs', ofL_two (a := .op 11 2 0) (b := .op 7 4 0) (by decide)]
                      rfl
                    | false =>
                      have hBn := hno c3
                      simp
                      refine LessW_mk (m2 - 1) (.op 7 4 0) (.op 7 4 0) (by omega) rfl rfl ?_
                      simp
                      subst hI2
                      refine ⟨j + 1, by omega, ?_⟩
                      rw [wrNext j (by omega), hgs', hBn]
                      rfl
                  · have hjl : j = u.Gone.length := by omega
                    have hB0 := hgl hjl
                    subst hjl
                    subst hB0
                    simp
                    refine loopW [6, 10, 45, 46, 47, 72, 73, 74] [.op 26 4 0, .op 7 4 0, .op 11 2 0] [.op 7 4 0, .op 11 2 0] (fun n st => ∃ (j : Nat), j + n = u.Come.length ∧ st = ⟨slOf 105 [(6, .ref ⟨.op 7 4 0, []⟩ 0 (comeL o u j).length), (10, .ptr ⟨.op 11 2 0, []⟩ 0), (45, .t (rd 0 v1.length (v1.flatMap (GUpdate.ci 0)))), (46, .t (pi v1.length)), (47, .t (pi i)), (72, .t (rd 0 u.Come.length (u.Come.flatMap GPrefix.c))), (73, .t (pi u.Come.length)), (74, .t (pi j))], ofL [(.op 7 4 0, .sl 0 58 (comeL o u j).length ((comeL o u j).flatMap GRoute.co)), (.op 11 2 0, .sl 0 54 1 (GUpdate.ci 0 u))]⟩) u.Come.length ?_ ?_
                    · rintro Inv3 hI3
                      simp
                      subst hI3
                      exact ⟨0, by omega, rfl⟩
                    · rintro Inv3 hI3 m3 st ⟨j, hj, rfl⟩
                      have hsj := srt_come b1 u j (by omega)
                      have hlj := len_come b1 u j (by omega)
                      have hgs := comeL_succ o u j
                      have hgl : j = u.Come.length → comeL o u j = hearL o u := by rintro rfl; exact comeL_all o u
                      generalize comeL o u j = B at hsj hlj hgs hgl ⊢
                      refine ewr_sound (M := [(28, [2]), (30, [2, 0, 2])]) h0 ?_
                      by_cases a2 : j < u.Come.length
                      · have hd2 := fm_drop GPrefix.c 2 (fun _ => rfl) u.Come j a2
                        have hlen2 := fm_len GPrefix.c 2 (fun _ => rfl) u.Come
                        have hlt2 : j * 2 < u.Come.length * 2 := by omega
                        have hgs' := hgs a2
                        generalize hp : u.Come[j]'a2 = p at hd2 hgs'
                        have hB := fm_len GRoute.co 8 (fun _ => rfl) B
                        have ht : (B.flatMap GRoute.co).take (B.length * 8) = B.flatMap GRoute.co := List.take_of_length_le (by omega)
                        have hfind := ok_findRoute 0 B p (by omega) hsj
                        have hset := set_co ⟨p, u.Attrs⟩ hsj
                        have hins := ins_co ⟨p, u.Attrs⟩ hsj
                        simp [a2, hd2, hlen2, hlt2]
                        refine drawP (tabEnv [] _) [⟨[.op 21 2 0], allD 105, true⟩, ⟨[.op 11 2 0], allD 105, true⟩, ⟨[.op 11 2 0], allD 105, true⟩, ⟨[], allD 105, false⟩, ⟨[.op 22 3 1, .op 22 3 5], allD 105, true⟩, ⟨[], allD 105, false⟩, ⟨[.op 22 5 0, .op 22 3 1, .op 22 3 5], [78, 79, 80, 81, 82, 17], false⟩] h0 hm (tabEnv_ok (tab_cons (ok_ownAttrs 0 u.Attrs hub.2.2.1 hub.2.2.2) tab_nil)) (by kernel_rfl) (by kernel_rfl) ?_
                        simp [ht]
                        refine Inv_intro hfind ?_
                        cases c3 : fnd p B with
                        | true =>
                          obtain ⟨d1, d2, d3⟩ := hset c3
                          simp only at d1 d2 d3
                          generalize hk : kAt p B = k at *
                          have hk8 : k * 8 + 8 ≤ B.length * 8 := by omega
                          simp [ht, d1, hk8]
                          refine LessW_mk (m3 - 1) (.op 7 4 0) (.op 7 4 0) (by omega) rfl rfl ?_
                          simp
                          subst hI3
                          refine ⟨j + 1, by omega, ?_⟩
                          rw [wrNext j (by omega), hgs', ← d2, ← d3, Nat.succ_mul k 8]
                          rfl
                        | false =>
                          obtain ⟨d1, d2, d3⟩ := hins c3
                          simp only at d1 d2 d3
                          generalize hk : kAt p B = k at *
                          have hIns := ok_Insert_Route B.length k (B.flatMap GRoute.co) (GRoute.co ⟨p, u.Attrs⟩) hB rfl d1 (by omega)
                          rw [d2, d3] at hIns
                          simp [ht]
                          refine Inv_intro hIns ?_
                          simp
                          refine LessW_mk (m3 - 1) (.op 26 4 0) (.op 7 4 0) (by omega) rfl rfl ?_
                          simp
                          subst hI3
                          refine ⟨j + 1, by omega, ?_⟩
                          rw [wrNext j (by omega), hgs', ofL_two (a := .op 11 2 0) (b := .op 7 4 0) (by decide)]
                          rfl
                      · have hjl : j = u.Come.length := by omega
                        have hB0 := hgl hjl
                        subst hjl
                        subst hB0
                        have hgh := good_hear ⟨g1, g2⟩ hgi
                        have hbh := hear_b b3 hub
                        have hgr := goodL_Rs hgh
                        have hig := ok_iGoodRoutes 0 (hearL o u) ⟨by omega, fun r hr => by have := hbh r hr; unfold rB at this; exact ⟨by omega, by omega⟩⟩
                        rw [hgr] at hig
                        have hB := fm_len GRoute.co 8 (fun _ => rfl) (hearL o u)
                        generalize hearL o u = O at *
                        have ht : (O.flatMap GRoute.co).take (O.length * 8) = O.flatMap GRoute.co := List.take_of_length_le (by omega)
                        simp [ht]
                        refine Inv_intro hig ?_
                        by_cases c3 : O.length ≤ 20
                        · rw [if_pos c3] at hnext
                          simp [c3]
                          subst hI1
                          refine Less_mk (m - 1) (by omega) ⟨i + 1, O, by omega, hnext, ?_⟩
                          rw [wrNext i (by omega)]
                        · rw [if_neg c3] at hnext
                          have := rHear_none (i := i + 1) (by omega) hnext
                          rw [this]
                          simp [c3]
              · have hin : i = v1.length := by omega
                subst hin
                have er2 : rHearAll v0 v1 = (o, true) := by rw [er, ho]
                have ht : (o.flatMap GRoute.co).take (o.length * 8) = o.flatMap GRoute.co := List.take_of_length_le (by rw [fm_len GRoute.co 8 (fun _ => rfl)]; exact Nat.le_refl _)
                rw [er2]
                simp [ht]
    · have d60 : (60 : Int) < (v1.length : Int) := by omega
      simp [rHearAll, h60, d60]
theorem ok_FnExactHearAll (v0 : (List GRoute)) (v1 : (List GUpdate)) (f0 : fits_RouteS v0) (f1 : fits_UpdateS v1) : CallOK Try.prog 3 [.c (rd 1 v0.length (v0.flatMap (GRoute.ci 1))), .c (rd 1 v1.length (v1.flatMap (GUpdate.ci 1)))] (.c (pb true)) [.c (rd 1 v0.length (v0.flatMap (GRoute.ci 1))), .c (rd 1 v1.length (v1.flatMap (GUpdate.ci 1)))] := by
  refine okS (fn := Try.f3) [(12, [1,0]), (13, [1,0])] h0 Try.func3 (by kernel_rfl) rfl Try.ntmps3 Try.results3 (by simp) ?_
  simp
  refine Inv_intro (ok_szRouteS 1 v0 _ (by omega) (by omega) f0) ?_
  simp
  refine brn_app (fun b0 => ?_) (fun b0 => ?_)
  · simp
  · simp at b0
    have e0 := szr_ge (szr_ge0 b0)
    have d0 := szr_ge0 b0
    simp
    refine Inv_intro (ok_szUpdateS 1 v1 _ (by omega) (by omega) f1) ?_
    simp
    refine brn_app (fun b1 => ?_) (fun b1 => ?_)
    · simp
    · simp at b1
      have e1 := szr_ge (szr_ge0 b1)
      have d1 := szr_ge0 b1
      simp
      have hv0 : wt_RouteS v0 ≤ 1048576 := by omega
      have hlp0 : lens_RouteS v0 := lens_of_RouteS hv0
      have hcp0 := cn_le_RouteS v0
      have hv1 : wt_UpdateS v1 ≤ 1048576 := by omega
      have hlp1 : lens_UpdateS v1 := lens_of_UpdateS hv1
      have hcp1 := cn_le_UpdateS v1
      have hrr := rHearAll_ok v0 v1 hv0 hv1
      obtain ⟨hlr0, hcr0⟩ := hrr
      refine Inv_intro (ok_toRouteS 1 v0 hv0) ?_
      simp
      refine Inv_intro (ok_toUpdateS 1 v1 hv1) ?_
      simp
      refine Inv_intro (law_sHearAll v0 v1 hv0 hv1) ?_
      simp
      refine Inv_intro (ok_toRouteS 1 v0 hv0) ?_
      simp
      refine Inv_intro (ok_toUpdateS 1 v1 hv1) ?_
      simp
      refine Inv_intro (law_iHearAll v0 v1 hv0 hv1) ?_
      simp
      refine Inv_intro (ok_eqRouteS 0 0 ((rHearAll v0 v1).1) ((rHearAll v0 v1).1) hlr0 hlr0) ?_
      simp
      refine Inv_intro (ok_toRouteS 1 v0 hv0) ?_
      simp
      refine Inv_intro (ok_eqRouteS 0 0 (v0) (v0) hlp0 hlp0) ?_
      simp
      refine Inv_intro (ok_toUpdateS 1 v1 hv1) ?_
      simp
      refine Inv_intro (ok_eqUpdateS 0 0 (v1) (v1) hlp1 hlp1) ?_
      simp
      have hm0 := mk_RouteS_snd (v0) (1)
      have hn0 : ¬ (mk_RouteS (v0) (1)).2 < 0 := by omega
      have ht0 : List.take ((v0).length * 8) (((mk_RouteS (v0) (1))).1.flatMap GRoute.co) = (((mk_RouteS (v0) (1))).1.flatMap GRoute.co) := List.take_of_length_le (by rw [fm_len GRoute.co 8 (fun _ => rfl), mk_RouteS_len]; exact Nat.le_refl _)
      refine Inv_intro (ok_markRouteS (v0) (1) hlp0 (by omega) (by omega)) ?_
      simp [hn0, ht0]
      have hm1 := mk_UpdateS_snd (v1) ((mk_RouteS (v0) (1)).2)
      have hn1 : ¬ (mk_UpdateS (v1) ((mk_RouteS (v0) (1)).2)).2 < 0 := by omega
      have ht1 : List.take ((v1).length * 8) (((mk_UpdateS (v1) ((mk_RouteS (v0) (1)).2))).1.flatMap GUpdate.co) = (((mk_UpdateS (v1) ((mk_RouteS (v0) (1)).2))).1.flatMap GUpdate.co) := List.take_of_length_le (by rw [fm_len GUpdate.co 8 (fun _ => rfl), mk_UpdateS_len]; exact Nat.le_refl _)
      refine Inv_intro (ok_markUpdateS (v1) ((mk_RouteS (v0) (1)).2) hlp1 (by omega) (by omega)) ?_
      simp [hn0, ht0, hn1, ht1]
      refine Inv_intro (ok_eqRouteS 0 0 ((rHearAll v0 v1).1) ((rHearAll v0 v1).1) hlr0 hlr0) ?_
      simp [hn0, ht0, hn1, ht1]
      have hm2 := mk_RouteS_snd ((rHearAll v0 v1).1) (1)
      have hn2 : ¬ (mk_RouteS ((rHearAll v0 v1).1) (1)).2 < 0 := by omega
      have ht2 : List.take (((rHearAll v0 v1).1).length * 8) (((mk_RouteS ((rHearAll v0 v1).1) (1))).1.flatMap GRoute.co) = (((mk_RouteS ((rHearAll v0 v1).1) (1))).1.flatMap GRoute.co) := List.take_of_length_le (by rw [fm_len GRoute.co 8 (fun _ => rfl), mk_RouteS_len]; exact Nat.le_refl _)
      refine Inv_intro (ok_markRouteS ((rHearAll v0 v1).1) (1) hlr0 (by omega) (by omega)) ?_
      simp [hn0, ht0, hn1, ht1, hn2, ht2]
      refine Inv_intro (ok_heldRouteS 0 ((rHearAll v0 v1).1) (1) hlr0 (by omega) (by omega)) ?_
      simp [hn0, ht0, hn1, ht1, hn2, ht2]
      refine Inv_intro (ok_toRouteS 1 v0 hv0) ?_
      simp [hn0, ht0, hn1, ht1, hn2, ht2]
      refine Inv_intro (ok_toUpdateS 1 v1 hv1) ?_
      simp [hn0, ht0, hn1, ht1, hn2, ht2]
      refine Inv_intro (law_iHearAll v0 v1 hv0 hv1) ?_
      simp [hn0, ht0, hn1, ht1, hn2, ht2]
      refine Inv_intro (ok_eqRouteS 0 0 ((rHearAll v0 v1).1) ((rHearAll v0 v1).1) hlr0 hlr0) ?_
      simp [hn0, ht0, hn1, ht1, hn2, ht2]
      refine Inv_intro (ok_heldRouteS 0 ((rHearAll v0 v1).1) (1) hlr0 (by omega) (by omega)) ?_
      simp [hn0, ht0, hn1, ht1, hn2, ht2]
end Go.V
