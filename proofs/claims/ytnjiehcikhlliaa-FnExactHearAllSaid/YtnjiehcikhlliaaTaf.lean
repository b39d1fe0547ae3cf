/- What functions of the seat's program do, each proved of its code, under the bounds that its theorem names. -/
import Derived.Test.YtnjiehcikhlliaaTae
set_option linter.all false
namespace Go.V
open Go.Proofs
set_option maxHeartbeats 1000000
set_option maxRecDepth 10000
set_option linter.unusedSimpArgs false
set_option linter.unusedVariables false
theorem attr_ok {a : GAttrs} (h : GAttrs.wt a ≤ 1048576) : attrOK a := by
  unfold GAttrs.wt at h
  have h1 := len_wt_IntS a.Path
  have h2 := len_wt_IntS a.Comms
  exact ⟨by omega, by omega⟩
theorem route_ok {r : GRoute} (h : GRoute.wt r ≤ 1048576) : attrOK r.Attrs := attr_ok (by unfold GRoute.wt at h; omega)
theorem routes_ok {l : List GRoute} (h : wt_RouteS l ≤ 1048576) : routesOK l := by
  have := len_wt_RouteS l
  refine ⟨by omega, fun x hx => route_ok ?_⟩
  have := mem_wt_RouteS hx
  omega
def rGoodRoutes (v0 : List GRoute) : Bool := goodRs v0
theorem law_iGoodRoutes (v0 : List GRoute) (h0 : wt_RouteS v0 ≤ 1048576) : CallOK Try.prog 22 [.c (rd 0 v0.length (v0.flatMap (GRoute.ci 0)))] (.c (pb (rGoodRoutes v0))) [.c (rd 0 v0.length (v0.flatMap (GRoute.ci 0)))] := ok_iGoodRoutes 0 v0 (routes_ok h0)
theorem law_sGoodRoutes (v0 : List GRoute) (h0 : wt_RouteS v0 ≤ 1048576) : CallOK Try.prog 17 [.c (rd 0 v0.length (v0.flatMap (GRoute.ci 0)))] (.c (pb (rGoodRoutes v0))) [.c (rd 0 v0.length (v0.flatMap (GRoute.ci 0)))] := ok_sGoodRoutes 0 v0 (routes_ok h0)
theorem ok_sGoodUpdate (k : Nat) (u : GUpdate) (hu : updOK u) : CallOK Try.prog 19 [.agg (GUpdate.ci k u)] (.c (pb (goodU u))) [.agg (GUpdate.ci k u)] := by
  obtain ⟨u1, u2, u3⟩ := hu
  have hz := ok_l4Zero k u.Attrs
  refine okS (fn := Try.f19) [] h0 Try.func19 (by kernel_rfl) rfl Try.ntmps19 Try.results19 (by simp) ?_
  simp
  refine loopS [1, 6, 7, 8] [.op 0 0 0] (fun n st => ∃ (i : Nat), i + n = u.Come.length ∧ u.Come.all (fun p => !decide (p ∈ u.Gone)) = (u.Come.drop i).all (fun p => !decide (p ∈ u.Gone)) ∧ st = ⟨slOf 41 [(1, .ptr ⟨.op 0 0 0, []⟩ 0), (6, .t (rd k u.Come.length (u.Come.flatMap GPrefix.c))), (7, .t (pi u.Come.length)), (8, .t (pi i))], ofL [(.op 0 0 0, .sl 0 54 1 (GUpdate.ci k u))]⟩) u.Come.length ?_ ?_
  · rintro Inv hI
    simp
    subst hI
    exact ⟨0, by omega, rfl, rfl⟩
  · rintro Inv hI n st ⟨i, hi, hg, rfl⟩
    refine ewr_sound (M := []) h0 ?_
    simp
    refine brn_app (fun a => ?_) (fun a => ?_)
    · simp at a
      have hd := fm_drop GPrefix.c 2 (fun _ => rfl) u.Come i a
      have hlen := fm_len GPrefix.c 2 (fun _ => rfl) u.Come
      have hlt : i * 2 < u.Come.length * 2 := by omega
      rw [drop_step _ i a, List.all_cons] at hg
      simp [a, hd, hlen, hlt]
      refine Inv_intro (ok_l4In k u.Gone u.Come[i] u1) ?_
      by_cases c : u.Come[i] ∈ u.Gone
      · rw [decide_eq_true c, Bool.not_true, Bool.false_and] at hg
        have e : goodU u = false := by simp only [goodU, hg, Bool.and_false, Bool.false_and]
        simp [c, e]
      · rw [decide_eq_false c, Bool.not_false, Bool.true_and] at hg
        simp [c]
        subst hI
        exact Less_mk (n - 1) (by omega) ⟨i + 1, by omega, hg, by rw [wrNext i (by omega)]; rfl⟩
    · simp at a
      rw [List.drop_of_length_le (by omega), List.all_nil] at hg
      simp
      refine Inv_intro (ok_l4Rising k u.Gone u1) ?_
      cases c3 : goodPs u.Gone with
      | false => simp [goodU, c3]
      | true =>
        simp
        refine Inv_intro (ok_l4Rising k u.Come u2) ?_
        cases c4 : goodPs u.Come with
        | false => simp [goodU, c4]
        | true =>
          simp
          refine Inv_intro (ok_sGoodAttrs k u.Attrs u3) ?_
          cases c5 : goodA u.Attrs with
          | false => simp [goodU, c5]
          | true =>
            have e : goodU u = (decide (u.Come ≠ []) || decide (u.Attrs = zeroA)) := by simp only [goodU, c3, c4, c5, hg, Bool.true_and]
            rw [e]
            by_cases c7 : u.Come = []
            · simp [c7]
              refine Inv_intro hz ?_
              simp
            · have c8 : 0 < u.Come.length := List.length_pos_iff.2 c7
              simp [c7, c8]
theorem ok_Clone_Int (k : Nat) (xs : List Int) (hx : xs.length ≤ 1048576) : CallOK Try.prog 61 [.c (rd k xs.length (xs.map pi))] (.c (.sl 0 3 xs.length (xs.map pi))) [.c (rd k xs.length (xs.map pi))] := by
  refine okS (fn := Try.f61) [] h0 Try.func61 (by kernel_rfl) rfl Try.ntmps61 Try.results61 (by simp) ?_
  cases xs with
  | nil => simp
  | cons y ys =>
    simp only [List.length_cons] at hx
    have hb : (ys.length + 1) * 8 ≤ 140737488355328 ∧ ys.length + 1 ≤ 9223372036854775807 := by omega
    have hb2 : ys.length + 1 ≤ 9223372036854775807 := by omega
    have hb1 : (ys.length + 1) * 8 ≤ 140737488355328 := by omega
    simp [hb1, hb2]
theorem ok_ownAttrs (k : Nat) (a : GAttrs) (h1 : a.Path.length ≤ 1048576) (h2 : a.Comms.length ≤ 1048576) : CallOK Try.prog 29 [.agg (GAttrs.ci k a)] (.agg (GAttrs.co a)) [.agg (GAttrs.ci k a)] := by
  refine okS (fn := Try.f29) [] h0 Try.func29 (by kernel_rfl) rfl Try.ntmps29 Try.results29 (by simp) ?_
  simp
  refine drawP (fnEnv 61 (fL1 1048576 fun xs => .sl 0 3 xs.length (xs.map pi)) (tabEnv [] [])) [⟨[.op 0 0 0], allD 12, true⟩, ⟨[.op 0 0 0], allD 12, true⟩, ⟨[.op 1 2 0], [3, 4, 5, 6, 7, 8, 9, 10], false⟩, ⟨[.op 0 0 0], allD 12, true⟩, ⟨[.op 0 0 0], allD 12, true⟩, ⟨[.op 1 5 0], [3, 4, 5, 6, 7, 8, 9, 10], false⟩, ⟨[.op 0 0 0], allD 12, true⟩, ⟨[.op 0 0 0, .op 1 2 0], [3, 4, 5, 6, 7, 8, 9, 10], false⟩, ⟨[.op 0 0 0], allD 12, true⟩, ⟨[.op 0 0 0, .op 1 5 0], [3, 4, 5, 6, 7, 8, 9, 10], false⟩] h0 hm (fnEnv_ok (tabEnv_ok tab_nil) (fL1_ok fun k xs hx => ok_Clone_Int k xs hx)) (by kernel_rfl) (by kernel_rfl) ?_
  simp [h1, h2]
theorem ok_l4Own (k : Nat) (a : GAttrs) (h1 : a.Path.length ≤ 1048576) (h2 : a.Comms.length ≤ 1048576) : CallOK Try.prog 43 [.agg (GAttrs.ci k a)] (.agg (GAttrs.co a)) [.agg (GAttrs.ci k a)] := by
  have b1 : a.Path.length * 8 ≤ 140737488355328 := by omega
  have b2 : a.Path.length ≤ 9223372036854775807 := by omega
  have b3 : a.Comms.length * 8 ≤ 140737488355328 := by omega
  have b4 : a.Comms.length ≤ 9223372036854775807 := by omega
  refine okS (fn := Try.f43) [] h0 Try.func43 (by kernel_rfl) rfl Try.ntmps43 Try.results43 (by simp) ?_
  by_cases p : a.Path = []
  · by_cases c : a.Comms = []
    · simp [p, c]
    · simp [p, c, b3, b4]
  · by_cases c : a.Comms = []
    · simp [p, c, b1, b2]
    · simp [p, c, b1, b2, b3, b4]
theorem ok_ownRoute (k : Nat) (r : GRoute) (h1 : r.Attrs.Path.length ≤ 1048576) (h2 : r.Attrs.Comms.length ≤ 1048576) : CallOK Try.prog 26 [.agg (GRoute.ci k r)] (.agg (GRoute.co r)) [.agg (GRoute.ci k r)] := by
  refine okS (fn := Try.f26) [] h0 Try.func26 (by kernel_rfl) rfl Try.ntmps26 Try.results26 (by simp) ?_
  simp
  refine drawP (tabEnv [] _) [⟨[.op 0 0 0], allD 9, true⟩, ⟨[.op 0 0 0], allD 9, true⟩, ⟨[.op 0 0 0], allD 9, true⟩, ⟨[.op 0 0 0], allD 9, true⟩, ⟨[], allD 9, false⟩, ⟨[.op 1 4 1, .op 1 4 5], allD 9, true⟩, ⟨[.op 0 1 0, .op 1 4 1, .op 1 4 5], [3, 4, 5, 6, 7, 8], false⟩] h0 hm (tabEnv_ok (tab_cons (ok_ownAttrs k r.Attrs h1 h2) tab_nil)) (by kernel_rfl) (by kernel_rfl) ?_
  simp
theorem ok_l7Own (k : Nat) (r : GRoute) (h1 : r.Attrs.Path.length ≤ 1048576) (h2 : r.Attrs.Comms.length ≤ 1048576) : CallOK Try.prog 41 [.agg (GRoute.ci k r)] (.agg (GRoute.co r)) [.agg (GRoute.ci k r)] := by
  refine okS (fn := Try.f41) [] h0 Try.func41 (by kernel_rfl) rfl Try.ntmps41 Try.results41 (by simp) ?_
  simp
  refine drawP (tabEnv [] _) [⟨[.op 0 0 0], allD 9, true⟩, ⟨[.op 0 0 0], allD 9, true⟩, ⟨[.op 0 0 0], allD 9, true⟩, ⟨[.op 0 0 0], allD 9, true⟩, ⟨[], allD 9, false⟩, ⟨[.op 1 4 1, .op 1 4 5], allD 9, true⟩, ⟨[.op 0 1 0, .op 1 4 1, .op 1 4 5], [3, 4, 5, 6, 7, 8], false⟩] h0 hm (tabEnv_ok (tab_cons (ok_l4Own k r.Attrs h1 h2) tab_nil)) (by kernel_rfl) (by kernel_rfl) ?_
  simp
def tl (r : GRoute) (l : List GRoute) : Nat := if fnd r.Prefix l = true then kAt r.Prefix l + 1 else kAt r.Prefix l
def outPut (r : GRoute) (l : List GRoute) : List PT := ((l.flatMap GRoute.co).map PT.hollow).take (kAt r.Prefix l * 8) ++ (((l.flatMap GRoute.co).drop (kAt r.Prefix l * 8)).take ((tl r l - kAt r.Prefix l) * 8) ++ ((l.flatMap GRoute.co).map PT.hollow).drop (tl r l * 8))
theorem putR_co (r : GRoute) {l : List GRoute} (h : srt l) : (putR r l).flatMap GRoute.co = (l.flatMap GRoute.co).take (kAt r.Prefix l * 8) ++ (GRoute.co r ++ (l.flatMap GRoute.co).drop (tl r l * 8)) ∧ (putR r l).length = kAt r.Prefix l + (1 + (l.length - tl r l)) := by
  obtain ⟨h1, h2, h3, h4, h5, h6⟩ := srt_split r.Prefix l h
  rw [fm_take GRoute.co 8 (fun _ => rfl), fm_dropAll GRoute.co 8 (fun _ => rfl)]
  unfold putR tl
  rw [← h1, ← h2]
  refine ⟨by simp only [List.flatMap_append, List.flatMap_cons], ?_⟩
  rw [List.length_append, List.length_cons, List.length_take, List.length_drop]
  have : min (kAt r.Prefix l) l.length = kAt r.Prefix l := by omega
  omega
set_option maxHeartbeats 4000000 in
theorem ok_l14Put (l : List GRoute) (r : GRoute) (hs : srt l) (hl : l.length ≤ 1048576) : CallOK Try.prog 42 [.c (.sl 0 58 l.length (l.flatMap GRoute.co)), .agg r.co] (.c (.sl 0 58 (putR r l).length ((putR r l).flatMap GRoute.co))) [.c (.sl 0 58 l.length (outPut r l)), .agg [pi r.Prefix.Addr, pi r.Prefix.Len, pi r.Attrs.Origin, .hole, pi r.Attrs.Next, pi r.Attrs.Med, pi r.Attrs.Pref, .hole]] := by
  obtain ⟨hpc, hpl⟩ := putR_co r hs
  refine okS (fn := Try.f42) [] h0 Try.func42 (by kernel_rfl) rfl Try.ntmps42 Try.results42 (by simp) ?_
  simp
  refine loopS [0, 3, 5] [.arg 0 0, .op 0 0 0] (fun n st => ∃ (k : Nat), k + n = l.length ∧ (∀ (j : Nat) (hj : j < k) (hj' : j < l.length), cmpPx l[j].Prefix r.Prefix < 0) ∧ st = ⟨slOf 54 [(0, .ref ⟨.arg 0 0, []⟩ 0 l.length), (3, .ptr ⟨.op 0 0 0, []⟩ 0), (5, .t (pi k))], ofL [(.arg 0 0, .sl 0 58 l.length (l.flatMap GRoute.co)), (.arg 1 3, .hole), (.arg 1 7, .hole), (.op 0 0 0, .sl 0 58 1 r.co)]⟩) l.length ?_ ?_
  · rintro Inv hI
    simp
    subst hI
    exact ⟨0, by omega, by intro j hj; omega, rfl⟩
  · rintro Inv hI n st ⟨k, hk, hall, rfl⟩
    have hat : ∀ (h : k < l.length), 0 ≤ cmpPx l[k].Prefix r.Prefix → kAt r.Prefix l = k := fun h h2 => bsI_eq _ l k (by omega) hall fun _ => h2
    have hat2 : k = l.length → kAt r.Prefix l = k := fun h => bsI_eq _ l k (by omega) hall fun h2 => by omega
    have hcm := fm_len GRoute.co 8 (fun _ => rfl) l
    refine ewr_sound (M := []) h0 ?_
    simp
    by_cases c1 : k < l.length
    · have c1' : (k : Int) < l.length := by omega
      have hd := fm_drop GRoute.co 8 (fun _ => rfl) l k c1
      have hlt : k * 8 < l.length * 8 := by omega
      refine drawP (tabEnv [] _) [⟨[], allD 54, true⟩, ⟨[.arg 0 0], allD 54, true⟩, ⟨[.arg 0 0], allD 54, true⟩, ⟨[], allD 54, true⟩, ⟨[], allD 54, true⟩, ⟨[.arg 0 0], allD 54, true⟩, ⟨[], allD 54, true⟩, ⟨[.arg 0 0], allD 54, true⟩, ⟨[.arg 0 0], allD 54, true⟩, ⟨[.arg 0 0], allD 54, true⟩, ⟨[.op 0 0 0], allD 54, true⟩, ⟨[.op 0 0 0], allD 54, true⟩, ⟨[], allD 54, false⟩, ⟨[], allD 54, true⟩, ⟨[], allD 54, true⟩] h0 hm (tabEnv_ok (tab_cons (ok_l1Compare l[k].Prefix r.Prefix) tab_nil)) (by kernel_rfl) (by kernel_rfl) ?_
      have hlt2 : k * 8 + 2 ≤ l.length * 8 := by omega
      simp [c1, c1', hd, hcm, hlt, hlt2]
      refine brn_app (fun c2 => ?_) (fun c2 => ?_)
      · simp at c2
        simp
        subst hI
        refine Less_mk (n - 1) (by omega) ⟨k + 1, by omega, ?_, ?_⟩
        · intro j hj hj'
          rcases Nat.lt_or_ge j k with h' | h'
          · exact hall j h' hj'
          · have : j = k := by omega
            subst this
            exact c2
        · rw [wrNext k (by omega)]
          rfl
      · simp at c2
        have hat := hat c1 c2
        have hkl : k ≤ l.length := by omega
        have htl : tl r l = if l[k].Prefix = r.Prefix then k + 1 else k := by
          have e : fnd r.Prefix l = decide (l[k].Prefix = r.Prefix) := by
            have h1 : bsI (fun x : GRoute => cmpPx x.Prefix r.Prefix) l = k := hat
            simp only [fnd, bsF, h1, List.getElem?_eq_getElem c1]
            exact decide_eq_decide.2 (cmpPx_eq _ _)
          unfold tl
          rw [e, hat]
          simp only [decide_eq_true_eq]
        have ho : outPut r l = ((l.flatMap GRoute.co).map PT.hollow).take (k * 8) ++ (((l.flatMap GRoute.co).drop (k * 8)).take ((tl r l - k) * 8) ++ ((l.flatMap GRoute.co).map PT.hollow).drop (tl r l * 8)) := by unfold outPut; rw [hat]
        by_cases hk00 : k = 0
        · subst hk00
          obtain ⟨x, l', rfl⟩ : ∃ x l', l = x :: l' := by
            cases l with
            | nil => simp at c1
            | cons x l' => exact ⟨x, l', rfl⟩
          simp only [List.getElem_cons_zero] at htl
          rw [hat] at hpc hpl
          rw [hpc, hpl, ho]
          clear hpc hpl hall hat hat2 hd
          have hln : l'.length + 1 ≤ 1048576 := hl
          have hG := fm_len GRoute.co 8 (fun _ => rfl) l'
          simp only [List.flatMap_cons] at hcm ⊢
          generalize l'.flatMap GRoute.co = G at *
          have hGG : G.take (l'.length * 8) = G := List.take_of_length_le (by omega)
          have hb1 : (1 + l'.length) * 96 ≤ 140737488355328 := by omega
          have hb2 : 1 + l'.length ≤ 9223372036854775807 := by omega
          have hb1' : (1 + (l'.length + 1)) * 96 ≤ 140737488355328 := by omega
          have hb2' : 1 + (l'.length + 1) ≤ 9223372036854775807 := by omega
          have w1 : IntKind.i64.wrap 1 = 1 := by decide
          have hm8 : ∀ j : Nat, (1 + j) * 8 = j * 8 + 1 + 1 + 1 + 1 + 1 + 1 + 1 + 1 := fun j => by omega
          have h81 : 8 + l'.length * 8 ≤ l'.length * 8 + 1 + 1 + 1 + 1 + 1 + 1 + 1 + 1 := by omega
          have h82 : (l'.length + 1) * 8 ≤ l'.length * 8 + 1 + 1 + 1 + 1 + 1 + 1 + 1 + 1 := by omega
          have h83 : (1 + l'.length) * 8 ≤ l'.length * 8 + 1 + 1 + 1 + 1 + 1 + 1 + 1 + 1 := by omega
          have h84 : (1 + (l'.length + 1)) * 8 ≤ l'.length * 8 + 1 + 1 + 1 + 1 + 1 + 1 + 1 + 1 + 1 + 1 + 1 + 1 + 1 + 1 + 1 + 1 := by omega
          have hr5 : ∀ a b c d e f g h : PT, List.take ((l'.length + 1) * 8) (a :: b :: c :: d :: e :: f :: g :: h :: G) = a :: b :: c :: d :: e :: f :: g :: h :: G := fun a b c d e f g h => List.take_of_length_le (by simp only [List.length_cons]; omega)
          have hr6 : ∀ a b c d e f g h : PT, List.take ((1 + l'.length) * 8) (a :: b :: c :: d :: e :: f :: g :: h :: G) = a :: b :: c :: d :: e :: f :: g :: h :: G := fun a b c d e f g h => List.take_of_length_le (by simp only [List.length_cons]; omega)
          have hr7 : ∀ a b c d e f g h a' b' c' d' e' f' g' h' : PT, List.take ((1 + (l'.length + 1)) * 8) (a :: b :: c :: d :: e :: f :: g :: h :: a' :: b' :: c' :: d' :: e' :: f' :: g' :: h' :: G) = a :: b :: c :: d :: e :: f :: g :: h :: a' :: b' :: c' :: d' :: e' :: f' :: g' :: h' :: G := fun a b c d e f g h a' b' c' d' e' f' g' h' => List.take_of_length_le (by simp only [List.length_cons]; omega)
          have hGN : l'.length = 0 → G = [] := fun h0 => List.length_eq_zero_iff.1 (by omega)
          have hbnd0 : bnd none (some (some (Value.int IntKind.i64 0))) (l'.length + 1) = some (0, 0) := bnd_ns (by decide) (by omega)
          simp [hbnd0]
          by_cases c3 : x.Prefix = r.Prefix
          · have hq : tl r (x :: l') = 1 := by rw [htl, if_pos c3]
            rw [hq]
            have hbnd : bnd (some (some (Value.int IntKind.i64 1))) none (l'.length + 1) = some (1, l'.length + 1) := bnd_sn (by decide) (by omega)
            by_cases c4 : l' = []
            · refine drawP (tabEnv [] []) [⟨[], allD 54, true⟩, ⟨[.arg 0 0], allD 54, true⟩, ⟨[.arg 0 0], allD 54, true⟩, ⟨[], allD 54, true⟩, ⟨[], allD 54, true⟩, ⟨[.arg 0 0], allD 54, true⟩, ⟨[], allD 54, true⟩, ⟨[.arg 0 0], allD 54, true⟩, ⟨[.arg 0 0], allD 54, true⟩, ⟨[.arg 0 0], allD 54, true⟩, ⟨[.op 0 0 0], allD 54, true⟩, ⟨[.op 0 0 0], allD 54, true⟩, ⟨[], allD 54, true⟩, ⟨[], allD 54, true⟩] h0 hm (tabEnv_ok tab_nil) (by kernel_rfl) (by kernel_rfl) ?_
              have hG0 := hGN (by rw [c4]; rfl)
              subst hG0
              subst c4
              simp only [List.length_nil, Nat.zero_add] at hbnd
              simp [px_dec, c3, hbnd, w1]
            · have c4' : ¬ l'.length = 0 := fun e => c4 (List.length_eq_zero_iff.1 e)
              refine drawP (tabEnv [] []) [⟨[], allD 54, true⟩, ⟨[.arg 0 0], allD 54, true⟩, ⟨[.arg 0 0], allD 54, true⟩, ⟨[], allD 54, true⟩, ⟨[], allD 54, true⟩, ⟨[.arg 0 0], allD 54, true⟩, ⟨[], allD 54, true⟩, ⟨[.arg 0 0], allD 54, true⟩, ⟨[.arg 0 0], allD 54, true⟩, ⟨[.arg 0 0], allD 54, true⟩, ⟨[.op 0 0 0], allD 54, true⟩, ⟨[.op 0 0 0], allD 54, true⟩, ⟨[], allD 54, true⟩, ⟨[], allD 54, true⟩] h0 hm (tabEnv_ok tab_nil) (by kernel_rfl) (by kernel_rfl) ?_
              simp [px_dec, c3, c4, c4', hbnd, hGG, hb1, hb2, hG, w1, h81, h83, hr6]
              omega
          · have hq : tl r (x :: l') = 0 := by rw [htl, if_neg c3]
            rw [hq]
            have hbnd : bnd (some (some (Value.int IntKind.i64 0))) none (l'.length + 1) = some (0, l'.length + 1) := bnd_sn (by decide) (by omega)
            refine drawP (tabEnv [] []) [⟨[], allD 54, true⟩, ⟨[.arg 0 0], allD 54, true⟩, ⟨[.arg 0 0], allD 54, true⟩, ⟨[], allD 54, true⟩, ⟨[], allD 54, true⟩, ⟨[.arg 0 0], allD 54, true⟩, ⟨[], allD 54, true⟩, ⟨[.arg 0 0], allD 54, true⟩, ⟨[.arg 0 0], allD 54, true⟩, ⟨[.arg 0 0], allD 54, true⟩, ⟨[.op 0 0 0], allD 54, true⟩, ⟨[.op 0 0 0], allD 54, true⟩, ⟨[], allD 54, true⟩, ⟨[], allD 54, true⟩] h0 hm (tabEnv_ok tab_nil) (by kernel_rfl) (by kernel_rfl) ?_
            simp [px_dec, c3, hbnd, hGG, hb1', hb2', hG, h82, h84, hr5, hr7]
            omega
        rw [hat] at hpc hpl
        rw [hpc, hpl, ho]
        have hdh : ∀ X : List PT, X.length = k * 8 → (X ++ (l.flatMap GRoute.co).drop (k * 8)).drop (k * 8) = GRoute.co l[k] ++ (l.flatMap GRoute.co).drop ((k + 1) * 8) := fun X hX => by
          rw [List.drop_append, hX, Nat.sub_self, List.drop_of_length_le (by omega), List.drop_zero, hd]
          rfl
        generalize htl' : tl r l = q at *
        generalize l.flatMap GRoute.co = F at *
        have hb1 : k * 8 ≤ l.length * 8 := by omega
        have hb2 : k * 96 ≤ 140737488355328 := by omega
        have hb3 : k ≤ 9223372036854775807 := by omega
        have hb4 : (k + 1) * 96 ≤ 140737488355328 := by omega
        have hb5 : k + 1 ≤ 9223372036854775807 := by omega
        have hTl : (F.take (k * 8)).length = k * 8 := by rw [List.length_take]; omega
        have hHl : ((F.map PT.hollow).take (k * 8)).length = k * 8 := by rw [List.length_take, List.length_map]; omega
        by_cases hk0 : k = 0
        · exact absurd hk0 hk00
        · have hdr := hdh _ hHl
          have hll : ((F.map PT.hollow).take (k * 8) ++ F.drop (k * 8)).length = l.length * 8 := by rw [List.length_append, hHl, List.length_drop]; omega
          simp [hkl, hk0, hb1, hb2, hb3, hb4, hb5, hcm, hTl]
          generalize hM : (F.map PT.hollow).take (k * 8) ++ F.drop (k * 8) = M at *
          have hMq : ∀ j, k ≤ j → M.drop (j * 8) = F.drop (j * 8) := fun j hj => by
            rw [← hM, List.drop_append, hHl, List.drop_of_length_le (by rw [hHl]; omega), List.nil_append, List.drop_drop]
            congr 1
            omega
          have hqk : k ≤ q ∧ q ≤ l.length := by rw [htl]; split <;> omega
          have hbnd : bnd (some (some (Value.int IntKind.i64 (q : Int)))) none l.length = some (q, l.length) := bnd_sn (by omega) (by omega)
          have hDq := hMq q hqk.1
          have hFq : (F.drop (q * 8)).length = (l.length - q) * 8 := by rw [List.length_drop]; omega
          have hFq0 : l.length - q = 0 → F.drop (q * 8) = [] := fun h0 => List.drop_of_length_le (by omega)
          generalize hX : F.take (k * 8) = X at *
          generalize hY : F.drop (q * 8) = Y at *
          have hYY : Y.take ((l.length - q) * 8) = Y := List.take_of_length_le (by omega)
          have hXX : X.take (k * 8) = X := List.take_of_length_le (by omega)
          have hql : q ≤ l.length := hqk.2
          have he1 : q * 8 + (l.length - q) * 8 ≤ l.length * 8 := by omega
          have he2 : (k + 1 + (l.length - q)) * 96 ≤ 140737488355328 := by omega
          have he3 : k + 1 + (l.length - q) ≤ 9223372036854775807 := by omega
          have hnn : k + 1 + (l.length - q) = k + (1 + (l.length - q)) := by omega
          have he2n : (k + (1 + (l.length - q))) * 96 ≤ 140737488355328 := by omega
          have he3n : k + (1 + (l.length - q)) ≤ 9223372036854775807 := by omega
          have w1 : IntKind.i64.wrap ((k : Int) + 1) = ((k + 1 : Nat) : Int) := wrNext k (by omega)
          have hmn : ¬ l = [] := by rintro rfl; simp at c1
          have hr1 : (k + 1) * 8 ≤ k * 8 + 8 := by omega
          have hr2 : ∀ a b c d e f g h : PT, List.take ((k + 1) * 8) (X ++ [a, b, c, d, e, f, g, h]) = X ++ [a, b, c, d, e, f, g, h] := fun a b c d e f g h => List.take_of_length_le (by simp only [List.length_append, List.length_cons, List.length_nil, hTl]; omega)
          have hr3 : ∀ a b c d e f g h : PT, List.take ((k + (1 + (l.length - q))) * 8) (X ++ (a :: b :: c :: d :: e :: f :: g :: h :: Y)) = X ++ (a :: b :: c :: d :: e :: f :: g :: h :: Y) := fun a b c d e f g h => List.take_of_length_le (by simp only [List.length_append, List.length_cons, hTl, hFq]; omega)
          have hD0 : M.drop (q * 8 + (l.length - q) * 8) = [] := List.drop_of_length_le (by omega)
          have hr4 : (k + (1 + (l.length - q))) * 8 ≤ k * 8 + ((l.length - q) * 8 + 1 + 1 + 1 + 1 + 1 + 1 + 1 + 1) := by omega
          by_cases c3 : (l[k]'c1).Prefix = r.Prefix
          · have hq : q = k + 1 := by rw [htl, if_pos c3]
            subst hq
            have hbnd' : bnd (some (some (Value.int IntKind.i64 ((k : Int) + 1)))) none l.length = some (k + 1, l.length) := hbnd
            by_cases c4 : l.length - (k + 1) = 0
            · have hY0 := hFq0 c4
              subst hY0
              refine drawP (tabEnv [] []) [⟨[], allD 54, true⟩, ⟨[.arg 0 0], allD 54, true⟩, ⟨[.arg 0 0], allD 54, true⟩, ⟨[], allD 54, true⟩, ⟨[], allD 54, true⟩, ⟨[.arg 0 0], allD 54, true⟩, ⟨[], allD 54, true⟩, ⟨[.arg 0 0], allD 54, true⟩, ⟨[.arg 0 0], allD 54, true⟩, ⟨[.arg 0 0], allD 54, true⟩, ⟨[.op 0 0 0], allD 54, true⟩, ⟨[.op 0 0 0], allD 54, true⟩, ⟨[], allD 54, true⟩, ⟨[], allD 54, true⟩] h0 hm (tabEnv_ok tab_nil) (by kernel_rfl) (by kernel_rfl) ?_
              simp [c1, c1', hdr, hll, hlt, hlt2, px_dec, c3, w1, hbnd', hql, hmn, c4, hD0, hTl, hXX, hr1, hr2]
              rw [← hM, List.take_of_length_le (l := F.drop (k * 8)) (by rw [List.length_drop]; omega), List.drop_of_length_le (l := F.map PT.hollow) (by rw [List.length_map]; omega), List.append_nil]
            · refine drawP (tabEnv [] []) [⟨[], allD 54, true⟩, ⟨[.arg 0 0], allD 54, true⟩, ⟨[.arg 0 0], allD 54, true⟩, ⟨[], allD 54, true⟩, ⟨[], allD 54, true⟩, ⟨[.arg 0 0], allD 54, true⟩, ⟨[], allD 54, true⟩, ⟨[.arg 0 0], allD 54, true⟩, ⟨[.arg 0 0], allD 54, true⟩, ⟨[.arg 0 0], allD 54, true⟩, ⟨[.op 0 0 0], allD 54, true⟩, ⟨[.op 0 0 0], allD 54, true⟩, ⟨[], allD 54, true⟩, ⟨[], allD 54, true⟩] h0 hm (tabEnv_ok tab_nil) (by kernel_rfl) (by kernel_rfl) ?_
              simp [c1, c1', hdr, hll, hlt, hlt2, px_dec, c3]
              simp [hr4, w1, hbnd', hDq, hYY, hll, c1, hql, he1, he2, he3, he2n, he3n, hmn, c4, hD0, hTl, hXX, hr1, hr2, hr3, hnn, hFq]
              have e8 : (k + 1) * 8 - k * 8 = 8 := by omega
              rw [← hM, List.take_append, hHl, List.take_of_length_le (l := (F.map PT.hollow).take (k * 8)) (by rw [hHl]; omega), e8, ← hY, List.map_drop, List.append_assoc]
          · have hq : q = k := by rw [htl, if_neg c3]
            subst hq
            have c4 : ¬ l.length - q = 0 := by omega
            refine drawP (tabEnv [] []) [⟨[], allD 54, true⟩, ⟨[.arg 0 0], allD 54, true⟩, ⟨[.arg 0 0], allD 54, true⟩, ⟨[], allD 54, true⟩, ⟨[], allD 54, true⟩, ⟨[.arg 0 0], allD 54, true⟩, ⟨[], allD 54, true⟩, ⟨[.arg 0 0], allD 54, true⟩, ⟨[.arg 0 0], allD 54, true⟩, ⟨[.arg 0 0], allD 54, true⟩, ⟨[.op 0 0 0], allD 54, true⟩, ⟨[.op 0 0 0], allD 54, true⟩, ⟨[], allD 54, true⟩, ⟨[], allD 54, true⟩] h0 hm (tabEnv_ok tab_nil) (by kernel_rfl) (by kernel_rfl) ?_
            simp [c1, c1', hdr, hll, hlt, hlt2, px_dec, c3]
            simp [hr4, hbnd, hDq, hYY, hll, c1, hql, he1, he2, he3, he2n, he3n, hmn, c4, hD0, hTl, hXX, hr1, hr2, hr3, hnn, hFq]
            rw [← hM, List.take_append, hHl, List.take_of_length_le (l := (F.map PT.hollow).take (q * 8)) (by rw [hHl]; omega), Nat.sub_self, List.take_zero, List.append_nil, ← hY, List.map_drop, List.take_append_drop]
    · have c1' : ¬ (k : Int) < l.length := by omega
      refine drawP (tabEnv [] _) [⟨[], allD 54, true⟩, ⟨[.arg 0 0], allD 54, true⟩, ⟨[.arg 0 0], allD 54, true⟩, ⟨[], allD 54, true⟩, ⟨[], allD 54, true⟩, ⟨[.arg 0 0], allD 54, true⟩, ⟨[], allD 54, true⟩, ⟨[.arg 0 0], allD 54, true⟩, ⟨[.arg 0 0], allD 54, true⟩, ⟨[.arg 0 0], allD 54, true⟩, ⟨[.op 0 0 0], allD 54, true⟩, ⟨[.op 0 0 0], allD 54, true⟩, ⟨[], allD 54, false⟩, ⟨[], allD 54, true⟩, ⟨[], allD 54, true⟩] h0 hm (tabEnv_ok tab_nil) (by kernel_rfl) (by kernel_rfl) ?_
      have hkn : k = l.length := by omega
      have hat := hat2 hkn
      have hf : fnd r.Prefix l = false := by
        have h1 : bsI (fun x : GRoute => cmpPx x.Prefix r.Prefix) l = k := hat
        simp only [fnd, bsF, h1, List.getElem?_eq_none (Nat.le_of_not_lt c1)]
      have hq : tl r l = k := by unfold tl; rw [hf, hat]; rfl
      have ho : outPut r l = ((l.flatMap GRoute.co).map PT.hollow) := by
        unfold outPut
        rw [hq, hat, Nat.sub_self, Nat.zero_mul, List.take_zero, List.nil_append, List.take_append_drop]
      rw [hat, hq] at hpc
      rw [hat, hq] at hpl
      rw [hpc, hpl, ho]
      clear hpc hpl ho hf hq hat hat2 hall
      subst hkn
      have hDn : (l.flatMap GRoute.co).drop (l.length * 8) = [] := List.drop_of_length_le (by omega)
      have hTn : (l.flatMap GRoute.co).take (l.length * 8) = l.flatMap GRoute.co := List.take_of_length_le (by omega)
      rw [hDn, hTn]
      have hHT : ((l.flatMap GRoute.co).map PT.hollow).take (l.length * 8) = (l.flatMap GRoute.co).map PT.hollow := List.take_of_length_le (by rw [List.length_map]; omega)
      have hbnd1 : bnd none (some (some (Value.int IntKind.i64 (l.length : Int)))) l.length = some (0, l.length) := bnd_ns (by omega) (by omega)
      have hbnd2 : bnd (some (some (Value.int IntKind.i64 (l.length : Int)))) none l.length = some (l.length, l.length) := bnd_sn (by omega) (by omega)
      have hb2 : l.length * 96 ≤ 140737488355328 := by omega
      have hb3 : l.length ≤ 9223372036854775807 := by omega
      have hb6 : (l.length + 1) * 96 ≤ 140737488355328 := by omega
      have hb7 : l.length + 1 ≤ 9223372036854775807 := by omega
      by_cases hk0 : l = []
      · subst hk0
        simp
        refine drawP (tabEnv [] []) [⟨[], allD 54, true⟩, ⟨[.arg 0 0], allD 54, true⟩, ⟨[.arg 0 0], allD 54, true⟩, ⟨[], allD 54, true⟩, ⟨[], allD 54, true⟩, ⟨[.arg 0 0], allD 54, true⟩, ⟨[], allD 54, true⟩, ⟨[.arg 0 0], allD 54, true⟩, ⟨[.arg 0 0], allD 54, true⟩, ⟨[.arg 0 0], allD 54, true⟩, ⟨[.op 0 0 0], allD 54, true⟩, ⟨[.op 0 0 0], allD 54, true⟩, ⟨[], allD 54, true⟩, ⟨[], allD 54, true⟩] h0 hm (tabEnv_ok tab_nil) (by kernel_rfl) (by kernel_rfl) ?_
        simp
      · have hk1 : ¬ l.length = 0 := fun e => hk0 (List.length_eq_zero_iff.1 e)
        generalize l.flatMap GRoute.co = F at *
        simp [c1, c1', hbnd1, hk0, hk1, hb2, hb3, hb6, hb7, hcm, hTn, hDn, hHT]
        refine drawP (tabEnv [] []) [⟨[], allD 54, true⟩, ⟨[.arg 0 0], allD 54, true⟩, ⟨[.arg 0 0], allD 54, true⟩, ⟨[], allD 54, true⟩, ⟨[], allD 54, true⟩, ⟨[.arg 0 0], allD 54, true⟩, ⟨[], allD 54, true⟩, ⟨[.arg 0 0], allD 54, true⟩, ⟨[.arg 0 0], allD 54, true⟩, ⟨[.arg 0 0], allD 54, true⟩, ⟨[.op 0 0 0], allD 54, true⟩, ⟨[.op 0 0 0], allD 54, true⟩, ⟨[], allD 54, true⟩, ⟨[], allD 54, true⟩] h0 hm (tabEnv_ok tab_nil) (by kernel_rfl) (by kernel_rfl) ?_
        simp [c1, c1', hbnd1, hbnd2, hk0, hk1, hb2, hb3, hb6, hb7, hcm, hTn, hDn, hHT]
def updB (u : GUpdate) : Prop := u.Gone.length ≤ 1048576 ∧ u.Come.length ≤ 1048576 ∧ u.Attrs.Path.length ≤ 1048576 ∧ u.Attrs.Comms.length ≤ 1048576
def routesB (l : List GRoute) : Prop := l.length ≤ 1000 ∧ ∀ r ∈ l, r.Attrs.Path.length ≤ 1048576 ∧ r.Attrs.Comms.length ≤ 1048576
def keepF (l : List GRoute) (u : GUpdate) (i : Nat) : List GRoute := (l.take i).filter fun r => !decide (r.Prefix ∈ u.Gone)
theorem keepF_succ (l : List GRoute) (u : GUpdate) (i : Nat) (h : i < l.length) : keepF l u (i + 1) = keepF l u i ++ (if l[i].Prefix ∈ u.Gone then [] else [l[i]]) := by
  unfold keepF
  rw [take_step l i h, List.filter_append, List.filter_cons, List.filter_nil]
  by_cases c : l[i].Prefix ∈ u.Gone <;> simp [c]
theorem ok_l14Hear (k k' : Nat) (l : List GRoute) (u : GUpdate) (hs : srt l) (hl : routesB l) (hu : updB u) (hc : u.Come.length ≤ 1000) : CallOK Try.prog 18 [.c (rd k l.length (l.flatMap (GRoute.ci k))), .agg (GUpdate.ci k' u)] (.c (.sl 0 58 (hearL l u).length ((hearL l u).flatMap GRoute.co))) [.c (rd k l.length (l.flatMap (GRoute.ci k))), .agg (GUpdate.ci k' u)] := by
  obtain ⟨hl1, hl2⟩ := hl
  obtain ⟨hu1, hu2, hu3, hu4⟩ := hu
  refine okS (fn := Try.f18) [(42, [2,2])] h0 Try.func18 (by kernel_rfl) rfl Try.ntmps18 Try.results18 (by simp) ?_
  simp
  refine ewp_nil 5 (.op 6 4 0) 58 (by decide) rfl rfl rfl ?_
  refine loopS [3, 5, 10, 11, 12] [.op 6 4 0, .op 0 0 0] (fun n st => ∃ (i : Nat), i + n = l.length ∧ st = ⟨slOf 44 [(3, .ptr ⟨.op 0 0 0, []⟩ 0), (5, .ref ⟨.op 6 4 0, []⟩ 0 (keepF l u i).length), (10, .t (rd k l.length (l.flatMap (GRoute.ci k)))), (11, .t (pi l.length)), (12, .t (pi i))], ofL [(.op 6 4 0, .sl 0 58 (keepF l u i).length ((keepF l u i).flatMap GRoute.co)), (.op 0 0 0, .sl 0 54 1 (GUpdate.ci k' u))]⟩) l.length ?_ ?_
  · rintro Inv hI
    simp
    subst hI
    exact ⟨0, by omega, rfl⟩
  · rintro Inv hI n st ⟨i, hi, rfl⟩
    have hS := keepF_succ l u i
    have hO : (keepF l u i).length ≤ l.length := Nat.le_trans (List.length_filter_le _ _) (by rw [List.length_take]; omega)
    have hall : i = l.length → keepF l u i = comeL l u 0 := by
      rintro rfl
      unfold keepF comeL
      rw [List.take_length]
      rfl
    generalize hOe : keepF l u i = O at hO hS hall ⊢
    have hA := fm_len GRoute.co 8 (fun _ => rfl) O
    have hAm : ∀ y, (O ++ [y]).flatMap GRoute.co = O.flatMap GRoute.co ++ GRoute.co y := fun y => by simp
    generalize hAe : O.flatMap GRoute.co = A at hA hAm ⊢
    refine ewr_sound (M := [(42, [2, 2])]) h0 ?_
    simp
    refine brn_app (fun a => ?_) (fun a => ?_)
    · simp at a
      have hd := fm_drop (GRoute.ci k) 8 (fun _ => rfl) l i a
      have hlen := fm_len (GRoute.ci k) 8 (fun _ => rfl) l
      have hlt : i * 8 < l.length * 8 := by omega
      have hlt2 : i * 8 + 8 ≤ l.length * 8 := by omega
      have hx := hl2 l[i] (List.getElem_mem a)
      have hS' := hS a
      simp [a, hd, hlen, hlt]
      refine Inv_intro (ok_l4In k' u.Gone l[i].Prefix (by omega)) ?_
      by_cases c : l[i].Prefix ∈ u.Gone
      · rw [if_pos c, List.append_nil] at hS'
        simp [c]
        subst hI
        refine Less_mk (n - 1) (by omega) ⟨i + 1, by omega, ?_⟩
        rw [wrNext i (by omega), hS', hAe]
        rfl
      · rw [if_neg c] at hS'
        simp [c]
        refine Inv_intro (ok_l7Own k l[i] hx.1 hx.2) ?_
        have hb1 : (O.length + 1) * 96 ≤ 140737488355328 := by omega
        have hb2 : O.length ≤ 9223372036854775806 := by omega
        have ht : A.take (O.length * 8) = A := List.take_of_length_le (by omega)
        simp [hA, hb1, hb2, ht]
        subst hI
        refine Less_mk (n - 1) (by omega) ⟨i + 1, by omega, ?_⟩
        rw [wrNext i (by omega), hS']
        simp [hAm, hAe]
    · simp at a
      have hil : i = l.length := by omega
      have hO0 := hall hil
      simp
      rw [hO0] at hAe
      subst hAe
      have hAl := fm_len GRoute.co 8 (fun _ => rfl) (comeL l u 0)
      rw [hO0]
      refine ewp_sw (.op 6 4 0) (.op 11 6 0) rfl rfl ?_
      simp
      refine loopS [3, 5, 29, 30, 31] [.op 11 6 0, .op 0 0 0] (fun n st => ∃ (j : Nat), j + n = u.Come.length ∧ st = ⟨slOf 44 [(3, .ptr ⟨.op 0 0 0, []⟩ 0), (5, .ref ⟨.op 11 6 0, []⟩ 0 (comeL l u j).length), (29, .t (rd k' u.Come.length (u.Come.flatMap GPrefix.c))), (30, .t (pi u.Come.length)), (31, .t (pi j))], ofL [(.op 11 6 0, .sl 0 58 (comeL l u j).length ((comeL l u j).flatMap GRoute.co)), (.op 0 0 0, .sl 0 54 1 (GUpdate.ci k' u))]⟩) u.Come.length ?_ ?_
      · rintro Inv' hI'
        simp
        subst hI'
        exact ⟨0, by omega, rfl⟩
      · rintro Inv' hI' m st ⟨j, hj, rfl⟩
        have hsj := srt_come hs u j (by omega)
        have hlj := len_come hs u j (by omega)
        have hcs := comeL_succ l u j
        have hce := comeL_all l u
        refine ewr_sound (M := [(42, [2, 2])]) h0 ?_
        simp
        by_cases a2 : j < u.Come.length
        · have hd := fm_drop GPrefix.c 2 (fun _ => rfl) u.Come j a2
          have hlen := fm_len GPrefix.c 2 (fun _ => rfl) u.Come
          have hlt : j * 2 < u.Come.length * 2 := by omega
          have hcs' := hcs a2
          generalize comeL l u j = B at hsj hlj hcs' ⊢
          have hB := fm_len GRoute.co 8 (fun _ => rfl) B
          have ht : (B.flatMap GRoute.co).take (B.length * 8) = B.flatMap GRoute.co := List.take_of_length_le (by omega)
          have hput := ok_l14Put B ⟨u.Come[j]'a2, u.Attrs⟩ hsj (by omega)
          generalize (u.Come[j]'a2) = p at hput hcs' hd ⊢
          simp [a2, hd, hlen, hlt]
          refine drawP (tabEnv [(42, [2, 2])] _) [⟨[.op 11 6 0], allD 44, true⟩, ⟨[.op 10 2 0], allD 44, true⟩, ⟨[.op 0 0 0], allD 44, true⟩, ⟨[.op 0 0 0], allD 44, true⟩, ⟨[], allD 44, false⟩, ⟨[.op 11 4 1, .op 11 4 5], allD 44, true⟩, ⟨[.op 11 6 0, .op 11 4 1, .op 11 4 5], [35, 36, 37, 38, 39, 40, 41, 5], false⟩, ⟨[.op 11 6 0], allD 44, true⟩] h0 hm (tabEnv_ok (tab_cons (ok_l4Own k' u.Attrs hu3 hu4) (tab_cons hput tab_nil))) (by kernel_rfl) (by kernel_rfl) ?_
          simp [hB, ht]
          subst hI'
          refine Less_mk (m - 1) (by omega) ⟨j + 1, by omega, ?_⟩
          rw [wrNext j (by omega), hcs']
          rfl
        · have hjl : j = u.Come.length := by omega
          subst hjl
          simp [hce]
end Go.V
