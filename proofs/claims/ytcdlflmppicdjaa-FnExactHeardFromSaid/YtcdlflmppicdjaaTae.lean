/- What functions of the seat's program do, each proved of its code, under the bounds that its theorem names. -/
import Derived.Test.YtcdlflmppicdjaaTad
set_option linter.all false
namespace Go.V
open Go.Proofs
set_option maxHeartbeats 1000000
set_option maxRecDepth 10000
set_option linter.unusedSimpArgs false
set_option linter.unusedVariables false
theorem ok_Clone_Int (k : Nat) (xs : List Int) (hx : xs.length ≤ 1048576) : CallOK Try.prog 123 [.c (rd k xs.length (xs.map pi))] (.c (.sl 0 3 xs.length (xs.map pi))) [.c (rd k xs.length (xs.map pi))] := by
  refine okS (fn := Try.f123) [] h0 Try.func123 (by kernel_rfl) rfl Try.ntmps123 Try.results123 (by simp) ?_
  cases xs with
  | nil => simp
  | cons y ys =>
    simp only [List.length_cons] at hx
    have hb : (ys.length + 1) * 8 ≤ 140737488355328 ∧ ys.length + 1 ≤ 9223372036854775807 := by omega
    have hb2 : ys.length + 1 ≤ 9223372036854775807 := by omega
    have hb1 : (ys.length + 1) * 8 ≤ 140737488355328 := by omega
    simp [hb1, hb2]
theorem ok_ownAttrs (k : Nat) (a : GAttrs) (h1 : a.Path.length ≤ 1048576) (h2 : a.Comms.length ≤ 1048576) : CallOK Try.prog 75 [.agg (GAttrs.ci k a)] (.agg (GAttrs.co a)) [.agg (GAttrs.ci k a)] := by
  refine okS (fn := Try.f75) [] h0 Try.func75 (by kernel_rfl) rfl Try.ntmps75 Try.results75 (by simp) ?_
  simp
  refine drawP (fnEnv 123 (fL1 1048576 fun xs => .sl 0 3 xs.length (xs.map pi)) (tabEnv [] [])) [⟨[.op 0 0 0], allD 12, true⟩, ⟨[.op 0 0 0], allD 12, true⟩, ⟨[.op 1 2 0], [3, 4, 5, 6, 7, 8, 9, 10], false⟩, ⟨[.op 0 0 0], allD 12, true⟩, ⟨[.op 0 0 0], allD 12, true⟩, ⟨[.op 1 5 0], [3, 4, 5, 6, 7, 8, 9, 10], false⟩, ⟨[.op 0 0 0], allD 12, true⟩, ⟨[.op 0 0 0, .op 1 2 0], [3, 4, 5, 6, 7, 8, 9, 10], false⟩, ⟨[.op 0 0 0], allD 12, true⟩, ⟨[.op 0 0 0, .op 1 5 0], [3, 4, 5, 6, 7, 8, 9, 10], false⟩] h0 hm (fnEnv_ok (tabEnv_ok tab_nil) (fL1_ok fun k xs hx => ok_Clone_Int k xs hx)) (by kernel_rfl) (by kernel_rfl) ?_
  simp [h1, h2]
theorem ok_l4Own (k : Nat) (a : GAttrs) (h1 : a.Path.length ≤ 1048576) (h2 : a.Comms.length ≤ 1048576) : CallOK Try.prog 72 [.agg (GAttrs.ci k a)] (.agg (GAttrs.co a)) [.agg (GAttrs.ci k a)] := by
  have b1 : a.Path.length * 8 ≤ 140737488355328 := by omega
  have b2 : a.Path.length ≤ 9223372036854775807 := by omega
  have b3 : a.Comms.length * 8 ≤ 140737488355328 := by omega
  have b4 : a.Comms.length ≤ 9223372036854775807 := by omega
  refine okS (fn := Try.f72) [] h0 Try.func72 (by kernel_rfl) rfl Try.ntmps72 Try.results72 (by simp) ?_
  by_cases p : a.Path = []
  · by_cases c : a.Comms = []
    · simp [p, c]
    · simp [p, c, b3, b4]
  · by_cases c : a.Comms = []
    · simp [p, c, b1, b2]
    · simp [p, c, b1, b2, b3, b4]
theorem ok_findOffer (k : Nat) (xs : List GOffer) (n : Int) (hl : xs.length ≤ 140737488351232) (hp : xs.Pairwise (fun a b => a.Peer < b.Peer)) : CallOK Try.prog 74 [.c (rd k xs.length (xs.flatMap (GOffer.ci k))), .c (pi n)] (.tup [.c (pi (bsI (fun o : GOffer => cmpI o.Peer n) xs)), .c (pb (bsF (fun o : GOffer => cmpI o.Peer n) xs))]) [.c (rd k xs.length (xs.flatMap (GOffer.ci k))), .c (pi n)] := by
  refine okS (fn := Try.f74) [] h0 Try.func74 (by kernel_rfl) rfl Try.ntmps74 Try.results74 (by simp) ?_
  simp
  refine Inv_intro (ok_BS_Offer k xs n hl (pw_mono hp n)) ?_
  simp
theorem ok_iHeardFrom (k : Nat) (r : GRib) (n : Int) (hr : ribOK r) : CallOK Try.prog 34 [.agg (GRib.ci k r), .c (pi n)] (.tup [.c (.sl 0 80 (rHeardFrom r n).1.length ((rHeardFrom r n).1.flatMap GRoute.co)), .c (pb (rHeardFrom r n).2)]) [.agg (GRib.ci k r), .c (pi n)] := by
  refine okS (fn := Try.f34) [] h0 Try.func34 (by kernel_rfl) rfl Try.ntmps34 Try.results34 (by simp) ?_
  simp
  refine Inv_intro (ok_iGoodRib k r hr) ?_
  simp
  cases c1 : goodRib r with
  | false => simp [rHeardFrom, c1]
  | true =>
    simp
    refine Inv_intro (ok_isPeer n) ?_
    simp
    cases c2 : isPeerB n with
    | false => simp [rHeardFrom, c2]
    | true =>
      obtain ⟨hrl, hrx⟩ := goodRib_rows c1
      have er : rHeardFrom r n = (heardL n r.Rows, true) := by simp [rHeardFrom, c1, c2]
      rw [er]
      generalize hR : r.Rows = l at hrl hrx ⊢
      simp
      refine ewp_sw (.op 3 0 0) (.op 9 12 0) rfl rfl ?_
      simp
      refine loopS [1, 6, 21, 22, 23] [.op 9 12 0] (fun m st => ∃ (i : Nat), i + m = l.length ∧ st = ⟨slOf 50 [(1, .t (pi n)), (6, .ref ⟨.op 9 12 0, []⟩ 0 (heardL n (l.take i)).length), (21, .t (rd k l.length (l.flatMap (GRow.ci k)))), (22, .t (pi l.length)), (23, .t (pi i))], ofL [(.op 9 12 0, .sl 0 80 (heardL n (l.take i)).length ((heardL n (l.take i)).flatMap GRoute.co))]⟩) l.length ?_ ?_
      · rintro Inv hI
        simp
        subst hI
        exact ⟨0, by omega, by simp [heardL]⟩
      · rintro Inv hI m st ⟨i, hi, rfl⟩
        have hO : (heardL n (l.take i)).length ≤ i := by
          have := heardL_len n (l.take i) fun x hx => (hrx x (List.mem_of_mem_take hx)).1
          rw [List.length_take] at this
          omega
        have hS := heardL_snoc n l i
        generalize hOe : heardL n (l.take i) = O at hO hS ⊢
        have hA := fm_len GRoute.co 8 (fun _ => rfl) O
        have hAm : ∀ y, (O ++ [y]).flatMap GRoute.co = O.flatMap GRoute.co ++ GRoute.co y := fun y => by simp
        generalize hAe : O.flatMap GRoute.co = A at hA hAm ⊢
        refine ewr_sound (M := []) h0 ?_
        simp
        refine brn_app (fun a => ?_) (fun a => ?_)
        · simp at a
          have hd := fm_drop (GRow.ci k) 3 (fun _ => rfl) l i a
          have hlen := fm_len (GRow.ci k) 3 (fun _ => rfl) l
          have hlt : i * 3 < l.length * 3 := by omega
          obtain ⟨hp, hg⟩ := hrx _ (List.getElem_mem a)
          have hxl : l[i].Offers.length ≤ 140737488351232 := (hr.2 l[i] (by rw [hR]; exact List.getElem_mem a)).1
          have hS' := hS a
          simp [a, hd, hlen, hlt]
          refine Inv_intro (ok_findOffer k l[i].Offers n hxl hp) ?_
          have hbs := ofPeer_bs n l[i].Offers hp
          simp
          refine brn_app (fun b => ?_) (fun b => ?_)
          · rw [if_pos b] at hbs
            have hex : bsI (fun o : GOffer => cmpI o.Peer n) l[i].Offers < l[i].Offers.length := by
              unfold bsF at b
              split at b
              · rename_i h; exact (List.getElem?_eq_some_iff.1 h).1
              · cases b
            generalize bsI (fun o : GOffer => cmpI o.Peer n) l[i].Offers = q at hbs hex ⊢
            rw [List.getElem?_eq_getElem hex] at hbs
            have hh : heardR n l[i] = [routeOf l[i] l[i].Offers[q]] := by rw [heardR, hbs]; rfl
            rw [hh] at hS'
            have hgl := goodO_len (hg _ (List.getElem_mem hex))
            have hdq := fm_drop (GOffer.ci k) 7 (fun _ => rfl) l[i].Offers q hex
            have hlenq := fm_len (GOffer.ci k) 7 (fun _ => rfl) l[i].Offers
            have hltq : q * 7 < l[i].Offers.length * 7 := by omega
            have hb1 : (O.length + 1) * 96 ≤ 140737488355328 := by omega
            have hb2 : O.length ≤ 9223372036854775806 := by omega
            have ht : A.take (O.length * 8) = A := List.take_of_length_le (by omega)
            refine drawP (tabEnv [] _) [⟨[.op 9 12 0], allD 50, true⟩, ⟨[.op 6 2 0], allD 50, true⟩, ⟨[.op 6 2 0], allD 50, true⟩, ⟨[.op 6 2 0], allD 50, true⟩, ⟨[.op 6 2 0], allD 50, true⟩, ⟨[], allD 50, true⟩, ⟨[], allD 50, true⟩, ⟨[], allD 50, true⟩, ⟨[], allD 50, true⟩, ⟨[], allD 50, false⟩, ⟨[.op 9 9 1, .op 9 9 5], allD 50, true⟩, ⟨[.op 9 9 1, .op 9 9 5, .op 9 10 0], [35, 36, 37, 38, 39, 40, 41, 42, 43, 44, 45, 46, 47, 6], false⟩, ⟨[.op 9 12 0, .op 9 11 0], [35, 36, 37, 38, 39, 40, 41, 42, 43, 44, 45, 46, 47, 6], false⟩, ⟨[.op 9 12 0], allD 50, true⟩] h0 hm (tabEnv_ok (tab_cons (ok_ownAttrs k l[i].Offers[q].Attrs (by omega) (by omega)) tab_nil)) (by kernel_rfl) (by kernel_rfl) ?_
            simp [hA, hb1, hb2, ht, hex, hdq, hlenq, hltq]
            subst hI
            refine Less_mk (m - 1) (by omega) ⟨i + 1, by omega, ?_⟩
            rw [wrNext i (by omega), hS']
            simp [hAm, hAe, routeOf]
          · rw [if_neg (by rw [b]; exact Bool.false_ne_true)] at hbs
            have hh : heardR n l[i] = [] := by rw [heardR, hbs]; rfl
            rw [hh, List.append_nil] at hS'
            simp
            subst hI
            refine Less_mk (m - 1) (by omega) ⟨i + 1, by omega, ?_⟩
            rw [wrNext i (by omega), hS', hAe]
        · simp at a
          have ht : List.take i l = l := List.take_of_length_le (by omega)
          rw [ht] at hOe
          subst hOe
          have hA' : A.take ((heardL n l).length * 8) = A := List.take_of_length_le (by omega)
          simp [hA, hA', hAe]
def adjR (q : Option GRoute) (x : GRoute) : Bool := match q with
  | none => true
  | some q => decide (cmpPx q.Prefix x.Prefix < 0)
def routesG : Option GRoute → List GRoute → Bool
  | _, [] => true
  | q, x :: xs => goodR x && adjR q x && routesG (some x) xs
def goodRs (l : List GRoute) : Bool := routesG none l && decide (l.length ≤ 20)
def prevR (l : List GRoute) (i : Nat) : Option GRoute := if i = 0 then none else l[i - 1]?
theorem prevR_next (l : List GRoute) (i : Nat) (h : i < l.length) : prevR l (i + 1) = some l[i] := by simp [prevR, h]
def routesOK (l : List GRoute) : Prop := l.length ≤ 140737488351232 ∧ ∀ r ∈ l, attrOK r.Attrs
theorem ok_iGoodRoutes (k : Nat) (l : List GRoute) (hl : routesOK l) : CallOK Try.prog 19 [.c (rd k l.length (l.flatMap (GRoute.ci k)))] (.c (pb (goodRs l))) [.c (rd k l.length (l.flatMap (GRoute.ci k)))] := by
  obtain ⟨hll, hlx⟩ := hl
  refine okS (fn := Try.f19) [] h0 Try.func19 (by kernel_rfl) rfl Try.ntmps19 Try.results19 (by simp) ?_
  simp
  refine loopS [0, 5, 6, 7] [] (fun n st => ∃ (i : Nat), i + n = l.length ∧ routesG (prevR l i) (l.drop i) = routesG none l ∧ st = ⟨slOf 35 [(0, .t (rd k l.length (l.flatMap (GRoute.ci k)))), (5, .t (rd k l.length (l.flatMap (GRoute.ci k)))), (6, .t (pi l.length)), (7, .t (pi i))], ofL []⟩) l.length ?_ ?_
  · rintro Inv hI
    simp
    subst hI
    exact ⟨0, by omega, rfl, rfl⟩
  · rintro Inv hI n st ⟨i, hi, hg, rfl⟩
    refine ewr_sound (M := []) h0 ?_
    simp
    refine brn_app (fun a => ?_) (fun a => ?_)
    · simp at a
      have hx := hlx l[i] (List.getElem_mem a)
      rw [drop_step _ i a, routesG] at hg
      have hd := fm_drop (GRoute.ci k) 8 (fun _ => rfl) l i a
      have hlen := fm_len (GRoute.ci k) 8 (fun _ => rfl) l
      have hlt : i * 8 < l.length * 8 := by omega
      have en : prevR l (i + 1) = some l[i] := prevR_next l i a
      simp [a, hd, hlen, hlt]
      have hR := ok_iGoodRoute k l[i] hx
      by_cases c0 : i = 0
      · have e0 : ¬ 0 < i := by omega
        have ep : prevR l i = none := by simp [prevR, c0]
        rw [ep, adjR, Bool.and_true] at hg
        refine drawP (tabEnv [] _) [⟨[.op 3 3 0], allD 35, true⟩, ⟨[], allD 35, false⟩, ⟨[], allD 35, true⟩, ⟨[], allD 35, true⟩, ⟨[], allD 35, true⟩, ⟨[], allD 35, true⟩, ⟨[], allD 35, true⟩, ⟨[], allD 35, true⟩, ⟨[], allD 35, true⟩, ⟨[], allD 35, true⟩, ⟨[], allD 35, true⟩, ⟨[], allD 35, true⟩, ⟨[], allD 35, true⟩, ⟨[.op 3 3 0], allD 35, true⟩, ⟨[.op 3 3 0], allD 35, true⟩, ⟨[], allD 35, false⟩, ⟨[], allD 35, true⟩, ⟨[], allD 35, true⟩, ⟨[], allD 35, true⟩] h0 hm (tabEnv_ok (tab_cons hR tab_nil)) (by kernel_rfl) (by kernel_rfl) ?_
        cases c1 : goodR l[i] with
        | false =>
          rw [c1, Bool.false_and] at hg
          simp [c1, goodRs, ← hg]
        | true =>
          rw [c1, Bool.true_and] at hg
          simp [c1, e0]
          subst hI
          exact Less_mk (n - 1) (by omega) ⟨i + 1, by omega, by rw [en]; exact hg, by rw [wrNext i (by omega)]⟩
      · obtain ⟨j, hj⟩ : ∃ j, i = j + 1 := ⟨i - 1, by omega⟩
        have aj : j < l.length := by omega
        have ep : prevR l i = some l[j] := by subst hj; exact prevR_next l j aj
        have hdj := fm_drop (GRoute.ci k) 8 (fun _ => rfl) l j aj
        have hltj : j * 8 < l.length * 8 := by omega
        have hw : IntKind.wrap .i64 ((i : Int) - 1) = j := (wrap64 (by omega) (by omega)).trans (by omega)
        have e0 : 0 < i := by omega
        rw [ep, adjR] at hg
        refine drawP (tabEnv [] _) [⟨[.op 3 3 0], allD 35, true⟩, ⟨[], allD 35, false⟩, ⟨[], allD 35, true⟩, ⟨[], allD 35, true⟩, ⟨[], allD 35, true⟩, ⟨[], allD 35, true⟩, ⟨[], allD 35, true⟩, ⟨[], allD 35, true⟩, ⟨[], allD 35, true⟩, ⟨[], allD 35, true⟩, ⟨[], allD 35, true⟩, ⟨[], allD 35, true⟩, ⟨[], allD 35, true⟩, ⟨[.op 3 3 0], allD 35, true⟩, ⟨[.op 3 3 0], allD 35, true⟩, ⟨[], allD 35, false⟩, ⟨[], allD 35, true⟩, ⟨[], allD 35, true⟩, ⟨[], allD 35, true⟩] h0 hm (tabEnv_ok (tab_cons hR (tab_cons (ok_compare l[j].Prefix l[i].Prefix) tab_nil))) (by kernel_rfl) (by kernel_rfl) ?_
        cases c1 : goodR l[i] with
        | false =>
          rw [c1, Bool.false_and, Bool.false_and] at hg
          simp [c1, goodRs, ← hg]
        | true =>
          rw [c1, Bool.true_and] at hg
          by_cases c2 : cmpPx l[j].Prefix l[i].Prefix < 0
          · have c3 : ¬ 0 ≤ cmpPx l[j].Prefix l[i].Prefix := by omega
            rw [decide_eq_true c2, Bool.true_and] at hg
            simp [c1, e0, hw, aj, hdj, hlen, hltj, c3]
            subst hI
            exact Less_mk (n - 1) (by omega) ⟨i + 1, by omega, by rw [en]; exact hg, by rw [wrNext i (by omega)]⟩
          · have c3 : 0 ≤ cmpPx l[j].Prefix l[i].Prefix := by omega
            rw [decide_eq_false c2, Bool.false_and] at hg
            simp [c1, e0, hw, aj, hdj, hlen, hltj, c3, goodRs, ← hg]
    · simp at a
      rw [List.drop_of_length_le (by omega), routesG] at hg
      simp [goodRs, ← hg]
      omega
theorem ok_sGoodAttrs (k : Nat) (x : GAttrs) (hx : attrOK x) : CallOK Try.prog 102 [.agg (GAttrs.ci k x)] (.c (pb (goodA x))) [.agg (GAttrs.ci k x)] := by
  obtain ⟨h1, h2⟩ := hx
  refine okS (fn := Try.f102) [] h0 Try.func102 (by kernel_rfl) rfl Try.ntmps102 Try.results102 (by simp) ?_
  simp
  refine loopS [1, 8, 9, 10] [.op 0 0 0] (fun n st => ∃ (i : Nat), i + n = x.Path.length ∧ (x.Path.drop i).all isAsnB = x.Path.all isAsnB ∧ st = ⟨slOf 74 [(1, .ptr ⟨.op 0 0 0, []⟩ 0), (8, .t (rd k x.Path.length (x.Path.map pi))), (9, .t (pi x.Path.length)), (10, .t (pi i))], ofL [(.op 0 0 0, .sl 0 78 1 (GAttrs.ci k x))]⟩) x.Path.length ?_ ?_
  · rintro Inv hI
    simp
    subst hI
    exact ⟨0, by omega, rfl, rfl⟩
  · rintro Inv hI n st ⟨i, hi, hg, rfl⟩
    refine ewr_sound (M := []) h0 ?_
    simp
    refine brn_app (fun a => ?_) (fun a => ?_)
    · simp at a
      rw [drop_step _ i a, List.all_cons] at hg
      simp [a]
      refine Inv_intro (ok_l1In _ _ _) ?_
      by_cases c : 1 ≤ x.Path[i] ∧ x.Path[i] ≤ 65535
      · have c' : isAsnB x.Path[i] = true := inR_t c
        rw [c', Bool.true_and] at hg
        simp [c]
        subst hI
        exact Less_mk (n - 1) (by omega) ⟨i + 1, by omega, hg, by rw [wrNext i (by omega)]; rfl⟩
      · have c' : isAsnB x.Path[i] = false := by simp only [isAsnB, inR, decide_eq_false_iff_not]; exact c
        rw [c', Bool.false_and] at hg
        simp [c, goodA, goodPa, ← hg]
    · simp at a
      rw [List.drop_of_length_le (by omega), List.all_nil] at hg
      simp
      refine loopS [1, 19, 20, 21] [.op 0 0 0] (fun n st => ∃ (i : Nat), i + n = x.Comms.length ∧ commsG (prevI x.Comms i) (x.Comms.drop i) = commsG none x.Comms ∧ st = ⟨slOf 74 [(1, .ptr ⟨.op 0 0 0, []⟩ 0), (19, .t (rd k x.Comms.length (x.Comms.map pi))), (20, .t (pi x.Comms.length)), (21, .t (pi i))], ofL [(.op 0 0 0, .sl 0 78 1 (GAttrs.ci k x))]⟩) x.Comms.length ?_ ?_
      · rintro Inv hI
        simp
        subst hI
        exact ⟨0, by omega, rfl, rfl⟩
      · rintro Inv hI n st ⟨i, hi, hc, rfl⟩
        refine ewr_sound (M := []) h0 ?_
        simp
        refine brn_app (fun a => ?_) (fun a => ?_)
        · simp at a
          rw [drop_step _ i a, commsG] at hc
          have en : prevI x.Comms (i + 1) = some x.Comms[i] := prevI_next x.Comms i a
          simp [a]
          refine Inv_intro (ok_l1In _ _ _) ?_
          by_cases c1 : 0 ≤ x.Comms[i] ∧ x.Comms[i] ≤ 1000000
          · have c1' : isValB x.Comms[i] = true := inR_t c1
            rw [c1', Bool.true_and] at hc
            by_cases c0 : i = 0
            · have e0 : ¬ 0 < i := by omega
              have ep : prevI x.Comms i = none := by simp [prevI, c0]
              rw [ep, adjI, Bool.true_and] at hc
              simp [c1, e0]
              subst hI
              exact Less_mk (n - 1) (by omega) ⟨i + 1, by omega, by rw [en]; exact hc, by rw [wrNext i (by omega)]; rfl⟩
            · obtain ⟨j, hj⟩ : ∃ j, i = j + 1 := ⟨i - 1, by omega⟩
              have aj : j < x.Comms.length := by omega
              have ep : prevI x.Comms i = some x.Comms[j] := by subst hj; exact prevI_next x.Comms j aj
              have hw : IntKind.wrap .i64 ((i : Int) - 1) = j := (wrap64 (by omega) (by omega)).trans (by omega)
              have e0 : 0 < i := by omega
              rw [ep, adjI] at hc
              simp [c1, e0, hw, aj]
              refine brn_app (fun c => ?_) (fun c => ?_)
              · simp at c
                have c' : ¬ x.Comms[j] < x.Comms[i] := by omega
                simp [c'] at hc
                simp [goodA, goodCm, hc]
              · simp at c
                have c' : x.Comms[j] < x.Comms[i] := by omega
                simp [c'] at hc
                simp
                subst hI
                exact Less_mk (n - 1) (by omega) ⟨i + 1, by omega, by rw [en]; exact hc, by rw [wrNext i (by omega)]; rfl⟩
          · have c1' : isValB x.Comms[i] = false := by simp only [isValB, inR, decide_eq_false_iff_not]; exact c1
            rw [c1', Bool.false_and, Bool.false_and] at hc
            simp [c1, goodA, goodCm, ← hc]
        · simp at a
          rw [List.drop_of_length_le (by omega), commsG] at hc
          simp
          refine Inv_intro (ok_l1In _ _ _) ?_
          by_cases c1 : 0 ≤ x.Origin ∧ x.Origin ≤ 2
          · simp [c1]
            by_cases c2 : x.Path.length ≤ 10
            · have c2' : (x.Path.length : Int) ≤ 10 := by omega
              simp [c2']
              refine Inv_intro (ok_l1Addr _) ?_
              cases c3 : inR x.Next 0 4294967295 with
              | false => simp [goodA, c3]
              | true =>
                simp
                refine Inv_intro (ok_l1In _ _ _) ?_
                by_cases c4 : 0 ≤ x.Med ∧ x.Med ≤ 1000000
                · simp [c4]
                  refine Inv_intro (ok_l1In _ _ _) ?_
                  by_cases c5 : 0 ≤ x.Pref ∧ x.Pref ≤ 1000000
                  · have c4' : isValB x.Med = true := inR_t c4
                    have c5' : isValB x.Pref = true := inR_t c5
                    have hp : goodPa x.Path = true := by simp [goodPa, c2, ← hg]
                    have hcm : goodCm x.Comms = decide ((x.Comms.length : Int) ≤ 6) := by
                      simp only [goodCm, ← hc, Bool.true_and]
                      exact decide_eq_decide.2 (by omega)
                    simp [c5, goodA, c3, c4', c5', hp, hcm, inR_t c1]
                  · have c5' : isValB x.Pref = false := by simp only [isValB, inR, decide_eq_false_iff_not]; exact c5
                    simp [c5, goodA, c5']
                · have c4' : isValB x.Med = false := by simp only [isValB, inR, decide_eq_false_iff_not]; exact c4
                  simp [c4, goodA, c4']
            · have c2' : ¬ (x.Path.length : Int) ≤ 10 := by omega
              simp [c2', goodA, goodPa, c2]
          · have c1' : inR x.Origin 0 2 = false := by simp only [inR, decide_eq_false_iff_not]; exact c1
            simp [c1, goodA, c1']
theorem ok_sGoodRoute (k : Nat) (r : GRoute) (hx : attrOK r.Attrs) : CallOK Try.prog 51 [.agg (GRoute.ci k r)] (.c (pb (goodR r))) [.agg (GRoute.ci k r)] := by
  refine okS (fn := Try.f51) [] h0 Try.func51 (by kernel_rfl) rfl Try.ntmps51 Try.results51 (by simp) ?_
  simp
  refine Inv_intro (ok_sGoodPrefix r.Prefix) ?_
  cases c1 : goodPx r.Prefix with
  | false => simp [goodR, c1]
  | true =>
    simp
    refine Inv_intro (ok_sGoodAttrs k r.Attrs hx) ?_
    simp [goodR, c1]
theorem ok_sGoodRoutes (k : Nat) (l : List GRoute) (hl : routesOK l) : CallOK Try.prog 17 [.c (rd k l.length (l.flatMap (GRoute.ci k)))] (.c (pb (goodRs l))) [.c (rd k l.length (l.flatMap (GRoute.ci k)))] := by
  obtain ⟨hll, hlx⟩ := hl
  refine okS (fn := Try.f17) [] h0 Try.func17 (by kernel_rfl) rfl Try.ntmps17 Try.results17 (by simp) ?_
  simp
  refine loopS [0, 5, 6, 7] [] (fun n st => ∃ (i : Nat), i + n = l.length ∧ routesG (prevR l i) (l.drop i) = routesG none l ∧ st = ⟨slOf 35 [(0, .t (rd k l.length (l.flatMap (GRoute.ci k)))), (5, .t (rd k l.length (l.flatMap (GRoute.ci k)))), (6, .t (pi l.length)), (7, .t (pi i))], ofL []⟩) l.length ?_ ?_
  · rintro Inv hI
    simp
    subst hI
    exact ⟨0, by omega, rfl, rfl⟩
  · rintro Inv hI n st ⟨i, hi, hg, rfl⟩
    refine ewr_sound (M := []) h0 ?_
    simp
    refine brn_app (fun a => ?_) (fun a => ?_)
    · simp at a
      have hx := hlx l[i] (List.getElem_mem a)
      rw [drop_step _ i a, routesG] at hg
      have hd := fm_drop (GRoute.ci k) 8 (fun _ => rfl) l i a
      have hlen := fm_len (GRoute.ci k) 8 (fun _ => rfl) l
      have hlt : i * 8 < l.length * 8 := by omega
      have en : prevR l (i + 1) = some l[i] := prevR_next l i a
      simp [a, hd, hlen, hlt]
      have hR := ok_sGoodRoute k l[i] hx
      by_cases c0 : i = 0
      · have e0 : ¬ 0 < i := by omega
        have ep : prevR l i = none := by simp [prevR, c0]
        rw [ep, adjR, Bool.and_true] at hg
        refine drawP (tabEnv [] _) [⟨[.op 3 3 0], allD 35, true⟩, ⟨[], allD 35, false⟩, ⟨[], allD 35, true⟩, ⟨[], allD 35, true⟩, ⟨[], allD 35, true⟩, ⟨[], allD 35, true⟩, ⟨[], allD 35, true⟩, ⟨[], allD 35, true⟩, ⟨[], allD 35, true⟩, ⟨[], allD 35, true⟩, ⟨[], allD 35, true⟩, ⟨[], allD 35, true⟩, ⟨[], allD 35, true⟩, ⟨[.op 3 3 0], allD 35, true⟩, ⟨[.op 3 3 0], allD 35, true⟩, ⟨[], allD 35, false⟩, ⟨[], allD 35, true⟩, ⟨[], allD 35, true⟩, ⟨[], allD 35, true⟩] h0 hm (tabEnv_ok (tab_cons hR tab_nil)) (by kernel_rfl) (by kernel_rfl) ?_
        cases c1 : goodR l[i] with
        | false =>
          rw [c1, Bool.false_and] at hg
          simp [c1, goodRs, ← hg]
        | true =>
          rw [c1, Bool.true_and] at hg
          simp [c1, e0]
          subst hI
          exact Less_mk (n - 1) (by omega) ⟨i + 1, by omega, by rw [en]; exact hg, by rw [wrNext i (by omega)]⟩
      · obtain ⟨j, hj⟩ : ∃ j, i = j + 1 := ⟨i - 1, by omega⟩
        have aj : j < l.length := by omega
        have ep : prevR l i = some l[j] := by subst hj; exact prevR_next l j aj
        have hdj := fm_drop (GRoute.ci k) 8 (fun _ => rfl) l j aj
        have hltj : j * 8 < l.length * 8 := by omega
        have hw : IntKind.wrap .i64 ((i : Int) - 1) = j := (wrap64 (by omega) (by omega)).trans (by omega)
        have e0 : 0 < i := by omega
        rw [ep, adjR] at hg
        refine drawP (tabEnv [] _) [⟨[.op 3 3 0], allD 35, true⟩, ⟨[], allD 35, false⟩, ⟨[], allD 35, true⟩, ⟨[], allD 35, true⟩, ⟨[], allD 35, true⟩, ⟨[], allD 35, true⟩, ⟨[], allD 35, true⟩, ⟨[], allD 35, true⟩, ⟨[], allD 35, true⟩, ⟨[], allD 35, true⟩, ⟨[], allD 35, true⟩, ⟨[], allD 35, true⟩, ⟨[], allD 35, true⟩, ⟨[.op 3 3 0], allD 35, true⟩, ⟨[.op 3 3 0], allD 35, true⟩, ⟨[], allD 35, false⟩, ⟨[], allD 35, true⟩, ⟨[], allD 35, true⟩, ⟨[], allD 35, true⟩] h0 hm (tabEnv_ok (tab_cons hR (tab_cons (ok_l1Compare l[j].Prefix l[i].Prefix) tab_nil))) (by kernel_rfl) (by kernel_rfl) ?_
        cases c1 : goodR l[i] with
        | false =>
          rw [c1, Bool.false_and, Bool.false_and] at hg
          simp [c1, goodRs, ← hg]
        | true =>
          rw [c1, Bool.true_and] at hg
          by_cases c2 : cmpPx l[j].Prefix l[i].Prefix < 0
          · have c3 : ¬ 0 ≤ cmpPx l[j].Prefix l[i].Prefix := by omega
            rw [decide_eq_true c2, Bool.true_and] at hg
            simp [c1, e0, hw, aj, hdj, hlen, hltj, c3]
            subst hI
            exact Less_mk (n - 1) (by omega) ⟨i + 1, by omega, by rw [en]; exact hg, by rw [wrNext i (by omega)]⟩
          · have c3 : 0 ≤ cmpPx l[j].Prefix l[i].Prefix := by omega
            rw [decide_eq_false c2, Bool.false_and] at hg
            simp [c1, e0, hw, aj, hdj, hlen, hltj, c3, goodRs, ← hg]
    · simp at a
      rw [List.drop_of_length_le (by omega), routesG] at hg
      simp [goodRs, ← hg]
      omega
theorem attr_ok {a : GAttrs} (h : GAttrs.wt a ≤ 1048576) : attrOK a := by
  unfold GAttrs.wt at h
  have h1 := len_wt_IntS a.Path
  have h2 := len_wt_IntS a.Comms
  exact ⟨by omega, by omega⟩
theorem route_ok {r : GRoute} (h : GRoute.wt r ≤ 1048576) : attrOK r.Attrs := attr_ok (by unfold GRoute.wt at h; omega)
theorem routes_ok {l : List GRoute} (h : wt_RouteS l ≤ 1048576) : routesOK l := by
  have := len_wt_RouteS l
  refine ⟨by omega, fun x hx => route_ok ?_⟩
  have := mem_wt_RouteS hx
  omega
def rGoodRoutes (v0 : List GRoute) : Bool := goodRs v0
theorem law_iGoodRoutes (v0 : List GRoute) (h0 : wt_RouteS v0 ≤ 1048576) : CallOK Try.prog 19 [.c (rd 0 v0.length (v0.flatMap (GRoute.ci 0)))] (.c (pb (rGoodRoutes v0))) [.c (rd 0 v0.length (v0.flatMap (GRoute.ci 0)))] := ok_iGoodRoutes 0 v0 (routes_ok h0)
theorem law_sGoodRoutes (v0 : List GRoute) (h0 : wt_RouteS v0 ≤ 1048576) : CallOK Try.prog 17 [.c (rd 0 v0.length (v0.flatMap (GRoute.ci 0)))] (.c (pb (rGoodRoutes v0))) [.c (rd 0 v0.length (v0.flatMap (GRoute.ci 0)))] := ok_sGoodRoutes 0 v0 (routes_ok h0)
theorem ok_l13Peer (n : Int) : CallOK Try.prog 71 [.c (pi n)] (.c (pb (isPeerB n))) [.c (pi n)] := by
  refine okS (fn := Try.f71) [] h0 Try.func71 (by kernel_rfl) rfl Try.ntmps71 Try.results71 (by simp) ?_
  simp
  refine Inv_intro (ok_l1In _ _ _) ?_
  simp [isPeerB, inR]
theorem ok_sGoodOffers (k : Nat) (l : List GOffer) (hl : offersOK l) : CallOK Try.prog 62 [.c (rd k l.length (l.flatMap (GOffer.ci k)))] (.c (pb (goodOs l))) [.c (rd k l.length (l.flatMap (GOffer.ci k)))] := by
  obtain ⟨hll, hlx⟩ := hl
  refine okS (fn := Try.f62) [] h0 Try.func62 (by kernel_rfl) rfl Try.ntmps62 Try.results62 (by simp) ?_
  simp
  refine loopS [0, 5, 6, 7] [] (fun n st => ∃ (i : Nat), i + n = l.length ∧ offersG (prevO l i) (l.drop i) = offersG none l ∧ st = ⟨slOf 38 [(0, .t (rd k l.length (l.flatMap (GOffer.ci k)))), (5, .t (rd k l.length (l.flatMap (GOffer.ci k)))), (6, .t (pi l.length)), (7, .t (pi i))], ofL []⟩) l.length ?_ ?_
  · rintro Inv hI
    simp
    subst hI
    exact ⟨0, by omega, rfl, rfl⟩
  · rintro Inv hI n st ⟨i, hi, hg, rfl⟩
    refine ewr_sound (M := []) h0 ?_
    simp
    refine brn_app (fun a => ?_) (fun a => ?_)
    · simp at a
      have hx := hlx l[i] (List.getElem_mem a)
      rw [drop_step _ i a, offersG] at hg
      have hd := fm_drop (GOffer.ci k) 7 (fun _ => rfl) l i a
      have hlen := fm_len (GOffer.ci k) 7 (fun _ => rfl) l
      have hlt : i * 7 < l.length * 7 := by omega
      have en : prevO l (i + 1) = some l[i] := prevO_next l i a
      simp [a, hd, hlen, hlt]
      have hR := ok_l1In l[i].Peer 0 5
      have hR2 := ok_sGoodAttrs k l[i].Attrs hx
      by_cases c0 : i = 0
      · have e0 : ¬ 0 < i := by omega
        have ep : prevO l i = none := by simp [prevO, c0]
        rw [ep, adjO, Bool.and_true] at hg
        refine drawP (tabEnv [] _) [⟨[.op 3 3 0], allD 38, true⟩, ⟨[.op 3 3 0], allD 38, true⟩, ⟨[], allD 38, false⟩, ⟨[], allD 38, true⟩, ⟨[], allD 38, true⟩, ⟨[.op 3 3 0], allD 38, true⟩, ⟨[.op 3 3 0], allD 38, true⟩, ⟨[], allD 38, false⟩, ⟨[], allD 38, true⟩, ⟨[], allD 38, true⟩, ⟨[], allD 38, true⟩, ⟨[], allD 38, true⟩, ⟨[], allD 38, true⟩, ⟨[], allD 38, true⟩, ⟨[], allD 38, true⟩, ⟨[], allD 38, true⟩, ⟨[], allD 38, true⟩, ⟨[], allD 38, true⟩, ⟨[], allD 38, true⟩, ⟨[], allD 38, true⟩, ⟨[.op 3 3 0], allD 38, true⟩, ⟨[.op 3 3 0], allD 38, true⟩, ⟨[], allD 38, true⟩, ⟨[], allD 38, true⟩, ⟨[], allD 38, true⟩] h0 hm (tabEnv_ok (tab_cons hR (tab_cons hR2 tab_nil))) (by kernel_rfl) (by kernel_rfl) ?_
        cases c1 : goodO l[i] with
        | false =>
          rw [c1, Bool.false_and] at hg
          by_cases d1 : 0 ≤ l[i].Peer ∧ l[i].Peer ≤ 5
          · have d2 : goodA l[i].Attrs = false := by simpa [goodO, isPeerB, inR_t d1] using c1
            simp [d1, d2, goodOs, ← hg]
          · simp [d1, goodOs, ← hg]
        | true =>
          rw [c1, Bool.true_and] at hg
          have d1 : 0 ≤ l[i].Peer ∧ l[i].Peer ≤ 5 := by
            simp only [goodO, isPeerB, inR, Bool.and_eq_true, decide_eq_true_eq] at c1
            exact c1.1
          have d2 : goodA l[i].Attrs = true := by
            simp only [goodO, Bool.and_eq_true] at c1
            exact c1.2
          simp [d1, d2, e0]
          subst hI
          exact Less_mk (n - 1) (by omega) ⟨i + 1, by omega, by rw [en]; exact hg, by rw [wrNext i (by omega)]⟩
      · obtain ⟨j, hj⟩ : ∃ j, i = j + 1 := ⟨i - 1, by omega⟩
        have aj : j < l.length := by omega
        have ep : prevO l i = some l[j] := by subst hj; exact prevO_next l j aj
        have hdj := fm_drop (GOffer.ci k) 7 (fun _ => rfl) l j aj
        have hltj : j * 7 < l.length * 7 := by omega
        have hw : IntKind.wrap .i64 ((i : Int) - 1) = j := (wrap64 (by omega) (by omega)).trans (by omega)
        have e0 : 0 < i := by omega
        rw [ep, adjO] at hg
        refine drawP (tabEnv [] _) [⟨[.op 3 3 0], allD 38, true⟩, ⟨[.op 3 3 0], allD 38, true⟩, ⟨[], allD 38, false⟩, ⟨[], allD 38, true⟩, ⟨[], allD 38, true⟩, ⟨[.op 3 3 0], allD 38, true⟩, ⟨[.op 3 3 0], allD 38, true⟩, ⟨[], allD 38, false⟩, ⟨[], allD 38, true⟩, ⟨[], allD 38, true⟩, ⟨[], allD 38, true⟩, ⟨[], allD 38, true⟩, ⟨[], allD 38, true⟩, ⟨[], allD 38, true⟩, ⟨[], allD 38, true⟩, ⟨[], allD 38, true⟩, ⟨[], allD 38, true⟩, ⟨[], allD 38, true⟩, ⟨[], allD 38, true⟩, ⟨[], allD 38, true⟩, ⟨[.op 3 3 0], allD 38, true⟩, ⟨[.op 3 3 0], allD 38, true⟩, ⟨[], allD 38, true⟩, ⟨[], allD 38, true⟩, ⟨[], allD 38, true⟩] h0 hm (tabEnv_ok (tab_cons hR (tab_cons hR2 tab_nil))) (by kernel_rfl) (by kernel_rfl) ?_
        cases c1 : goodO l[i] with
        | false =>
          rw [c1, Bool.false_and, Bool.false_and] at hg
          by_cases d1 : 0 ≤ l[i].Peer ∧ l[i].Peer ≤ 5
          · have d2 : goodA l[i].Attrs = false := by simpa [goodO, isPeerB, inR_t d1] using c1
            simp [d1, d2, goodOs, ← hg]
          · simp [d1, goodOs, ← hg]
        | true =>
          rw [c1, Bool.true_and] at hg
          have d1 : 0 ≤ l[i].Peer ∧ l[i].Peer ≤ 5 := by
            simp only [goodO, isPeerB, inR, Bool.and_eq_true, decide_eq_true_eq] at c1
            exact c1.1
          have d2 : goodA l[i].Attrs = true := by
            simp only [goodO, Bool.and_eq_true] at c1
            exact c1.2
          by_cases c2 : l[j].Peer < l[i].Peer
          · have c3 : ¬ l[i].Peer ≤ l[j].Peer := by omega
            rw [decide_eq_true c2, Bool.true_and] at hg
            simp [d1, d2, e0, hw, aj, hdj, hlen, hltj, c3]
            subst hI
            exact Less_mk (n - 1) (by omega) ⟨i + 1, by omega, by rw [en]; exact hg, by rw [wrNext i (by omega)]⟩
          · have c3 : l[i].Peer ≤ l[j].Peer := by omega
            rw [decide_eq_false c2, Bool.false_and] at hg
            simp [d1, d2, e0, hw, aj, hdj, hlen, hltj, c3, goodOs, ← hg]
    · simp at a
      rw [List.drop_of_length_le (by omega), offersG] at hg
      simp [goodOs, ← hg]
end Go.V
