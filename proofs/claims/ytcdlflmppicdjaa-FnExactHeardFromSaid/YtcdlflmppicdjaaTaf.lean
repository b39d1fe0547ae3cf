/- What functions of the seat's program do, each proved of its code, under the bounds that its theorem names. -/
import Derived.Test.YtcdlflmppicdjaaTae
set_option linter.all false
namespace Go.V
open Go.Proofs
set_option maxHeartbeats 1000000
set_option maxRecDepth 10000
set_option linter.unusedSimpArgs false
set_option linter.unusedVariables false
theorem ok_sGoodRib (k : Nat) (r : GRib) (hl : ribOK r) : CallOK Try.prog 24 [.agg (GRib.ci k r)] (.c (pb (goodRib r))) [.agg (GRib.ci k r)] := by
  obtain ⟨hll, hlx⟩ := hl
  refine okS (fn := Try.f24) [] h0 Try.func24 (by kernel_rfl) rfl Try.ntmps24 Try.results24 (by simp) ?_
  simp
  refine loopS [1, 6, 7, 8] [.op 0 0 0] (fun n st => ∃ (i : Nat), i + n = r.Rows.length ∧ rowsG (prevW r.Rows i) (r.Rows.drop i) = rowsG none r.Rows ∧ st = ⟨slOf 56 [(1, .ptr ⟨.op 0 0 0, []⟩ 0), (6, .t (rd k r.Rows.length (r.Rows.flatMap (GRow.ci k)))), (7, .t (pi r.Rows.length)), (8, .t (pi i))], ofL [(.op 0 0 0, .sl 0 24 1 [pi r.Own, rd k r.Rows.length (r.Rows.flatMap (GRow.ci k))])]⟩) r.Rows.length ?_ ?_
  · rintro Inv hI
    simp
    subst hI
    exact ⟨0, by omega, rfl, rfl⟩
  · rintro Inv hI n st ⟨i, hi, hg, rfl⟩
    refine ewr_sound (M := []) h0 ?_
    simp
    refine brn_app (fun a => ?_) (fun a => ?_)
    · simp at a
      have hx := hlx r.Rows[i] (List.getElem_mem a)
      rw [drop_step _ i a, rowsG] at hg
      have hd := fm_drop (GRow.ci k) 3 (fun _ => rfl) r.Rows i a
      have hlen := fm_len (GRow.ci k) 3 (fun _ => rfl) r.Rows
      have hlt : i * 3 < r.Rows.length * 3 := by omega
      have en : prevW r.Rows (i + 1) = some r.Rows[i] := prevW_next r.Rows i a
      simp [a, hd, hlen, hlt]
      have hP := ok_sGoodPrefix r.Rows[i].Prefix
      have hO := ok_sGoodOffers k r.Rows[i].Offers hx
      by_cases c0 : i = 0
      · have e0 : ¬ 0 < i := by omega
        have ep : prevW r.Rows i = none := by simp [prevW, c0]
        rw [ep, adjW, Bool.and_true] at hg
        refine drawP (tabEnv [] _) [⟨[.op 3 3 0], allD 56, true⟩, ⟨[.op 3 3 0], allD 56, true⟩, ⟨[], allD 56, false⟩, ⟨[], allD 56, true⟩, ⟨[], allD 56, true⟩, ⟨[.op 3 3 0], allD 56, true⟩, ⟨[.op 3 3 0], allD 56, true⟩, ⟨[], allD 56, true⟩, ⟨[], allD 56, true⟩, ⟨[], allD 56, true⟩, ⟨[], allD 56, true⟩, ⟨[.op 3 3 0], allD 56, true⟩, ⟨[.op 3 3 0], allD 56, true⟩, ⟨[], allD 56, false⟩, ⟨[], allD 56, true⟩, ⟨[], allD 56, true⟩, ⟨[], allD 56, true⟩, ⟨[], allD 56, true⟩, ⟨[], allD 56, true⟩, ⟨[], allD 56, true⟩, ⟨[.op 0 0 0], allD 56, true⟩, ⟨[.op 0 0 0], allD 56, true⟩, ⟨[], allD 56, true⟩, ⟨[], allD 56, true⟩, ⟨[], allD 56, true⟩, ⟨[], allD 56, true⟩, ⟨[], allD 56, true⟩, ⟨[.op 3 3 0], allD 56, true⟩, ⟨[.op 3 3 0], allD 56, true⟩, ⟨[], allD 56, false⟩, ⟨[], allD 56, true⟩, ⟨[], allD 56, true⟩, ⟨[], allD 56, true⟩] h0 hm (tabEnv_ok (tab_cons hP (tab_cons hO tab_nil))) (by kernel_rfl) (by kernel_rfl) ?_
        cases c1 : goodPx r.Rows[i].Prefix with
        | false =>
          have hk : goodRow r.Rows[i] = false := by simp [goodRow, c1]
          rw [hk, Bool.false_and] at hg
          simp [c1, goodRib, ← hg]
        | true =>
          by_cases c2 : r.Rows[i].Offers.length = 0
          · have hk : goodRow r.Rows[i] = false := by simp [goodRow, c2]
            have c2' : r.Rows[i].Offers = [] := List.length_eq_zero_iff.1 c2
            rw [hk, Bool.false_and] at hg
            simp [c1, e0, c2', goodRib, ← hg]
          · have c2' : ¬ r.Rows[i].Offers = [] := fun e => c2 (by rw [e]; rfl)
            cases c3 : goodOs r.Rows[i].Offers with
            | false =>
              have hk : goodRow r.Rows[i] = false := by simp [goodRow, c3]
              rw [hk, Bool.false_and] at hg
              simp [c1, e0, c2', c3, goodRib, ← hg]
            | true =>
              have hk : goodRow r.Rows[i] = true := by simp [goodRow, c1, c2', c3]
              rw [hk, Bool.true_and] at hg
              simp [c1, e0, c2', c3]
              subst hI
              exact Less_mk (n - 1) (by omega) ⟨i + 1, by omega, by rw [en]; exact hg, by rw [wrNext i (by omega)]⟩
      · obtain ⟨j, hj⟩ : ∃ j, i = j + 1 := ⟨i - 1, by omega⟩
        have aj : j < r.Rows.length := by omega
        have ep : prevW r.Rows i = some r.Rows[j] := by subst hj; exact prevW_next r.Rows j aj
        have hdj := fm_drop (GRow.ci k) 3 (fun _ => rfl) r.Rows j aj
        have hltj : j * 3 < r.Rows.length * 3 := by omega
        have hw : IntKind.wrap .i64 ((i : Int) - 1) = j := (wrap64 (by omega) (by omega)).trans (by omega)
        have e0 : 0 < i := by omega
        rw [ep, adjW] at hg
        refine drawP (tabEnv [] _) [⟨[.op 3 3 0], allD 56, true⟩, ⟨[.op 3 3 0], allD 56, true⟩, ⟨[], allD 56, false⟩, ⟨[], allD 56, true⟩, ⟨[], allD 56, true⟩, ⟨[.op 3 3 0], allD 56, true⟩, ⟨[.op 3 3 0], allD 56, true⟩, ⟨[], allD 56, true⟩, ⟨[], allD 56, true⟩, ⟨[], allD 56, true⟩, ⟨[], allD 56, true⟩, ⟨[.op 3 3 0], allD 56, true⟩, ⟨[.op 3 3 0], allD 56, true⟩, ⟨[], allD 56, false⟩, ⟨[], allD 56, true⟩, ⟨[], allD 56, true⟩, ⟨[], allD 56, true⟩, ⟨[], allD 56, true⟩, ⟨[], allD 56, true⟩, ⟨[], allD 56, true⟩, ⟨[.op 0 0 0], allD 56, true⟩, ⟨[.op 0 0 0], allD 56, true⟩, ⟨[], allD 56, true⟩, ⟨[], allD 56, true⟩, ⟨[], allD 56, true⟩, ⟨[], allD 56, true⟩, ⟨[], allD 56, true⟩, ⟨[.op 3 3 0], allD 56, true⟩, ⟨[.op 3 3 0], allD 56, true⟩, ⟨[], allD 56, false⟩, ⟨[], allD 56, true⟩, ⟨[], allD 56, true⟩, ⟨[], allD 56, true⟩] h0 hm (tabEnv_ok (tab_cons hP (tab_cons hO (tab_cons (ok_l1Compare r.Rows[j].Prefix r.Rows[i].Prefix) tab_nil)))) (by kernel_rfl) (by kernel_rfl) ?_
        cases c1 : goodPx r.Rows[i].Prefix with
        | false =>
          have hk : goodRow r.Rows[i] = false := by simp [goodRow, c1]
          rw [hk, Bool.false_and, Bool.false_and] at hg
          simp [c1, goodRib, ← hg]
        | true =>
          by_cases c4 : cmpPx r.Rows[j].Prefix r.Rows[i].Prefix < 0
          · have c5 : ¬ 0 ≤ cmpPx r.Rows[j].Prefix r.Rows[i].Prefix := by omega
            rw [decide_eq_true c4, Bool.and_true] at hg
            by_cases c2 : r.Rows[i].Offers.length = 0
            · have hk : goodRow r.Rows[i] = false := by simp [goodRow, c2]
              have c2' : r.Rows[i].Offers = [] := List.length_eq_zero_iff.1 c2
              rw [hk, Bool.false_and] at hg
              simp [c1, e0, hw, aj, hdj, hlen, hltj, c5, c2', goodRib, ← hg]
            · have c2' : ¬ r.Rows[i].Offers = [] := fun e => c2 (by rw [e]; rfl)
              cases c3 : goodOs r.Rows[i].Offers with
              | false =>
                have hk : goodRow r.Rows[i] = false := by simp [goodRow, c3]
                rw [hk, Bool.false_and] at hg
                simp [c1, e0, hw, aj, hdj, hlen, hltj, c5, c2', c3, goodRib, ← hg]
              | true =>
                have hk : goodRow r.Rows[i] = true := by simp [goodRow, c1, c2', c3]
                rw [hk, Bool.true_and] at hg
                simp [c1, e0, hw, aj, hdj, hlen, hltj, c5, c2', c3]
                subst hI
                exact Less_mk (n - 1) (by omega) ⟨i + 1, by omega, by rw [en]; exact hg, by rw [wrNext i (by omega)]⟩
          · have c5 : 0 ≤ cmpPx r.Rows[j].Prefix r.Rows[i].Prefix := by omega
            rw [decide_eq_false c4, Bool.and_false, Bool.false_and] at hg
            by_cases c2' : r.Rows[i].Offers = []
            · simp [c1, e0, hw, aj, hdj, hlen, hltj, c5, c2', goodRib, ← hg]
            · cases c3 : goodOs r.Rows[i].Offers <;> simp [c1, e0, hw, aj, hdj, hlen, hltj, c5, c2', c3, goodRib, ← hg]
    · simp at a
      rw [List.drop_of_length_le (by omega), rowsG] at hg
      simp
      refine Inv_intro (ok_l1In r.Own 1 65535) ?_
      by_cases d1 : 1 ≤ r.Own ∧ r.Own ≤ 65535
      · have d1' : isAsnB r.Own = true := inR_t d1
        simp [d1, goodRib, d1', ← hg]
        omega
      · have d1' : isAsnB r.Own = false := by simp only [isAsnB, inR, decide_eq_false_iff_not]; exact d1
        simp [d1, goodRib, d1']
theorem offers_ok {l : List GOffer} (h : wt_OfferS l ≤ 1048576) : offersOK l := by
  have := len_wt_OfferS l
  refine ⟨by omega, fun x hx => attr_ok ?_⟩
  have h1 := mem_wt_OfferS hx
  unfold GOffer.wt at h1
  omega
theorem rib_ok {r : GRib} (h : GRib.wt r ≤ 1048576) : ribOK r := by
  unfold GRib.wt at h
  have := len_wt_RowS r.Rows
  refine ⟨by omega, fun x hx => offers_ok ?_⟩
  have h1 := mem_wt_RowS hx
  unfold GRow.wt at h1
  omega
def rGoodRib (v0 : GRib) : Bool := goodRib v0
theorem law_iGoodRib (v0 : GRib) (h0 : GRib.wt v0 ≤ 1048576) : CallOK Try.prog 26 [.agg (GRib.ci 0 v0)] (.c (pb (rGoodRib v0))) [.agg (GRib.ci 0 v0)] := ok_iGoodRib 0 v0 (rib_ok h0)
theorem law_sGoodRib (v0 : GRib) (h0 : GRib.wt v0 ≤ 1048576) : CallOK Try.prog 24 [.agg (GRib.ci 0 v0)] (.c (pb (rGoodRib v0))) [.agg (GRib.ci 0 v0)] := ok_sGoodRib 0 v0 (rib_ok h0)
theorem ofPeer_take (n : Int) (l : List GOffer) (j : Nat) (h : j < l.length) : ofPeer n (l.take (j + 1)) = ofPeer n (l.take j) ++ (if l[j].Peer = n then [l[j]] else []) := by
  unfold ofPeer
  rw [take_step l j h, List.filter_append]
  congr 1
  by_cases hb : l[j].Peer = n <;> simp [hb]
theorem ok_sHeardFrom (k : Nat) (r : GRib) (n : Int) (hr : ribOK r) : CallOK Try.prog 33 [.agg (GRib.ci k r), .c (pi n)] (.tup [.c (.sl 0 80 (rHeardFrom r n).1.length ((rHeardFrom r n).1.flatMap GRoute.co)), .c (pb (rHeardFrom r n).2)]) [.agg (GRib.ci k r), .c (pi n)] := by
  refine okS (fn := Try.f33) [] h0 Try.func33 (by kernel_rfl) rfl Try.ntmps33 Try.results33 (by simp) ?_
  simp
  refine Inv_intro (ok_sGoodRib k r hr) ?_
  simp
  cases c1 : goodRib r with
  | false => simp [rHeardFrom, c1]
  | true =>
    simp
    refine Inv_intro (ok_l13Peer n) ?_
    simp
    cases c2 : isPeerB n with
    | false => simp [rHeardFrom, c2]
    | true =>
      obtain ⟨hrl, hrx⟩ := goodRib_rows c1
      have er : rHeardFrom r n = (heardL n r.Rows, true) := by simp [rHeardFrom, c1, c2]
      rw [er]
      generalize hR : r.Rows = l at hrl hrx ⊢
      simp
      refine ewp_nil 6 (.op 11 8 0) 80 (by decide) rfl rfl rfl ?_
      refine loopS [1, 6, 20, 21, 22] [.op 11 8 0] (fun m st => ∃ (i : Nat), i + m = l.length ∧ st = ⟨slOf 49 [(1, .t (pi n)), (6, .ref ⟨.op 11 8 0, []⟩ 0 (heardL n (l.take i)).length), (20, .t (rd k l.length (l.flatMap (GRow.ci k)))), (21, .t (pi l.length)), (22, .t (pi i))], ofL [(.op 11 8 0, .sl 0 80 (heardL n (l.take i)).length ((heardL n (l.take i)).flatMap GRoute.co))]⟩) l.length ?_ ?_
      · rintro Inv hI
        simp
        subst hI
        exact ⟨0, by omega, by simp [heardL]⟩
      · rintro Inv hI m st ⟨i, hi, rfl⟩
        have hO : (heardL n (l.take i)).length ≤ i := by
          have := heardL_len n (l.take i) fun x hx => (hrx x (List.mem_of_mem_take hx)).1
          rw [List.length_take] at this
          omega
        have hS := heardL_snoc n l i
        generalize hOe : heardL n (l.take i) = O at hO hS ⊢
        have hA := fm_len GRoute.co 8 (fun _ => rfl) O
        generalize hAe : O.flatMap GRoute.co = A at hA ⊢
        refine ewr_sound (M := []) h0 ?_
        simp
        refine brn_app (fun a => ?_) (fun a => ?_)
        · simp at a
          have hd := fm_drop (GRow.ci k) 3 (fun _ => rfl) l i a
          have hlen := fm_len (GRow.ci k) 3 (fun _ => rfl) l
          have hlt : i * 3 < l.length * 3 := by omega
          obtain ⟨hp, hg⟩ := hrx _ (List.getElem_mem a)
          have hxl : l[i].Offers.length ≤ 140737488351232 := (hr.2 l[i] (by rw [hR]; exact List.getElem_mem a)).1
          have hS' := hS a
          simp [a, hd, hlen, hlt]
          generalize hX : l[i] = x at hp hg hxl hS' ⊢
          refine loopS [1, 6, 8, 20, 21, 22, 27, 28, 29] [.op 11 8 0, .op 6 2 0] (fun m st => ∃ (j : Nat), j + m = x.Offers.length ∧ st = ⟨slOf 49 [(1, .t (pi n)), (6, .ref ⟨.op 11 8 0, []⟩ 0 (O.length + (ofPeer n (x.Offers.take j)).length)), (8, .ptr ⟨.op 6 2 0, []⟩ 0), (20, .t (rd k l.length (l.flatMap (GRow.ci k)))), (21, .t (pi l.length)), (22, .t (pi i)), (27, .t (rd k x.Offers.length (x.Offers.flatMap (GOffer.ci k)))), (28, .t (pi x.Offers.length)), (29, .t (pi j))], ofL [(.op 11 8 0, .sl 0 80 (O.length + (ofPeer n (x.Offers.take j)).length) (A ++ ((ofPeer n (x.Offers.take j)).map (routeOf x)).flatMap GRoute.co)), (.op 6 2 0, .sl 0 89 1 (GRow.ci k x))]⟩) x.Offers.length ?_ ?_
          · rintro Inv2 hI2
            simp
            subst hI2
            exact ⟨0, by omega, by simp [ofPeer]⟩
          · rintro Inv2 hI2 m2 st ⟨j, hj, rfl⟩
            have hQ : (ofPeer n (x.Offers.take j)).length ≤ 1 := ofPeer_len n _ (hp.sublist (List.take_sublist _ _))
            have hQS := ofPeer_take n x.Offers j
            generalize hQe : ofPeer n (x.Offers.take j) = Q at hQ hQS ⊢
            have hB := fm_len GRoute.co 8 (fun _ => rfl) (Q.map (routeOf x))
            rw [List.length_map] at hB
            have hBm : ∀ y, ((Q ++ [y]).map (routeOf x)).flatMap GRoute.co = (Q.map (routeOf x)).flatMap GRoute.co ++ GRoute.co (routeOf x y) := fun y => by simp
            generalize hBe : (Q.map (routeOf x)).flatMap GRoute.co = B at hB hBm ⊢
            have hAB : (A ++ B).length = (O.length + Q.length) * 8 := by rw [List.length_append, hA, hB]; omega
            generalize hX2 : A ++ B = C at hAB ⊢
            refine ewr_sound (M := []) h0 ?_
            simp
            refine brn_app (fun b => ?_) (fun b => ?_)
            · simp at b
              have hgl := goodO_len (hg _ (List.getElem_mem b))
              have hdq := fm_drop (GOffer.ci k) 7 (fun _ => rfl) x.Offers j b
              have hlenq := fm_len (GOffer.ci k) 7 (fun _ => rfl) x.Offers
              have hltq : j * 7 < x.Offers.length * 7 := by omega
              have hb1 : (O.length + Q.length + 1) * 96 ≤ 140737488355328 := by omega
              have hb2 : O.length + Q.length ≤ 9223372036854775806 := by omega
              have ht : C.take ((O.length + Q.length) * 8) = C := List.take_of_length_le (by omega)
              have hQS' := hQS b
              simp [b, hdq, hlenq, hltq]
              refine brn_app (fun c => ?_) (fun c => ?_)
              · simp at c
                rw [if_pos c] at hQS'
                refine drawP (tabEnv [] _) [⟨[.op 11 8 0], allD 49, true⟩, ⟨[.op 6 2 0], allD 49, true⟩, ⟨[.op 6 2 0], allD 49, true⟩, ⟨[.op 9 2 0], allD 49, true⟩, ⟨[.op 9 2 0], allD 49, true⟩, ⟨[], allD 49, false⟩, ⟨[.op 11 5 1, .op 11 5 5], allD 49, true⟩, ⟨[.op 11 5 1, .op 11 5 5, .op 11 6 0], [37, 38, 39, 40, 41, 42, 43, 44, 45, 6], false⟩, ⟨[.op 11 8 0, .op 11 7 0], [37, 38, 39, 40, 41, 42, 43, 44, 45, 6], false⟩, ⟨[.op 11 8 0], allD 49, true⟩] h0 hm (tabEnv_ok (tab_cons (ok_l4Own k x.Offers[j].Attrs (by omega) (by omega)) tab_nil)) (by kernel_rfl) (by kernel_rfl) ?_
                simp [hAB, hb1, hb2, ht]
                subst hI2
                refine Less_mk (m2 - 1) (by omega) ⟨j + 1, by omega, ?_⟩
                rw [wrNext j (by omega), hQS', hBm, ← List.append_assoc, hX2, List.length_append]
                simp [routeOf, Nat.add_assoc]
              · simp at c
                rw [if_neg c, List.append_nil] at hQS'
                simp
                subst hI2
                refine Less_mk (m2 - 1) (by omega) ⟨j + 1, by omega, ?_⟩
                rw [wrNext j (by omega), hQS', hBe, hX2]
                rfl
            · simp at b
              have ht : List.take j x.Offers = x.Offers := List.take_of_length_le (by omega)
              rw [ht] at hQe
              have hh : heardR n x = Q.map (routeOf x) := by rw [heardR, hQe]
              rw [hh] at hS'
              simp
              subst hI
              refine Less_mk (m - 1) (by omega) ⟨i + 1, by omega, ?_⟩
              rw [wrNext i (by omega), hS', List.flatMap_append, hAe, hBe, hX2, List.length_append, List.length_map]
        · simp at a
          have ht : List.take i l = l := List.take_of_length_le (by omega)
          rw [ht] at hOe
          subst hOe
          have hA' : A.take ((heardL n l).length * 8) = A := List.take_of_length_le (by omega)
          simp [hA, hA', hAe]
theorem law_iHeardFrom (v0 : GRib) (v1 : Int) (hw0 : GRib.wt v0 ≤ 1048576) : CallOK Try.prog 34 [.agg (GRib.ci 0 v0), .c (pi v1)] (.tup [.c (.sl 0 80 (rHeardFrom v0 v1).1.length ((rHeardFrom v0 v1).1.flatMap GRoute.co)), .c (pb (rHeardFrom v0 v1).2)]) [.agg (GRib.ci 0 v0), .c (pi v1)] := ok_iHeardFrom 0 v0 v1 (rib_ok hw0)
theorem law_sHeardFrom (v0 : GRib) (v1 : Int) (hw0 : GRib.wt v0 ≤ 1048576) : CallOK Try.prog 33 [.agg (GRib.ci 0 v0), .c (pi v1)] (.tup [.c (.sl 0 80 (rHeardFrom v0 v1).1.length ((rHeardFrom v0 v1).1.flatMap GRoute.co)), .c (pb (rHeardFrom v0 v1).2)]) [.agg (GRib.ci 0 v0), .c (pi v1)] := ok_sHeardFrom 0 v0 v1 (rib_ok hw0)
theorem filter_wt (n : Int) (x : GRow) : ∀ l : List GOffer, wtR GRoute.wt ((ofPeer n l).map (routeOf x)) ≤ wtR GOffer.wt l
  | [] => by simp [ofPeer, wtR]
  | o :: l => by
    have ih := filter_wt n x l
    unfold ofPeer at ih ⊢
    rw [List.filter_cons]
    split
    · simp only [wtR, List.map_cons, List.length_cons, List.sum_cons, routeOf, GRoute.wt, GOffer.wt] at ih ⊢
      omega
    · simp only [wtR, List.map_cons, List.length_cons, List.sum_cons] at ih ⊢
      omega
theorem heardL_wt (n : Int) : ∀ l : List GRow, wt_RouteS (heardL n l) ≤ wt_RowS l
  | [] => by simp [heardL, wt_RouteS, wt_RowS, wtR]
  | x :: l => by
    have ih := heardL_wt n l
    have h := filter_wt n x x.Offers
    simp only [heardL, heardR, List.flatMap_cons, wt_RouteS, wt_RowS, wtR, List.map_append, List.length_append, List.sum_append, List.map_cons, List.length_cons, List.sum_cons, GRow.wt, wt_OfferS] at ih h ⊢
    omega
theorem rHeardFrom_ok (v0 : GRib) (v1 : Int) (hw0 : GRib.wt v0 ≤ 1048576) : lens_RouteS (rHeardFrom v0 v1).1 ∧ cn_RouteS (rHeardFrom v0 v1).1 ≤ 1152921504606846976 := by
  have key : wt_RouteS (rHeardFrom v0 v1).1 ≤ 1048576 := by
    unfold rHeardFrom
    split
    · refine Nat.le_trans (heardL_wt _ _) ?_
      unfold GRib.wt at hw0
      omega
    · exact Nat.zero_le _
  have := cn_le_RouteS (rHeardFrom v0 v1).1
  exact ⟨lens_of_RouteS key, by omega⟩
theorem ok_FnExactHeardFrom (v0 : GRib) (v1 : Int) (f0 : GRib.fits v0) : CallOK Try.prog 8 [.agg (GRib.ci 1 v0), .c (pi v1)] (.c (pb true)) [.agg (GRib.ci 1 v0), .c (pi v1)] := by
  refine okS (fn := Try.f8) [(14, [1,0]), (30, [1,0])] h0 Try.func8 (by kernel_rfl) rfl Try.ntmps8 Try.results8 (by simp) ?_
  simp
  refine Inv_intro (ok_szRib 1 v0 _ (by omega) (by omega) f0) ?_
  simp
  refine brn_app (fun b0 => ?_) (fun b0 => ?_)
  · simp
  · simp at b0
    have e0 := szr_ge (szr_ge0 b0)
    have d0 := szr_ge0 b0
    simp
    have hv0 : GRib.wt v0 ≤ 1048576 := by omega
    have hlp0 : GRib.lens v0 := lens_of_Rib hv0
    have hcp0 := cn_le_Rib v0
    have hrr := rHeardFrom_ok v0 v1 hv0
    obtain ⟨hlr0, hcr0⟩ := hrr
    refine Inv_intro (ok_toRib 1 v0 hv0) ?_
    simp
    refine Inv_intro (law_sHeardFrom v0 v1 hv0) ?_
    simp
    refine Inv_intro (ok_toRib 1 v0 hv0) ?_
    simp
    refine Inv_intro (law_iHeardFrom v0 v1 hv0) ?_
    simp
    refine Inv_intro (ok_eqRouteS 0 0 ((rHeardFrom v0 v1).1) ((rHeardFrom v0 v1).1) hlr0 hlr0) ?_
    simp
    refine drawP (tabEnv [] _) [⟨[.op 6 2 0], allD 101, true⟩, ⟨[.op 0 0 0], allD 101, true⟩, ⟨[], allD 101, false⟩, ⟨[.op 6 2 0, .op 10 2 1], [45, 46, 47, 48, 49], false⟩, ⟨[], allD 101, true⟩] h0 hm (tabEnv_ok (tab_cons (ok_toRib 1 v0 hv0) (tab_cons (ok_eqRib 0 0 (v0) (v0) hlp0 hlp0) tab_nil))) (by kernel_rfl) (by kernel_rfl) ?_
    simp
    have hm0 := GRib.markT_snd (v0) (1)
    have hn0 : ¬ (GRib.markT (v0) (1)).2 < 0 := by omega
    refine Inv_intro (ok_markRib (v0) (1) hlp0 (by omega) (by omega)) ?_
    simp [hn0]
    refine Inv_intro (ok_eqRouteS 0 0 ((rHeardFrom v0 v1).1) ((rHeardFrom v0 v1).1) hlr0 hlr0) ?_
    simp [hn0]
    have hm1 := mk_RouteS_snd ((rHeardFrom v0 v1).1) (1)
    have hn1 : ¬ (mk_RouteS ((rHeardFrom v0 v1).1) (1)).2 < 0 := by omega
    have ht1 : List.take (((rHeardFrom v0 v1).1).length * 8) (((mk_RouteS ((rHeardFrom v0 v1).1) (1))).1.flatMap GRoute.co) = (((mk_RouteS ((rHeardFrom v0 v1).1) (1))).1.flatMap GRoute.co) := List.take_of_length_le (by rw [fm_len GRoute.co 8 (fun _ => rfl), mk_RouteS_len]; exact Nat.le_refl _)
    refine Inv_intro (ok_markRouteS ((rHeardFrom v0 v1).1) (1) hlr0 (by omega) (by omega)) ?_
    simp [hn0, hn1, ht1]
    refine Inv_intro (ok_heldRouteS 0 ((rHeardFrom v0 v1).1) (1) hlr0 (by omega) (by omega)) ?_
    simp [hn0, hn1, ht1]
    refine Inv_intro (ok_toRib 1 v0 hv0) ?_
    simp [hn0, hn1, ht1]
    refine Inv_intro (law_iHeardFrom v0 v1 hv0) ?_
    simp [hn0, hn1, ht1]
    refine Inv_intro (ok_eqRouteS 0 0 ((rHeardFrom v0 v1).1) ((rHeardFrom v0 v1).1) hlr0 hlr0) ?_
    simp [hn0, hn1, ht1]
    refine Inv_intro (ok_heldRouteS 0 ((rHeardFrom v0 v1).1) (1) hlr0 (by omega) (by omega)) ?_
    simp [hn0, hn1, ht1]
end Go.V
