/- What functions of the seat's program do, each proved of its code, under the bounds that its theorem names. -/
import Derived.Test.YtdelgkhoahmnfaaGreatTam
set_option linter.all false
namespace Go.V
open Go.Proofs
set_option maxHeartbeats 1000000
set_option maxRecDepth 10000
set_option linter.unusedSimpArgs false
set_option linter.unusedVariables false
theorem set_cells (l : List GRow) (k : Nat) (hk : k < l.length) (ys : List GOffer) : (l.flatMap GRow.co).take (k * 3 + 2) ++ PT.sl 0 81 ys.length (ys.flatMap GOffer.co) :: (l.flatMap GRow.co).drop (k * 3 + 2 + 1) = (l.set k ⟨l[k].Prefix, ys⟩).flatMap GRow.co := by
  have h1 := fm_take GRow.co 3 (fun _ => rfl) l k
  have h2 := fm_dropAll GRow.co 3 (fun _ => rfl) l (k + 1)
  have h3 := fm_drop GRow.co 3 (fun _ => rfl) l k hk
  have e1 : (l.flatMap GRow.co).take (k * 3 + 2) = (l.flatMap GRow.co).take (k * 3) ++ ((l.flatMap GRow.co).drop (k * 3)).take 2 := by rw [← List.take_add]
  have e2 : k * 3 + 2 + 1 = (k + 1) * 3 := by omega
  rw [e1, e2, h1, h2, h3, List.set_eq_take_append_cons_drop, if_pos hk, List.flatMap_append, List.flatMap_cons]
  simp
theorem ok_idrop (r : GRib) (p : GPrefix) (n : Int) (hg : gW r.Rows) (hl : r.Rows.length ≤ 1000) : CallOK Tryz.prog 79 [.bp (.sl 0 32 1 (GRib.co r)), .agg p.c, .c (pi n)] (.tup []) [.bp (.sl 0 32 1 (GRib.co ⟨r.Own, dropW p n r.Rows⟩)), .agg p.c, .c (pi n)] := by
  refine okS (fn := Tryz.f79) [(126, [2]), (127, [2])] h0 Tryz.func79 (by kernel_rfl) rfl Tryz.ntmps79 Tryz.results79 (by simp) ?_
  simp
  obtain ⟨own, rows⟩ := r
  simp only at hg hl
  refine drawP (tabEnv [(126, [2]), (127, [2])] _) [⟨[.arg 0 0], allD 74, true⟩, ⟨[.arg 0 0], allD 74, true⟩, ⟨[.arg 0 0], allD 74, true⟩, ⟨[.op 0 0 0], allD 74, true⟩, ⟨[.arg 0 0], allD 74, true⟩, ⟨[], allD 74, true⟩, ⟨[], allD 74, true⟩, ⟨[], allD 74, true⟩, ⟨[], allD 74, true⟩, ⟨[], allD 74, true⟩] h0 hm (tabEnv_ok (tab_cons (ok_findRow 0 ⟨own, rows⟩ p (Nat.le_trans hl (by decide)) hg.1) tab_nil)) (by kernel_rfl) (by kernel_rfl) ?_
  simp
  cases hi : rowIs p rows with
  | false =>
    have e : dropW p n rows = rows := by unfold dropW; rw [hi]; rfl
    simp [e]
  | true =>
    obtain ⟨hk, hp⟩ := rowIs_lt hi
    have ek : rows[rowAt p rows]? = some rows[rowAt p rows] := List.getElem?_eq_getElem hk
    have e : dropW p n rows = if (dropO n rows[rowAt p rows].Offers).length = 0 then rows.take (rowAt p rows) ++ rows.drop (rowAt p rows + 1) else rows.set (rowAt p rows) ⟨rows[rowAt p rows].Prefix, dropO n rows[rowAt p rows].Offers⟩ := by
      unfold dropW
      rw [hi, ek]
      rfl
    rw [e]
    generalize rowAt p rows = k at hk hp e ⊢
    have hd := fm_drop GRow.co 3 (fun _ => rfl) rows k hk
    have hlen := fm_len GRow.co 3 (fun _ => rfl) rows
    have hlt : k * 3 < rows.length * 3 := by omega
    have hlt2 : k * 3 + 2 < rows.length * 3 := by omega
    have hx := goodRow_spec.1 (hg.2 _ (List.getElem_mem hk))
    generalize hxe : rows[k] = x at hd hx hp e ⊢
    obtain ⟨hpw, hgo⟩ := goodOs_pw hx.2.2
    have h6 := goodOs_len hx.2.2
    have hget : ∀ h, (rows.flatMap GRow.co)[k * 3 + 2]'h = .sl 0 81 x.Offers.length (x.Offers.flatMap GOffer.co) := by
      intro h
      have e1 : (rows.flatMap GRow.co)[k * 3 + 2]? = ((rows.flatMap GRow.co).drop (k * 3))[2]? := by rw [List.getElem?_drop]
      rw [hd, List.getElem?_eq_getElem h] at e1
      simpa using e1
    simp [hk, hd, hlen, hlt, hlt2, hget]
    refine Inv_intro (ok_findOfferB 0 x.Offers n (by omega) hpw) ?_
    simp
    obtain ⟨ds1, ds2⟩ := drop_split n x.Offers hpw
    simp only [offIs, offAt] at ds1 ds2
    have hlt3 : k * 3 + 2 + 1 ≤ rows.length * 3 := by omega
    generalize hys : dropO n x.Offers = ys at *
    have hyl := fm_len GOffer.co 7 (fun _ => rfl) ys
    have hset : List.take (k * 3 + 2) ((rows.flatMap GRow.co).set (k * 3 + 2) PT.hole) ++ PT.sl 0 81 ys.length (ys.flatMap GOffer.co) :: List.drop (k * 3 + 2 + 1) ((rows.flatMap GRow.co).set (k * 3 + 2) PT.hole) = (rows.set k ⟨x.Prefix, ys⟩).flatMap GRow.co := by
      rw [List.take_set_of_le (Nat.le_refl _), List.drop_set_of_lt (by omega), ← hxe]
      exact set_cells rows k hk ys
    have hSl : (rows.set k ⟨x.Prefix, ys⟩).length = rows.length := List.length_set
    have hS1 : (rows.set k ⟨x.Prefix, ys⟩).take k ++ (rows.set k ⟨x.Prefix, ys⟩).drop (k + 1) = rows.take k ++ rows.drop (k + 1) := by rw [List.take_set_of_le (Nat.le_refl _), List.drop_set_of_lt (by omega)]
    have hS2 : (rows.set k ⟨x.Prefix, ys⟩)[k]'(by rw [hSl]; exact hk) = ⟨x.Prefix, ys⟩ := List.getElem_set_self _
    have hS3 : ys = x.Offers → rows.set k ⟨x.Prefix, ys⟩ = rows := by
      rintro rfl
      have : (⟨x.Prefix, x.Offers⟩ : GRow) = rows[k] := by rw [hxe]
      rw [this, List.set_getElem_self]
    generalize rows.set k ⟨x.Prefix, ys⟩ = S at *
    have hdS := fm_drop GRow.co 3 (fun _ => rfl) S k (by omega)
    have hlenS := fm_len GRow.co 3 (fun _ => rfl) S
    rw [hS2] at hdS
    have hgS : ∀ h, (S.flatMap GRow.co)[k * 3 + 2]'h = .sl 0 81 ys.length (ys.flatMap GOffer.co) := by
      intro h
      have e1 : (S.flatMap GRow.co)[k * 3 + 2]? = ((S.flatMap GRow.co).drop (k * 3))[2]? := by rw [List.getElem?_drop]
      rw [hdS, List.getElem?_eq_getElem h] at e1
      simpa using e1
    have wk : IntKind.i64.wrap ((k : Int) + 1) = (k : Int) + 1 := wrap64 (by omega) (by omega)
    have hDelR := ok_Delete_Row S.length k (k + 1) (S.flatMap GRow.co) (fm_len GRow.co 3 (fun _ => rfl) _) (by omega) (by omega)
    have edR : k + (S.length - (k + 1)) = (S.take k ++ S.drop (k + 1)).length := by
      rw [List.length_append, List.length_take, List.length_drop]
      omega
    have ecR : (S.flatMap GRow.co).take (k * 3) ++ (S.flatMap GRow.co).drop ((k + 1) * 3) = (S.take k ++ S.drop (k + 1)).flatMap GRow.co := by
      rw [fm_take GRow.co 3 (fun _ => rfl), fm_dropAll GRow.co 3 (fun _ => rfl), List.flatMap_append]
    rw [Int.natCast_add, Int.natCast_one, edR, ecR, hS1, hSl] at hDelR
    rw [hSl] at hlenS
    have htS : List.take (rows.length * 3) (S.flatMap GRow.co) = S.flatMap GRow.co := List.take_of_length_le (by omega)
    generalize hZe : rows.take k ++ rows.drop (k + 1) = Z at *
    have hZl := fm_len GRow.co 3 (fun _ => rfl) Z
    have htZ : List.take (Z.length * 3) (Z.flatMap GRow.co) = Z.flatMap GRow.co := List.take_of_length_le (by omega)
    cases hf : bsF (fun o : GOffer => cmpI o.Peer n) x.Offers with
    | true =>
      obtain ⟨hj, _⟩ := bsF_lt hf
      have hy1 := ds1 hf
      clear ds1 ds2
      generalize bsI (fun o : GOffer => cmpI o.Peer n) x.Offers = j at hj hy1 ⊢
      have w1 : IntKind.i64.wrap ((j : Int) + 1) = (j : Int) + 1 := wrap64 (by omega) (by omega)
      have hDel := ok_Delete_Offer x.Offers.length j (j + 1) (x.Offers.flatMap GOffer.co) (fm_len GOffer.co 7 (fun _ => rfl) _) (by omega) (by omega)
      have ed : j + (x.Offers.length - (j + 1)) = ys.length := by
        rw [hy1, List.length_append, List.length_take, List.length_drop]
        omega
      have ec : (x.Offers.flatMap GOffer.co).take (j * 7) ++ (x.Offers.flatMap GOffer.co).drop ((j + 1) * 7) = ys.flatMap GOffer.co := by
        rw [fm_take GOffer.co 7 (fun _ => rfl), fm_dropAll GOffer.co 7 (fun _ => rfl), hy1, List.flatMap_append]
      rw [Int.natCast_add, Int.natCast_one, ed, ec] at hDel
      have ht : List.take (ys.length * 7) (ys.flatMap GOffer.co) = ys.flatMap GOffer.co := List.take_of_length_le (by omega)
      simp
      refine drawE [0, 1, 2, 4, 5, 6, 7, 9, 13, 14] 3 16 (tabEnv [(126, [2]), (127, [2])] _) [⟨[], allD 74, true⟩, ⟨[], allD 74, true⟩, ⟨[], allD 74, true⟩, ⟨[.arg 0 0], allD 74, true⟩, ⟨[], allD 74, true⟩, ⟨[], allD 74, true⟩, ⟨[], allD 74, true⟩, ⟨[], allD 74, true⟩, ⟨[.arg 0 0], allD 74, true⟩, ⟨[], allD 74, true⟩, ⟨[.arg 0 0], allD 74, true⟩, ⟨[.arg 0 0], allD 74, true⟩, ⟨[.arg 0 0], allD 74, true⟩, ⟨[], allD 74, true⟩, ⟨[], allD 74, true⟩, ⟨[], allD 74, true⟩, ⟨[.arg 0 0], [42, 44, 45, 46, 49, 50, 51, 52], false⟩, ⟨[.arg 0 0], allD 74, true⟩, ⟨[.arg 0 0], allD 74, true⟩, ⟨[.arg 0 0, .op 5 16 0], [42, 44, 45, 46, 49, 50, 51, 52], false⟩] h0 hm (tabEnv_ok (tab_cons hDel tab_nil)) (by kernel_rfl) (by kernel_rfl) ?_
      simp [hk, hd, hlen, hlt, hlt2, hget, w1, hyl, ht, hlt3, hset, hgS, hdS, hlenS, hSl]
      refine ⟨?_, by kernel_rfl⟩
      by_cases b : ys = []
      · rw [decide_eq_true b, if_pos b]
        simp [hlenS, htS, wk, hSl]
        refine Inv_intro hDelR ?_
        simp [hZl, htZ]
      · rw [decide_eq_false b, if_neg b]
        simp [hSl]
    | false =>
      have hy1 := ds2 hf
      have hS4 := hS3 hy1
      subst hS4
      have b : ¬ ys = [] := fun b => absurd (hy1.symm.trans b) hx.2.1
      simp [hk, hdS, hlenS, hlt, hlt2, hgS]
      rw [decide_eq_false b, if_neg b]
      simp
theorem ofL_two {a b : Id} {x y : PT} (h : a ≠ b) : ofL [(a, x), (b, y)] = ofL [(b, y), (a, x)] := by
  funext q
  by_cases e : q = a
  · subst e
    simp [ofL, h]
  · by_cases e2 : q = b
    · subst e2
      simp [ofL, e]
    · simp [ofL, e, e2]
theorem ok_ownRib (k : Nat) (r : GRib) (hr : r.Rows.length ≤ 1000) (hx : ∀ x ∈ r.Rows, x.Offers.length ≤ 1048576 ∧ ∀ o ∈ x.Offers, o.Attrs.Path.length ≤ 1048576 ∧ o.Attrs.Comms.length ≤ 1048576) : CallOK Tryz.prog 78 [.agg (GRib.ci k r)] (.agg (GRib.co r)) [.agg (GRib.ci k r)] := by
  obtain ⟨own, rows⟩ := r
  refine okS (fn := Tryz.f78) [] h0 Tryz.func78 (by kernel_rfl) rfl Tryz.ntmps78 Tryz.results78 (by simp) ?_
  simp
  simp only at hr hx
  refine loopS [2, 3, 10, 11, 12] [.op 0 1 0, .op 1 3 0] (fun m st => ∃ (i : Nat), i + m = rows.length ∧ st = ⟨slOf 29 [(2, .ptr ⟨.op 0 1 0, []⟩ 0), (3, .ptr ⟨.op 1 3 0, []⟩ 0), (10, .t (rd k rows.length (rows.flatMap (GRow.ci k)))), (11, .t (pi rows.length)), (12, .t (pi i))], ofL [(.op 0 1 0, .sl 0 32 1 [pi 0, .sl 0 nilE 0 []]), (.op 1 3 0, .sl 0 32 1 [pi own, .sl 0 (if i = 0 then nilE else 79) i ((rows.take i).flatMap GRow.co)])]⟩) rows.length ?_ ?_
  · rintro Inv hI
    simp
    subst hI
    exact ⟨0, by omega, rfl⟩
  · rintro Inv hI m st ⟨i, hi, rfl⟩
    have hA := fun h : i ≤ rows.length => fm_take_len GRow.co 3 (fun _ => rfl) rows i h
    have hstep := fun a : i < rows.length => (show ((rows.take (i + 1)).flatMap GRow.co) = (rows.take i).flatMap GRow.co ++ GRow.co rows[i] by rw [take_step rows i a, List.flatMap_append, List.flatMap_cons, List.flatMap_nil, List.append_nil])
    have hA0 : i = 0 → (rows.take i).flatMap GRow.co = [] := by rintro rfl; rfl
    have hfin : i = rows.length → (rows.take i).flatMap GRow.co = rows.flatMap GRow.co := by rintro rfl; rw [List.take_length]
    generalize (rows.take i).flatMap GRow.co = A at hA hstep hA0 hfin ⊢
    refine ewr_sound (M := []) h0 ?_
    simp
    refine brn_app (fun a => ?_) (fun a => ?_)
    · simp at a
      have hA' := hA (by omega)
      have e3 := hstep a
      have hp := hx _ (List.getElem_mem a)
      have hd := fm_drop (GRow.ci k) 3 (fun _ => rfl) rows i a
      have hlen := fm_len (GRow.ci k) 3 (fun _ => rfl) rows
      have hlt : i * 3 < rows.length * 3 := by omega
      have hb1 : (i + 1) * 40 ≤ 140737488355328 := by omega
      have hb2 : i ≤ 9223372036854775806 := by omega
      have ht : A.take (i * 3) = A := List.take_of_length_le (by omega)
      simp [a, hd, hlen, hlt]
      by_cases hi0 : i = 0
      · subst hi0
        have hAn := hA0 rfl
        subst hAn
        simp
        refine drawP (tabEnv [] _) [⟨[.op 1 3 0], allD 29, true⟩, ⟨[.op 1 3 0], allD 29, true⟩, ⟨[.op 4 2 0], allD 29, true⟩, ⟨[.op 4 2 0], allD 29, true⟩, ⟨[.op 4 2 0], allD 29, true⟩, ⟨[.op 4 2 0], allD 29, true⟩, ⟨[], allD 29, false⟩, ⟨[.op 5 6 0], allD 29, true⟩, ⟨[.op 5 6 0, .op 5 7 0], [16, 17, 18, 19, 20, 21, 22, 23, 24, 25, 26], false⟩, ⟨[.op 1 3 0, .op 5 8 0], [16, 17, 18, 19, 20, 21, 22, 23, 24, 25, 26], false⟩, ⟨[.op 1 3 0], allD 29, true⟩, ⟨[.op 1 3 0, .op 5 8 0, .op 5 9 0], [16, 17, 18, 19, 20, 21, 22, 23, 24, 25, 26], false⟩] h0 hm (tabEnv_ok (tab_cons (ok_ownOffers k rows[0].Offers hp.1 hp.2) tab_nil)) (by kernel_rfl) (by kernel_rfl) ?_
        simp [hA', hb1, hb2, ht]
        subst hI
        refine Less_mk (m - 1) (by omega) ⟨0 + 1, by omega, ?_⟩
        rw [e3, ofL_two (a := .op 1 3 0) (b := .op 0 1 0) (by decide), show IntKind.i64.wrap 1 = 1 from rfl]
        simp
      · simp [hi0]
        refine drawP (tabEnv [] _) [⟨[.op 1 3 0], allD 29, true⟩, ⟨[.op 1 3 0], allD 29, true⟩, ⟨[.op 4 2 0], allD 29, true⟩, ⟨[.op 4 2 0], allD 29, true⟩, ⟨[.op 4 2 0], allD 29, true⟩, ⟨[.op 4 2 0], allD 29, true⟩, ⟨[], allD 29, false⟩, ⟨[.op 5 6 0], allD 29, true⟩, ⟨[.op 5 6 0, .op 5 7 0], [16, 17, 18, 19, 20, 21, 22, 23, 24, 25, 26], false⟩, ⟨[.op 1 3 0, .op 5 8 0], [16, 17, 18, 19, 20, 21, 22, 23, 24, 25, 26], false⟩, ⟨[.op 1 3 0], allD 29, true⟩, ⟨[.op 1 3 0, .op 5 8 0, .op 5 9 0], [16, 17, 18, 19, 20, 21, 22, 23, 24, 25, 26], false⟩] h0 hm (tabEnv_ok (tab_cons (ok_ownOffers k rows[i].Offers hp.1 hp.2) tab_nil)) (by kernel_rfl) (by kernel_rfl) ?_
        simp [hA', hb1, hb2, ht]
        subst hI
        refine Less_mk (m - 1) (by omega) ⟨i + 1, by omega, ?_⟩
        rw [if_neg (by omega), e3, wrNext i (by omega), ofL_two (a := .op 1 3 0) (b := .op 0 1 0) (by decide)]
        simp
    · simp at a
      have hin : i = rows.length := by omega
      have hA' := hA (by omega)
      by_cases hi0 : i = 0
      · subst hi0
        have : rows = [] := List.length_eq_zero_iff.1 hin.symm
        subst this
        simp [hA0]
      · rw [hfin hin]
        subst hin
        simp [hi0]
theorem good_small {r : GRib} (h : goodRib r = true) : ribOK r ∧ ∀ x ∈ r.Rows, x.Offers.length ≤ 1048576 ∧ ∀ o ∈ x.Offers, o.Attrs.Path.length ≤ 1048576 ∧ o.Attrs.Comms.length ≤ 1048576 := by
  obtain ⟨⟨_, h2⟩, h3, _⟩ := goodRib_gW h
  have key : ∀ x ∈ r.Rows, x.Offers.length ≤ 6 ∧ ∀ o ∈ x.Offers, o.Attrs.Path.length ≤ 10 ∧ o.Attrs.Comms.length ≤ 6 := fun x hx => by
    have hg := (goodRow_spec.1 (h2 x hx)).2.2
    exact ⟨goodOs_len hg, fun o ho => goodO_small ((goodOs_pw hg).2 o ho)⟩
  refine ⟨⟨by omega, fun x hx => ⟨by have := (key x hx).1; omega, fun o ho => by have := (key x hx).2 o ho; exact ⟨by omega, by omega⟩⟩⟩, fun x hx => ⟨by have := (key x hx).1; omega, fun o ho => by have := (key x hx).2 o ho; omega⟩⟩
theorem ok_l10Same (k k' : Nat) (xs ys : List Int) (ha : xs.length ≤ 140737488351232) (hb : ys.length ≤ 140737488351232) : CallOK Tryz.prog 171 [.c (rd k xs.length (xs.map pi)), .c (rd k' ys.length (ys.map pi))] (.c (pb (decide (xs = ys)))) [.c (rd k xs.length (xs.map pi)), .c (rd k' ys.length (ys.map pi))] := by
  refine okS (fn := Tryz.f171) [] h0 Tryz.func171 (by kernel_rfl) rfl Tryz.ntmps171 Tryz.results171 (by simp) ?_
  simp
  refine brn_app (fun h => ?_) (fun h => ?_)
  · simp at h
    simp
    rintro rfl
    exact h rfl
  · simp at h
    have hl : ys.length = xs.length := by omega
    simp
    refine loopS [0, 1, 12, 13] [] (fun n st => ∃ (i : Nat), i + n = xs.length ∧ (xs.drop i = ys.drop i ↔ xs = ys) ∧ st = ⟨slOf 26 [(0, .t (rd k xs.length (xs.map pi))), (1, .t (rd k' ys.length (ys.map pi))), (12, .t (pi xs.length)), (13, .t (pi i))], ofL []⟩) xs.length ?_ ?_
    · rintro Inv hI
      simp
      subst hI
      exact ⟨0, by omega, by simp, rfl⟩
    · rintro Inv hI n st ⟨i, hi, htk, rfl⟩
      refine ewr_sound (M := []) h0 ?_
      simp
      refine brn_app (fun h => ?_) (fun h => ?_)
      · simp at h
        have hib : i < ys.length := by omega
        rw [drop_step xs i h, drop_step ys i hib, List.cons.injEq] at htk
        simp
        refine drawP E0 [⟨[], allD 26, true⟩, ⟨[], allD 26, true⟩, ⟨[], allD 26, true⟩, ⟨[], allD 26, true⟩, ⟨[], allD 26, true⟩, ⟨[], allD 26, true⟩, ⟨[], allD 26, true⟩, ⟨[], allD 26, true⟩, ⟨[], allD 26, true⟩] h0 hm (E0_ok _) (by kernel_rfl) (by kernel_rfl) ?_
        simp [h, hib]
        refine brn_app (fun h2 => ?_) (fun h2 => ?_)
        · simp at h2
          simp
          intro he
          exact h2 (htk.2 he).1
        · simp at h2
          simp
          subst hI
          exact Less_mk (n - 1) (by omega) ⟨i + 1, by omega, ⟨fun h4 => htk.1 ⟨h2, h4⟩, fun h4 => (htk.2 h4).2⟩, by rw [wrNext i (by omega)]⟩
      · simp at h
        rw [List.drop_of_length_le (by omega), List.drop_of_length_le (by omega)] at htk
        simp
        exact htk.1 rfl
theorem attrs_ext2 (a b : GAttrs) : decide (a = b) = (decide (a.Origin = b.Origin) && (decide (a.Next = b.Next) && (decide (a.Med = b.Med) && (decide (a.Pref = b.Pref) && (decide (a.Path = b.Path) && decide (a.Comms = b.Comms)))))) := by
  rw [attrs_ext]
  cases decide (a.Path = b.Path) <;> simp
theorem ok_l13SameAttrs (k k' : Nat) (a b : GAttrs) (ha : attrOK a) (hb : attrOK b) : CallOK Tryz.prog 124 [.agg (GAttrs.ci k a), .agg (GAttrs.ci k' b)] (.c (pb (decide (a = b)))) [.agg (GAttrs.ci k a), .agg (GAttrs.ci k' b)] := by
  refine okS (fn := Tryz.f124) [] h0 Tryz.func124 (by kernel_rfl) rfl Tryz.ntmps124 Tryz.results124 (by simp) ?_
  rw [attrs_ext2]
  by_cases c1 : a.Origin = b.Origin
  · by_cases c3 : a.Next = b.Next
    · by_cases c4 : a.Med = b.Med
      · by_cases c5 : a.Pref = b.Pref
        · simp [c1, c3, c4, c5]
          refine Inv_intro (ok_l10Same k k' a.Path b.Path ha.1 hb.1) ?_
          by_cases c2 : a.Path = b.Path
          · simp [c2]
            refine Inv_intro (ok_l10Same k k' a.Comms b.Comms ha.2 hb.2) ?_
            simp
          · simp [c2]
        · simp [c1, c3, c4, c5]
      · simp [c1, c3, c4]
    · simp [c1, c3]
  · simp [c1]
theorem put_at (p : GPrefix) : ∀ l : List GPrefix, putP p l = if bsF (fun x : GPrefix => cmpPx x p) l = true then l else l.take (bsI (fun x : GPrefix => cmpPx x p) l) ++ p :: l.drop (bsI (fun x : GPrefix => cmpPx x p) l)
  | [] => rfl
  | x :: l => by
    have hb := bs_cons (fun x : GPrefix => cmpPx x p) x l
    unfold putP
    by_cases hc : cmpPx x p < 0
    · rw [if_pos hc, (hb.1 hc).1, (hb.1 hc).2, put_at p l]
      split
      · rfl
      · rw [List.take_succ_cons, List.drop_succ_cons, List.cons_append]
    · rw [if_neg hc, (hb.2 hc).1, (hb.2 hc).2]
      simp only [decide_eq_true_eq, cmpPx_eq]
      split
      · rfl
      · simp
theorem ok_l4Put (l : List GPrefix) (p : GPrefix) (hl : l.length ≤ 1000000) : CallOK Tryz.prog 123 [.c (.sl 0 77 l.length (l.flatMap GPrefix.c)), .agg p.c] (.c (.sl 0 77 (putP p l).length ((putP p l).flatMap GPrefix.c))) [.c (if bsF (fun x : GPrefix => cmpPx x p) l = true then .hole else .sl 0 77 l.length (l.flatMap GPrefix.c)), .agg p.c] := by
  refine okS (fn := Tryz.f123) [] h0 Tryz.func123 (by kernel_rfl) rfl Tryz.ntmps123 Tryz.results123 (by simp) ?_
  rw [put_at]
  simp
  refine loopS [0, 3, 5] [.arg 0 0, .op 0 0 0] (fun m st => ∃ (i : Nat), i + m = l.length ∧ (∀ (q : Nat) (hq : q < i) (hl : q < l.length), cmpPx l[q] p < 0) ∧ st = ⟨slOf 49 [(0, .ref ⟨.arg 0 0, []⟩ 0 l.length), (3, .ptr ⟨.op 0 0 0, []⟩ 0), (5, .t (pi i))], ofL [(.arg 0 0, .sl 0 77 l.length (l.flatMap GPrefix.c)), (.op 0 0 0, .sl 0 77 1 p.c)]⟩) l.length ?_ ?_
  · rintro Inv hI
    simp
    subst hI
    exact ⟨0, by omega, by intro q hq; omega, by simp⟩
  · rintro Inv hI m st ⟨i, hi, hall, rfl⟩
    refine ewr_sound (M := []) h0 ?_
    simp
    by_cases a : i < l.length
    · have hd := fm_drop GPrefix.c 2 (fun _ => rfl) l i a
      have hlen := fm_len GPrefix.c 2 (fun _ => rfl) l
      have hlt : i * 2 < l.length * 2 := by omega
      have hlt2 : i * 2 + 2 ≤ l.length * 2 := by omega
      refine drawP (tabEnv [] _) [⟨[], allD 49, true⟩, ⟨[.arg 0 0], allD 49, true⟩, ⟨[.arg 0 0], allD 49, true⟩, ⟨[], allD 49, true⟩, ⟨[], allD 49, true⟩, ⟨[.arg 0 0], allD 49, true⟩, ⟨[], allD 49, true⟩, ⟨[.arg 0 0], allD 49, true⟩, ⟨[.arg 0 0], allD 49, true⟩, ⟨[.op 0 0 0], allD 49, true⟩, ⟨[], allD 49, false⟩, ⟨[], allD 49, true⟩, ⟨[], allD 49, true⟩] h0 hm (tabEnv_ok (tab_cons (ok_l1Compare l[i] p) tab_nil)) (by kernel_rfl) (by kernel_rfl) ?_
      simp [a, hd, hlen, hlt, hlt2]
      refine brn_app (fun b => ?_) (fun b => ?_)
      · simp at b
        simp
        subst hI
        refine Less_mk (m - 1) (by omega) ⟨i + 1, by omega, ?_, by rw [wrNext i (by omega)]; simp⟩
        intro q hq hql
        by_cases hqi : q = i
        · subst hqi; exact b
        · exact hall q (by omega) hql
      · simp at b
        have e1 : bsI (fun x : GPrefix => cmpPx x p) l = i := bsI_eq _ l i (by omega) hall fun h => b
        have e2 : bsF (fun x : GPrefix => cmpPx x p) l = decide (cmpPx l[i] p = 0) := by
          simp only [bsF, e1, List.getElem?_eq_getElem a]
        rw [e1, e2]
        simp only [cmpPx_eq, px_ext]
        simp
        refine drawP (tabEnv [] _) [⟨[], allD 49, true⟩, ⟨[.arg 0 0], allD 49, true⟩, ⟨[.arg 0 0], allD 49, true⟩, ⟨[], allD 49, true⟩, ⟨[], allD 49, true⟩, ⟨[.arg 0 0], allD 49, true⟩, ⟨[], allD 49, true⟩, ⟨[.arg 0 0], allD 49, true⟩, ⟨[.arg 0 0], allD 49, true⟩, ⟨[.op 0 0 0], allD 49, true⟩, ⟨[], allD 49, true⟩, ⟨[], allD 49, true⟩] h0 hm (tabEnv_ok tab_nil) (by kernel_rfl) (by kernel_rfl) ?_
        simp [a, hd, hlen, hlt, hlt2]
        have hxx : (decide (l[i].Addr = p.Addr) && decide (l[i].Len = p.Len)) = decide (l[i].Addr = p.Addr ∧ l[i].Len = p.Len) := by simp
        rw [hxx]
        by_cases e : l[i].Addr = p.Addr ∧ l[i].Len = p.Len
        · rw [decide_eq_true e, if_pos e, if_pos e]
          simp
        · rw [decide_eq_false e, if_neg e, if_neg e]
          have hcells : (l.take i ++ p :: l.drop i).flatMap GPrefix.c = (l.flatMap GPrefix.c).take (i * 2) ++ (p.c ++ (l.flatMap GPrefix.c).drop (i * 2)) := by
            rw [List.flatMap_append, List.flatMap_cons, fm_take GPrefix.c 2 (fun _ => rfl), fm_dropAll GPrefix.c 2 (fun _ => rfl)]
          have hcl : (l.take i ++ p :: l.drop i).length = l.length + 1 := by
            rw [List.length_append, List.length_cons, List.length_take, List.length_drop]
            omega
          rw [hcells, hcl]
          by_cases hi0 : i = 0
          · subst hi0
            have hne : l ≠ [] := List.length_pos_iff.1 a
            have hb1 : (1 + l.length) * 16 ≤ 140737488355328 := by omega
            have hb2 : 1 + l.length ≤ 9223372036854775807 := by omega
            have hb3 : (1 + l.length) * 2 ≤ l.length * 2 + 1 + 1 := by omega
            have hb4 : List.take ((1 + l.length) * 2) (pi p.Addr :: pi p.Len :: l.flatMap GPrefix.c) = pi p.Addr :: pi p.Len :: l.flatMap GPrefix.c := List.take_of_length_le (by simp only [List.length_cons, hlen]; omega)
            simp [hlen, hne, hb1, hb2, hb3, hb4]
            omega
          · have hile : i ≤ l.length := by omega
            have hne : l ≠ [] := List.length_pos_iff.1 (by omega)
            have hF : ∀ X : List PT, (∀ x ∈ X, x ∈ l.flatMap GPrefix.c) → ((∀ x ∈ X, PT.flat x = true) ↔ True) := fun X hX => ⟨fun _ => trivial, fun _ x hx => by
              have := hX x hx
              simp only [List.mem_flatMap] at this
              obtain ⟨y, _, hy⟩ := this
              simp at hy
              rcases hy with rfl | rfl <;> rfl⟩
            have hF1 := hF (List.take (i * 2) (l.flatMap GPrefix.c)) fun x hx => List.mem_of_mem_take hx
            have hF2 := hF (List.drop (i * 2) (l.flatMap GPrefix.c)) fun x hx => List.mem_of_mem_drop hx
            have hb1 : i * 16 ≤ 140737488355328 := by omega
            have hb2 : i ≤ 9223372036854775807 := by omega
            have hb3 : List.take ((l.length - i) * 2) (List.drop (i * 2) (l.flatMap GPrefix.c)) = List.drop (i * 2) (l.flatMap GPrefix.c) := List.take_of_length_le (by rw [List.length_drop, hlen]; omega)
            have hlA : (List.take (i * 2) (l.flatMap GPrefix.c)).length = i * 2 := by rw [List.length_take, hlen]; omega
            have hTA : ∀ Y, List.take (i * 2) (List.take (i * 2) (l.flatMap GPrefix.c) ++ Y) = List.take (i * 2) (l.flatMap GPrefix.c) := fun Y => List.take_left' hlA
            have hFp : ∀ n : Int, PT.flat (pi n) = true := fun _ => rfl
            have hTA' := List.take_of_length_le (Nat.le_of_eq hlA)
            have hb5 : (i + 1) * 16 ≤ 140737488355328 := by omega
            have hb6 : i ≤ 9223372036854775806 := by omega
            have hb7 : l.length * 2 - i * 2 = (l.length - i) * 2 := by omega
            have hb8 : ¬ l.length - i = 0 := by omega
            have hb9 : (i + 1 + (l.length - i)) * 16 ≤ 140737488355328 := by omega
            have hb10 : i + 1 + (l.length - i) ≤ 9223372036854775807 := by omega
            have hb11 : i + 1 + (l.length - i) = l.length + 1 := by omega
            have hb15 : (l.length + 1) * 2 ≤ i * 2 + ((l.length - i) * 2 + 1 + 1) := by omega
            have hb13 : (l.length + 1) * 16 ≤ 140737488355328 := by omega
            have hb14 : l.length ≤ 9223372036854775806 := by omega
            have hb12 : List.take ((l.length + 1) * 2) (List.take (i * 2) (l.flatMap GPrefix.c) ++ pi p.Addr :: pi p.Len :: List.drop (i * 2) (l.flatMap GPrefix.c)) = List.take (i * 2) (l.flatMap GPrefix.c) ++ pi p.Addr :: pi p.Len :: List.drop (i * 2) (l.flatMap GPrefix.c) := List.take_of_length_le (by simp only [List.length_append, List.length_cons, List.length_drop, hlA, hlen]; omega)
            simp [-PT.flat, hFp, hlen, hi0, hile, hne, hF1, hF2, hb1, hb2, hb3, hTA, hTA', hb5, hb6, hb7, hb8, hb9, hb10, hb11, hb12, hb13, hb14, hb15]
    · have hil : i = l.length := by omega
      have e1 : bsI (fun x : GPrefix => cmpPx x p) l = i := bsI_eq _ l i (by omega) hall fun h => by omega
      have e2 : bsF (fun x : GPrefix => cmpPx x p) l = false := by
        simp only [bsF, e1, List.getElem?_eq_none (Nat.le_of_not_lt a)]
      rw [e1, e2]
      refine drawP (tabEnv [] _) [⟨[], allD 49, true⟩, ⟨[.arg 0 0], allD 49, true⟩, ⟨[.arg 0 0], allD 49, true⟩, ⟨[], allD 49, true⟩, ⟨[], allD 49, true⟩, ⟨[.arg 0 0], allD 49, true⟩, ⟨[], allD 49, true⟩, ⟨[.arg 0 0], allD 49, true⟩, ⟨[.arg 0 0], allD 49, true⟩, ⟨[.op 0 0 0], allD 49, true⟩, ⟨[], allD 49, false⟩, ⟨[], allD 49, true⟩, ⟨[], allD 49, true⟩] h0 hm (tabEnv_ok tab_nil) (by kernel_rfl) (by kernel_rfl) ?_
      simp [a]
      refine drawP (tabEnv [] _) [⟨[], allD 49, true⟩, ⟨[.arg 0 0], allD 49, true⟩, ⟨[.arg 0 0], allD 49, true⟩, ⟨[], allD 49, true⟩, ⟨[], allD 49, true⟩, ⟨[.arg 0 0], allD 49, true⟩, ⟨[], allD 49, true⟩, ⟨[.arg 0 0], allD 49, true⟩, ⟨[.arg 0 0], allD 49, true⟩, ⟨[.op 0 0 0], allD 49, true⟩, ⟨[], allD 49, true⟩, ⟨[], allD 49, true⟩] h0 hm (tabEnv_ok tab_nil) (by kernel_rfl) (by kernel_rfl) ?_
      simp [a]
      subst hil
      rw [List.take_length, List.drop_length]
      by_cases hi0 : l = []
      · subst hi0
        simp
      · have hlen := fm_len GPrefix.c 2 (fun _ => rfl) l
        have hb1 : l.length * 16 ≤ 140737488355328 := by omega
        have hb2 : l.length ≤ 9223372036854775807 := by omega
        have hb3 : (l.length + 1) * 16 ≤ 140737488355328 := by omega
        have hb4 : l.length ≤ 9223372036854775806 := by omega
        have ht : List.take (l.length * 2) (l.flatMap GPrefix.c) = l.flatMap GPrefix.c := List.take_of_length_le (by omega)
        simp [hi0, hlen, hb1, hb2, hb3, hb4, ht]
end Go.V
