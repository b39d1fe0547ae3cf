/- What functions of the seat's program do, each proved of its code, under the bounds that its theorem names. -/
import Derived.Test.YtdelgkhoahmnfaaGreatTao
set_option linter.all false
namespace Go.V
open Go.Proofs
set_option maxHeartbeats 1000000
set_option maxRecDepth 10000
set_option linter.unusedSimpArgs false
set_option linter.unusedVariables false
theorem ewp_keep {P : Program} {c : Code} {Q : Exit → St → Prop} {st : St} (ks : List Nat) (ids : List Id) (h : ewp P c Q (St.drop st ks ids)) : ewp P c Q st := fun I bs A w0 a w L hs =>
  let ⟨L', h'⟩ := hs.lose ks ids
  h I bs A w0 a w L' h'
theorem dropO_snoc (n : Int) (l : List GOffer) (i : Nat) (h : i < l.length) : dropO n (l.take (i + 1)) = dropO n (l.take i) ++ (if l[i].Peer = n then [] else [l[i]]) := by
  unfold dropO
  rw [take_step l i h, List.filter_append]
  by_cases hb : l[i].Peer = n <;> simp [hb]
theorem dropO_len (n : Int) (l : List GOffer) : (dropO n l).length ≤ l.length := List.length_filter_le _ _
theorem ok_l8Drop (k : Nat) (l : List GOffer) (n : Int) (hl : l.length ≤ 1048576) (hx : ∀ x ∈ l, x.Attrs.Path.length ≤ 1048576 ∧ x.Attrs.Comms.length ≤ 1048576) : CallOK Tryz.prog 122 [.c (rd k l.length (l.flatMap (GOffer.ci k))), .c (pi n)] (.tup [.c (.sl 0 81 (dropO n l).length ((dropO n l).flatMap GOffer.co)), .c (pb (decide ((dropO n l).length < l.length)))]) [.c (rd k l.length (l.flatMap (GOffer.ci k))), .c (pi n)] := by
  refine okS (fn := Tryz.f122) [] h0 Tryz.func122 (by kernel_rfl) rfl Tryz.ntmps122 Tryz.results122 (by simp) ?_
  simp
  refine Inv_intro (ok_l8Own k l hl hx) ?_
  simp
  refine ewp_nil 6 (.op 6 3 0) 81 (by decide) rfl rfl rfl ?_
  refine loopS [0, 1, 6, 10, 11, 12] [.op 6 3 0, .op 2 1 0] (fun m st => ∃ (i : Nat) (C : List PT), i + m = l.length ∧ C.length = l.length * 7 ∧ C.drop (i * 7) = (l.drop i).flatMap GOffer.co ∧ st = ⟨slOf 31 [(0, .t (rd k l.length (l.flatMap (GOffer.ci k)))), (1, .t (pi n)), (6, .ref ⟨.op 6 3 0, []⟩ 0 (dropO n (l.take i)).length), (10, .ref ⟨.op 2 1 0, []⟩ 0 l.length), (11, .t (pi l.length)), (12, .t (pi i))], ofL [(.op 6 3 0, .sl 0 81 (dropO n (l.take i)).length ((dropO n (l.take i)).flatMap GOffer.co)), (.op 2 1 0, .sl 0 81 l.length C)]⟩) l.length ?_ ?_
  · rintro Inv hI
    simp
    subst hI
    exact ⟨0, l.flatMap GOffer.co, by omega, fm_len GOffer.co 7 (fun _ => rfl) l, rfl, rfl⟩
  · rintro Inv hI m st ⟨i, C, hi, hCl, hCd0, rfl⟩
    have hO : (dropO n (l.take i)).length ≤ i := Nat.le_trans (dropO_len _ _) (by simp; omega)
    have hS := dropO_snoc n l i
    have hfin : i = l.length → dropO n (l.take i) = dropO n l := by rintro rfl; rw [List.take_length]
    generalize hOe : dropO n (l.take i) = O at hO hS hfin ⊢
    have hA := fm_len GOffer.co 7 (fun _ => rfl) O
    have hAm : ∀ y, (O ++ [y]).flatMap GOffer.co = O.flatMap GOffer.co ++ GOffer.co y := fun y => by simp
    refine ewr_sound (M := []) h0 ?_
    simp
    refine brn_app (fun a => ?_) (fun a => ?_)
    · simp at a
      have hS' := hS a
      have hCd : C.drop (i * 7) = GOffer.co l[i] ++ (l.drop (i + 1)).flatMap GOffer.co := by
        rw [hCd0, drop_step _ i a, List.flatMap_cons]
      have hCg2 : ∀ h : i * 7 + 2 < C.length, C[i * 7 + 2] = .sl 0 3 l[i].Attrs.Path.length (l[i].Attrs.Path.map pi) := by
        intro h
        have e1 : C[i * 7 + 2]? = (C.drop (i * 7))[2]? := by rw [List.getElem?_drop]
        rw [hCd, List.getElem?_eq_getElem h] at e1
        simpa using e1
      have hCg6 : ∀ h : i * 7 + 6 < C.length, C[i * 7 + 6] = .sl 0 3 l[i].Attrs.Comms.length (l[i].Attrs.Comms.map pi) := by
        intro h
        have e1 : C[i * 7 + 6]? = (C.drop (i * 7))[6]? := by rw [List.getElem?_drop]
        rw [hCd, List.getElem?_eq_getElem h] at e1
        simpa using e1
      have hCn : C.drop ((i + 1) * 7) = (l.drop (i + 1)).flatMap GOffer.co := by
        have : (i + 1) * 7 = i * 7 + 7 := by omega
        rw [this, ← List.drop_drop, hCd]
        rfl
      have hb : i * 7 + 7 ≤ l.length * 7 := by omega
      have hb2' : i * 7 + 2 < l.length * 7 := by omega
      have hb6' : i * 7 + 6 < l.length * 7 := by omega
      simp [a, hCl, hCd, hCg2, hCg6, hb, hb2', hb6']
      refine brn_app (fun b => ?_) (fun b => ?_)
      · simp at b
        rw [if_neg b] at hS'
        generalize hAe : O.flatMap GOffer.co = A at hA hAm ⊢
        have ht : A.take (O.length * 7) = A := List.take_of_length_le (by omega)
        have hb1 : (O.length + 1) * 88 ≤ 140737488355328 := by omega
        have hb2 : O.length ≤ 9223372036854775806 := by omega
        simp [hA, ht, hb1, hb2]
        trace_state
        subst hI
        refine Less_mk (m - 1) (by omega) ⟨i + 1, (C.set (i * 7 + 2) .hole).set (i * 7 + 6) .hole, by omega, by rw [List.length_set, List.length_set]; exact hCl, by rw [List.drop_set_of_lt (by omega), List.drop_set_of_lt (by omega), hCn], ?_⟩
        rw [hS', wrNext i (by omega), hAm, List.length_append]
        simp
      · simp at b
        rw [if_pos b, List.append_nil] at hS'
        simp
        trace_state
        subst hI
        refine Less_mk (m - 1) (by omega) ⟨i + 1, (C.set (i * 7 + 2) .hole).set (i * 7 + 6) .hole, by omega, by rw [List.length_set, List.length_set]; exact hCl, by rw [List.drop_set_of_lt (by omega), List.drop_set_of_lt (by omega), hCn], ?_⟩
        rw [hS', wrNext i (by omega)]
        all_goals simp
    · simp at a
      have hin : i = l.length := by omega
      have hfin := hfin hin
      subst hfin
      have ht : ((dropO n l).flatMap GOffer.co).take ((dropO n l).length * 7) = (dropO n l).flatMap GOffer.co := List.take_of_length_le (by omega)
      simp [hA, ht]
set_option maxHeartbeats 8000000 in
theorem ok_l13Unset (r : GRib) (p : GPrefix) (n : Int) (hg : gW r.Rows) (hl : r.Rows.length ≤ 1000) : CallOK Tryz.prog 75 [.agg (GRib.co r), .agg p.c, .c (pi n)] (.agg (GRib.co ⟨r.Own, dropW p n r.Rows⟩)) [.agg [pi r.Own, .hole], .agg p.c, .c (pi n)] := by
  refine okS (fn := Tryz.f75) [] h0 Tryz.func75 (by kernel_rfl) rfl Tryz.ntmps75 Tryz.results75 (by simp) ?_
  simp
  obtain ⟨own, rows⟩ := r
  simp only at hg hl
  refine Inv_intro (ok_l13At 0 ⟨own, rows⟩ p (Nat.le_trans hl (by decide))) ?_
  simp
  cases hi : rowIs p rows with
  | false =>
    have e : dropW p n rows = rows := by unfold dropW; rw [hi]; rfl
    have hlen := fm_len GRow.co 3 (fun _ => rfl) rows
    have ht : List.take (rows.length * 3) (rows.flatMap GRow.co) = rows.flatMap GRow.co := List.take_of_length_le (by omega)
    simp [e, hlen, ht]
  | true =>
    obtain ⟨hk, hp⟩ := rowIs_lt hi
    have ek : rows[rowAt p rows]? = some rows[rowAt p rows] := List.getElem?_eq_getElem hk
    have e : dropW p n rows = if (dropO n rows[rowAt p rows].Offers).length = 0 then rows.take (rowAt p rows) ++ rows.drop (rowAt p rows + 1) else rows.set (rowAt p rows) ⟨rows[rowAt p rows].Prefix, dropO n rows[rowAt p rows].Offers⟩ := by
      unfold dropW
      rw [hi, ek]
      rfl
    rw [e]
    generalize rowAt p rows = k at hk hp e ⊢
    have hd := fm_drop GRow.co 3 (fun _ => rfl) rows k hk
    have hlen := fm_len GRow.co 3 (fun _ => rfl) rows
    have hlt : k * 3 < rows.length * 3 := by omega
    have hlt2 : k * 3 + 2 < rows.length * 3 := by omega
    have hx := goodRow_spec.1 (hg.2 _ (List.getElem_mem hk))
    have hset := fun ys => set_cells rows k hk ys
    generalize hxe : rows[k] = x at hd hx hp e hset ⊢
    obtain ⟨hpw, hgo⟩ := goodOs_pw hx.2.2
    have h6 := goodOs_len hx.2.2
    have hsm : ∀ o ∈ x.Offers, o.Attrs.Path.length ≤ 1048576 ∧ o.Attrs.Comms.length ≤ 1048576 := fun o ho => by
      have := goodO_small (hgo o ho)
      omega
    have hget : ∀ h, (rows.flatMap GRow.co)[k * 3 + 2]'h = .sl 0 81 x.Offers.length (x.Offers.flatMap GOffer.co) := by
      intro h
      have e1 : (rows.flatMap GRow.co)[k * 3 + 2]? = ((rows.flatMap GRow.co).drop (k * 3))[2]? := by rw [List.getElem?_drop]
      rw [hd, List.getElem?_eq_getElem h] at e1
      simpa using e1
    simp [hk, hd, hlen, hlt, hlt2, hget]
    refine Inv_intro (ok_l8Drop 0 x.Offers n (by omega) hsm) ?_
    simp
    generalize hys : dropO n x.Offers = ys at *
    have hyl := fm_len GOffer.co 7 (fun _ => rfl) ys
    have hty : List.take (ys.length * 7) (ys.flatMap GOffer.co) = ys.flatMap GOffer.co := List.take_of_length_le (by omega)
    by_cases b : ys = []
    · have d1 : ¬ 0 < ys.length := by rw [b]; decide
      have wk : IntKind.i64.wrap ((k : Int) + 1) = (k : Int) + 1 := wrap64 (by omega) (by omega)
      have hk1 : (k : Int) + 1 ≤ (rows.length : Int) := by omega
      have hne : rows ≠ [] := List.length_pos_iff.1 (by omega)
      have hkn : ¬ k = rows.length := by omega
      obtain ⟨q, hq⟩ : ∃ q, rows.length - (k + 1) = q := ⟨_, rfl⟩
      have hql : rows.length = k + 1 + q := by omega
      have hZc : (rows.take k ++ rows.drop (k + 1)).flatMap GRow.co = (rows.flatMap GRow.co).take (k * 3) ++ (rows.flatMap GRow.co).drop ((k + 1) * 3) := by
        rw [fm_take GRow.co 3 (fun _ => rfl), fm_dropAll GRow.co 3 (fun _ => rfl), List.flatMap_append]
      have hZl : (rows.take k ++ rows.drop (k + 1)).length = k + q := by
        rw [List.length_append, List.length_take, List.length_drop]
        omega
      rw [decide_eq_false d1, if_pos b, hZc, hZl]
      clear hset hZc hZl hd e
      generalize rows.flatMap GRow.co = C at *
      have hAl : (C.take (k * 3)).length = k * 3 := by rw [List.length_take]; omega
      have hHl : ((C.map PT.hollow).take (k * 3)).length = k * 3 := by rw [List.length_take, List.length_map]; omega
      have hBl : (C.drop ((k + 1) * 3)).length = q * 3 := by rw [List.length_drop]; omega
      have hD : List.drop ((k + 1) * 3) (List.take (k * 3) (C.map PT.hollow) ++ List.drop (k * 3) C) = List.drop ((k + 1) * 3) C := by
        have e1 : (k + 1) * 3 = ((C.map PT.hollow).take (k * 3)).length + 3 := by omega
        have e2 : (k + 1) * 3 = k * 3 + 3 := by omega
        rw [e1, List.drop_length_add_append, ← e1, e2, ← List.drop_drop]
      have hT : List.take (q * 3) (List.drop ((k + 1) * 3) C) = List.drop ((k + 1) * 3) C := List.take_of_length_le (by omega)
      have hAA : List.take (k * 3) (C.take (k * 3)) = C.take (k * 3) := List.take_of_length_le (by omega)
      have hAB : List.take ((k + q) * 3) (C.take (k * 3) ++ C.drop ((k + 1) * 3)) = C.take (k * 3) ++ C.drop ((k + 1) * 3) := List.take_of_length_le (by rw [List.length_append]; omega)
      have hmin : min (q * 3) (rows.length * 3 - (k + 1) * 3) = q * 3 := by omega
      have hb1 : k * 40 ≤ 140737488355328 := by omega
      have hb2 : k ≤ 9223372036854775807 := by omega
      have hle4 : (k + q) * 3 ≤ k * 3 + q * 3 := by omega
      have hle3 : (k + 1) * 3 + q * 3 ≤ rows.length * 3 := by omega
      have hb3 : (k + q) * 40 ≤ 140737488355328 := by omega
      have hb4 : k + q ≤ 9223372036854775807 := by omega
      have h01 : (0 : Int) ≤ (k : Int) + 1 := by omega
      have h02 : ((k : Int) + 1).toNat = k + 1 := by omega
      have h03 : k + 1 ≤ rows.length := by omega
      have hkle : k ≤ rows.length := by omega
      have hk3 : k * 3 ≤ rows.length * 3 := by omega
      simp
      refine ewp_keep [3, 6, 7] [.op 0 0 0, .op 0 2 0, .arg 0 1] ?_
      simp
      by_cases hk0 : k = 0
      · have hA0 : List.take (k * 3) C = [] := by rw [hk0]; rfl
        have hkq : k + q = q := by omega
        have hk0' := eq_true hk0
        have hb5 : q * 40 ≤ 140737488355328 := by omega
        have hb6 : q ≤ 9223372036854775807 := by omega
        have hBt : List.take (q * 3) (List.drop ((k + 1) * 3) C) = List.drop ((k + 1) * 3) C := hT
        rw [hkq, hA0, List.nil_append]
        clear hAB hD hAA hb1 hb2 hb3 hb4 hHl hAl
        refine drawX [1, 3, 6, 8] 5 7 10 (tabEnv [] []) [⟨[], allD 55, false⟩, ⟨[], allD 55, true⟩, ⟨[.op 0 0 0], allD 55, true⟩, ⟨[], allD 55, true⟩, ⟨[.op 0 0 0], allD 55, true⟩, ⟨[.op 0 0 0, .op 8 0 0], [41, 43, 45, 46, 50, 52, 53], false⟩, ⟨[], allD 55, true⟩, ⟨[.op 0 0 0], allD 55, true⟩, ⟨[], allD 55, true⟩, ⟨[], allD 55, true⟩, ⟨[.op 0 0 0], allD 55, true⟩, ⟨[.op 0 0 0, .op 8 0 0, .op 8 5 0], [41, 43, 45, 46, 50, 52, 53], false⟩, ⟨[.op 0 0 0], allD 55, true⟩, ⟨[.op 0 0 0, .op 8 0 0, .op 8 5 0, .op 8 11 0], [41, 43, 45, 46, 50, 52, 53], false⟩] h0 hm (tabEnv_ok tab_nil) (by kernel_rfl) (by kernel_rfl) (by kernel_rfl) (by kernel_rfl) ?_
        by_cases hq0 : q = 0
        · have hB0 : List.drop ((k + 1) * 3) C = [] := List.drop_of_length_le (by omega)
          simp only [hq0] at *
          simp [hlen, wk, hk1, hne, hkn, hk0', hA0, hkle, hk3, h01, h02, h03, hq, hB0, hmin]
          exact ⟨by kernel_rfl, by kernel_rfl⟩
        · simp [hlen, wk, hk1, hne, hkn, hk0', hA0, hkle, hk3, h01, h02, h03, hq, hq0, hT, hmin, hle3, hb5, hb6, hBl]
          exact ⟨by kernel_rfl, by kernel_rfl⟩
      · refine drawX [1, 3, 6, 8] 5 7 10 (tabEnv [] []) [⟨[], allD 55, false⟩, ⟨[], allD 55, true⟩, ⟨[.op 0 0 0], allD 55, true⟩, ⟨[], allD 55, true⟩, ⟨[.op 0 0 0], allD 55, true⟩, ⟨[.op 0 0 0, .op 8 0 0], [41, 43, 45, 46, 50, 52, 53], false⟩, ⟨[], allD 55, true⟩, ⟨[.op 0 0 0], allD 55, true⟩, ⟨[], allD 55, true⟩, ⟨[], allD 55, true⟩, ⟨[.op 0 0 0], allD 55, true⟩, ⟨[.op 0 0 0, .op 8 0 0, .op 8 5 0], [41, 43, 45, 46, 50, 52, 53], false⟩, ⟨[.op 0 0 0], allD 55, true⟩, ⟨[.op 0 0 0, .op 8 0 0, .op 8 5 0, .op 8 11 0], [41, 43, 45, 46, 50, 52, 53], false⟩] h0 hm (tabEnv_ok tab_nil) (by kernel_rfl) (by kernel_rfl) (by kernel_rfl) (by kernel_rfl) ?_
        by_cases hq0 : q = 0
        · subst hq0
          have hB0 : List.drop ((k + 1) * 3) C = [] := List.drop_of_length_le (by omega)
          simp [hlen, wk, hk1, hne, hkn, hk0, hkle, hk3, hb1, hb2, h01, h02, h03, hq, hD, hB0, hAA, hmin]
          exact ⟨by kernel_rfl, by kernel_rfl⟩
        · simp [hlen, wk, hk1, hne, hkn, hk0, hkle, hk3, hb1, hb2, h01, h02, h03, hq, hq0, hD, hT, hAA, hmin, hb3, hb4, hAB, hle3, hAl, hBl, hle4]
          exact ⟨by kernel_rfl, by kernel_rfl⟩
    · have d1 : 0 < ys.length := List.length_pos_iff.2 b
      have hlt3 : k * 3 + 2 + 1 ≤ rows.length * 3 := by omega
      have hset' := hset ys
      have hSl : (rows.set k ⟨x.Prefix, ys⟩).length = rows.length := List.length_set
      have hSc := fm_len GRow.co 3 (fun _ => rfl) (rows.set k ⟨x.Prefix, ys⟩)
      rw [hSl] at hSc
      have hSt : List.take (rows.length * 3) ((rows.set k ⟨x.Prefix, ys⟩).flatMap GRow.co) = (rows.set k ⟨x.Prefix, ys⟩).flatMap GRow.co := List.take_of_length_le (by omega)
      rw [decide_eq_true d1, if_neg b]
      generalize rows.set k ⟨x.Prefix, ys⟩ = S at *
      simp [hk, hlen, hlt, hlt2, hlt3, hyl, hty, hset', hSl, hSc, hSt]
theorem goodRib_wt {r : GRib} (h : goodRib r = true) : GRib.wt r ≤ 2100 := by
  obtain ⟨⟨_, h2⟩, h3, _⟩ := goodRib_gW h
  have key : ∀ x ∈ r.Rows, GRow.wt x ≤ 102 := fun x hx => by
    have hg := (goodRow_spec.1 (h2 x hx)).2.2
    have h6 := goodOs_len hg
    have := sum_le GOffer.wt 16 x.Offers fun o ho => by
      have := goodO_small ((goodOs_pw hg).2 o ho)
      unfold GOffer.wt GAttrs.wt wt_IntS
      omega
    unfold GRow.wt wt_OfferS wtR
    omega
  have := sum_le GRow.wt 102 r.Rows key
  unfold GRib.wt wt_RowS wtR
  omega
theorem wt_zeroRib : GRib.wt ⟨0, []⟩ ≤ 2100 := by simp [GRib.wt, wt_RowS, wtR]
theorem ok_ContainsFunc_Prefix (k q g : Nat) (caps : List (List PT)) (p : GPrefix → Bool) (xs : List GPrefix) (ha : xs.length ≤ 140737488351232)
    (hg : ∀ x ∈ xs, CallOK Tryz.prog g (.agg (GPrefix.c x) :: caps.map (PV.ip q)) (.c (pb (p x))) (.agg (GPrefix.c x) :: caps.map (PV.ip q))) :
    CallOK Tryz.prog 142 [.c (rd k xs.length (xs.flatMap GPrefix.c)), .c (.fn q g caps)] (.c (pb (xs.any p))) [.c (rd k xs.length (xs.flatMap GPrefix.c)), .c (.fn q g caps)] := by
  refine okS (fn := Tryz.f142) [] h0 Tryz.func142 (by kernel_rfl) rfl Tryz.ntmps142 Tryz.results142 (by simp) ?_
  simp
  refine Inv_intro (ok_IndexFunc_Prefix k q g caps p xs ha hg) ?_
  simp [idxOf_any]
theorem ok_l4Rising (k : Nat) (l : List GPrefix) (hll : l.length ≤ 140737488351232) : CallOK Tryz.prog 135 [.c (rd k l.length (l.flatMap GPrefix.c))] (.c (pb (goodPs l))) [.c (rd k l.length (l.flatMap GPrefix.c))] := by
  refine okS (fn := Tryz.f135) [] h0 Tryz.func135 (by kernel_rfl) rfl Tryz.ntmps135 Tryz.results135 (by simp) ?_
  simp
  refine loopS [0, 5, 6, 7] [] (fun n st => ∃ (i : Nat), i + n = l.length ∧ risG (prevPx l i) (l.drop i) = risG none l ∧ st = ⟨slOf 33 [(0, .t (rd k l.length (l.flatMap GPrefix.c))), (5, .t (rd k l.length (l.flatMap GPrefix.c))), (6, .t (pi l.length)), (7, .t (pi i))], ofL []⟩) l.length ?_ ?_
  · rintro Inv hI
    simp
    subst hI
    exact ⟨0, by omega, rfl, rfl⟩
  · rintro Inv hI n st ⟨i, hi, hg, rfl⟩
    refine ewr_sound (M := []) h0 ?_
    simp
    refine brn_app (fun a => ?_) (fun a => ?_)
    · simp at a
      rw [drop_step _ i a, risG] at hg
      have hd := fm_drop GPrefix.c 2 (fun _ => rfl) l i a
      have hlen := fm_len GPrefix.c 2 (fun _ => rfl) l
      have hlt : i * 2 < l.length * 2 := by omega
      have en : prevPx l (i + 1) = some l[i] := prevPx_next l i a
      simp [a, hd, hlen, hlt]
      have hR := ok_sGoodPrefix l[i]
      by_cases c0 : i = 0
      · have e0 : ¬ 0 < i := by omega
        have ep : prevPx l i = none := by simp [prevPx, c0]
        rw [ep, adjPx, Bool.and_true] at hg
        refine drawP (tabEnv [] _) [⟨[.op 3 3 0], allD 33, true⟩, ⟨[], allD 33, false⟩, ⟨[], allD 33, true⟩, ⟨[], allD 33, true⟩, ⟨[], allD 33, true⟩, ⟨[], allD 33, true⟩, ⟨[], allD 33, true⟩, ⟨[], allD 33, true⟩, ⟨[], allD 33, true⟩, ⟨[], allD 33, true⟩, ⟨[], allD 33, true⟩, ⟨[], allD 33, true⟩, ⟨[.op 3 3 0], allD 33, true⟩, ⟨[], allD 33, false⟩, ⟨[], allD 33, true⟩, ⟨[], allD 33, true⟩, ⟨[], allD 33, true⟩] h0 hm (tabEnv_ok (tab_cons hR tab_nil)) (by kernel_rfl) (by kernel_rfl) ?_
        cases c1 : goodPx l[i] with
        | false =>
          rw [c1, Bool.false_and] at hg
          simp [c1, goodPs, ← hg]
        | true =>
          rw [c1, Bool.true_and] at hg
          simp [c1, e0]
          subst hI
          exact Less_mk (n - 1) (by omega) ⟨i + 1, by omega, by rw [en]; exact hg, by rw [wrNext i (by omega)]⟩
      · obtain ⟨j, hj⟩ : ∃ j, i = j + 1 := ⟨i - 1, by omega⟩
        have aj : j < l.length := by omega
        have ep : prevPx l i = some l[j] := by subst hj; exact prevPx_next l j aj
        have hdj := fm_drop GPrefix.c 2 (fun _ => rfl) l j aj
        have hltj : j * 2 < l.length * 2 := by omega
        have hw : IntKind.wrap .i64 ((i : Int) - 1) = j := (wrap64 (by omega) (by omega)).trans (by omega)
        have e0 : 0 < i := by omega
        rw [ep, adjPx] at hg
        refine drawP (tabEnv [] _) [⟨[.op 3 3 0], allD 33, true⟩, ⟨[], allD 33, false⟩, ⟨[], allD 33, true⟩, ⟨[], allD 33, true⟩, ⟨[], allD 33, true⟩, ⟨[], allD 33, true⟩, ⟨[], allD 33, true⟩, ⟨[], allD 33, true⟩, ⟨[], allD 33, true⟩, ⟨[], allD 33, true⟩, ⟨[], allD 33, true⟩, ⟨[], allD 33, true⟩, ⟨[.op 3 3 0], allD 33, true⟩, ⟨[], allD 33, false⟩, ⟨[], allD 33, true⟩, ⟨[], allD 33, true⟩, ⟨[], allD 33, true⟩] h0 hm (tabEnv_ok (tab_cons hR (tab_cons (ok_l1Compare l[j] l[i]) tab_nil))) (by kernel_rfl) (by kernel_rfl) ?_
        cases c1 : goodPx l[i] with
        | false =>
          rw [c1, Bool.false_and, Bool.false_and] at hg
          simp [c1, goodPs, ← hg]
        | true =>
          rw [c1, Bool.true_and] at hg
          by_cases c2 : cmpPx l[j] l[i] < 0
          · have c3 : ¬ 0 ≤ cmpPx l[j] l[i] := by omega
            rw [decide_eq_true c2, Bool.true_and] at hg
            simp [c1, e0, hw, aj, hdj, hlen, hltj, c3]
            subst hI
            exact Less_mk (n - 1) (by omega) ⟨i + 1, by omega, by rw [en]; exact hg, by rw [wrNext i (by omega)]⟩
          · have c3 : 0 ≤ cmpPx l[j] l[i] := by omega
            rw [decide_eq_false c2, Bool.false_and] at hg
            simp [c1, e0, hw, aj, hdj, hlen, hltj, c3, goodPs, ← hg]
    · simp at a
      rw [List.drop_of_length_le (by omega), risG] at hg
      simp [goodPs, ← hg]
      omega
theorem px_dec (p q : GPrefix) : (decide (p.Addr = q.Addr) && decide (p.Len = q.Len)) = decide (p = q) := by
  rw [← Bool.decide_and]
  exact decide_eq_decide.2 (px_ext p q).symm
theorem ok_l4In (k : Nat) (l : List GPrefix) (p : GPrefix) (hll : l.length ≤ 140737488351232) : CallOK Tryz.prog 134 [.c (rd k l.length (l.flatMap GPrefix.c)), .agg p.c] (.c (pb (decide (p ∈ l)))) [.c (rd k l.length (l.flatMap GPrefix.c)), .agg p.c] := by
  refine okS (fn := Tryz.f134) [] h0 Tryz.func134 (by kernel_rfl) rfl Tryz.ntmps134 Tryz.results134 (by simp) ?_
  simp
  refine loopS [3, 7, 8, 9] [.op 0 0 0] (fun n st => ∃ (i : Nat), i + n = l.length ∧ decide (p ∈ l) = decide (p ∈ l.drop i) ∧ st = ⟨slOf 17 [(3, .ptr ⟨.op 0 0 0, []⟩ 0), (7, .t (rd k l.length (l.flatMap GPrefix.c))), (8, .t (pi l.length)), (9, .t (pi i))], ofL [(.op 0 0 0, .sl 0 77 1 p.c)]⟩) l.length ?_ ?_
  · rintro Inv hI
    simp
    subst hI
    exact ⟨0, by omega, rfl, rfl⟩
  · rintro Inv hI n st ⟨i, hi, hg, rfl⟩
    refine ewr_sound (M := []) h0 ?_
    simp
    refine brn_app (fun a => ?_) (fun a => ?_)
    · simp at a
      have hd := fm_drop GPrefix.c 2 (fun _ => rfl) l i a
      have hlen := fm_len GPrefix.c 2 (fun _ => rfl) l
      have hlt : i * 2 < l.length * 2 := by omega
      rw [drop_step _ i a] at hg
      by_cases c : l[i] = p
      · have hg' : decide (p ∈ l) = true := by rw [hg]; exact decide_eq_true (by rw [c]; exact List.mem_cons_self ..)
        simp [a, hd, hlen, hlt, px_dec, c, hg']
      · have hg' : decide (p ∈ l) = decide (p ∈ l.drop (i + 1)) := by
          have this : ¬ p = l[i] := fun e => c e.symm
          rw [hg]
          exact decide_eq_decide.2 (by rw [List.mem_cons]; exact or_iff_right this)
        simp [a, hd, hlen, hlt, px_dec, c]
        subst hI
        exact Less_mk (n - 1) (by omega) ⟨i + 1, by omega, hg', by rw [wrNext i (by omega)]; rfl⟩
    · simp at a
      rw [List.drop_of_length_le (by omega)] at hg
      simp [hg]
theorem ok_l4Zero (k : Nat) (a : GAttrs) : CallOK Tryz.prog 137 [.agg (GAttrs.ci k a)] (.c (pb (decide (a = zeroA)))) [.agg (GAttrs.ci k a)] := by
  have e : decide (a = zeroA) = (decide (a.Origin = 0) && (decide (a.Path = []) && (decide (a.Next = 0) && (decide (a.Med = 0) && (decide (a.Pref = 0) && decide (a.Comms = [])))))) := attrs_ext a zeroA
  rw [e]
  refine okS (fn := Tryz.f137) [] h0 Tryz.func137 (by kernel_rfl) rfl Tryz.ntmps137 Tryz.results137 (by simp) ?_
  by_cases c1 : a.Origin = 0
  · by_cases c2 : a.Path = []
    · by_cases c3 : a.Next = 0
      · by_cases c4 : a.Med = 0
        · by_cases c5 : a.Pref = 0
          · by_cases c6 : a.Comms = []
            · simp [c1, c2, c3, c4, c5, c6]
            · simp [c1, c2, c3, c4, c5, c6]
          · simp [c1, c2, c3, c4, c5]
        · simp [c1, c2, c3, c4]
      · simp [c1, c2, c3]
    · simp [c1, c2]
  · simp [c1]
theorem idxPx_mem (l : List GPrefix) (p : GPrefix) : decide (0 ≤ idxOf (fun x => decide (p = x)) l) = decide (p ∈ l) := by
  rw [idxOf_any]
  by_cases h : p ∈ l
  · rw [decide_eq_true h]; exact List.any_eq_true.2 ⟨p, h, by simp⟩
  · rw [decide_eq_false h]
    refine List.any_eq_false.2 fun x hx => ?_
    simp
    rintro rfl
    exact h hx
theorem ok_IndexPx (k : Nat) (l : List GPrefix) (p : GPrefix) (hll : l.length ≤ 140737488351232) : CallOK Tryz.prog 180 [.c (rd k l.length (l.flatMap GPrefix.c)), .agg p.c] (.c (pi (idxOf (fun x => decide (p = x)) l))) [.c (rd k l.length (l.flatMap GPrefix.c)), .agg p.c] := by
  refine okS (fn := Tryz.f180) [] h0 Tryz.func180 (by kernel_rfl) rfl Tryz.ntmps180 Tryz.results180 (by simp) ?_
  simp
  refine loopS [0, 3, 6, 7, 8] [.op 0 0 0] (fun n st => ∃ (i : Nat), i + n = l.length ∧ (∀ (j : Nat) (hj : j < i) (hl : j < l.length), ¬ p = l[j]) ∧ st = ⟨slOf 19 [(0, .t (rd k l.length (l.flatMap GPrefix.c))), (3, .ptr ⟨.op 0 0 0, []⟩ 0), (6, .t (rd k l.length (l.flatMap GPrefix.c))), (7, .t (pi l.length)), (8, .t (pi i))], ofL [(.op 0 0 0, .sl 0 77 1 p.c)]⟩) l.length ?_ ?_
  · rintro Inv hI
    simp
    subst hI
    exact ⟨0, by omega, fun j hj => absurd hj (by omega), rfl⟩
  · rintro Inv hI n st ⟨i, hi, hg, rfl⟩
    refine ewr_sound (M := []) h0 ?_
    simp
    refine brn_app (fun a => ?_) (fun a => ?_)
    · simp at a
      have hd := fm_drop GPrefix.c 2 (fun _ => rfl) l i a
      have hlen := fm_len GPrefix.c 2 (fun _ => rfl) l
      have hlt : i * 2 < l.length * 2 := by omega
      simp
      refine drawP E0 [⟨[.op 0 0 0], allD 19, true⟩, ⟨[], allD 19, true⟩, ⟨[], allD 19, true⟩, ⟨[], allD 19, true⟩, ⟨[], allD 19, true⟩, ⟨[], allD 19, true⟩] h0 hm (E0_ok _) (by kernel_rfl) (by kernel_rfl) ?_
      by_cases c : p = l[i]
      · have e : idxOf (fun x => decide (p = x)) l = i := idxOf_hit _ l i a (by simpa using c) fun j hj => by simpa using hg j hj (by omega)
        simp [a, hd, hlen, hlt, px_dec, decide_eq_true c, e]
      · simp [a, hd, hlen, hlt, px_dec, c]
        subst hI
        refine Less_mk (n - 1) (by omega) ⟨i + 1, by omega, fun j hj hl => ?_, by rw [wrNext i (by omega)]; rfl⟩
        rcases Nat.lt_or_ge j i with h | h
        · exact hg j h hl
        · have : j = i := by omega
          subst this
          exact c
    · simp at a
      have e : idxOf (fun x => decide (p = x)) l = -1 := idxOf_no _ l fun j hj => by simpa using hg j (by omega) hj
      simp [e]
theorem ok_ContainsPx (k : Nat) (l : List GPrefix) (p : GPrefix) (hll : l.length ≤ 140737488351232) : CallOK Tryz.prog 144 [.c (rd k l.length (l.flatMap GPrefix.c)), .agg p.c] (.c (pb (decide (p ∈ l)))) [.c (rd k l.length (l.flatMap GPrefix.c)), .agg p.c] := by
  refine okS (fn := Tryz.f144) [] h0 Tryz.func144 (by kernel_rfl) rfl Tryz.ntmps144 Tryz.results144 (by simp) ?_
  simp
  refine Inv_intro (ok_IndexPx k l p hll) ?_
  have e := idxPx_mem l p
  generalize idxOf (fun x => decide (p = x)) l = z at e ⊢
  rw [← e]
  simp
end Go.V
