/- What functions of the seat's program do, each proved of its code, under the bounds that its theorem names. -/
import Derived.Test.YtdelgkhoahmnfaaGreatTao
set_option linter.all false
namespace Go.V
open Go.Proofs
set_option maxHeartbeats 1000000
set_option maxRecDepth 10000
set_option linter.unusedSimpArgs false
set_option linter.unusedVariables false
theorem ewp_keep {P : Program} {c : Code} {Q : Exit → St → Prop} {st : St} (ks : List Nat) (ids : List Id) (h : ewp P c Q (St.drop st ks ids)) : ewp P c Q st := fun I bs A w0 a w L hs =>
  let ⟨L', h'⟩ := hs.lose ks ids
  h I bs A w0 a w L' h'
theorem dropO_snoc (n : Int) (l : List GOffer) (i : Nat) (h : i < l.length) : dropO n (l.take (i + 1)) = dropO n (l.take i) ++ (if l[i].Peer = n then [] else [l[i]]) := by
  unfold dropO
  rw [take_step l i h, List.filter_append]
  by_cases hb : l[i].Peer = n <;> simp [hb]
theorem dropO_len (n : Int) (l : List GOffer) : (dropO n l).length ≤ l.length := List.length_filter_le _ _
theorem ok_l8Drop (k : Nat) (l : List GOffer) (n : Int) (hl : l.length ≤ 1048576) (hx : ∀ x ∈ l, x.Attrs.Path.length ≤ 1048576 ∧ x.Attrs.Comms.length ≤ 1048576) : CallOK Tryz.prog 122 [.c (rd k l.length (l.flatMap (GOffer.ci k))), .c (pi n)] (.tup [.c (.sl 0 81 (dropO n l).length ((dropO n l).flatMap GOffer.co)), .c (pb (decide ((dropO n l).length < l.length)))]) [.c (rd k l.length (l.flatMap (GOffer.ci k))), .c (pi n)] := by
  refine okS (fn := Tryz.f122) [] h0 Tryz.func122 (by kernel_rfl) rfl Tryz.ntmps122 Tryz.results122 (by simp) ?_
  simp
  refine Inv_intro (ok_l8Own k l hl hx) ?_
  simp
  refine ewp_nil 6 (.op 6 3 0) 81 (by decide) rfl rfl rfl ?_
  refine loopS [0, 1, 6, 10, 11, 12] [.op 6 3 0, .op 2 1 0] (fun m st => ∃ (i : Nat) (C : List PT), i + m = l.length ∧ C.length = l.length * 7 ∧ C.drop (i * 7) = (l.drop i).flatMap GOffer.co ∧ st = ⟨slOf 31 [(0, .t (rd k l.length (l.flatMap (GOffer.ci k)))), (1, .t (pi n)), (6, .ref ⟨.op 6 3 0, []⟩ 0 (dropO n (l.take i)).length), (10, .ref ⟨.op 2 1 0, []⟩ 0 l.length), (11, .t (pi l.length)), (12, .t (pi i))], ofL [(.op 6 3 0, .sl 0 81 (dropO n (l.take i)).length ((dropO n (l.take i)).flatMap GOffer.co)), (.op 2 1 0, .sl 0 81 l.length C)]⟩) l.length ?_ ?_
  · rintro Inv hI
    simp
    subst hI
    exact ⟨0, l.flatMap GOffer.co, by omega, fm_len GOffer.co 7 (fun _ => rfl) l, rfl, rfl⟩
  · rintro Inv hI m st ⟨i, C, hi, hCl, hCd0, rfl⟩
    have hO : (dropO n (l.take i)).length ≤ i := Nat.le_trans (dropO_len _ _) (by simp; omega)
    have hS := dropO_snoc n l i
    have hfin : i = l.length → dropO n (l.take i) = dropO n l := by rintro rfl; rw [List.take_length]
    generalize hOe : dropO n (l.take i) = O at hO hS hfin ⊢
    have hA := fm_len GOffer.co 7 (fun _ => rfl) O
    have hAm : ∀ y, (O ++ [y]).flatMap GOffer.co = O.flatMap GOffer.co ++ GOffer.co y := fun y => by simp
    refine ewr_sound (M := []) h0 ?_
    simp
    refine brn_app (fun a => ?_) (fun a => ?_)
    · simp at a
      have hS' := hS a
      have hCd : C.drop (i * 7) = GOffer.co l[i] ++ (l.drop (i + 1)).flatMap GOffer.co := by
        rw [hCd0, drop_step _ i a, List.flatMap_cons]
      have hCg2 : ∀ h : i * 7 + 2 < C.length, C[i * 7 + 2] = .sl 0 3 l[i].Attrs.Path.length (l[i].Attrs.Path.map pi) := by
        intro h
        have e1 : C[i * 7 + 2]? = (C.drop (i * 7))[2]? := by rw [List.getElem?_drop]
        rw [hCd, List.getElem?_eq_getElem h] at e1
        simpa using e1
      have hCg6 : ∀ h : i * 7 + 6 < C.length, C[i * 7 + 6] = .sl 0 3 l[i].Attrs.Comms.length (l[i].Attrs.Comms.map pi) := by
        intro h
        have e1 : C[i * 7 + 6]? = (C.drop (i * 7))[6]? := by rw [List.getElem?_drop]
        rw [hCd, List.getElem?_eq_getElem h] at e1
        simpa using e1
      have hCn : C.drop ((i + 1) * 7) = (l.drop (i + 1)).flatMap GOffer.co := by
        have : (i + 1) * 7 = i * 7 + 7 := by omega
        rw [this, ← List.drop_drop, hCd]
        rfl
      have hb : i * 7 + 7 ≤ l.length * 7 := by omega
      have hb2' : i * 7 + 2 < l.length * 7 := by omega
      have hb6' : i * 7 + 6 < l.length * 7 := by omega
      simp [a, hCl, hCd, hCg2, hCg6, hb, hb2', hb6']
      refine brn_app (fun b => ?_) (fun b => ?_)
      · simp at b
        rw [if_neg b] at hS'
        generalize hAe : O.flatMap GOffer.co = A at hA hAm ⊢
        have ht : A.take (O.length * 7) = A := List.take_of_length_le (by omega)
        have hb1 : (O.length + 1) * 88 ≤ 140737488355328 := by omega
        have hb2 : O.length ≤ 9223372036854775806 := by omega
        simp [hA, ht, hb1, hb2]
        trace_state
        subst hI
        refine Less_mk (m - 1) (by omega) ⟨i + 1, (C.set (i * 7 + 2) .hole).set (i * 7 + 6) .hole, by omega, by rw [List.length_set, List.length_set]; exact hCl, by rw [List.drop_set_of_lt (by omega), List.drop_set_of_lt (by omega), hCn], ?_⟩
        rw [hS', wrNext i (by omega), hAm, List.length_append]
        simp
      · simp at b
        rw [if_pos b, List.append_nil] at hS'
        simp
        trace_state
        subst hI
        refine Less_mk (m - 1) (by omega) ⟨i + 1, (C.set (i * 7 + 2) .hole).set (i * 7 + 6) .hole, by omega, by rw [List.length_set, List.length_set]; exact hCl, by rw [List.drop_set_of_lt (by omega), List.drop_set_of_lt (by omega), hCn], ?_⟩
        rw [hS', wrNext i (by omega)]
        all_goals simp
    · simp at a
      have hin : i = l.length := by omega
      have hfin := hfin hin
      subst hfin
      have ht : ((dropO n l).flatMap GOffer.co).take ((dropO n l).length * 7) = (dropO n l).flatMap GOffer.co := List.take_of_length_le (by omega)
      simp [hA, ht]
set_option maxHeartbeats 8000000 in
theorem ok_l13Unset (r : GRib) (p : GPrefix) (n : Int) (hg : gW r.Rows) (hl : r.Rows.length ≤ 1000) : CallOK Tryz.prog 75 [.agg (GRib.co r), .agg p.c, .c (pi n)] (.agg (GRib.co ⟨r.Own, dropW p n r.Rows⟩)) [.agg [pi r.Own, .hole], .agg p.c, .c (pi n)] := by
  refine okS (fn := Tryz.f75) [] h0 Tryz.func75 (by kernel_rfl) rfl Tryz.ntmps75 Tryz.results75 (by simp) ?_
  simp
  obtain ⟨own, rows⟩ := r
  simp only at hg hl
  refine Inv_intro (ok_l13At 0 ⟨own, rows⟩ p (Nat.le_trans hl (by decide))) ?_
  simp
  cases hi : rowIs p rows with
  | false =>
    have e : dropW p n rows = rows := by unfold dropW; rw [hi]; rfl
    have hlen := fm_len GRow.co 3 (fun _ => rfl) rows
    have ht : List.take (rows.length * 3) (rows.flatMap GRow.co) = rows.flatMap GRow.co := List.take_of_length_le (by omega)
    simp [e, hlen, ht]
  | true =>
    obtain ⟨hk, hp⟩ := rowIs_lt hi
    have ek : rows[rowAt p rows]? = some rows[rowAt p rows] := List.getElem?_eq_getElem hk
    have e : dropW p n rows = if (dropO n rows[rowAt p rows].Offers).length = 0 then rows.take (rowAt p rows) ++ rows.drop (rowAt p rows + 1) else rows.set (rowAt p rows) ⟨rows[rowAt p rows].Prefix, dropO n rows[rowAt p rows].Offers⟩ := by
      unfold dropW
      rw [hi, ek]
      rfl
    rw [e]
    generalize rowAt p rows = k at hk hp e ⊢
    have hd := fm_drop GRow.co 3 (fun _ => rfl) rows k hk
    have hlen := fm_len GRow.co 3 (fun _ => rfl) rows
    have hlt : k * 3 < rows.length * 3 := by omega
    have hlt2 : k * 3 + 2 < rows.length * 3 := by omega
    have hx := goodRow_spec.1 (hg.2 _ (List.getElem_mem hk))
    have hset := fun ys => set_cells rows k hk ys
    generalize hxe : rows[k] = x at hd hx hp e hset ⊢
    obtain ⟨hpw, hgo⟩ := goodOs_pw hx.2.2
    have h6 := goodOs_len hx.2.2
    have hsm : ∀ o ∈ x.Offers, o.Attrs.Path.length ≤ 1048576 ∧ o.Attrs.Comms.length ≤ 1048576 := fun o ho => by
      have := goodO_small (hgo o ho)
      omega
    have hget : ∀ h, (rows.flatMap GRow.co)[k * 3 + 2]'h = .sl 0 81 x.Offers.length (x.Offers.flatMap GOffer.co) := by
      intro h
      have e1 : (rows.flatMap GRow.co)[k * 3 + 2]? = ((rows.flatMap GRow.co).drop (k * 3))[2]? := by rw [List.getElem?_drop]
      rw [hd, List.getElem?_eq_getElem h] at e1
      simpa using e1
    simp [hk, hd, hlen, hlt, hlt2, hget]
    refine Inv_intro (ok_l8Drop 0 x.Offers n (by omega) hsm) ?_
    simp
    generalize hys : dropO n x.Offers = ys at *
    have hyl := fm_len GOffer.co 7 (fun _ => rfl) ys
    have hty : List.take (ys.length * 7) (ys.flatMap GOffer.co) = ys.flatMap GOffer.co := List.take_of_length_le (by omega)
    by_cases b : ys = []
    · have d1 : ¬ 0 < ys.length := by rw [b]; decide
      have wk : IntKind.i64.wrap ((k : Int) + 1) = (k : Int) + 1 := wrap64 (by omega) (by omega)
      have hk1 : (k : Int) + 1 ≤ (rows.length : Int) := by omega
      have hne : rows ≠ [] := List.length_pos_iff.1 (by omega)
      have hkn : ¬ k = rows.length := by omega
      obtain ⟨q, hq⟩ : ∃ q, rows.length - (k + 1) = q := ⟨_, rfl⟩
      have hql : rows.length = k + 1 + q := by omega
      have hZc : (rows.take k ++ rows.drop (k + 1)).flatMap GRow.co = (rows.flatMap GRow.co).take (k * 3) ++ (rows.flatMap GRow.co).drop ((k + 1) * 3) := by
        rw [fm_take GRow.co 3 (fun _ => rfl), fm_dropAll GRow.co 3 (fun _ => rfl), List.flatMap_append]
      have hZl : (rows.take k ++ rows.drop (k + 1)).length = k + q := by
        rw [List.length_append, List.length_take, List.length_drop]
        omega
      rw [decide_eq_false d1, if_pos b, hZc, hZl]
      clear hset hZc hZl hd e
      generalize rows.flatMap GRow.co = C at *
      have hAl : (C.take (k * 3)).length = k * 3 := by rw [List.length_take]; omega
      have hHl : ((C.map PT.hollow).take (k * 3)).length = k * 3 := by rw [List.length_take, List.length_map]; omega
      have hBl : (C.drop ((k + 1) * 3)).length = q * 3 := by rw [List.length_drop]; omega
      have hD : List.drop ((k + 1) * 3) (List.take (k * 3) (C.map PT.hollow) ++ List.drop (k * 3) C) = List.drop ((k + 1) * 3) C := by
        have e1 : (k + 1) * 3 = ((C.map PT.hollow).take (k * 3)).length + 3 := by omega
        have e2 : (k + 1) * 3 = k * 3 + 3 := by omega
        rw [e1, List.drop_length_add_append, ← e1, e2, ← List.drop_drop]
      have hT : List.take (q * 3) (List.drop ((k + 1) * 3) C) = List.drop ((k + 1) * 3) C := List.take_of_length_le (by omega)
      have hAA : List.take (k * 3) (C.take (k * 3)) = C.take (k * 3) := List.take_of_length_le (by omega)
      have hAB : List.take ((k + q) * 3) (C.take (k * 3) ++ C.drop ((k + 1) * 3)) = C.take (k * 3) ++ C.drop ((k + 1) * 3) := List.take_of_length_le (by rw [List.length_append]; omega)
      have hmin : min (q * 3) (rows.length * 3 - (k + 1) * 3) = q * 3 := by omega
      have hb1 : k * 40 ≤ 140737488355328 := by omega
      have hb2 : k ≤ 9223372036854775807 := by omega
      have hle4 : (k + q) * 3 ≤ k * 3 + q * 3 := by omega
      have hle3 : (k + 1) * 3 + q * 3 ≤ rows.length * 3 := by omega
      have hb3 : (k + q) * 40 ≤ 140737488355328 := by omega
      have hb4 : k + q ≤ 9223372036854775807 := by omega
      have h01 : (0 : Int) ≤ (k : Int) + 1 := by omega
      have h02 : ((k : Int) + 1).toNat = k + 1 := by omega
      have h03 : k + 1 ≤ rows.length := by omega
      have hkle : k ≤ rows.length := by omega
      have hk3 : k * 3 ≤ rows.length * 3 := by omega
      simp
      refine ewp_keep [3, 6, 7] [.op 0 0 0, .op 0 2 0, .arg 0 1] ?_
      simp
      by_cases hk0 : k = 0
      · have hA0 : List.take (k * 3) C = [] := by rw [hk0]; rfl
        have hkq : k + q = q := by omega
        have hk0' := eq_true hk0
        have hb5 : q * 40 ≤ 140737488355328 := by omega
        have hb6 : q ≤ 9223372036854775807 := by omega
        have hBt : List.take (q * 3) (List.drop ((k + 1) * 3) C) = List.drop ((k + 1) * 3) C := hT
        rw [hkq, hA0, List.nil_append]
        clear hAB hD hAA hb1 hb2 hb3 hb4 hHl hAl
        refine drawX [1, 3, 6, 8] 5 7 10 (tabEnv [] []) [⟨[], allD 55, false⟩, ⟨[], allD 55, true⟩, ⟨[.op 0 0 0], allD 55, true⟩, ⟨[], allD 55, true⟩, ⟨[.op 0 0 0], allD 55, true⟩, ⟨[.op 0 0 0, .op 8 0 0], [41, 43, 45, 46, 50, 52, 53], false⟩, ⟨[], allD 55, true⟩, ⟨[.op 0 0 0], allD 55, true⟩, ⟨[], allD 55, true⟩, ⟨[], allD 55, true⟩, ⟨[.op 0 0 0], allD 55, true⟩, ⟨[.op 0 0 0, .op 8 0 0, .op 8 5 0], [41, 43, 45, 46, 50, 52, 53], false⟩, ⟨[.op 0 0 0], allD 55, true⟩, ⟨[.op 0 0 0, .op 8 0 0, .op 8 5 0, .op 8 11 0], [41, 43, 45, 46, 50, 52, 53], false⟩] h0 hm (tabEnv_ok tab_nil) (by kernel_rfl) (by kernel_rfl) (by kernel_rfl) (by kernel_rfl) ?_
        by_cases hq0 : q = 0
        · have hB0 : List.drop ((k + 1) * 3) C = [] := List.drop_of_length_le (by omega)
          simp only [hq0] at *
          simp [hlen, wk, hk1, hne, hkn, hk0', hA0, hkle, hk3, h01, h02, h03, hq, hB0, hmin]
          exact ⟨by kernel_rfl, by kernel_rfl⟩
        · simp [hlen, wk, hk1, hne, hkn, hk0', hA0, hkle, hk3, h01, h02, h03, hq, hq0, hT, hmin, hle3, hb5, hb6, hBl]
          exact ⟨by kernel_rfl, by kernel_rfl⟩
      · refine drawX [1, 3, 6, 8] 5 7 10 (tabEnv [] []) [⟨[], allD 55, false⟩, ⟨[], allD 55, true⟩, ⟨[.op 0 0 0], allD 55, true⟩, ⟨[], allD 55, true⟩, ⟨[.op 0 0 0], allD 55, true⟩, ⟨[.op 0 0 0, .op 8 0 0], [41, 43, 45, 46, 50, 52, 53], false⟩, ⟨[], allD 55, true⟩, ⟨[.op 0 0 0], allD 55, true⟩, ⟨[], allD 55, true⟩, ⟨[], allD 55, true⟩, ⟨[.op 0 0 0], allD 55, true⟩, ⟨[.op 0 0 0, .op 8 0 0, .op 8 5 0], [41, 43, 45, 46, 50, 52, 53], false⟩, ⟨[.op 0 0 0], allD 55, true⟩, ⟨[.op 0 0 0, .op 8 0 0, .op 8 5 0, .op 8 11 0], [41, 43, 45, 46, 50, 52, 53], false⟩] h0 hm (tabEnv_ok tab_nil) (by kernel_rfl) (by kernel_rfl) (by kernel_rfl) (by kernel_rfl) ?_
        by_cases hq0 : q = 0
        · subst hq0
          have hB0 : List.drop ((k + 1) * 3) C = [] := List.drop_of_length_le (by omega)
          simp [hlen, wk, hk1, hne, hkn, hk0, hkle, hk3, hb1, hb2, h01, h02, h03, hq, hD, hB0, hAA, hmin]
          exact ⟨by kernel_rfl, by kernel_rfl⟩
        · simp [hlen, wk, hk1, hne, hkn, hk0, hkle, hk3, hb1, hb2, h01, h02, h03, hq, hq0, hD, hT, hAA, hmin, hb3, hb4, hAB, hle3, hAl, hBl, hle4]
          exact ⟨by kernel_rfl, by kernel_rfl⟩
    · have d1 : 0 < ys.length := List.length_pos_iff.2 b
      have hlt3 : k * 3 + 2 + 1 ≤ rows.length * 3 := by omega
      have hset' := hset ys
      have hSl : (rows.set k ⟨x.Prefix, ys⟩).length = rows.length := List.length_set
      have hSc := fm_len GRow.co 3 (fun _ => rfl) (rows.set k ⟨x.Prefix, ys⟩)
      rw [hSl] at hSc
      have hSt : List.take (rows.length * 3) ((rows.set k ⟨x.Prefix, ys⟩).flatMap GRow.co) = (rows.set k ⟨x.Prefix, ys⟩).flatMap GRow.co := List.take_of_length_le (by omega)
      rw [decide_eq_true d1, if_neg b]
      generalize rows.set k ⟨x.Prefix, ys⟩ = S at *
      simp [hk, hlen, hlt, hlt2, hlt3, hyl, hty, hset', hSl, hSc, hSt]
theorem ok_sDropPeer (k : Nat) (r : GRib) (n : Int) (hr : ribOK r) : CallOK Tryz.prog 21 [.agg (GRib.ci k r), .c (pi n)] (.tup [.agg (GRib.co (rDropPeer r n).1), .c (.sl 0 77 (rDropPeer r n).2.1.length ((rDropPeer r n).2.1.flatMap GPrefix.c)), .c (pb (rDropPeer r n).2.2)]) [.agg (GRib.ci k r), .c (pi n)] := by
  refine okS (fn := Tryz.f21) [(75, [2,0,0])] h0 Tryz.func21 (by kernel_rfl) rfl Tryz.ntmps21 Tryz.results21 (by simp) ?_
  simp
  refine Inv_intro (ok_sGoodRib k r hr) ?_
  cases hg : goodRib r with
  | false => simp [rDropPeer, hg]
  | true =>
    simp
    refine Inv_intro (ok_l13Peer n) ?_
    cases hp : isPeerB n with
    | false => simp [rDropPeer, hp]
    | true =>
      obtain ⟨hok, hsm⟩ := good_small hg
      obtain ⟨hgW, h20, hasn⟩ := goodRib_gW hg
      have er : rDropPeer r n = (⟨r.Own, dropsW n (prefsOf r) r.Rows⟩, changedG r ⟨r.Own, dropsW n (prefsOf r) r.Rows⟩, true) := if_pos ⟨hg, hp⟩
      rw [er]
      simp
      refine Inv_intro (ok_l13Own k r (by omega) hsm) ?_
      simp
      refine loopS [1, 2, 4, 7, 22, 23, 24] [.op 0 0 0, .op 0 1 0, .op 3 2 0] (fun m st => ∃ (i : Nat), i + m = r.Rows.length ∧ st = ⟨slOf 38 [(1, .t (pi n)), (2, .ptr ⟨.op 0 0 0, []⟩ 0), (4, .ptr ⟨.op 0 1 0, []⟩ 0), (7, .ptr ⟨.op 3 2 0, []⟩ 0), (22, .t (rd k r.Rows.length (r.Rows.flatMap (GRow.ci k)))), (23, .t (pi r.Rows.length)), (24, .t (pi i))], ofL [(.op 0 0 0, .sl 0 32 1 (GRib.ci k r)), (.op 0 1 0, .sl 0 32 1 [pi 0, .sl 0 nilE 0 []]), (.op 3 2 0, .sl 0 32 1 (GRib.co ⟨r.Own, dropsW n ((r.Rows.take i).map GRow.Prefix) r.Rows⟩))]⟩) r.Rows.length ?_ ?_
      · rintro Inv hI
        simp
        subst hI
        exact ⟨0, by omega, rfl⟩
      · rintro Inv hI m st ⟨i, hi, rfl⟩
        obtain ⟨g1, g2, g3⟩ := gW_dropRib hg n ((r.Rows.take i).map GRow.Prefix)
        have hsn : ∀ h : i < r.Rows.length, dropsW n ((r.Rows.take (i + 1)).map GRow.Prefix) r.Rows = dropW r.Rows[i].Prefix n (dropsW n ((r.Rows.take i).map GRow.Prefix) r.Rows) := fun h => by
          rw [take_step r.Rows i h, List.map_append]
          exact dropsW_snoc n _ _ _
        have hfin : i = r.Rows.length → dropsW n ((r.Rows.take i).map GRow.Prefix) r.Rows = dropsW n (prefsOf r) r.Rows := by
          rintro rfl
          rw [List.take_length]
          rfl
        generalize dropsW n ((r.Rows.take i).map GRow.Prefix) r.Rows = O at g1 g2 g3 hsn hfin ⊢
        refine ewr_sound (M := [(75, [2, 0, 0])]) h0 ?_
        simp
        refine brn_app (fun a => ?_) (fun a => ?_)
        · simp at a
          have hsn' := hsn a
          have hd := fm_drop (GRow.ci k) 3 (fun _ => rfl) r.Rows i a
          have hlen := fm_len (GRow.ci k) 3 (fun _ => rfl) r.Rows
          have hlt : i * 3 < r.Rows.length * 3 := by omega
          simp [a, hd, hlen, hlt]
          refine Inv_intro (ok_l13Unset ⟨r.Own, O⟩ r.Rows[i].Prefix n g1 (by simp only; omega)) ?_
          simp
          subst hI
          refine Less_mk (m - 1) (by omega) ⟨i + 1, by omega, ?_⟩
          rw [wrNext i (by omega), hsn']
          all_goals simp
        · simp at a
          have hil : i = r.Rows.length := by omega
          have hfin' := hfin hil
          subst hfin'
          have hC := ok_l13Changed k 0 r ⟨r.Own, dropsW n (prefsOf r) r.Rows⟩ hok hg (fun x hx => (hsm x hx).1) (good_small g3).1 g3 (fun x hx => ((good_small g3).2 x hx).1)
          have hOl := fm_len GRow.co 3 (fun _ => rfl) (dropsW n (prefsOf r) r.Rows)
          generalize dropsW n (prefsOf r) r.Rows = O at g1 g2 g3 hC hOl ⊢
          generalize changedG r ⟨r.Own, O⟩ = W at hC ⊢
          have hWl := fm_len GPrefix.c 2 (fun _ => rfl) W
          have htO : List.take (O.length * 3) (O.flatMap GRow.co) = O.flatMap GRow.co := List.take_of_length_le (by omega)
          have htW : List.take (W.length * 2) (W.flatMap GPrefix.c) = W.flatMap GPrefix.c := List.take_of_length_le (by omega)
          simp
          refine drawP (tabEnv [(75, [2, 0, 0])] _) [⟨[.op 3 2 0], allD 38, true⟩, ⟨[.op 0 0 0], allD 38, true⟩, ⟨[.op 3 2 0], allD 38, true⟩, ⟨[.op 0 0 0, .op 3 2 0], allD 38, true⟩, ⟨[.op 0 1 0, .op 3 2 0], [34, 35, 36, 37, 5, 6], false⟩, ⟨[.op 9 3 0], allD 38, true⟩, ⟨[], allD 38, true⟩] h0 hm (tabEnv_ok (tab_cons hC tab_nil)) (by kernel_rfl) (by kernel_rfl) ?_
          simp [hOl, htO, hWl, htW]
theorem goodRib_wt {r : GRib} (h : goodRib r = true) : GRib.wt r ≤ 2100 := by
  obtain ⟨⟨_, h2⟩, h3, _⟩ := goodRib_gW h
  have key : ∀ x ∈ r.Rows, GRow.wt x ≤ 102 := fun x hx => by
    have hg := (goodRow_spec.1 (h2 x hx)).2.2
    have h6 := goodOs_len hg
    have := sum_le GOffer.wt 16 x.Offers fun o ho => by
      have := goodO_small ((goodOs_pw hg).2 o ho)
      unfold GOffer.wt GAttrs.wt wt_IntS
      omega
    unfold GRow.wt wt_OfferS wtR
    omega
  have := sum_le GRow.wt 102 r.Rows key
  unfold GRib.wt wt_RowS wtR
  omega
theorem law_iDropPeer (v0 : GRib) (v1 : Int) (h : GRib.wt v0 ≤ 1048576) : CallOK Tryz.prog 22 [.agg (GRib.ci 0 v0), .c (pi v1)] (.tup [.agg (GRib.co (rDropPeer v0 v1).1), .c (.sl 0 77 (rDropPeer v0 v1).2.1.length ((rDropPeer v0 v1).2.1.flatMap GPrefix.c)), .c (pb (rDropPeer v0 v1).2.2)]) [.agg (GRib.ci 0 v0), .c (pi v1)] := ok_iDropPeer 0 v0 v1 (rib_ok h)
theorem law_sDropPeer (v0 : GRib) (v1 : Int) (h : GRib.wt v0 ≤ 1048576) : CallOK Tryz.prog 21 [.agg (GRib.ci 0 v0), .c (pi v1)] (.tup [.agg (GRib.co (rDropPeer v0 v1).1), .c (.sl 0 77 (rDropPeer v0 v1).2.1.length ((rDropPeer v0 v1).2.1.flatMap GPrefix.c)), .c (pb (rDropPeer v0 v1).2.2)]) [.agg (GRib.ci 0 v0), .c (pi v1)] := ok_sDropPeer 0 v0 v1 (rib_ok h)
theorem rib_res {a : GRib} {l : List GPrefix} (h1 : GRib.wt a ≤ 2100) (h2 : l.length ≤ 60) : (GRib.lens a ∧ GRib.cnT a ≤ 33554432) ∧ (lens_PrefixS l ∧ cn_PrefixS l ≤ 33554432) := by
  have c1 := cn_le_Rib a
  have c2 := cn_le_PrefixS l
  have k2 : wt_PrefixS l ≤ 1048576 := by unfold wt_PrefixS; omega
  have k3 : wt_PrefixS l ≤ 60 := by unfold wt_PrefixS; omega
  exact ⟨⟨lens_of_Rib (by omega), by omega⟩, ⟨lens_of_PrefixS k2, by omega⟩⟩
theorem wt_zeroRib : GRib.wt ⟨0, []⟩ ≤ 2100 := by simp [GRib.wt, wt_RowS, wtR]
theorem rDropPeer_ok (v0 : GRib) (v1 : Int) (hw : GRib.wt v0 ≤ 1048576) : (GRib.lens (rDropPeer v0 v1).1 ∧ GRib.cnT (rDropPeer v0 v1).1 ≤ 33554432) ∧ (lens_PrefixS (rDropPeer v0 v1).2.1 ∧ cn_PrefixS (rDropPeer v0 v1).2.1 ≤ 33554432) := by
  unfold rDropPeer
  split
  · rename_i h
    obtain ⟨g1, g2, g3⟩ := gW_dropRib h.1 v1 (prefsOf v0)
    have h20 := (goodRib_gW h.1).2.1
    have hc := changedG_len v0 ⟨v0.Own, dropsW v1 (prefsOf v0) v0.Rows⟩
    exact rib_res (goodRib_wt g3) (by simp only at hc ⊢; omega)
  · exact rib_res wt_zeroRib (Nat.zero_le _)
theorem ok_FnExactDropPeer (v0 : GRib) (v1 : Int) (f0 : GRib.fits v0) : CallOK Tryz.prog 4 [.agg (GRib.ci 1 v0), .c (pi v1)] (.c (pb true)) [.agg (GRib.ci 1 v0), .c (pi v1)] := by
  refine okS (fn := Tryz.f4) [(18, [1,0]), (16, [1,0])] h0 Tryz.func4 (by kernel_rfl) rfl Tryz.ntmps4 Tryz.results4 (by simp) ?_
  simp
  refine Inv_intro (ok_szRib 1 v0 _ (by omega) (by omega) f0) ?_
  simp
  refine brn_app (fun b0 => ?_) (fun b0 => ?_)
  · simp
  · simp at b0
    have e0 := szr_ge (szr_ge0 b0)
    have d0 := szr_ge0 b0
    simp
    have hv0 : GRib.wt v0 ≤ 1048576 := by omega
    have hlp0 : GRib.lens v0 := lens_of_Rib hv0
    have hcp0 := cn_le_Rib v0
    have hrr := rDropPeer_ok v0 v1 hv0
    obtain ⟨hlr0, hcr0⟩ := hrr.1
    obtain ⟨hlr1, hcr1⟩ := hrr.2
    refine Inv_intro (ok_toRib 1 v0 hv0) ?_
    simp
    refine Inv_intro (law_sDropPeer v0 v1 hv0) ?_
    simp
    refine Inv_intro (ok_toRib 1 v0 hv0) ?_
    simp
    refine Inv_intro (law_iDropPeer v0 v1 hv0) ?_
    simp
    refine Inv_intro (ok_eqRib 0 0 ((rDropPeer v0 v1).1) ((rDropPeer v0 v1).1) hlr0 hlr0) ?_
    simp
    refine Inv_intro (ok_eqPrefixS 0 0 ((rDropPeer v0 v1).2.1) ((rDropPeer v0 v1).2.1) hlr1 hlr1) ?_
    simp
    refine drawP (tabEnv [] _) [⟨[.op 6 2 0], allD 138, true⟩, ⟨[.op 0 0 0], allD 138, true⟩, ⟨[], allD 138, false⟩, ⟨[.op 6 2 0, .op 10 2 1], [56, 57, 58, 59, 60], false⟩, ⟨[], allD 138, true⟩] h0 hm (tabEnv_ok (tab_cons (ok_toRib 1 v0 hv0) (tab_cons (ok_eqRib 0 0 (v0) (v0) hlp0 hlp0) tab_nil))) (by kernel_rfl) (by kernel_rfl) ?_
    simp
    have hm0 := GRib.markT_snd (v0) (1)
    have hn0 : ¬ (GRib.markT (v0) (1)).2 < 0 := by omega
    refine Inv_intro (ok_markRib (v0) (1) hlp0 (by omega) (by omega)) ?_
    simp [hn0]
    refine Inv_intro (ok_eqRib 0 0 ((rDropPeer v0 v1).1) ((rDropPeer v0 v1).1) hlr0 hlr0) ?_
    simp [hn0]
    refine Inv_intro (ok_eqPrefixS 0 0 ((rDropPeer v0 v1).2.1) ((rDropPeer v0 v1).2.1) hlr1 hlr1) ?_
    simp [hn0]
    have hm1 := GRib.markT_snd ((rDropPeer v0 v1).1) (1)
    have hn1 : ¬ (GRib.markT ((rDropPeer v0 v1).1) (1)).2 < 0 := by omega
    refine Inv_intro (ok_markRib ((rDropPeer v0 v1).1) (1) hlr0 (by omega) (by omega)) ?_
    simp [hn0, hn1]
    have hm2 := mk_PrefixS_snd ((rDropPeer v0 v1).2.1) ((GRib.markT ((rDropPeer v0 v1).1) (1)).2)
    have hn2 : ¬ (mk_PrefixS ((rDropPeer v0 v1).2.1) ((GRib.markT ((rDropPeer v0 v1).1) (1)).2)).2 < 0 := by omega
    have ht2 : List.take (((rDropPeer v0 v1).2.1).length * 2) (((mk_PrefixS ((rDropPeer v0 v1).2.1) ((GRib.markT ((rDropPeer v0 v1).1) (1)).2))).1.flatMap GPrefix.c) = (((mk_PrefixS ((rDropPeer v0 v1).2.1) ((GRib.markT ((rDropPeer v0 v1).1) (1)).2))).1.flatMap GPrefix.c) := List.take_of_length_le (by rw [fm_len GPrefix.c 2 (fun _ => rfl), mk_PrefixS_len]; exact Nat.le_refl _)
    refine Inv_intro (ok_markPrefixS ((rDropPeer v0 v1).2.1) ((GRib.markT ((rDropPeer v0 v1).1) (1)).2) hlr1 (by omega) (by omega)) ?_
    simp [hn0, hn1, hn2, ht2]
    refine Inv_intro (ok_heldRib 0 ((rDropPeer v0 v1).1) (1) hlr0 (by omega) (by omega)) ?_
    simp [hn0, hn1, hn2, ht2]
    refine Inv_intro (ok_heldPrefixS 0 ((rDropPeer v0 v1).2.1) ((GRib.markT ((rDropPeer v0 v1).1) (1)).2) hlr1 (by omega) (by omega)) ?_
    simp [hn0, hn1, hn2, ht2]
    refine Inv_intro (ok_toRib 1 v0 hv0) ?_
    simp [hn0, hn1, hn2, ht2]
    refine Inv_intro (law_iDropPeer v0 v1 hv0) ?_
    simp [hn0, hn1, hn2, ht2]
    refine Inv_intro (ok_eqRib 0 0 ((rDropPeer v0 v1).1) ((rDropPeer v0 v1).1) hlr0 hlr0) ?_
    simp [hn0, hn1, hn2, ht2]
    refine Inv_intro (ok_eqPrefixS 0 0 ((rDropPeer v0 v1).2.1) ((rDropPeer v0 v1).2.1) hlr1 hlr1) ?_
    simp [hn0, hn1, hn2, ht2]
    refine Inv_intro (ok_heldRib 0 ((rDropPeer v0 v1).1) (1) hlr0 (by omega) (by omega)) ?_
    simp [hn0, hn1, hn2, ht2]
    refine Inv_intro (ok_heldPrefixS 0 ((rDropPeer v0 v1).2.1) ((GRib.markT ((rDropPeer v0 v1).1) (1)).2) hlr1 (by omega) (by omega)) ?_
    simp [hn0, hn1, hn2, ht2]
end Go.V
