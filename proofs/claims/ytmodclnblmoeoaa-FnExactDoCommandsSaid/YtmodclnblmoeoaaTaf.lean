/- What functions of the seat's program do, each proved of its code, under the bounds that its theorem names. -/
import Derived.Test.YtmodclnblmoeoaaTae
set_option linter.all false
namespace Go.V
open Go.Proofs
set_option maxHeartbeats 1000000
set_option maxRecDepth 10000
set_option linter.unusedSimpArgs false
set_option linter.unusedVariables false
theorem ok_sDoCommands (k k' : Nat) (l : List GLeaf) (cs : List GCommand) (hl : boundC l) (hc : ∀ c ∈ cs, cmdOK c) (hcl : cs.length ≤ 140737488351232) : CallOK Try.prog 53 [.c (rd k l.length (l.flatMap (GLeaf.ci k))), .c (rd k' cs.length (cs.flatMap (GCommand.ci k')))] (.tup [.c (.sl 0 103 (rDoCommands l cs).1.length ((rDoCommands l cs).1.flatMap GLeaf.co)), .c (pb (rDoCommands l cs).2)]) [.c (rd k l.length (l.flatMap (GLeaf.ci k))), .c (rd k' cs.length (cs.flatMap (GCommand.ci k')))] := by
  refine okS (fn := Try.f53) [] h0 Try.func53 (by kernel_rfl) rfl Try.ntmps53 Try.results53 (by simp) ?_
  simp
  refine Inv_intro (ok_sGoodConfig k l (boundC_conf hl)) ?_
  simp
  cases c1 : goodC l with
  | false => simp [rDoCommands, c1]
  | true =>
    simp
    refine brn_app (fun a => ?_) (fun a => ?_)
    · simp at a
      have h : ¬ cs.length ≤ 80 := by omega
      simp [rDoCommands, h]
    · simp at a
      have h80 : cs.length ≤ 80 := by omega
      have er : rDoCommands l cs = match doI l cs cs.length with
          | some o => (o, true)
          | none => ([], false) := by
        unfold rDoCommands
        rw [if_pos ⟨c1, h80⟩]
        all_goals (cases doI l cs cs.length <;> rfl)
      simp
      refine Inv_intro (ok_l15Own k l hl.1 (fun x hx => (hl.2 x hx).1)) ?_
      simp
      refine loopW [6, 20, 21, 22] [.op 9 5 0, .op 11 3 0, .op 3 1 0] [.op 3 1 0] (fun m st => ∃ (i : Nat) (o : List GLeaf), i + m = cs.length ∧ doI l cs i = some o ∧ st = ⟨slOf 53 [(6, .ref ⟨.op 3 1 0, []⟩ 0 o.length), (20, .t (rd k' cs.length (cs.flatMap (GCommand.ci k')))), (21, .t (pi cs.length)), (22, .t (pi i))], ofL [(.op 3 1 0, .sl 0 103 o.length (o.flatMap GLeaf.co))]⟩) cs.length ?_ ?_
      · rintro Inv hI
        simp
        subst hI
        exact ⟨0, l, by omega, rfl, rfl⟩
      · rintro Inv hI m st ⟨i, o, hi, ho, rfl⟩
        refine ewr_sound (M := []) h0 ?_
        simp
        refine brn_app (fun b => ?_) (fun b => ?_)
        · simp at b
          have hb := doI_bound hl hc i o ho
          have hcm := hc _ (List.getElem_mem b)
          have hbs := bound_step hb hcm
          have hnext : doI l cs (i + 1) = if (doStep o cs[i]).2 = true then some (doStep o cs[i]).1 else none := by
            simp only [doI, ho, List.getElem?_eq_getElem b]
          have hd := fm_drop (GCommand.ci k') 3 (fun _ => rfl) cs i b
          have hlen := fm_len (GCommand.ci k') 3 (fun _ => rfl) cs
          have hlt : i * 3 < cs.length * 3 := by omega
          simp [b, hd, hlen, hlt]
          have fails : (doStep o cs[i]).2 = false → rDoCommands l cs = ([], false) := by
            intro h
            rw [h] at hnext
            rw [er, doI_none l cs (i := i + 1) hnext cs.length (by omega)]
          cases hs : cs[i].Set with
          | true =>
            have e : doStep o cs[i] = rSetAt o cs[i].Path cs[i].Value := by simp [doStep, hs]
            simp
            refine Inv_intro (ok_sSetAt 0 k' o cs[i].Path cs[i].Value hb.1 (fun x hx => (hb.2 x hx).1) (boundC_conf hb) hcm.2.1 hcm.1 hcm.2.2) ?_
            rw [e] at hnext fails hbs
            generalize rSetAt o cs[i].Path cs[i].Value = R at *
            obtain ⟨R1, R2⟩ := R
            cases R2 with
            | false =>
              have := fails rfl
              rw [this]
              simp
            | true =>
              simp
              refine LessW_mk (m - 1) (.op 9 5 0) (.op 3 1 0) (by omega) rfl rfl ?_
              simp
              subst hI
              refine ⟨i + 1, R1, by omega, hnext, ?_⟩
              rw [wrNext i (by omega)]
          | false =>
            simp
            by_cases hv : cs[i].Value = ⟨#[]⟩
            · have e : doStep o cs[i] = rDeleteAt o cs[i].Path := by simp [doStep, hs, hv]
              simp [hv]
              refine Inv_intro (ok_sDeleteAt 0 k' o cs[i].Path hb.1 (fun x hx => (hb.2 x hx).1) (boundC_conf hb) hcm.2.1) ?_
              rw [e] at hnext fails hbs
              generalize rDeleteAt o cs[i].Path = R at *
              obtain ⟨R1, R2⟩ := R
              cases R2 with
              | false =>
                have := fails rfl
                rw [this]
                simp
              | true =>
                simp
                refine LessW_mk (m - 1) (.op 11 3 0) (.op 3 1 0) (by omega) rfl rfl ?_
                simp
                subst hI
                refine ⟨i + 1, R1, by omega, hnext, ?_⟩
                rw [wrNext i (by omega)]
            · have e : doStep o cs[i] = ([], false) := by simp [doStep, hs, hv]
              have := fails (by rw [e])
              rw [this]
              simp [hv]
        · simp at b
          have hin : i = cs.length := by omega
          subst hin
          have er2 : rDoCommands l cs = (o, true) := by rw [er, ho]
          have ht : (o.flatMap GLeaf.co).take (o.length * 2) = o.flatMap GLeaf.co := List.take_of_length_le (by rw [fm_len GLeaf.co 2 (fun _ => rfl)]; exact Nat.le_refl _)
          rw [er2]
          simp [ht]
theorem leafs_big {l : List GLeaf} (h : wt_LeafS l ≤ 1000000000000) : lens_LeafS l ∧ cn_LeafS l ≤ 1152921504606846976 := by
  have hc := cn_le_LeafS l
  have hl : l.length ≤ wt_LeafS l := Nat.le_add_right _ _
  refine ⟨⟨by omega, fun x hx => ⟨?_, fun _ _ => trivial⟩⟩, by omega⟩
  have h1 := mem_wt_LeafS hx
  have h2 := len_wt_StringS x.Path
  unfold GLeaf.wt at h1
  omega
theorem wt_app (a b : List GLeaf) : wt_LeafS (a ++ b) = wt_LeafS a + wt_LeafS b := by
  simp only [wt_LeafS, wtR, List.length_append, List.map_append, List.sum_append]
  omega
theorem wt_putL (p : List ByteArray) (v : ByteArray) (m : List GLeaf) : wt_LeafS (putL p v m) = wt_LeafS m + (1 + (wt_StringS p + v.size)) := by
  unfold putL
  have h := wt_app (m.take (atI p m)) (m.drop (atI p m))
  rw [List.take_append_drop] at h
  rw [wt_app, wt_app, h]
  have h1 : wt_LeafS [⟨p, v⟩] = 1 + (wt_StringS p + v.size) := by simp [wt_LeafS, wtR, GLeaf.wt]
  omega
theorem law_iSetAt (v0 : List GLeaf) (v1 : List ByteArray) (v2 : ByteArray) (h0 : wt_LeafS v0 ≤ 1048576) (h1 : wt_StringS v1 ≤ 1048576) (h2 : v2.size ≤ 1048576) : CallOK Try.prog 47 [.c (rd 0 v0.length (v0.flatMap (GLeaf.ci 0))), .c (rd 0 v1.length (v1.map ps)), .c (ps v2)] (.tup [.c (.sl 0 103 (rSetAt v0 v1 v2).1.length ((rSetAt v0 v1 v2).1.flatMap GLeaf.co)), .c (pb (rSetAt v0 v1 v2).2)]) [.c (rd 0 v0.length (v0.flatMap (GLeaf.ci 0))), .c (rd 0 v1.length (v1.map ps)), .c (ps v2)] := ok_iSetAt 0 0 v0 v1 v2 (conf_len h0).1 (conf_len h0).2 (conf_ok h0) (strs_ok h1) (by have := len_wt_StringS v1; omega) (by omega)
theorem law_sSetAt (v0 : List GLeaf) (v1 : List ByteArray) (v2 : ByteArray) (h0 : wt_LeafS v0 ≤ 1048576) (h1 : wt_StringS v1 ≤ 1048576) (h2 : v2.size ≤ 1048576) : CallOK Try.prog 46 [.c (rd 0 v0.length (v0.flatMap (GLeaf.ci 0))), .c (rd 0 v1.length (v1.map ps)), .c (ps v2)] (.tup [.c (.sl 0 103 (rSetAt v0 v1 v2).1.length ((rSetAt v0 v1 v2).1.flatMap GLeaf.co)), .c (pb (rSetAt v0 v1 v2).2)]) [.c (rd 0 v0.length (v0.flatMap (GLeaf.ci 0))), .c (rd 0 v1.length (v1.map ps)), .c (ps v2)] := ok_sSetAt 0 0 v0 v1 v2 (conf_len h0).1 (conf_len h0).2 (conf_ok h0) (strs_ok h1) (by have := len_wt_StringS v1; omega) (by omega)
theorem rSetAt_ok (v0 : List GLeaf) (v1 : List ByteArray) (v2 : ByteArray) (h0 : wt_LeafS v0 ≤ 1048576) (h1 : wt_StringS v1 ≤ 1048576) (h2 : v2.size ≤ 1048576) : lens_LeafS (rSetAt v0 v1 v2).1 ∧ cn_LeafS (rSetAt v0 v1 v2).1 ≤ 1152921504606846976 := by
  refine leafs_big ?_
  unfold rSetAt
  split
  · have e := wt_filter (fun x => !clashB v1 x) id (fun x => Nat.le_refl _) (l := v0)
    rw [List.map_id] at e
    have h3 : wt_LeafS (keptL v1 v0) ≤ wt_LeafS v0 := e
    show wt_LeafS (putL v1 v2 (keptL v1 v0)) ≤ _
    rw [wt_putL]
    omega
  · exact Nat.zero_le _
theorem do_bound {v0 : List GLeaf} {v1 : List GCommand} (h0 : wt_LeafS v0 ≤ 1048576) (h1 : wt_CommandS v1 ≤ 1048576) : boundC v0 ∧ (∀ c ∈ v1, cmdOK c) ∧ v1.length ≤ 140737488351232 := by
  have hl := len_wt_CommandS v1
  refine ⟨⟨(conf_len h0).1, fun x hx => ⟨(conf_len h0).2 x hx, (conf_ok h0).2 x hx⟩⟩, fun c hc => ?_, by omega⟩
  have h2 := mem_wt_CommandS hc
  unfold GCommand.wt at h2
  have h3 := len_wt_StringS c.Path
  exact ⟨by omega, strs_ok (by omega), by omega⟩
theorem law_iDoCommands (v0 : List GLeaf) (v1 : List GCommand) (h0 : wt_LeafS v0 ≤ 1048576) (h1 : wt_CommandS v1 ≤ 1048576) : CallOK Try.prog 55 [.c (rd 0 v0.length (v0.flatMap (GLeaf.ci 0))), .c (rd 0 v1.length (v1.flatMap (GCommand.ci 0)))] (.tup [.c (.sl 0 103 (rDoCommands v0 v1).1.length ((rDoCommands v0 v1).1.flatMap GLeaf.co)), .c (pb (rDoCommands v0 v1).2)]) [.c (rd 0 v0.length (v0.flatMap (GLeaf.ci 0))), .c (rd 0 v1.length (v1.flatMap (GCommand.ci 0)))] := ok_iDoCommands 0 0 v0 v1 (do_bound h0 h1).1 (do_bound h0 h1).2.1 (do_bound h0 h1).2.2
theorem law_sDoCommands (v0 : List GLeaf) (v1 : List GCommand) (h0 : wt_LeafS v0 ≤ 1048576) (h1 : wt_CommandS v1 ≤ 1048576) : CallOK Try.prog 53 [.c (rd 0 v0.length (v0.flatMap (GLeaf.ci 0))), .c (rd 0 v1.length (v1.flatMap (GCommand.ci 0)))] (.tup [.c (.sl 0 103 (rDoCommands v0 v1).1.length ((rDoCommands v0 v1).1.flatMap GLeaf.co)), .c (pb (rDoCommands v0 v1).2)]) [.c (rd 0 v0.length (v0.flatMap (GLeaf.ci 0))), .c (rd 0 v1.length (v1.flatMap (GCommand.ci 0)))] := ok_sDoCommands 0 0 v0 v1 (do_bound h0 h1).1 (do_bound h0 h1).2.1 (do_bound h0 h1).2.2
theorem wt_step (o : List GLeaf) (c : GCommand) : wt_LeafS (doStep o c).1 ≤ wt_LeafS o + GCommand.wt c + 1 := by
  unfold doStep
  split
  · unfold rSetAt
    split
    · have e := wt_filter (fun x => !clashB c.Path x) id (fun x => Nat.le_refl _) (l := o)
      rw [List.map_id] at e
      have h3 : wt_LeafS (keptL c.Path o) ≤ wt_LeafS o := e
      show wt_LeafS (putL c.Path c.Value (keptL c.Path o)) ≤ _
      rw [wt_putL]
      unfold GCommand.wt
      omega
    · show wt_LeafS [] ≤ _
      simp [wt_LeafS, wtR]
  · split
    · unfold rDeleteAt
      split
      · have e := wt_filter (fun x => !begL c.Path x) id (fun x => Nat.le_refl _) (l := o)
        rw [List.map_id] at e
        have h3 : wt_LeafS (delL c.Path o) ≤ wt_LeafS o := e
        show wt_LeafS (delL c.Path o) ≤ _
        omega
      · show wt_LeafS [] ≤ _
        simp [wt_LeafS, wtR]
    · show wt_LeafS [] ≤ _
      simp [wt_LeafS, wtR]
theorem wt_doI {l : List GLeaf} {cs : List GCommand} : ∀ (i : Nat) (o : List GLeaf), doI l cs i = some o → wt_LeafS o ≤ wt_LeafS l + i * (wt_CommandS cs + 1)
  | 0, o, h => by cases h; omega
  | i + 1, o, h => by
    unfold doI at h
    split at h
    · cases h
    · rename_i o' ho'
      split at h
      · cases h
      · rename_i c hcs
        split at h
        · cases h
          have h1 := wt_doI i o' ho'
          have h2 := wt_step o' c
          have h3 := mem_wt_CommandS (List.mem_of_getElem? hcs)
          rw [Nat.succ_mul]
          omega
        · cases h
theorem rDoCommands_ok (v0 : List GLeaf) (v1 : List GCommand) (h0 : wt_LeafS v0 ≤ 1048576) (h1 : wt_CommandS v1 ≤ 1048576) : lens_LeafS (rDoCommands v0 v1).1 ∧ cn_LeafS (rDoCommands v0 v1).1 ≤ 1152921504606846976 := by
  refine leafs_big ?_
  unfold rDoCommands
  split
  · rename_i h
    split
    · rename_i o ho
      have h3 := wt_doI v1.length o ho
      have h4 : v1.length * (wt_CommandS v1 + 1) ≤ 80 * (1048576 + 1) := Nat.mul_le_mul h.2 (by omega)
      show wt_LeafS o ≤ _
      omega
    · exact Nat.zero_le _
  · exact Nat.zero_le _
theorem ok_eqStringS (k k' : Nat) (xs ys : List ByteArray) (ha : lens_StringS xs) (hb : lens_StringS ys) : CallOK Try.prog 27 [.c (rd k xs.length (xs.map ps)), .c (rd k' ys.length (ys.map ps))] (.c (pb (decide (xs = ys)))) [.c (rd k xs.length (xs.map ps)), .c (rd k' ys.length (ys.map ps))] := by
  obtain ⟨ha, hax⟩ := ha
  obtain ⟨hb, hbx⟩ := hb
  refine okS (fn := Try.f27) [] h0 Try.func27 (by kernel_rfl) rfl Try.ntmps27 Try.results27 (by simp) ?_
  simp
  refine brn_app (fun h => ?_) (fun h => ?_)
  · simp at h
    simp
    rintro rfl
    exact h rfl
  · simp at h
    have hl : ys.length = xs.length := by omega
    simp
    refine loopS [0, 1, 5] [] (fun n st => ∃ (i : Nat), i + n = xs.length ∧ (xs.drop i = ys.drop i ↔ xs = ys) ∧ st = ⟨slOf 26 [(0, .t (rd k xs.length (xs.map ps))), (1, .t (rd k' ys.length (ys.map ps))), (5, .t (pi i))], ofL []⟩) xs.length ?_ ?_
    · rintro Inv hI
      simp
      subst hI
      exact ⟨0, by omega, by simp, rfl⟩
    · rintro Inv hI n st ⟨i, hi, htk, rfl⟩
      refine ewr_sound (M := []) h0 ?_
      simp
      refine brn_app (fun h => ?_) (fun h => ?_)
      · simp at h
        have hib : i < ys.length := by omega
        rw [drop_step xs i h, drop_step ys i hib, List.cons.injEq] at htk
        simp
        refine drawP E0 [⟨[], allD 26, true⟩, ⟨[], allD 26, true⟩, ⟨[], allD 26, true⟩, ⟨[], allD 26, true⟩, ⟨[], allD 26, true⟩, ⟨[], allD 26, true⟩, ⟨[], allD 26, true⟩, ⟨[], allD 26, true⟩, ⟨[], allD 26, true⟩] h0 hm (E0_ok _) (by kernel_rfl) (by kernel_rfl) ?_
        simp [h, hib]
        refine brn_app (fun h2 => ?_) (fun h2 => ?_)
        · simp at h2
          simp
          intro he
          exact h2 (htk.2 he).1
        · simp at h2
          simp
          subst hI
          exact Less_mk (n - 1) (by omega) ⟨i + 1, by omega, ⟨fun h4 => htk.1 ⟨h2, h4⟩, fun h4 => (htk.2 h4).2⟩, by rw [wrNext i (by omega)]⟩
      · simp at h
        rw [List.drop_of_length_le (by omega), List.drop_of_length_le (by omega)] at htk
        simp
        exact htk.1 rfl
theorem ok_eqCommand (k k' : Nat) (x y : GCommand) (ha : GCommand.lens x) (hb : GCommand.lens y) : CallOK Try.prog 19 [.agg (GCommand.ci k x), .agg (GCommand.ci k' y)] (.c (pb (decide (x = y)))) [.agg (GCommand.ci k x), .agg (GCommand.ci k' y)] := by
  simp only [GCommand.lens] at ha hb
  refine okS (fn := Try.f19) [] h0 Try.func19 (by kernel_rfl) rfl Try.ntmps19 Try.results19 (by simp) ?_
  simp
  refine brn_app (fun a0 => ?_) (fun a0 => ?_)
  · simp at a0
    simp
    rintro rfl
    exact a0 rfl
  · simp at a0
    simp
    refine Inv_intro (ok_eqStringS k k' x.Path y.Path (ha) (hb)) ?_
    simp
    refine brn_app (fun a1 => ?_) (fun a1 => ?_)
    · simp at a1
      simp
      rintro rfl
      exact a1 rfl
    · simp at a1
      simp
      refine brn_app (fun a2 => ?_) (fun a2 => ?_)
      · simp at a2
        simp
        rintro rfl
        exact a2 rfl
      · simp at a2
        simp
        cases x
        cases y
        simp_all
theorem ok_eqCommandS (k k' : Nat) (xs ys : List GCommand) (ha : lens_CommandS xs) (hb : lens_CommandS ys) : CallOK Try.prog 35 [.c (rd k xs.length (xs.flatMap (GCommand.ci k))), .c (rd k' ys.length (ys.flatMap (GCommand.ci k')))] (.c (pb (decide (xs = ys)))) [.c (rd k xs.length (xs.flatMap (GCommand.ci k))), .c (rd k' ys.length (ys.flatMap (GCommand.ci k')))] := by
  obtain ⟨ha, hax⟩ := ha
  obtain ⟨hb, hbx⟩ := hb
  refine okS (fn := Try.f35) [] h0 Try.func35 (by kernel_rfl) rfl Try.ntmps35 Try.results35 (by simp) ?_
  simp
  refine brn_app (fun h => ?_) (fun h => ?_)
  · simp at h
    simp
    rintro rfl
    exact h rfl
  · simp at h
    have hl : ys.length = xs.length := by omega
    simp
    refine loopS [0, 1, 5] [] (fun n st => ∃ (i : Nat), i + n = xs.length ∧ (xs.drop i = ys.drop i ↔ xs = ys) ∧ st = ⟨slOf 27 [(0, .t (rd k xs.length (xs.flatMap (GCommand.ci k)))), (1, .t (rd k' ys.length (ys.flatMap (GCommand.ci k')))), (5, .t (pi i))], ofL []⟩) xs.length ?_ ?_
    · rintro Inv hI
      simp
      subst hI
      exact ⟨0, by omega, by simp, rfl⟩
    · rintro Inv hI n st ⟨i, hi, htk, rfl⟩
      refine ewr_sound (M := []) h0 ?_
      simp
      refine brn_app (fun h => ?_) (fun h => ?_)
      · simp at h
        have hib : i < ys.length := by omega
        rw [drop_step xs i h, drop_step ys i hib, List.cons.injEq] at htk
        simp
        have hd := fm_drop (GCommand.ci k) 3 (fun _ => rfl) xs i h
        have hd' := fm_drop (GCommand.ci k') 3 (fun _ => rfl) ys i hib
        have hlen := fm_len (GCommand.ci k) 3 (fun _ => rfl) xs
        have hlen' := fm_len (GCommand.ci k') 3 (fun _ => rfl) ys
        have hlt : i * 3 < xs.length * 3 := by omega
        have hlt' : i * 3 < ys.length * 3 := by omega
        have hE := ok_eqCommand k k' xs[i] ys[i] (hax _ (List.getElem_mem h)) (hbx _ (List.getElem_mem hib))
        refine drawP (tabEnv [] [(19, [.agg (GCommand.ci k xs[i]), .agg (GCommand.ci k' ys[i])], .c (pb (decide (xs[i] = ys[i]))), [.agg (GCommand.ci k xs[i]), .agg (GCommand.ci k' ys[i])])]) [⟨[], allD 27, true⟩, ⟨[], allD 27, true⟩, ⟨[], allD 27, true⟩, ⟨[], allD 27, true⟩, ⟨[], allD 27, true⟩, ⟨[], allD 27, true⟩, ⟨[], allD 27, true⟩, ⟨[], allD 27, true⟩, ⟨[], allD 27, false⟩, ⟨[], allD 27, true⟩] h0 hm (tabEnv_ok (by intro x hx; simp only [List.mem_singleton] at hx; subst hx; exact hE)) (by kernel_rfl) (by kernel_rfl) ?_
        simp [h, hib, hd, hd', hlen, hlen', hlt, hlt']
        refine brn_app (fun h2 => ?_) (fun h2 => ?_)
        · simp at h2
          simp
          intro he
          exact h2 (htk.2 he).1
        · simp at h2
          simp
          subst hI
          exact Less_mk (n - 1) (by omega) ⟨i + 1, by omega, ⟨fun h4 => htk.1 ⟨h2, h4⟩, fun h4 => (htk.2 h4).2⟩, by rw [wrNext i (by omega)]⟩
      · simp at h
        rw [List.drop_of_length_le (by omega), List.drop_of_length_le (by omega)] at htk
        simp
        exact htk.1 rfl
theorem ok_eqLeaf (k k' : Nat) (x y : GLeaf) (ha : GLeaf.lens x) (hb : GLeaf.lens y) : CallOK Try.prog 84 [.agg (GLeaf.ci k x), .agg (GLeaf.ci k' y)] (.c (pb (decide (x = y)))) [.agg (GLeaf.ci k x), .agg (GLeaf.ci k' y)] := by
  simp only [GLeaf.lens] at ha hb
  refine okS (fn := Try.f84) [] h0 Try.func84 (by kernel_rfl) rfl Try.ntmps84 Try.results84 (by simp) ?_
  simp
  refine Inv_intro (ok_eqStringS k k' x.Path y.Path (ha) (hb)) ?_
  simp
  refine brn_app (fun a0 => ?_) (fun a0 => ?_)
  · simp at a0
    simp
    rintro rfl
    exact a0 rfl
  · simp at a0
    simp
    refine brn_app (fun a1 => ?_) (fun a1 => ?_)
    · simp at a1
      simp
      rintro rfl
      exact a1 rfl
    · simp at a1
      simp
      cases x
      cases y
      simp_all
theorem ok_eqLeafS (k k' : Nat) (xs ys : List GLeaf) (ha : lens_LeafS xs) (hb : lens_LeafS ys) : CallOK Try.prog 26 [.c (rd k xs.length (xs.flatMap (GLeaf.ci k))), .c (rd k' ys.length (ys.flatMap (GLeaf.ci k')))] (.c (pb (decide (xs = ys)))) [.c (rd k xs.length (xs.flatMap (GLeaf.ci k))), .c (rd k' ys.length (ys.flatMap (GLeaf.ci k')))] := by
  obtain ⟨ha, hax⟩ := ha
  obtain ⟨hb, hbx⟩ := hb
  refine okS (fn := Try.f26) [] h0 Try.func26 (by kernel_rfl) rfl Try.ntmps26 Try.results26 (by simp) ?_
  simp
  refine brn_app (fun h => ?_) (fun h => ?_)
  · simp at h
    simp
    rintro rfl
    exact h rfl
  · simp at h
    have hl : ys.length = xs.length := by omega
    simp
    refine loopS [0, 1, 5] [] (fun n st => ∃ (i : Nat), i + n = xs.length ∧ (xs.drop i = ys.drop i ↔ xs = ys) ∧ st = ⟨slOf 27 [(0, .t (rd k xs.length (xs.flatMap (GLeaf.ci k)))), (1, .t (rd k' ys.length (ys.flatMap (GLeaf.ci k')))), (5, .t (pi i))], ofL []⟩) xs.length ?_ ?_
    · rintro Inv hI
      simp
      subst hI
      exact ⟨0, by omega, by simp, rfl⟩
    · rintro Inv hI n st ⟨i, hi, htk, rfl⟩
      refine ewr_sound (M := []) h0 ?_
      simp
      refine brn_app (fun h => ?_) (fun h => ?_)
      · simp at h
        have hib : i < ys.length := by omega
        rw [drop_step xs i h, drop_step ys i hib, List.cons.injEq] at htk
        simp
        have hd := fm_drop (GLeaf.ci k) 2 (fun _ => rfl) xs i h
        have hd' := fm_drop (GLeaf.ci k') 2 (fun _ => rfl) ys i hib
        have hlen := fm_len (GLeaf.ci k) 2 (fun _ => rfl) xs
        have hlen' := fm_len (GLeaf.ci k') 2 (fun _ => rfl) ys
        have hlt : i * 2 < xs.length * 2 := by omega
        have hlt' : i * 2 < ys.length * 2 := by omega
        have hE := ok_eqLeaf k k' xs[i] ys[i] (hax _ (List.getElem_mem h)) (hbx _ (List.getElem_mem hib))
        refine drawP (tabEnv [] [(84, [.agg (GLeaf.ci k xs[i]), .agg (GLeaf.ci k' ys[i])], .c (pb (decide (xs[i] = ys[i]))), [.agg (GLeaf.ci k xs[i]), .agg (GLeaf.ci k' ys[i])])]) [⟨[], allD 27, true⟩, ⟨[], allD 27, true⟩, ⟨[], allD 27, true⟩, ⟨[], allD 27, true⟩, ⟨[], allD 27, true⟩, ⟨[], allD 27, true⟩, ⟨[], allD 27, true⟩, ⟨[], allD 27, true⟩, ⟨[], allD 27, false⟩, ⟨[], allD 27, true⟩] h0 hm (tabEnv_ok (by intro x hx; simp only [List.mem_singleton] at hx; subst hx; exact hE)) (by kernel_rfl) (by kernel_rfl) ?_
        simp [h, hib, hd, hd', hlen, hlen', hlt, hlt']
        refine brn_app (fun h2 => ?_) (fun h2 => ?_)
        · simp at h2
          simp
          intro he
          exact h2 (htk.2 he).1
        · simp at h2
          simp
          subst hI
          exact Less_mk (n - 1) (by omega) ⟨i + 1, by omega, ⟨fun h4 => htk.1 ⟨h2, h4⟩, fun h4 => (htk.2 h4).2⟩, by rw [wrNext i (by omega)]⟩
      · simp at h
        rw [List.drop_of_length_le (by omega), List.drop_of_length_le (by omega)] at htk
        simp
        exact htk.1 rfl
theorem ok_heldStringS (q : Nat) (xs : List ByteArray) (k : Int) (hls : lens_StringS xs) (hk : 0 < k) (hk2 : k + cn_StringS xs ≤ 2305843009213693952) : CallOK Try.prog 86 [.c (rd q xs.length ((mk_StringS xs k).1.map ps)), .c (pi k)] (.c (pi (mk_StringS xs k).2)) [.c (rd q xs.length ((mk_StringS xs k).1.map ps)), .c (pi k)] := by
  obtain ⟨hl0, hlx⟩ := hls
  unfold mk_StringS
  unfold cn_StringS at hk2
  have hyl := mkR_len (fun (_ : ByteArray) k => (mtext k, k + 1)) xs k
  have hyi : ∀ (i : Nat) (h : i < xs.length) (h' : i < (mkR (fun (_ : ByteArray) k => (mtext k, k + 1)) xs k).1.length), (mkR (fun (_ : ByteArray) k => (mtext k, k + 1)) xs k).1[i] = ((fun (_ : ByteArray) k => (mtext k, k + 1)) xs[i] (mkR (fun (_ : ByteArray) k => (mtext k, k + 1)) (xs.take i) k).2).1 := fun i h _ => mkR_get (fun (_ : ByteArray) k => (mtext k, k + 1)) xs i h k
  have hend : (mkR (fun (_ : ByteArray) k => (mtext k, k + 1)) xs k).2 = k + cnR (fun (_ : ByteArray) => 1) xs := mkR_snd (f := (fun (_ : ByteArray) k => (mtext k, k + 1))) (g := (fun (_ : ByteArray) => 1)) (fun _ _ => rfl) xs k
  generalize hY : (mkR (fun (_ : ByteArray) k => (mtext k, k + 1)) xs k).1 = ys at hyl hyi ⊢
  refine okS (fn := Try.f86) [] h0 Try.func86 (by kernel_rfl) rfl Try.ntmps86 Try.results86 (by simp) ?_
  simp
  refine loopS [0, 1, 5] [] (fun n st => ∃ (i : Nat), i + n = xs.length ∧ st = ⟨slOf 22 [(0, .t (rd q xs.length (ys.map ps))), (1, .t (pi (mkR (fun (_ : ByteArray) k => (mtext k, k + 1)) (xs.take i) k).2)), (5, .t (pi i))], ofL []⟩) xs.length ?_ ?_
  · rintro Inv hI
    simp
    subst hI
    exact ⟨0, by omega, rfl⟩
  · rintro Inv hI n st ⟨i, hi, rfl⟩
    have hKb := mkR_snd (f := (fun (_ : ByteArray) k => (mtext k, k + 1))) (g := (fun (_ : ByteArray) => 1)) (fun _ _ => rfl) (xs.take i) k
    have hyK : ∀ (h : i < xs.length), ys[i]'(by omega) = ((fun (_ : ByteArray) k => (mtext k, k + 1)) xs[i] (mkR (fun (_ : ByteArray) k => (mtext k, k + 1)) (xs.take i) k).2).1 := fun h => hyi i h (by omega)
    generalize hK : (mkR (fun (_ : ByteArray) k => (mtext k, k + 1)) (xs.take i) k).2 = K at hKb hyK ⊢
    refine ewr_sound (M := []) h0 ?_
    simp
    refine brn_app (fun h => ?_) (fun h => ?_)
    · simp at h
      obtain ⟨m, rfl⟩ : ∃ m, n = m + 1 := ⟨n - 1, by omega⟩
      have hcn := cnR_take (fun (_ : ByteArray) => 1) xs i h
      have hb : i < ys.length := by omega
      have ey := hyK h
      have hw0 : IntKind.wrap .i64 (K + 1) = K + 1 := wrap64 (by omega) (by omega)
      simp [h, hb, ey, hw0]
      refine drawP (tabEnv [] _) [⟨[], allD 22, true⟩, ⟨[], allD 22, true⟩, ⟨[], allD 22, true⟩, ⟨[], allD 22, true⟩, ⟨[], allD 22, true⟩, ⟨[], allD 22, false⟩, ⟨[], allD 22, true⟩] h0 hm (tabEnv_ok (tab_cons (ok_markText (K) (by omega)) tab_nil)) (by kernel_rfl) (by kernel_rfl) ?_
      simp [h, hb, ey, hw0]
      have e4 := mkR_take (fun (_ : ByteArray) k => (mtext k, k + 1)) xs i h k
      rw [hK] at e4
      subst hI
      refine Less_mk m (by omega) ⟨i + 1, by omega, ?_⟩
      rw [wrNext i (by omega), e4]
      all_goals rfl
    · simp at h
      have hx : xs.take i = xs := List.take_of_length_le (by omega)
      rw [hx] at hK
      simp [hK]
theorem ok_heldLeafS (q : Nat) (xs : List GLeaf) (k : Int) (hls : lens_LeafS xs) (hk : 0 < k) (hk2 : k + cn_LeafS xs ≤ 2305843009213693952) : CallOK Try.prog 30 [.c (rd q xs.length ((mk_LeafS xs k).1.flatMap (GLeaf.ci q))), .c (pi k)] (.c (pi (mk_LeafS xs k).2)) [.c (rd q xs.length ((mk_LeafS xs k).1.flatMap (GLeaf.ci q))), .c (pi k)] := by
  obtain ⟨hl0, hlx⟩ := hls
  unfold mk_LeafS
  unfold cn_LeafS at hk2
  have hyl := mkR_len GLeaf.mark xs k
  have hyi : ∀ (i : Nat) (h : i < xs.length) (h' : i < (mkR GLeaf.mark xs k).1.length), (mkR GLeaf.mark xs k).1[i] = (GLeaf.mark xs[i] (mkR GLeaf.mark (xs.take i) k).2).1 := fun i h _ => mkR_get GLeaf.mark xs i h k
  have hend : (mkR GLeaf.mark xs k).2 = k + cnR GLeaf.cn xs := mkR_snd (f := GLeaf.mark) (g := GLeaf.cn) (GLeaf.mark_snd) xs k
  generalize hY : (mkR GLeaf.mark xs k).1 = ys at hyl hyi ⊢
  refine okS (fn := Try.f30) [] h0 Try.func30 (by kernel_rfl) rfl Try.ntmps30 Try.results30 (by simp) ?_
  simp
  refine loopS [0, 1, 5] [] (fun n st => ∃ (i : Nat), i + n = xs.length ∧ st = ⟨slOf 32 [(0, .t (rd q xs.length (ys.flatMap (GLeaf.ci q)))), (1, .t (pi (mkR GLeaf.mark (xs.take i) k).2)), (5, .t (pi i))], ofL []⟩) xs.length ?_ ?_
  · rintro Inv hI
    simp
    subst hI
    exact ⟨0, by omega, rfl⟩
  · rintro Inv hI n st ⟨i, hi, rfl⟩
    have hKb := mkR_snd (f := GLeaf.mark) (g := GLeaf.cn) (GLeaf.mark_snd) (xs.take i) k
    have hyK : ∀ (h : i < xs.length), ys[i]'(by omega) = (GLeaf.mark xs[i] (mkR GLeaf.mark (xs.take i) k).2).1 := fun h => hyi i h (by omega)
    generalize hK : (mkR GLeaf.mark (xs.take i) k).2 = K at hKb hyK ⊢
    refine ewr_sound (M := []) h0 ?_
    simp
    refine brn_app (fun h => ?_) (fun h => ?_)
    · simp at h
      obtain ⟨m, rfl⟩ : ∃ m, n = m + 1 := ⟨n - 1, by omega⟩
      have hcn := cnR_take GLeaf.cn xs i h
      have hb : i < ys.length := by omega
      have ey := hyK h
      have hd := fm_drop (GLeaf.ci q) 2 (fun _ => rfl) ys i hb
      have hlen := fm_len (GLeaf.ci q) 2 (fun _ => rfl) ys
      have hlt : i * 2 < ys.length * 2 := by omega
      rw [ey] at hd
      simp only [GLeaf.cn] at hcn
      have hxl := hlx _ (List.getElem_mem h)
      have hs0 := mk_StringS_snd xs[i].Path K
      have hn0 : ¬ (mk_StringS xs[i].Path K).2 < 0 := by omega
      have hw1 : IntKind.wrap .i64 ((mk_StringS xs[i].Path K).2 + 1) = (mk_StringS xs[i].Path K).2 + 1 := wrap64 (by omega) (by omega)
      simp [h, hb, hd, hlen, hlt, GLeaf.mark, hn0, hw1]
      refine Inv_intro (ok_heldStringS q xs[i].Path (K) hxl (by omega) (by omega)) ?_
      simp [h, hb, hd, hlen, hlt, GLeaf.mark, hn0, hw1]
      refine drawP (tabEnv [] _) [⟨[], allD 32, true⟩, ⟨[], allD 32, true⟩, ⟨[], allD 32, true⟩, ⟨[], allD 32, true⟩, ⟨[], allD 32, true⟩, ⟨[], allD 32, true⟩, ⟨[], allD 32, false⟩, ⟨[], allD 32, true⟩] h0 hm (tabEnv_ok (tab_cons (ok_markText ((mk_StringS xs[i].Path K).2) (by omega)) tab_nil)) (by kernel_rfl) (by kernel_rfl) ?_
      simp [h, hb, hd, hlen, hlt, GLeaf.mark, hn0, hw1]
      have e4 := mkR_take GLeaf.mark xs i h k
      rw [hK] at e4
      subst hI
      refine Less_mk m (by omega) ⟨i + 1, by omega, ?_⟩
      rw [wrNext i (by omega), e4]
      all_goals rfl
    · simp at h
      have hx : xs.take i = xs := List.take_of_length_le (by omega)
      rw [hx] at hK
      simp [hK]
theorem ok_markStringS (xs : List ByteArray) (k : Int) (hls : lens_StringS xs) (hk : 0 < k) (hk2 : k + cn_StringS xs ≤ 2305843009213693952) : CallOK Try.prog 29 [.c (.sl 0 9 xs.length (xs.map ps)), .c (pi k)] (.c (pi (mk_StringS xs k).2)) [.c (.sl 0 9 xs.length ((mk_StringS xs k).1.map ps)), .c (pi k)] := by
  obtain ⟨hl0, hlx⟩ := hls
  unfold mk_StringS
  unfold cn_StringS at hk2
  refine okS (fn := Try.f29) [] h0 Try.func29 (by kernel_rfl) rfl Try.ntmps29 Try.results29 (by simp) ?_
  simp
  refine loopS [0, 1, 5] [] (fun n st => ∃ (i : Nat), i + n = xs.length ∧ st = ⟨slOf 20 [(0, .ref ⟨.arg 0 0, []⟩ 0 xs.length), (1, .t (pi (mkR (fun (_ : ByteArray) k => (mtext k, k + 1)) (xs.take i) k).2)), (5, .t (pi i))], ofL [(.arg 0 0, .sl 0 9 xs.length (((mkR (fun (_ : ByteArray) k => (mtext k, k + 1)) (xs.take i) k).1.map ps) ++ ((xs.drop i).map ps)))]⟩) xs.length ?_ ?_
  · rintro Inv hI
    simp
    subst hI
    exact ⟨0, by omega, rfl⟩
  · rintro Inv hI n st ⟨i, hi, rfl⟩
    have hAl : (((mkR (fun (_ : ByteArray) k => (mtext k, k + 1)) (xs.take i) k).1.map ps)).length = i * 1 := by rw [List.length_map, mkR_len, len_take xs i (by omega), Nat.mul_one]
    have hKb := mkR_snd (f := (fun (_ : ByteArray) k => (mtext k, k + 1))) (g := (fun (_ : ByteArray) => 1)) (fun _ _ => rfl) (xs.take i) k
    generalize hA : ((mkR (fun (_ : ByteArray) k => (mtext k, k + 1)) (xs.take i) k).1.map ps) = A at hAl ⊢
    generalize hK : (mkR (fun (_ : ByteArray) k => (mtext k, k + 1)) (xs.take i) k).2 = K at hKb ⊢
    generalize hB : ((xs.drop i).map ps) = B
    refine ewr_sound (M := []) h0 ?_
    simp
    refine brn_app (fun h => ?_) (fun h => ?_)
    · simp at h
      obtain ⟨m, rfl⟩ : ∃ m, n = m + 1 := ⟨n - 1, by omega⟩
      have hcn := cnR_take (fun (_ : ByteArray) => 1) xs i h
      have hBe : B = [ps xs[i]] ++ ((xs.drop (i + 1)).map ps) := by rw [← hB, drop_step xs i h]; rfl
      generalize hC : ((xs.drop (i + 1)).map ps) = D at hBe
      subst hBe
      rw [Nat.mul_one] at hAl
      have hw0 : IntKind.wrap .i64 (K + 1) = K + 1 := wrap64 (by omega) (by omega)
      simp [h, hAl, hw0]
      refine Inv_intro (ok_markText (K) (by omega)) ?_
      simp [h, hAl, hw0]
      have e4 := mkR_take (fun (_ : ByteArray) k => (mtext k, k + 1)) xs i h k
      rw [hK] at e4
      have e3 : ((mkR (fun (_ : ByteArray) k => (mtext k, k + 1)) (xs.take (i + 1)) k).1.map ps) = A ++ [ps ((fun (_ : ByteArray) k => (mtext k, k + 1)) xs[i] K).1] := by rw [e4, List.map_append, hA]; rfl
      subst hI
      refine Less_mk m (by omega) ⟨i + 1, by omega, ?_⟩
      rw [wrNext i (by omega), e3, e4, hC, List.append_assoc]
      all_goals rfl
    · simp at h
      have hx : xs.take i = xs := List.take_of_length_le (by omega)
      have hBn : B = [] := by rw [← hB, List.drop_of_length_le (by omega)]; rfl
      subst hBn
      rw [hx] at hA hK
      subst hK
      subst hA
      simp
end Go.V
