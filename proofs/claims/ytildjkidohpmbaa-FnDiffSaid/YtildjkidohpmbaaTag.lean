/- What functions of the seat's program do, each proved of its code, under the bounds that its theorem names. -/
import Derived.Test.YtildjkidohpmbaaTaf
import Derived.Shelf.Strings.OnBuilder
set_option linter.all false
namespace Go.V
open Go.Proofs
set_option maxHeartbeats 1000000
set_option maxRecDepth 10000
set_option linter.unusedSimpArgs false
set_option linter.unusedVariables false
theorem keptL_len (p : List ByteArray) (l : List GLeaf) : (keptL p l).length ≤ l.length := List.length_filter_le _ _
theorem keptL_snoc (p : List ByteArray) (l : List GLeaf) (i : Nat) (h : i < l.length) : keptL p (l.take (i + 1)) = keptL p (l.take i) ++ (if clashB p l[i] = true then [] else [l[i]]) := by
  unfold keptL
  rw [take_step l i h, List.filter_append]
  by_cases hb : clashB p l[i] = true <;> simp [hb]
theorem ok_sSetAt (k k' : Nat) (l : List GLeaf) (p : List ByteArray) (v : ByteArray) (hl : l.length ≤ 1048576) (hx : ∀ x ∈ l, x.Path.length ≤ 1048576) (hlo : confOK l) (hp : strsOK p) (hp1 : p.length ≤ 1048576) (hv : v.size ≤ 140737488355328) : CallOK Try.prog 77 [.c (rd k l.length (l.flatMap (GLeaf.ci k))), .c (rd k' p.length (p.map ps)), .c (ps v)] (.tup [.c (.sl 0 103 (rSetAt l p v).1.length ((rSetAt l p v).1.flatMap GLeaf.co)), .c (pb (rSetAt l p v).2)]) [.c (rd k l.length (l.flatMap (GLeaf.ci k))), .c (rd k' p.length (p.map ps)), .c (ps v)] := by
  refine okS (fn := Try.f77) [(109, [2,2])] h0 Try.func77 (by kernel_rfl) rfl Try.ntmps77 Try.results77 (by simp) ?_
  simp
  refine Inv_intro (ok_sGoodConfig k l hlo) ?_
  simp
  cases c1 : goodC l with
  | false => simp [rSetAt, c1]
  | true =>
    simp
    refine Inv_intro (ok_l15Path k' p hp.1 hp.2) ?_
    simp
    cases c2 : isP p with
    | false => simp [rSetAt, c2]
    | true =>
      simp
      refine Inv_intro (ok_l15Word v hv) ?_
      simp
      cases c3 : isW v with
      | false => simp [rSetAt, c3]
      | true =>
        simp
        refine Inv_intro (ok_l15Own k l hl hx) ?_
        simp
        refine ewp_nil 8 (.op 8 3 0) 103 (by decide) rfl rfl rfl ?_
        refine loopS [1, 2, 8, 25, 26, 27] [.op 8 3 0, .op 4 1 0] (fun n st => ∃ (i : Nat) (C : List PT), i + n = l.length ∧ C.length = l.length * 2 ∧ C.drop (i * 2) = (l.drop i).flatMap GLeaf.co ∧ st = ⟨slOf 59 [(1, .t (rd k' p.length (p.map ps))), (2, .t (ps v)), (8, .ref ⟨.op 8 3 0, []⟩ 0 (keptL p (l.take i)).length), (25, .ref ⟨.op 4 1 0, []⟩ 0 l.length), (26, .t (pi l.length)), (27, .t (pi i))], ofL [(.op 8 3 0, .sl 0 103 (keptL p (l.take i)).length ((keptL p (l.take i)).flatMap GLeaf.co)), (.op 4 1 0, .sl 0 103 l.length C)]⟩) l.length ?_ ?_
        · rintro Inv hI
          simp
          subst hI
          exact ⟨0, l.flatMap GLeaf.co, by omega, fm_len GLeaf.co 2 (fun _ => rfl) l, rfl, rfl⟩
        · rintro Inv hI n st ⟨i, C, hi, hCl, hCd0, rfl⟩
          have hO : (keptL p (l.take i)).length ≤ i := Nat.le_trans (keptL_len _ _) (by simp; omega)
          have hS := keptL_snoc p l i
          have hfin : i = l.length → keptL p (l.take i) = keptL p l := by rintro rfl; rw [List.take_length]
          generalize hOe : keptL p (l.take i) = O at hO hS hfin ⊢
          have hA := fm_len GLeaf.co 2 (fun _ => rfl) O
          have hAm : ∀ y, (O ++ [y]).flatMap GLeaf.co = O.flatMap GLeaf.co ++ GLeaf.co y := fun y => by simp
          refine ewr_sound (M := [(109, [2, 2])]) h0 ?_
          simp
          refine brn_app (fun a => ?_) (fun a => ?_)
          · simp at a
            have hS' := hS a
            have hCd : C.drop (i * 2) = .sl 0 9 l[i].Path.length (l[i].Path.map ps) :: ps l[i].Value :: (l.drop (i + 1)).flatMap GLeaf.co := by
              rw [hCd0, drop_step _ i a, List.flatMap_cons]
              rfl
            have hCg : ∀ h : i * 2 < C.length, C[i * 2] = .sl 0 9 l[i].Path.length (l[i].Path.map ps) := by
              intro h
              rw [List.drop_eq_getElem_cons h] at hCd
              exact (List.cons.inj hCd).1
            have hCn : C.drop ((i + 1) * 2) = (l.drop (i + 1)).flatMap GLeaf.co := by
              have : (i + 1) * 2 = i * 2 + 2 := by omega
              rw [this, ← List.drop_drop, hCd]
              rfl
            have hb : i * 2 + 2 ≤ l.length * 2 := by omega
            have hp1 := hx _ (List.getElem_mem a)
            simp [a, hCl, hCd, hCg, hb]
            refine Inv_intro (ok_l15Begins 0 k' l[i].Path p (by omega) hp.1) ?_
            cases b1 : begP l[i].Path p with
            | true =>
              have hb : clashB p l[i] = true := by simp [clashB, b1]
              rw [if_pos hb, List.append_nil] at hS'
              simp
              subst hI
              refine Less_mk (n - 1) (by omega) ⟨i + 1, C.set (i * 2) .hole, by omega, by rw [List.length_set]; exact hCl, by rw [set_drop C _ _ _ (by omega), hCn], ?_⟩
              rw [hS', wrNext i (by omega)]
            | false =>
              simp
              refine Inv_intro (ok_l15Begins k' 0 p l[i].Path hp.1 (by omega)) ?_
              cases b2 : begP p l[i].Path with
              | true =>
                have hb : clashB p l[i] = true := by simp [clashB, b2]
                rw [if_pos hb, List.append_nil] at hS'
                simp
                subst hI
                refine Less_mk (n - 1) (by omega) ⟨i + 1, C.set (i * 2) .hole, by omega, by rw [List.length_set]; exact hCl, by rw [set_drop C _ _ _ (by omega), hCn], ?_⟩
                rw [hS', wrNext i (by omega)]
              | false =>
                have hb : ¬ clashB p l[i] = true := by simp [clashB, b1, b2]
                rw [if_neg hb] at hS'
                generalize hAe : O.flatMap GLeaf.co = A at hA hAm ⊢
                have ht : A.take (O.length * 2) = A := List.take_of_length_le (by omega)
                have hb1 : (O.length + 1) * 40 ≤ 140737488355328 := by omega
                have hb2 : O.length + 1 ≤ 9223372036854775807 := by omega
                simp [hA, ht, hb1, hb2]
                subst hI
                refine Less_mk (n - 1) (by omega) ⟨i + 1, C.set (i * 2) .hole, by omega, by rw [List.length_set]; exact hCl, by rw [set_drop C _ _ _ (by omega), hCn], ?_⟩
                rw [hS', wrNext i (by omega), hAm, List.length_append]
                rfl
          · simp at a
            have hin : i = l.length := by omega
            have hfin := hfin hin
            have hOl : O.length ≤ l.length := by omega
            subst hfin
            have ht : ((keptL p l).flatMap GLeaf.co).take ((keptL p l).length * 2) = (keptL p l).flatMap GLeaf.co := List.take_of_length_le (by omega)
            have hpe : ¬ p = [] := by
              rintro rfl
              simp [isP] at c2
            have hq1 : p.length * 16 ≤ 140737488355328 := by omega
            have hq2 : p.length ≤ 9223372036854775807 := by omega
            have hput := ok_l15Put (keptL p l) ⟨p, v⟩ (kept_conf hlo) (by omega) hp.1
            have hsl : putL p v (keptL p l) = setC p v l := rfl
            rw [hsl] at hput
            have hso := set_conf (p := p) (v := v) hlo hl hp hv
            simp [hpe, hq1, hq2, hA, ht]
            refine Inv_intro hput ?_
            simp
            refine Inv_intro (ok_sGoodConfig 0 (setC p v l) hso) ?_
            simp
            cases c4 : goodC (setC p v l) with
            | false => simp [rSetAt, c4]
            | true =>
              have er : rSetAt l p v = (setC p v l, true) := by simp [rSetAt, c1, c2, c3, c4]
              rw [er]
              simp
theorem ok_sDoCommands (k k' : Nat) (l : List GLeaf) (cs : List GCommand) (hl : boundC l) (hc : ∀ c ∈ cs, cmdOK c) (hcl : cs.length ≤ 140737488351232) : CallOK Try.prog 40 [.c (rd k l.length (l.flatMap (GLeaf.ci k))), .c (rd k' cs.length (cs.flatMap (GCommand.ci k')))] (.tup [.c (.sl 0 103 (rDoCommands l cs).1.length ((rDoCommands l cs).1.flatMap GLeaf.co)), .c (pb (rDoCommands l cs).2)]) [.c (rd k l.length (l.flatMap (GLeaf.ci k))), .c (rd k' cs.length (cs.flatMap (GCommand.ci k')))] := by
  refine okS (fn := Try.f40) [] h0 Try.func40 (by kernel_rfl) rfl Try.ntmps40 Try.results40 (by simp) ?_
  simp
  refine Inv_intro (ok_sGoodConfig k l (boundC_conf hl)) ?_
  simp
  cases c1 : goodC l with
  | false => simp [rDoCommands, c1]
  | true =>
    simp
    refine brn_app (fun a => ?_) (fun a => ?_)
    · simp at a
      have h : ¬ cs.length ≤ 80 := by omega
      simp [rDoCommands, h]
    · simp at a
      have h80 : cs.length ≤ 80 := by omega
      have er : rDoCommands l cs = match doI l cs cs.length with
          | some o => (o, true)
          | none => ([], false) := by
        unfold rDoCommands
        rw [if_pos ⟨c1, h80⟩]
        all_goals (cases doI l cs cs.length <;> rfl)
      simp
      refine Inv_intro (ok_l15Own k l hl.1 (fun x hx => (hl.2 x hx).1)) ?_
      simp
      refine loopW [6, 20, 21, 22] [.op 9 5 0, .op 11 3 0, .op 3 1 0] [.op 3 1 0] (fun m st => ∃ (i : Nat) (o : List GLeaf), i + m = cs.length ∧ doI l cs i = some o ∧ st = ⟨slOf 53 [(6, .ref ⟨.op 3 1 0, []⟩ 0 o.length), (20, .t (rd k' cs.length (cs.flatMap (GCommand.ci k')))), (21, .t (pi cs.length)), (22, .t (pi i))], ofL [(.op 3 1 0, .sl 0 103 o.length (o.flatMap GLeaf.co))]⟩) cs.length ?_ ?_
      · rintro Inv hI
        simp
        subst hI
        exact ⟨0, l, by omega, rfl, rfl⟩
      · rintro Inv hI m st ⟨i, o, hi, ho, rfl⟩
        refine ewr_sound (M := []) h0 ?_
        simp
        refine brn_app (fun b => ?_) (fun b => ?_)
        · simp at b
          have hb := doI_bound hl hc i o ho
          have hcm := hc _ (List.getElem_mem b)
          have hbs := bound_step hb hcm
          have hnext : doI l cs (i + 1) = if (doStep o cs[i]).2 = true then some (doStep o cs[i]).1 else none := by
            simp only [doI, ho, List.getElem?_eq_getElem b]
          have hd := fm_drop (GCommand.ci k') 3 (fun _ => rfl) cs i b
          have hlen := fm_len (GCommand.ci k') 3 (fun _ => rfl) cs
          have hlt : i * 3 < cs.length * 3 := by omega
          simp [b, hd, hlen, hlt]
          have fails : (doStep o cs[i]).2 = false → rDoCommands l cs = ([], false) := by
            intro h
            rw [h] at hnext
            rw [er, doI_none l cs (i := i + 1) hnext cs.length (by omega)]
          cases hs : cs[i].Set with
          | true =>
            have e : doStep o cs[i] = rSetAt o cs[i].Path cs[i].Value := by simp [doStep, hs]
            simp
            refine Inv_intro (ok_sSetAt 0 k' o cs[i].Path cs[i].Value hb.1 (fun x hx => (hb.2 x hx).1) (boundC_conf hb) hcm.2.1 hcm.1 hcm.2.2) ?_
            rw [e] at hnext fails hbs
            generalize rSetAt o cs[i].Path cs[i].Value = R at *
            obtain ⟨R1, R2⟩ := R
            cases R2 with
            | false =>
              have := fails rfl
              rw [this]
              simp
            | true =>
              simp
              refine LessW_mk (m - 1) (.op 9 5 0) (.op 3 1 0) (by omega) rfl rfl ?_
              simp
              subst hI
              refine ⟨i + 1, R1, by omega, hnext, ?_⟩
              rw [wrNext i (by omega)]
          | false =>
            simp
            by_cases hv : cs[i].Value = ⟨#[]⟩
            · have e : doStep o cs[i] = rDeleteAt o cs[i].Path := by simp [doStep, hs, hv]
              simp [hv]
              refine Inv_intro (ok_sDeleteAt 0 k' o cs[i].Path hb.1 (fun x hx => (hb.2 x hx).1) (boundC_conf hb) hcm.2.1) ?_
              rw [e] at hnext fails hbs
              generalize rDeleteAt o cs[i].Path = R at *
              obtain ⟨R1, R2⟩ := R
              cases R2 with
              | false =>
                have := fails rfl
                rw [this]
                simp
              | true =>
                simp
                refine LessW_mk (m - 1) (.op 11 3 0) (.op 3 1 0) (by omega) rfl rfl ?_
                simp
                subst hI
                refine ⟨i + 1, R1, by omega, hnext, ?_⟩
                rw [wrNext i (by omega)]
            · have e : doStep o cs[i] = ([], false) := by simp [doStep, hs, hv]
              have := fails (by rw [e])
              rw [this]
              simp [hv]
        · simp at b
          have hin : i = cs.length := by omega
          subst hin
          have er2 : rDoCommands l cs = (o, true) := by rw [er, ho]
          have ht : (o.flatMap GLeaf.co).take (o.length * 2) = o.flatMap GLeaf.co := List.take_of_length_le (by rw [fm_len GLeaf.co 2 (fun _ => rfl)]; exact Nat.le_refl _)
          rw [er2]
          simp [ht]
theorem leafs_big {l : List GLeaf} (h : wt_LeafS l ≤ 1000000000000) : lens_LeafS l ∧ cn_LeafS l ≤ 1152921504606846976 := by
  have hc := cn_le_LeafS l
  have hl : l.length ≤ wt_LeafS l := Nat.le_add_right _ _
  refine ⟨⟨by omega, fun x hx => ⟨?_, fun _ _ => trivial⟩⟩, by omega⟩
  have h1 := mem_wt_LeafS hx
  have h2 := len_wt_StringS x.Path
  unfold GLeaf.wt at h1
  omega
theorem wt_app (a b : List GLeaf) : wt_LeafS (a ++ b) = wt_LeafS a + wt_LeafS b := by
  simp only [wt_LeafS, wtR, List.length_append, List.map_append, List.sum_append]
  omega
theorem wt_putL (p : List ByteArray) (v : ByteArray) (m : List GLeaf) : wt_LeafS (putL p v m) = wt_LeafS m + (1 + (wt_StringS p + v.size)) := by
  unfold putL
  have h := wt_app (m.take (atI p m)) (m.drop (atI p m))
  rw [List.take_append_drop] at h
  rw [wt_app, wt_app, h]
  have h1 : wt_LeafS [⟨p, v⟩] = 1 + (wt_StringS p + v.size) := by simp [wt_LeafS, wtR, GLeaf.wt]
  omega
theorem law_iSetAt (v0 : List GLeaf) (v1 : List ByteArray) (v2 : ByteArray) (h0 : wt_LeafS v0 ≤ 1048576) (h1 : wt_StringS v1 ≤ 1048576) (h2 : v2.size ≤ 1048576) : CallOK Try.prog 84 [.c (rd 0 v0.length (v0.flatMap (GLeaf.ci 0))), .c (rd 0 v1.length (v1.map ps)), .c (ps v2)] (.tup [.c (.sl 0 103 (rSetAt v0 v1 v2).1.length ((rSetAt v0 v1 v2).1.flatMap GLeaf.co)), .c (pb (rSetAt v0 v1 v2).2)]) [.c (rd 0 v0.length (v0.flatMap (GLeaf.ci 0))), .c (rd 0 v1.length (v1.map ps)), .c (ps v2)] := ok_iSetAt 0 0 v0 v1 v2 (conf_len h0).1 (conf_len h0).2 (conf_ok h0) (strs_ok h1) (by have := len_wt_StringS v1; omega) (by omega)
theorem law_sSetAt (v0 : List GLeaf) (v1 : List ByteArray) (v2 : ByteArray) (h0 : wt_LeafS v0 ≤ 1048576) (h1 : wt_StringS v1 ≤ 1048576) (h2 : v2.size ≤ 1048576) : CallOK Try.prog 77 [.c (rd 0 v0.length (v0.flatMap (GLeaf.ci 0))), .c (rd 0 v1.length (v1.map ps)), .c (ps v2)] (.tup [.c (.sl 0 103 (rSetAt v0 v1 v2).1.length ((rSetAt v0 v1 v2).1.flatMap GLeaf.co)), .c (pb (rSetAt v0 v1 v2).2)]) [.c (rd 0 v0.length (v0.flatMap (GLeaf.ci 0))), .c (rd 0 v1.length (v1.map ps)), .c (ps v2)] := ok_sSetAt 0 0 v0 v1 v2 (conf_len h0).1 (conf_len h0).2 (conf_ok h0) (strs_ok h1) (by have := len_wt_StringS v1; omega) (by omega)
theorem rSetAt_ok (v0 : List GLeaf) (v1 : List ByteArray) (v2 : ByteArray) (h0 : wt_LeafS v0 ≤ 1048576) (h1 : wt_StringS v1 ≤ 1048576) (h2 : v2.size ≤ 1048576) : lens_LeafS (rSetAt v0 v1 v2).1 ∧ cn_LeafS (rSetAt v0 v1 v2).1 ≤ 1152921504606846976 := by
  refine leafs_big ?_
  unfold rSetAt
  split
  · have e := wt_filter (fun x => !clashB v1 x) id (fun x => Nat.le_refl _) (l := v0)
    rw [List.map_id] at e
    have h3 : wt_LeafS (keptL v1 v0) ≤ wt_LeafS v0 := e
    show wt_LeafS (putL v1 v2 (keptL v1 v0)) ≤ _
    rw [wt_putL]
    omega
  · exact Nat.zero_le _
theorem do_bound {v0 : List GLeaf} {v1 : List GCommand} (h0 : wt_LeafS v0 ≤ 1048576) (h1 : wt_CommandS v1 ≤ 1048576) : boundC v0 ∧ (∀ c ∈ v1, cmdOK c) ∧ v1.length ≤ 140737488351232 := by
  have hl := len_wt_CommandS v1
  refine ⟨⟨(conf_len h0).1, fun x hx => ⟨(conf_len h0).2 x hx, (conf_ok h0).2 x hx⟩⟩, fun c hc => ?_, by omega⟩
  have h2 := mem_wt_CommandS hc
  unfold GCommand.wt at h2
  have h3 := len_wt_StringS c.Path
  exact ⟨by omega, strs_ok (by omega), by omega⟩
theorem law_iDoCommands (v0 : List GLeaf) (v1 : List GCommand) (h0 : wt_LeafS v0 ≤ 1048576) (h1 : wt_CommandS v1 ≤ 1048576) : CallOK Try.prog 37 [.c (rd 0 v0.length (v0.flatMap (GLeaf.ci 0))), .c (rd 0 v1.length (v1.flatMap (GCommand.ci 0)))] (.tup [.c (.sl 0 103 (rDoCommands v0 v1).1.length ((rDoCommands v0 v1).1.flatMap GLeaf.co)), .c (pb (rDoCommands v0 v1).2)]) [.c (rd 0 v0.length (v0.flatMap (GLeaf.ci 0))), .c (rd 0 v1.length (v1.flatMap (GCommand.ci 0)))] := ok_iDoCommands 0 0 v0 v1 (do_bound h0 h1).1 (do_bound h0 h1).2.1 (do_bound h0 h1).2.2
theorem law_sDoCommands (v0 : List GLeaf) (v1 : List GCommand) (h0 : wt_LeafS v0 ≤ 1048576) (h1 : wt_CommandS v1 ≤ 1048576) : CallOK Try.prog 40 [.c (rd 0 v0.length (v0.flatMap (GLeaf.ci 0))), .c (rd 0 v1.length (v1.flatMap (GCommand.ci 0)))] (.tup [.c (.sl 0 103 (rDoCommands v0 v1).1.length ((rDoCommands v0 v1).1.flatMap GLeaf.co)), .c (pb (rDoCommands v0 v1).2)]) [.c (rd 0 v0.length (v0.flatMap (GLeaf.ci 0))), .c (rd 0 v1.length (v1.flatMap (GCommand.ci 0)))] := ok_sDoCommands 0 0 v0 v1 (do_bound h0 h1).1 (do_bound h0 h1).2.1 (do_bound h0 h1).2.2
theorem wt_step (o : List GLeaf) (c : GCommand) : wt_LeafS (doStep o c).1 ≤ wt_LeafS o + GCommand.wt c + 1 := by
  unfold doStep
  split
  · unfold rSetAt
    split
    · have e := wt_filter (fun x => !clashB c.Path x) id (fun x => Nat.le_refl _) (l := o)
      rw [List.map_id] at e
      have h3 : wt_LeafS (keptL c.Path o) ≤ wt_LeafS o := e
      show wt_LeafS (putL c.Path c.Value (keptL c.Path o)) ≤ _
      rw [wt_putL]
      unfold GCommand.wt
      omega
    · show wt_LeafS [] ≤ _
      simp [wt_LeafS, wtR]
  · split
    · unfold rDeleteAt
      split
      · have e := wt_filter (fun x => !begL c.Path x) id (fun x => Nat.le_refl _) (l := o)
        rw [List.map_id] at e
        have h3 : wt_LeafS (delL c.Path o) ≤ wt_LeafS o := e
        show wt_LeafS (delL c.Path o) ≤ _
        omega
      · show wt_LeafS [] ≤ _
        simp [wt_LeafS, wtR]
    · show wt_LeafS [] ≤ _
      simp [wt_LeafS, wtR]
theorem wt_doI {l : List GLeaf} {cs : List GCommand} : ∀ (i : Nat) (o : List GLeaf), doI l cs i = some o → wt_LeafS o ≤ wt_LeafS l + i * (wt_CommandS cs + 1)
  | 0, o, h => by cases h; omega
  | i + 1, o, h => by
    unfold doI at h
    split at h
    · cases h
    · rename_i o' ho'
      split at h
      · cases h
      · rename_i c hcs
        split at h
        · cases h
          have h1 := wt_doI i o' ho'
          have h2 := wt_step o' c
          have h3 := mem_wt_CommandS (List.mem_of_getElem? hcs)
          rw [Nat.succ_mul]
          omega
        · cases h
theorem rDoCommands_ok (v0 : List GLeaf) (v1 : List GCommand) (h0 : wt_LeafS v0 ≤ 1048576) (h1 : wt_CommandS v1 ≤ 1048576) : lens_LeafS (rDoCommands v0 v1).1 ∧ cn_LeafS (rDoCommands v0 v1).1 ≤ 1152921504606846976 := by
  refine leafs_big ?_
  unfold rDoCommands
  split
  · rename_i h
    split
    · rename_i o ho
      have h3 := wt_doI v1.length o ho
      have h4 : v1.length * (wt_CommandS v1 + 1) ≤ 80 * (1048576 + 1) := Nat.mul_le_mul h.2 (by omega)
      show wt_LeafS o ≤ _
      omega
    · exact Nat.zero_le _
  · exact Nat.zero_le _
def bS (l : List UInt8) : ByteArray := ⟨l.toArray⟩
def spW (w : ByteArray) : ByteArray := ⟨#[32]⟩ ++ w
def spAll (s : ByteArray) (l : List ByteArray) : ByteArray := l.foldl (fun s w => s ++ spW w) s
def joinS (l : List ByteArray) : ByteArray := ⟨(Go.Lib.join (l.map (·.data.toList)) [32]).toArray⟩
theorem ba_ext {a b : ByteArray} (h : a.data.toList = b.data.toList) : a = b := by
  cases a
  cases b
  simp only [ByteArray.mk.injEq]
  exact Array.toList_inj.1 h
theorem spAll_list (s : ByteArray) (l : List ByteArray) : (spAll s l).data.toList = s.data.toList ++ Go.Lib.joinTail [32] (l.map (·.data.toList)) := by
  unfold spAll
  induction l generalizing s with
  | nil => simp [Go.Lib.joinTail]
  | cons w l ih =>
    rw [List.foldl_cons, ih]
    simp [Go.Lib.joinTail, spW]
theorem spAll_join (s : ByteArray) {l : List ByteArray} (h : l ≠ []) : spAll s l = s ++ (⟨#[32]⟩ ++ joinS l) := by
  apply ba_ext
  rw [spAll_list]
  cases l with
  | nil => exact absurd rfl h
  | cons w l => simp [joinS, Go.Lib.join_cons, Go.Lib.joinTail]
theorem spAll_snoc (s : ByteArray) (l : List ByteArray) (i : Nat) (h : i < l.length) : spAll s (l.take (i + 1)) = spAll s (l.take i) ++ spW l[i] := by
  unfold spAll
  rw [take_step l i h, List.foldl_append]
  rfl
theorem spAll_size (s : ByteArray) (l : List ByteArray) : (spAll s l).size = s.size + wt_StringS l := by
  unfold spAll
  induction l generalizing s with
  | nil => simp [wt_StringS, wtR]
  | cons w l ih =>
    rw [List.foldl_cons, ih]
    simp only [ByteArray.size_append, spW, wt_StringS, wtR, List.map_cons, List.length_cons, List.sum_cons]
    have : (⟨#[32]⟩ : ByteArray).size = 1 := rfl
    omega
theorem joinS_size (l : List ByteArray) : (joinS l).size ≤ wt_StringS l := by
  by_cases h : l = []
  · subst h; exact Nat.zero_le _
  · have h1 := congrArg ByteArray.size (spAll_join ⟨#[]⟩ h)
    rw [spAll_size] at h1
    simp only [ByteArray.size_append] at h1
    have : (⟨#[32]⟩ : ByteArray).size = 1 := rfl
    have : (⟨#[]⟩ : ByteArray).size = 0 := rfl
    omega
def tSet : ByteArray := ⟨#[115, 101, 116, 32]⟩
def tDel : ByteArray := ⟨#[100, 101, 108, 101, 116, 101, 32]⟩
def goodCmd (c : GCommand) : Bool := isP c.Path && (if c.Set = true then isW c.Value else decide (c.Value = ⟨#[]⟩))
def textC (c : GCommand) : ByteArray := if c.Set = true then tSet ++ joinS c.Path ++ ⟨#[32]⟩ ++ c.Value else tDel ++ joinS c.Path
def rCommandText (c : GCommand) : ByteArray × Bool := if goodCmd c = true then (textC c, true) else (⟨#[]⟩, false)
theorem isW_nil : isW ⟨#[]⟩ = false := rfl
end Go.V
namespace Go.Proofs
open Go.Shelf
def Try.lays156_ren : Go.Shelf.Ren := ⟨fun | 156 => 91 | 165 => 118 | 166 => 119 | 169 => 120 | 240 => 137 | 241 => 138 | 276 => 145 | 277 => 146 | n => n, fun | 31 => 23 | 9 => 9 | 3 => 3 | 4 => 4 | 0 => 0 | 20 => 20 | 72 => 126 | 76 => 130 | 70 => 124 | 37 => 22 | 75 => 129 | 127 => 144 | 164 => 151 | 5 => 5 | 80 => 88 | n => n, fun | n => n⟩
theorem Try.lays156 : Go.Proofs.Lays.n156 Try.prog Try.lays156_ren := {
  mixed := by kernel_rfl
  f156 := Try.func91.trans (congrArg some (by kernel_rfl))
  f165 := Try.func118.trans (congrArg some (by kernel_rfl))
  f166 := Try.func119.trans (congrArg some (by kernel_rfl))
  f169 := Try.func120.trans (congrArg some (by kernel_rfl))
  f240 := Try.func137.trans (congrArg some (by kernel_rfl))
  f241 := Try.func138.trans (congrArg some (by kernel_rfl))
  f276 := Try.func145.trans (congrArg some (by kernel_rfl))
  f277 := Try.func146.trans (congrArg some (by kernel_rfl))
  t0 := Try.underlying0
  a0 := Try.isAgg0
  z0 := Try.sizeOf0
  v0 := Try.zeroValue0
  t3 := Try.underlying3
  a3 := Try.isAgg3
  z3 := Try.sizeOf3
  v3 := Try.zeroValue3
  t4 := Try.underlying4
  a4 := Try.isAgg4
  z4 := Try.sizeOf4
  v4 := Try.zeroValue4
  t9 := Try.underlying9
  a9 := Try.isAgg9
  z9 := Try.sizeOf9
  v9 := Try.zeroValue9
  t20 := Try.underlying20
  a20 := Try.isAgg20
  z20 := Try.sizeOf20
  v20 := Try.zeroValue20
  t31 := Try.underlying23
  a31 := Try.isAgg23
  z31 := Try.sizeOf23
  v31 := Try.zeroValue23
  t37 := Try.underlying22
  a37 := Try.isAgg22
  z37 := Try.sizeOf22
  v37 := Try.zeroValue22
  t70 := Try.underlying124
  a70 := Try.isAgg124
  z70 := Try.sizeOf124
  v70 := Try.zeroValue124
  t72 := Try.underlying126
  a72 := Try.isAgg126
  z72 := Try.sizeOf126
  v72 := Try.zeroValue126
  t75 := Try.underlying129
  a75 := Try.isAgg129
  z75 := Try.sizeOf129
  v75 := Try.zeroValue129
  t76 := Try.underlying130
  a76 := Try.isAgg130
  z76 := Try.sizeOf130
  v76 := Try.zeroValue130
  t127 := Try.underlying144
  a127 := Try.isAgg144
  z127 := Try.sizeOf144
  v127 := Try.zeroValue144
  t164 := Try.underlying151
  a164 := Try.isAgg151
  z164 := Try.sizeOf151
  v164 := Try.zeroValue151 }
theorem Try.Builder_Extra_156 : Builder.Extra Try.prog Try.lays156_ren := {
  sizeBuilder := by kernel_rfl
  liesBuilder := by kernel_rfl
  t5 := Try.underlying5
  a5 := Try.isAgg5
  z5 := Try.sizeOf5
  v5 := Try.zeroValue5
  infoByte := by kernel_rfl
  cellsByte := by kernel_rfl
  sizeByte := by kernel_rfl
  neB5 := by decide }
open Go.RowKit in
theorem Try.strings_Join_none (a : Option Addr) (c : Nat) (sep : ByteArray) (w : World) :
    Calls Try.prog 91 #[.slice a 0 c, .string sep] w fun e w' => e = .returned (.string ⟨#[]⟩) ∧ w' = w := Any.strings_Join_none Try.lays156 Try.Builder_Extra_156 a c sep w
open Go.RowKit in
theorem Try.strings_Join (bk o c : Nat) (xs : List ByteArray) (sep : ByteArray) (w : World) (hcells : ∀ (j : Nat) x, xs[j]? = some x → w.cell? ⟨bk, o + j, none⟩ = some (.string x)) (hbk : bk < w.heap.size) (hN : xs.length ≤ 140737488355328) (hcap : xs.length ≤ c) (hlen : (Lib.join (xs.map (·.data.toList)) sep.data.toList).length ≤ 140737488355328) :
    Calls Try.prog 91 #[.slice (some ⟨bk, o, none⟩) xs.length c, .string sep] w fun e w' => e = .returned (.string ⟨(Lib.join (xs.map (·.data.toList)) sep.data.toList).toArray⟩) ∧ Below w.heap.size w w' := Any.strings_Join Try.lays156 Try.Builder_Extra_156 bk o c xs sep w hcells hbk hN hcap hlen
end Go.Proofs
namespace Go.V
open Go.Proofs
set_option maxHeartbeats 1000000
set_option maxRecDepth 10000
set_option linter.unusedSimpArgs false
set_option linter.unusedVariables false
theorem ok_Join (k : Nat) (l : List ByteArray) (hl : wt_StringS l ≤ 1048576) : CallOK Try.prog 91 [.c (rd k l.length (l.map ps)), .c (ps ⟨#[32]⟩)] (.c (ps (joinS l))) [.c (rd k l.length (l.map ps)), .c (ps ⟨#[32]⟩)] := by
  have hlen := len_wt_StringS l
  refine callOK_join k l ⟨#[32]⟩ (joinS l) fun w a c hc hcell => CallsF.of_calls Try.func91 (by kernel_rfl) rfl ?_
  cases l with
  | nil => exact (Try.strings_Join_none a c ⟨#[32]⟩ w).mono fun e w' ⟨he, hw⟩ => ⟨he, hw ▸ Go.RowKit.Below.refl _ _⟩
  | cons x xs =>
    obtain ⟨bk, o, rfl, hb, h0⟩ := hcell 0 x rfl
    refine Try.strings_Join bk o c (x :: xs) ⟨#[32]⟩ w (fun j y hj => ?_) hb (by omega) hc ?_
    · obtain ⟨bk', o', he, _, h1⟩ := hcell j y hj
      cases he
      exact h1
    · have := joinS_size (x :: xs)
      have e : (joinS (x :: xs)).size = (Go.Lib.join ((x :: xs).map (·.data.toList)) [32]).length := by simp [joinS, ByteArray.size]
      have : (⟨#[32]⟩ : ByteArray).data.toList = [32] := rfl
      rw [this]
      omega
theorem law_iCommandText (v0 : GCommand) (hw0 : GCommand.wt v0 ≤ 1048576) : CallOK Try.prog 42 [.agg (GCommand.ci 0 v0)] (.tup [.c (ps (rCommandText v0).1), .c (pb (rCommandText v0).2)]) [.agg (GCommand.ci 0 v0)] := by
  have hp : strsOK v0.Path := strs_ok (by unfold GCommand.wt at hw0; omega)
  have hv : v0.Value.size ≤ 140737488355328 := by unfold GCommand.wt at hw0; omega
  have hwp : wt_StringS v0.Path ≤ 1048576 := by unfold GCommand.wt at hw0; omega
  have hjs := joinS_size v0.Path
  refine okS (fn := Try.f42) [] h0 Try.func42 (by kernel_rfl) rfl Try.ntmps42 Try.results42 (by simp) ?_
  simp
  refine Inv_intro (ok_areWords 0 v0.Path hp.1 hp.2) ?_
  simp
  cases c1 : isP v0.Path with
  | false => simp [rCommandText, goodCmd, c1]
  | true =>
    simp
    cases hs : v0.Set with
    | true =>
      simp
      refine Inv_intro (ok_isWord v0.Value hv) ?_
      simp
      cases c2 : isW v0.Value with
      | false => simp [rCommandText, goodCmd, c1, hs, c2]
      | true =>
        simp
        refine Inv_intro (ok_Join 0 v0.Path hwp) ?_
        have q1 : (⟨#[115, 101, 116, 32]⟩ : ByteArray).size = 4 := rfl
        have q2 : (⟨#[32]⟩ : ByteArray).size = 1 := rfl
        have z1 : (⟨#[115, 101, 116, 32]⟩ : ByteArray).size + (joinS v0.Path).size ≤ 9223372036854775807 := by omega
        have z2 : (⟨#[115, 101, 116, 32]⟩ : ByteArray).size + (joinS v0.Path).size + (⟨#[32]⟩ : ByteArray).size ≤ 9223372036854775807 := by omega
        have z3 : (⟨#[115, 101, 116, 32]⟩ : ByteArray).size + (joinS v0.Path).size + (⟨#[32]⟩ : ByteArray).size + v0.Value.size ≤ 9223372036854775807 := by omega
        have er : rCommandText v0 = (⟨#[115, 101, 116, 32]⟩ ++ joinS v0.Path ++ ⟨#[32]⟩ ++ v0.Value, true) := by simp [rCommandText, goodCmd, c1, hs, c2, textC, tSet]
        simp [hs, z1, z2, z3, er]
    | false =>
      simp
      refine brn_app (fun b => ?_) (fun b => ?_)
      · simp at b
        simp [rCommandText, goodCmd, c1, hs, b]
      · simp at b
        simp
        refine Inv_intro (ok_Join 0 v0.Path hwp) ?_
        have q1 : (⟨#[100, 101, 108, 101, 116, 101, 32]⟩ : ByteArray).size = 7 := rfl
        have z1 : (⟨#[100, 101, 108, 101, 116, 101, 32]⟩ : ByteArray).size + (joinS v0.Path).size ≤ 9223372036854775807 := by omega
        have er : rCommandText v0 = (⟨#[100, 101, 108, 101, 116, 101, 32]⟩ ++ joinS v0.Path, true) := by simp [rCommandText, goodCmd, c1, hs, b, textC, tDel]
        simp [hs, z1, er]
theorem spAll_big (s : ByteArray) (hs : s.size ≤ 6) (l : List ByteArray) (hl : wt_StringS l ≤ 1048576) (i : Nat) : (spAll s (l.take i)).size ≤ 1048582 := by
  have h1 := spAll_size s (l.take i)
  have h2 : wt_StringS (l.take i) ≤ wt_StringS l := by
    have := List.take_append_drop i l
    conv => rhs; rw [← this]
    simp only [wt_StringS, wtR, List.map_append, List.length_append, List.sum_append]
    omega
  omega
theorem law_sCommandText (v0 : GCommand) (hw0 : GCommand.wt v0 ≤ 1048576) : CallOK Try.prog 43 [.agg (GCommand.ci 0 v0)] (.tup [.c (ps (rCommandText v0).1), .c (pb (rCommandText v0).2)]) [.agg (GCommand.ci 0 v0)] := by
  have hp : strsOK v0.Path := strs_ok (by unfold GCommand.wt at hw0; omega)
  have hv : v0.Value.size ≤ 140737488355328 := by unfold GCommand.wt at hw0; omega
  have hwp : wt_StringS v0.Path ≤ 1048576 := by unfold GCommand.wt at hw0; omega
  have hlen := len_wt_StringS v0.Path
  have hvs : v0.Value.size ≤ 1048576 := by unfold GCommand.wt at hw0; omega
  have q1 : (⟨#[32]⟩ : ByteArray).size = 1 := rfl
  refine okS (fn := Try.f43) [] h0 Try.func43 (by kernel_rfl) rfl Try.ntmps43 Try.results43 (by simp) ?_
  simp
  cases c1 : isP v0.Path with
  | false =>
    refine drawP (tabEnv [] _) [⟨[.op 0 0 0], allD 51, true⟩, ⟨[.op 0 0 0], allD 51, true⟩, ⟨[], allD 51, false⟩, ⟨[], allD 51, true⟩, ⟨[], allD 51, true⟩, ⟨[.op 0 0 0], allD 51, true⟩, ⟨[.op 0 0 0], allD 51, true⟩, ⟨[.op 0 0 0], allD 51, true⟩, ⟨[.op 0 0 0], allD 51, true⟩, ⟨[], allD 51, false⟩, ⟨[], allD 51, true⟩, ⟨[], allD 51, true⟩, ⟨[], allD 51, true⟩, ⟨[.op 0 0 0], allD 51, true⟩, ⟨[.op 0 0 0], allD 51, true⟩, ⟨[], allD 51, true⟩, ⟨[], allD 51, true⟩, ⟨[.op 0 0 0], allD 51, true⟩, ⟨[.op 0 0 0], allD 51, true⟩, ⟨[], allD 51, true⟩, ⟨[], allD 51, true⟩, ⟨[], allD 51, true⟩] h0 hm (tabEnv_ok (tab_cons (ok_l15Path 0 v0.Path hp.1 hp.2) tab_nil)) (by kernel_rfl) (by kernel_rfl) ?_
    simp [c1, rCommandText, goodCmd]
  | true =>
    have hpn : v0.Path ≠ [] := by
      intro e
      rw [e] at c1
      cases c1
    cases hs : v0.Set with
    | true =>
      cases c2 : isW v0.Value with
      | false =>
        refine drawP (tabEnv [] _) [⟨[.op 0 0 0], allD 51, true⟩, ⟨[.op 0 0 0], allD 51, true⟩, ⟨[], allD 51, false⟩, ⟨[], allD 51, true⟩, ⟨[], allD 51, true⟩, ⟨[.op 0 0 0], allD 51, true⟩, ⟨[.op 0 0 0], allD 51, true⟩, ⟨[.op 0 0 0], allD 51, true⟩, ⟨[.op 0 0 0], allD 51, true⟩, ⟨[], allD 51, false⟩, ⟨[], allD 51, true⟩, ⟨[], allD 51, true⟩, ⟨[], allD 51, true⟩, ⟨[.op 0 0 0], allD 51, true⟩, ⟨[.op 0 0 0], allD 51, true⟩, ⟨[], allD 51, true⟩, ⟨[], allD 51, true⟩, ⟨[.op 0 0 0], allD 51, true⟩, ⟨[.op 0 0 0], allD 51, true⟩, ⟨[], allD 51, true⟩, ⟨[], allD 51, true⟩, ⟨[], allD 51, true⟩] h0 hm (tabEnv_ok (tab_cons (ok_l15Path 0 v0.Path hp.1 hp.2) (tab_cons (ok_l15Word v0.Value hv) tab_nil))) (by kernel_rfl) (by kernel_rfl) ?_
        simp [c1, c2, hs, rCommandText, goodCmd]
      | true =>
        refine drawP (tabEnv [] _) [⟨[.op 0 0 0], allD 51, true⟩, ⟨[.op 0 0 0], allD 51, true⟩, ⟨[], allD 51, false⟩, ⟨[], allD 51, true⟩, ⟨[], allD 51, true⟩, ⟨[.op 0 0 0], allD 51, true⟩, ⟨[.op 0 0 0], allD 51, true⟩, ⟨[.op 0 0 0], allD 51, true⟩, ⟨[.op 0 0 0], allD 51, true⟩, ⟨[], allD 51, false⟩, ⟨[], allD 51, true⟩, ⟨[], allD 51, true⟩, ⟨[], allD 51, true⟩, ⟨[.op 0 0 0], allD 51, true⟩, ⟨[.op 0 0 0], allD 51, true⟩, ⟨[], allD 51, true⟩, ⟨[], allD 51, true⟩, ⟨[.op 0 0 0], allD 51, true⟩, ⟨[.op 0 0 0], allD 51, true⟩, ⟨[], allD 51, true⟩, ⟨[], allD 51, true⟩, ⟨[], allD 51, true⟩] h0 hm (tabEnv_ok (tab_cons (ok_l15Path 0 v0.Path hp.1 hp.2) (tab_cons (ok_l15Word v0.Value hv) tab_nil))) (by kernel_rfl) (by kernel_rfl) ?_
        simp [c1, c2, hs]
        refine loopS [1, 4, 32, 33, 34] [.op 0 0 0] (fun n st => ∃ (i : Nat), i + n = v0.Path.length ∧ st = ⟨slOf 51 [(1, .ptr ⟨.op 0 0 0, []⟩ 0), (4, .t (ps (spAll ⟨#[115, 101, 116]⟩ (v0.Path.take i)))), (32, .t (rd 0 v0.Path.length (v0.Path.map ps))), (33, .t (pi v0.Path.length)), (34, .t (pi i))], ofL [(.op 0 0 0, .sl 0 65 1 [pb true, rd 0 v0.Path.length (v0.Path.map ps), ps v0.Value])]⟩) v0.Path.length ?_ ?_
        · rintro Inv hI
          simp
          subst hI
          exact ⟨0, by omega, rfl⟩
        · rintro Inv hI n st ⟨i, hi, rfl⟩
          have hb := spAll_big ⟨#[115, 101, 116]⟩ (by decide) v0.Path hwp i
          have hS := spAll_snoc ⟨#[115, 101, 116]⟩ v0.Path i
          generalize hZ : spAll ⟨#[115, 101, 116]⟩ (v0.Path.take i) = Z at hb hS ⊢
          refine ewr_sound (M := []) h0 ?_
          simp
          refine brn_app (fun a => ?_) (fun a => ?_)
          · simp at a
            have hw := mem_wt_StringS (List.getElem_mem a)
            have z1 : (⟨#[32]⟩ : ByteArray).size + v0.Path[i].size ≤ 9223372036854775807 := by omega
            have z2 : Z.size + ((⟨#[32]⟩ : ByteArray).size + v0.Path[i].size) ≤ 9223372036854775807 := by omega
            have hS' := hS a
            simp [a, z1, z2]
            subst hI
            refine Less_mk (n - 1) (by omega) ⟨i + 1, by omega, ?_⟩
            rw [wrNext i (by omega), hS']
            rfl
          · simp at a
            have ht : List.take i v0.Path = v0.Path := List.take_of_length_le (by omega)
            rw [ht, spAll_join _ hpn] at hZ
            have z1 : (⟨#[32]⟩ : ByteArray).size + v0.Value.size ≤ 9223372036854775807 := by omega
            have z2 : Z.size + ((⟨#[32]⟩ : ByteArray).size + v0.Value.size) ≤ 9223372036854775807 := by omega
            have er : rCommandText v0 = (Z ++ (⟨#[32]⟩ ++ v0.Value), true) := by
              have : textC v0 = Z ++ (⟨#[32]⟩ ++ v0.Value) := by
                rw [← hZ]
                apply ba_ext
                simp [textC, hs, tSet]
              simp [rCommandText, goodCmd, c1, hs, c2, this]
            simp [z1, z2, er]
    | false =>
      have hwv : isW v0.Value = true → v0.Value ≠ ⟨#[]⟩ := isW_ne
      cases c2 : decide (v0.Value = ⟨#[]⟩) with
      | false =>
        simp at c2
        cases c3 : isW v0.Value with
        | false =>
          refine drawP (tabEnv [] _) [⟨[.op 0 0 0], allD 51, true⟩, ⟨[.op 0 0 0], allD 51, true⟩, ⟨[], allD 51, false⟩, ⟨[], allD 51, true⟩, ⟨[], allD 51, true⟩, ⟨[.op 0 0 0], allD 51, true⟩, ⟨[.op 0 0 0], allD 51, true⟩, ⟨[.op 0 0 0], allD 51, true⟩, ⟨[.op 0 0 0], allD 51, true⟩, ⟨[], allD 51, false⟩, ⟨[], allD 51, true⟩, ⟨[], allD 51, true⟩, ⟨[], allD 51, true⟩, ⟨[.op 0 0 0], allD 51, true⟩, ⟨[.op 0 0 0], allD 51, true⟩, ⟨[], allD 51, true⟩, ⟨[], allD 51, true⟩, ⟨[.op 0 0 0], allD 51, true⟩, ⟨[.op 0 0 0], allD 51, true⟩, ⟨[], allD 51, true⟩, ⟨[], allD 51, true⟩, ⟨[], allD 51, true⟩] h0 hm (tabEnv_ok (tab_cons (ok_l15Path 0 v0.Path hp.1 hp.2) (tab_cons (ok_l15Word v0.Value hv) tab_nil))) (by kernel_rfl) (by kernel_rfl) ?_
          simp [c1, c2, c3, hs, rCommandText, goodCmd]
        | true =>
          refine drawP (tabEnv [] _) [⟨[.op 0 0 0], allD 51, true⟩, ⟨[.op 0 0 0], allD 51, true⟩, ⟨[], allD 51, false⟩, ⟨[], allD 51, true⟩, ⟨[], allD 51, true⟩, ⟨[.op 0 0 0], allD 51, true⟩, ⟨[.op 0 0 0], allD 51, true⟩, ⟨[.op 0 0 0], allD 51, true⟩, ⟨[.op 0 0 0], allD 51, true⟩, ⟨[], allD 51, false⟩, ⟨[], allD 51, true⟩, ⟨[], allD 51, true⟩, ⟨[], allD 51, true⟩, ⟨[.op 0 0 0], allD 51, true⟩, ⟨[.op 0 0 0], allD 51, true⟩, ⟨[], allD 51, true⟩, ⟨[], allD 51, true⟩, ⟨[.op 0 0 0], allD 51, true⟩, ⟨[.op 0 0 0], allD 51, true⟩, ⟨[], allD 51, true⟩, ⟨[], allD 51, true⟩, ⟨[], allD 51, true⟩] h0 hm (tabEnv_ok (tab_cons (ok_l15Path 0 v0.Path hp.1 hp.2) (tab_cons (ok_l15Word v0.Value hv) tab_nil))) (by kernel_rfl) (by kernel_rfl) ?_
          simp [c1, c2, c3, hs, rCommandText, goodCmd]
      | true =>
        simp at c2
        have c3 : isW v0.Value = false := by rw [c2]; rfl
        refine drawP (tabEnv [] _) [⟨[.op 0 0 0], allD 51, true⟩, ⟨[.op 0 0 0], allD 51, true⟩, ⟨[], allD 51, false⟩, ⟨[], allD 51, true⟩, ⟨[], allD 51, true⟩, ⟨[.op 0 0 0], allD 51, true⟩, ⟨[.op 0 0 0], allD 51, true⟩, ⟨[.op 0 0 0], allD 51, true⟩, ⟨[.op 0 0 0], allD 51, true⟩, ⟨[], allD 51, false⟩, ⟨[], allD 51, true⟩, ⟨[], allD 51, true⟩, ⟨[], allD 51, true⟩, ⟨[.op 0 0 0], allD 51, true⟩, ⟨[.op 0 0 0], allD 51, true⟩, ⟨[], allD 51, true⟩, ⟨[], allD 51, true⟩, ⟨[.op 0 0 0], allD 51, true⟩, ⟨[.op 0 0 0], allD 51, true⟩, ⟨[], allD 51, true⟩, ⟨[], allD 51, true⟩, ⟨[], allD 51, true⟩] h0 hm (tabEnv_ok (tab_cons (ok_l15Path 0 v0.Path hp.1 hp.2) (tab_cons (ok_l15Word v0.Value hv) tab_nil))) (by kernel_rfl) (by kernel_rfl) ?_
        simp [c1, c2, isW_nil, hs]
        refine loopS [1, 4, 32, 33, 34] [.op 0 0 0] (fun n st => ∃ (i : Nat), i + n = v0.Path.length ∧ st = ⟨slOf 51 [(1, .ptr ⟨.op 0 0 0, []⟩ 0), (4, .t (ps (spAll ⟨#[100, 101, 108, 101, 116, 101]⟩ (v0.Path.take i)))), (32, .t (rd 0 v0.Path.length (v0.Path.map ps))), (33, .t (pi v0.Path.length)), (34, .t (pi i))], ofL [(.op 0 0 0, .sl 0 65 1 [pb false, rd 0 v0.Path.length (v0.Path.map ps), ps ⟨#[]⟩])]⟩) v0.Path.length ?_ ?_
        · rintro Inv hI
          simp
          subst hI
          exact ⟨0, by omega, rfl⟩
        · rintro Inv hI n st ⟨i, hi, rfl⟩
          have hb := spAll_big ⟨#[100, 101, 108, 101, 116, 101]⟩ (by decide) v0.Path hwp i
          have hS := spAll_snoc ⟨#[100, 101, 108, 101, 116, 101]⟩ v0.Path i
          generalize hZ : spAll ⟨#[100, 101, 108, 101, 116, 101]⟩ (v0.Path.take i) = Z at hb hS ⊢
          refine ewr_sound (M := []) h0 ?_
          simp
          refine brn_app (fun a => ?_) (fun a => ?_)
          · simp at a
            have hw := mem_wt_StringS (List.getElem_mem a)
            have z1 : (⟨#[32]⟩ : ByteArray).size + v0.Path[i].size ≤ 9223372036854775807 := by omega
            have z2 : Z.size + ((⟨#[32]⟩ : ByteArray).size + v0.Path[i].size) ≤ 9223372036854775807 := by omega
            have hS' := hS a
            simp [a, z1, z2]
            subst hI
            refine Less_mk (n - 1) (by omega) ⟨i + 1, by omega, ?_⟩
            rw [wrNext i (by omega), hS']
            rfl
          · simp at a
            have ht : List.take i v0.Path = v0.Path := List.take_of_length_le (by omega)
            rw [ht, spAll_join _ hpn] at hZ
            have er : rCommandText v0 = (Z, true) := by
              have : textC v0 = Z := by
                rw [← hZ]
                apply ba_ext
                simp [textC, hs, tDel]
              simp [rCommandText, goodCmd, c1, hs, c2, this]
            simp [er]
end Go.V
