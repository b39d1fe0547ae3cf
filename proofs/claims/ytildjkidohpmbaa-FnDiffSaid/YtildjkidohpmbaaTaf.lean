/- What functions of the seat's program do, each proved of its code, under the bounds that its theorem names. -/
import Derived.Test.YtildjkidohpmbaaTae
set_option linter.all false
namespace Go.V
open Go.Proofs
set_option maxHeartbeats 1000000
set_option maxRecDepth 10000
set_option linter.unusedSimpArgs false
set_option linter.unusedVariables false
theorem fm_takeE {α β : Type} (f : α → List β) (c : Nat) (hf : ∀ x, (f x).length = c) (l : List α) (i : Nat) (hi : i ≤ l.length) : (l.flatMap f).take (i * c) = (l.take i).flatMap f := by
  have e := congrArg (List.flatMap f) (List.take_append_drop i l)
  rw [List.flatMap_append] at e
  have hl : ((l.take i).flatMap f).length = i * c := by
    rw [List.length_flatMap]
    have : (List.map (fun a => (f a).length) (l.take i)) = List.replicate (l.take i).length c := by
      rw [List.eq_replicate_iff]
      refine ⟨by simp, ?_⟩
      intro b hb
      obtain ⟨a, _, rfl⟩ := List.mem_map.1 hb
      exact hf a
    rw [this, List.sum_replicate_nat, List.length_take, Nat.min_eq_left hi]
  rw [← e, List.take_left' hl]
theorem fm_dropE {α β : Type} (f : α → List β) (c : Nat) (hf : ∀ x, (f x).length = c) (l : List α) (i : Nat) (hi : i ≤ l.length) : (l.flatMap f).drop (i * c) = (l.drop i).flatMap f := by
  have e := congrArg (List.flatMap f) (List.take_append_drop i l)
  rw [List.flatMap_append] at e
  have h := fm_takeE f c hf l i hi
  have hl : ((l.take i).flatMap f).length = i * c := by
    rw [← h, List.length_take, ← e, List.length_append]
    rw [List.length_flatMap]
    have : (List.map (fun a => (f a).length) (l.take i)) = List.replicate (l.take i).length c := by
      rw [List.eq_replicate_iff]
      refine ⟨by simp, ?_⟩
      intro b hb
      obtain ⟨a, _, rfl⟩ := List.mem_map.1 hb
      exact hf a
    rw [this, List.sum_replicate_nat, List.length_take, Nat.min_eq_left hi]
    omega
  rw [← e, List.drop_left' hl]
def keptL (p : List ByteArray) (l : List GLeaf) : List GLeaf := l.filter fun x => !clashB p x
def atI (p : List ByteArray) (m : List GLeaf) : Nat := bsI (fun x : GLeaf => cmpP x.Path p) m
def putL (p : List ByteArray) (v : ByteArray) (m : List GLeaf) : List GLeaf := m.take (atI p m) ++ [⟨p, v⟩] ++ m.drop (atI p m)
theorem atI_le (p : List ByteArray) (m : List GLeaf) : atI p m ≤ m.length := (List.takeWhile_sublist _).length_le
theorem putL_len (p : List ByteArray) (v : ByteArray) (m : List GLeaf) : (putL p v m).length = m.length + 1 := by
  have := atI_le p m
  unfold putL
  simp only [List.length_append, List.length_take, List.length_drop, List.length_cons, List.length_nil]
  omega
theorem putL_mem {p : List ByteArray} {v : ByteArray} {m : List GLeaf} {x : GLeaf} (h : x ∈ putL p v m) : x = ⟨p, v⟩ ∨ x ∈ m := by
  unfold putL at h
  rcases List.mem_append.1 h with h | h
  · rcases List.mem_append.1 h with h | h
    · exact .inr (List.mem_of_mem_take h)
    · exact .inl (List.mem_singleton.1 h)
  · exact .inr (List.mem_of_mem_drop h)
theorem putL_co (p : List ByteArray) (v : ByteArray) (m : List GLeaf) : (putL p v m).flatMap GLeaf.co = (m.flatMap GLeaf.co).take (atI p m * 2) ++ GLeaf.co ⟨p, v⟩ ++ (m.flatMap GLeaf.co).drop (atI p m * 2) := by
  rw [fm_takeE GLeaf.co 2 (fun _ => rfl) m _ (atI_le p m), fm_dropE GLeaf.co 2 (fun _ => rfl) m _ (atI_le p m)]
  unfold putL
  rw [List.flatMap_append, List.flatMap_append, List.flatMap_cons, List.flatMap_nil, List.append_nil]
def setC (p : List ByteArray) (v : ByteArray) (l : List GLeaf) : List GLeaf := putL p v (keptL p l)
theorem kept_conf {p : List ByteArray} {l : List GLeaf} (h : confOK l) : confOK (keptL p l) := ⟨Nat.le_trans (List.length_filter_le _ _) h.1, fun x hx => h.2 x (List.mem_filter.1 hx).1⟩
theorem set_conf {p : List ByteArray} {v : ByteArray} {l : List GLeaf} (h : confOK l) (hl : l.length ≤ 1048576) (hp : strsOK p) (hv : v.size ≤ 140737488355328) : confOK (setC p v l) := by
  refine ⟨?_, fun x hx => ?_⟩
  · have h2 : (keptL p l).length ≤ l.length := List.length_filter_le _ _
    unfold setC
    rw [putL_len]
    omega
  · rcases putL_mem hx with rfl | hx
    · exact ⟨hp, hv⟩
    · exact (kept_conf h).2 x hx
theorem ok_isetAt (k k' : Nat) (l : List GLeaf) (p : List ByteArray) (v : ByteArray) (hl : l.length ≤ 1048576) (hx : ∀ x ∈ l, x.Path.length ≤ 1048576) (hlo : confOK l) (hp : strsOK p) (hp1 : p.length ≤ 1048576) (hv : v.size ≤ 140737488355328) (hg : goodC l = true) : CallOK Try.prog 113 [.c (rd k l.length (l.flatMap (GLeaf.ci k))), .c (rd k' p.length (p.map ps)), .c (ps v)] (.tup [.c (.sl 0 103 (setC p v l).length ((setC p v l).flatMap GLeaf.co)), .c (pb (goodC (setC p v l)))]) [.c (rd k l.length (l.flatMap (GLeaf.ci k))), .c (rd k' p.length (p.map ps)), .c (ps v)] := by
  refine okS (fn := Try.f113) [(114, [2]), (135, [2,0,2])] h0 Try.func113 (by kernel_rfl) rfl Try.ntmps113 Try.results113 (by simp) ?_
  simp
  refine Inv_intro (ok_ownConfig k l hl hx) ?_
  simp
  refine Inv_intro (ok_DeleteFunc_Leaf 1 132 [[rd 0 p.length (p.map ps)]] (clashB p) l hlo.1 (fun x hx => ok_setAt1 1 0 0 x p (hlo.2 x hx).1.1 hp.1)) ?_
  have hkl : l.filter (fun x => !clashB p x) = keptL p l := rfl
  have hkn : (keptL p l).length ≤ l.length := List.length_filter_le _ _
  have hko := kept_conf (p := p) hlo
  have hso := set_conf (p := p) (v := v) hlo hl hp hv
  have hsort : (keptL p l).Pairwise (fun x y => lessP x.Path y.Path = true) := (goodC_pair hg).filter _
  have hsl : setC p v l = putL p v (keptL p l) := rfl
  rw [hkl]
  generalize keptL p l = m at *
  rw [hsl] at hso ⊢
  simp
  refine Inv_intro (ok_BS_Leaf 0 k' m p hko hp.1 (pair_mono hsort p)) ?_
  have hat : bsI (fun o : GLeaf => cmpP o.Path p) m = atI p m := rfl
  have hle := atI_le p m
  have hcl := fm_len GLeaf.co 2 (fun _ => rfl) m
  have hpc := putL_co p v m
  have hpl := putL_len p v m
  rw [hat]
  simp
  refine Inv_intro (ok_Clone_String k' p hp1) ?_
  simp
  refine Inv_intro (ok_Insert_Leaf m.length (atI p m) (m.flatMap GLeaf.co) (GLeaf.co ⟨p, v⟩) hcl rfl hle (by omega)) ?_
  rw [← hpc, ← hpl]
  simp
  refine Inv_intro (ok_iGoodConfig 0 (putL p v m) hso) ?_
  simp
def rSetAt (l : List GLeaf) (p : List ByteArray) (v : ByteArray) : List GLeaf × Bool := if (goodC l && isP p && isW v && goodC (setC p v l)) = true then (setC p v l, true) else ([], false)
theorem ok_iSetAt (k k' : Nat) (l : List GLeaf) (p : List ByteArray) (v : ByteArray) (hl : l.length ≤ 1048576) (hx : ∀ x ∈ l, x.Path.length ≤ 1048576) (hlo : confOK l) (hp : strsOK p) (hp1 : p.length ≤ 1048576) (hv : v.size ≤ 140737488355328) : CallOK Try.prog 84 [.c (rd k l.length (l.flatMap (GLeaf.ci k))), .c (rd k' p.length (p.map ps)), .c (ps v)] (.tup [.c (.sl 0 103 (rSetAt l p v).1.length ((rSetAt l p v).1.flatMap GLeaf.co)), .c (pb (rSetAt l p v).2)]) [.c (rd k l.length (l.flatMap (GLeaf.ci k))), .c (rd k' p.length (p.map ps)), .c (ps v)] := by
  refine okS (fn := Try.f84) [] h0 Try.func84 (by kernel_rfl) rfl Try.ntmps84 Try.results84 (by simp) ?_
  simp
  refine Inv_intro (ok_iGoodConfig k l hlo) ?_
  simp
  cases c1 : goodC l with
  | false => simp [rSetAt, c1]
  | true =>
    simp
    refine Inv_intro (ok_areWords k' p hp.1 hp.2) ?_
    simp
    cases c2 : isP p with
    | false => simp [rSetAt, c2]
    | true =>
      simp
      refine Inv_intro (ok_isWord v hv) ?_
      simp
      cases c3 : isW v with
      | false => simp [rSetAt, c3]
      | true =>
        simp
        refine Inv_intro (ok_isetAt k k' l p v hl hx hlo hp hp1 hv c1) ?_
        simp
        cases c4 : goodC (setC p v l) with
        | false => simp [rSetAt, c4]
        | true =>
          have er : rSetAt l p v = (setC p v l, true) := by simp [rSetAt, c1, c2, c3, c4]
          rw [er]
          simp
def boundC (l : List GLeaf) : Prop := l.length ≤ 1048576 ∧ ∀ x ∈ l, x.Path.length ≤ 1048576 ∧ leafOK x
theorem boundC_conf {l : List GLeaf} (h : boundC l) : confOK l := ⟨by have := h.1; omega, fun x hx => (h.2 x hx).2⟩
def cmdOK (c : GCommand) : Prop := c.Path.length ≤ 1048576 ∧ strsOK c.Path ∧ c.Value.size ≤ 140737488355328
def doStep (out : List GLeaf) (c : GCommand) : List GLeaf × Bool := if c.Set = true then rSetAt out c.Path c.Value else if c.Value = ⟨#[]⟩ then rDeleteAt out c.Path else ([], false)
theorem bound_step {out : List GLeaf} {c : GCommand} (h : boundC out) (hc : cmdOK c) : boundC (doStep out c).1 := by
  have hnil : boundC [] := ⟨Nat.zero_le _, fun x hx => absurd hx (by simp)⟩
  unfold doStep
  split
  · unfold rSetAt
    split
    · rename_i hg
      simp only [Bool.and_eq_true] at hg
      have hg2 := hg.2
      simp only [goodC, Bool.and_eq_true, decide_eq_true_eq] at hg2
      refine ⟨by have := hg2.2; show (setC c.Path c.Value out).length ≤ _; omega, fun x hx => ?_⟩
      rcases putL_mem hx with rfl | hx
      · exact ⟨hc.1, hc.2.1, hc.2.2⟩
      · exact h.2 x (List.mem_filter.1 hx).1
    · exact hnil
  · split
    · unfold rDeleteAt
      split
      · exact ⟨Nat.le_trans (delL_len _ _) h.1, fun x hx => h.2 x (List.mem_filter.1 hx).1⟩
      · exact hnil
    · exact hnil
def doI (l : List GLeaf) (cs : List GCommand) : Nat → Option (List GLeaf)
  | 0 => some l
  | i + 1 => match doI l cs i with
    | none => none
    | some o => match cs[i]? with
      | none => none
      | some c => if (doStep o c).2 = true then some (doStep o c).1 else none
theorem doI_none (l : List GLeaf) (cs : List GCommand) {i : Nat} (h : doI l cs i = none) : ∀ n, i ≤ n → doI l cs n = none
  | n, hn => by
    induction hn with
    | refl => exact h
    | step _ ih => simp only [doI, ih]
theorem doI_bound {l : List GLeaf} {cs : List GCommand} (hl : boundC l) (hc : ∀ c ∈ cs, cmdOK c) : ∀ (i : Nat) (o : List GLeaf), doI l cs i = some o → boundC o
  | 0, o, h => by cases h; exact hl
  | i + 1, o, h => by
    unfold doI at h
    split at h
    · cases h
    · rename_i o' ho'
      split at h
      · cases h
      · rename_i c hcs
        split at h
        · cases h
          exact bound_step (doI_bound hl hc i o' ho') (hc c (List.mem_of_getElem? hcs))
        · cases h
def rDoCommands (l : List GLeaf) (cs : List GCommand) : List GLeaf × Bool := if goodC l = true ∧ cs.length ≤ 80 then match doI l cs cs.length with
    | some o => (o, true)
    | none => ([], false)
  else ([], false)
theorem ok_iDoCommands (k k' : Nat) (l : List GLeaf) (cs : List GCommand) (hl : boundC l) (hc : ∀ c ∈ cs, cmdOK c) (hcl : cs.length ≤ 140737488351232) : CallOK Try.prog 37 [.c (rd k l.length (l.flatMap (GLeaf.ci k))), .c (rd k' cs.length (cs.flatMap (GCommand.ci k')))] (.tup [.c (.sl 0 103 (rDoCommands l cs).1.length ((rDoCommands l cs).1.flatMap GLeaf.co)), .c (pb (rDoCommands l cs).2)]) [.c (rd k l.length (l.flatMap (GLeaf.ci k))), .c (rd k' cs.length (cs.flatMap (GCommand.ci k')))] := by
  refine okS (fn := Try.f37) [] h0 Try.func37 (by kernel_rfl) rfl Try.ntmps37 Try.results37 (by simp) ?_
  simp
  refine Inv_intro (ok_iGoodConfig k l (boundC_conf hl)) ?_
  simp
  cases c1 : goodC l with
  | false => simp [rDoCommands, c1]
  | true =>
    simp
    refine brn_app (fun a => ?_) (fun a => ?_)
    · simp at a
      have h : ¬ cs.length ≤ 80 := by omega
      simp [rDoCommands, h]
    · simp at a
      have h80 : cs.length ≤ 80 := by omega
      have er : rDoCommands l cs = match doI l cs cs.length with
          | some o => (o, true)
          | none => ([], false) := by
        unfold rDoCommands
        rw [if_pos ⟨c1, h80⟩]
        all_goals (cases doI l cs cs.length <;> rfl)
      simp
      refine Inv_intro (ok_ownConfig k l hl.1 (fun x hx => (hl.2 x hx).1)) ?_
      simp
      refine loopW [6, 21, 22, 23] [.op 9 5 0, .op 11 3 0, .op 3 1 0] [.op 3 1 0] (fun m st => ∃ (i : Nat) (o : List GLeaf), i + m = cs.length ∧ doI l cs i = some o ∧ st = ⟨slOf 56 [(6, .ref ⟨.op 3 1 0, []⟩ 0 o.length), (21, .t (rd k' cs.length (cs.flatMap (GCommand.ci k')))), (22, .t (pi cs.length)), (23, .t (pi i))], ofL [(.op 3 1 0, .sl 0 103 o.length (o.flatMap GLeaf.co))]⟩) cs.length ?_ ?_
      · rintro Inv hI
        simp
        subst hI
        exact ⟨0, l, by omega, rfl, rfl⟩
      · rintro Inv hI m st ⟨i, o, hi, ho, rfl⟩
        refine ewr_sound (M := []) h0 ?_
        simp
        refine brn_app (fun b => ?_) (fun b => ?_)
        · simp at b
          have hb := doI_bound hl hc i o ho
          have hcm := hc _ (List.getElem_mem b)
          have hbs := bound_step hb hcm
          have hnext : doI l cs (i + 1) = if (doStep o cs[i]).2 = true then some (doStep o cs[i]).1 else none := by
            simp only [doI, ho, List.getElem?_eq_getElem b]
          have hd := fm_drop (GCommand.ci k') 3 (fun _ => rfl) cs i b
          have hlen := fm_len (GCommand.ci k') 3 (fun _ => rfl) cs
          have hlt : i * 3 < cs.length * 3 := by omega
          simp [b, hd, hlen, hlt]
          have fails : (doStep o cs[i]).2 = false → rDoCommands l cs = ([], false) := by
            intro h
            rw [h] at hnext
            rw [er, doI_none l cs (i := i + 1) hnext cs.length (by omega)]
          cases hs : cs[i].Set with
          | true =>
            have e : doStep o cs[i] = rSetAt o cs[i].Path cs[i].Value := by simp [doStep, hs]
            simp
            refine Inv_intro (ok_iSetAt 0 k' o cs[i].Path cs[i].Value hb.1 (fun x hx => (hb.2 x hx).1) (boundC_conf hb) hcm.2.1 hcm.1 hcm.2.2) ?_
            rw [e] at hnext fails hbs
            generalize rSetAt o cs[i].Path cs[i].Value = R at *
            obtain ⟨R1, R2⟩ := R
            cases R2 with
            | false =>
              have := fails rfl
              rw [this]
              simp
            | true =>
              simp
              refine LessW_mk (m - 1) (.op 9 5 0) (.op 3 1 0) (by omega) rfl rfl ?_
              simp
              subst hI
              refine ⟨i + 1, R1, by omega, hnext, ?_⟩
              rw [wrNext i (by omega)]
          | false =>
            simp
            by_cases hv : cs[i].Value = ⟨#[]⟩
            · have e : doStep o cs[i] = rDeleteAt o cs[i].Path := by simp [doStep, hs, hv]
              simp [hv]
              refine Inv_intro (ok_iDeleteAt 0 k' o cs[i].Path hb.1 (fun x hx => (hb.2 x hx).1) (boundC_conf hb) hcm.2.1) ?_
              rw [e] at hnext fails hbs
              generalize rDeleteAt o cs[i].Path = R at *
              obtain ⟨R1, R2⟩ := R
              cases R2 with
              | false =>
                have := fails rfl
                rw [this]
                simp
              | true =>
                simp
                refine LessW_mk (m - 1) (.op 11 3 0) (.op 3 1 0) (by omega) rfl rfl ?_
                simp
                subst hI
                refine ⟨i + 1, R1, by omega, hnext, ?_⟩
                rw [wrNext i (by omega)]
            · have e : doStep o cs[i] = ([], false) := by simp [doStep, hs, hv]
              have := fails (by rw [e])
              rw [this]
              simp [hv]
        · simp at b
          have hin : i = cs.length := by omega
          subst hin
          have er2 : rDoCommands l cs = (o, true) := by rw [er, ho]
          have ht : (o.flatMap GLeaf.co).take (o.length * 2) = o.flatMap GLeaf.co := List.take_of_length_le (by rw [fm_len GLeaf.co 2 (fun _ => rfl)]; exact Nat.le_refl _)
          rw [er2]
          simp [ht]
theorem wt_filter {l : List GLeaf} (f : GLeaf → Bool) (g : GLeaf → GLeaf) (hg : ∀ x, GLeaf.wt (g x) ≤ GLeaf.wt x) : wt_LeafS ((l.filter f).map g) ≤ wt_LeafS l := by
  induction l with
  | nil => simp
  | cons x l ih =>
    have := hg x
    rw [List.filter_cons]
    split
    · simp only [List.map_cons, wt_LeafS, wtR, List.length_cons, List.sum_cons] at ih ⊢
      omega
    · simp only [wt_LeafS, wtR, List.map_cons, List.length_cons, List.sum_cons] at ih ⊢
      omega
theorem wt_drop (p : List ByteArray) : ∀ n : Nat, wt_StringS (p.drop n) ≤ wt_StringS p := by
  induction p with
  | nil => simp
  | cons s p ih =>
    intro n
    cases n with
    | zero => simp
    | succ n =>
      have := ih n
      simp only [List.drop_succ_cons, wt_StringS, wtR, List.map_cons, List.length_cons, List.sum_cons] at this ⊢
      omega
theorem leafs_ok {l : List GLeaf} (h : wt_LeafS l ≤ 1048576) : lens_LeafS l ∧ cn_LeafS l ≤ 1152921504606846976 := by
  have := cn_le_LeafS l
  exact ⟨lens_of_LeafS h, by omega⟩
theorem ok_l15Own (k : Nat) (l : List GLeaf) (hl : l.length ≤ 1048576) (hx : ∀ x ∈ l, x.Path.length ≤ 1048576) : CallOK Try.prog 87 [.c (rd k l.length (l.flatMap (GLeaf.ci k)))] (.c (.sl 0 103 l.length (l.flatMap GLeaf.co))) [.c (rd k l.length (l.flatMap (GLeaf.ci k)))] := by
  refine okS (fn := Try.f87) [] h0 Try.func87 (by kernel_rfl) rfl Try.ntmps87 Try.results87 (by simp) ?_
  simp
  refine ewp_nil 3 (.op 5 9 0) 103 (by decide) rfl rfl rfl ?_
  refine loopS [3, 6, 7, 8] [.op 5 9 0] (fun n st => ∃ (i : Nat), i + n = l.length ∧ st = ⟨slOf 24 [(3, .ref ⟨.op 5 9 0, []⟩ 0 i), (6, .t (rd k l.length (l.flatMap (GLeaf.ci k)))), (7, .t (pi l.length)), (8, .t (pi i))], ofL [(.op 5 9 0, .sl 0 103 i ((l.take i).flatMap GLeaf.co))]⟩) l.length ?_ ?_
  · rintro Inv hI
    simp
    subst hI
    exact ⟨0, by omega, by simp⟩
  · rintro Inv hI n st ⟨i, hi, rfl⟩
    have hA := fm_take_len GLeaf.co 2 (fun _ => rfl) l i (by omega)
    generalize hAe : ((l.take i).flatMap GLeaf.co) = A at hA ⊢
    refine ewr_sound (M := []) h0 ?_
    simp
    refine brn_app (fun a => ?_) (fun a => ?_)
    · simp at a
      have hd := fm_drop (GLeaf.ci k) 2 (fun _ => rfl) l i a
      have hlen := fm_len (GLeaf.ci k) 2 (fun _ => rfl) l
      have hlt : i * 2 < l.length * 2 := by omega
      have hb1 : (i + 1) * 40 ≤ 140737488355328 := by omega
      have hb2 : i ≤ 9223372036854775806 := by omega
      have hp := hx _ (List.getElem_mem a)
      have hp1 : l[i].Path.length * 16 ≤ 140737488355328 := by omega
      have hp2 : l[i].Path.length ≤ 9223372036854775807 := by omega
      have ht : A.take (i * 2) = A := List.take_of_length_le (by omega)
      have e3 : ((l.take (i + 1)).flatMap GLeaf.co) = A ++ GLeaf.co l[i] := by rw [take_step l i a, List.flatMap_append, hAe, List.flatMap_cons, List.flatMap_nil, List.append_nil]
      simp [a, hd, hlen, hlt]
      by_cases hpe : l[i].Path = []
      · refine drawP (tabEnv [] _) [⟨[.op 5 9 0], allD 24, true⟩, ⟨[], allD 24, false⟩, ⟨[.op 4 2 0], allD 24, true⟩, ⟨[.op 4 2 0], allD 24, true⟩, ⟨[.op 5 1 0], [12, 13, 14, 15, 16, 17, 18, 19, 20, 21, 3], false⟩, ⟨[.op 4 2 0], allD 24, true⟩, ⟨[.op 4 2 0], allD 24, true⟩, ⟨[.op 5 1 0], allD 24, true⟩, ⟨[.op 5 1 0, .op 5 7 0], [12, 13, 14, 15, 16, 17, 18, 19, 20, 21, 3], false⟩, ⟨[.op 5 9 0, .op 5 8 0], [12, 13, 14, 15, 16, 17, 18, 19, 20, 21, 3], false⟩, ⟨[.op 5 9 0], allD 24, true⟩] h0 hm (tabEnv_ok tab_nil) (by kernel_rfl) (by kernel_rfl) ?_
        simp [hA, hb1, hb2, ht, hpe]
        subst hI
        refine Less_mk (n - 1) (by omega) ⟨i + 1, by omega, ?_⟩
        rw [wrNext i (by omega), e3]
        all_goals simp [hpe]
      · refine drawP (tabEnv [] _) [⟨[.op 5 9 0], allD 24, true⟩, ⟨[], allD 24, false⟩, ⟨[.op 4 2 0], allD 24, true⟩, ⟨[.op 4 2 0], allD 24, true⟩, ⟨[.op 5 1 0], [12, 13, 14, 15, 16, 17, 18, 19, 20, 21, 3], false⟩, ⟨[.op 4 2 0], allD 24, true⟩, ⟨[.op 4 2 0], allD 24, true⟩, ⟨[.op 5 4 0], allD 24, true⟩, ⟨[.op 5 4 0, .op 5 7 0], [12, 13, 14, 15, 16, 17, 18, 19, 20, 21, 3], false⟩, ⟨[.op 5 9 0, .op 5 8 0], [12, 13, 14, 15, 16, 17, 18, 19, 20, 21, 3], false⟩, ⟨[.op 5 9 0], allD 24, true⟩] h0 hm (tabEnv_ok tab_nil) (by kernel_rfl) (by kernel_rfl) ?_
        simp [hA, hb1, hb2, ht, hpe, hp1, hp2]
        subst hI
        refine Less_mk (n - 1) (by omega) ⟨i + 1, by omega, ?_⟩
        rw [wrNext i (by omega), e3]
        all_goals simp
    · simp at a
      have hn : n = 0 := by omega
      subst hn
      have ht : List.take i l = l := List.take_of_length_le (by omega)
      have hil : i = l.length := by omega
      rw [← hAe, ht, hil]
      simp
theorem delL_snoc (p : List ByteArray) (l : List GLeaf) (i : Nat) (h : i < l.length) : delL p (l.take (i + 1)) = delL p (l.take i) ++ (if begP p l[i].Path = true then [] else [l[i]]) := by
  unfold delL
  rw [take_step l i h, List.filter_append]
  by_cases hb : begP p l[i].Path = true <;> simp [hb, begL]
theorem ok_sDeleteAt (k k' : Nat) (l : List GLeaf) (p : List ByteArray) (hl : l.length ≤ 1048576) (hx : ∀ x ∈ l, x.Path.length ≤ 1048576) (hlo : confOK l) (hp : strsOK p) : CallOK Try.prog 88 [.c (rd k l.length (l.flatMap (GLeaf.ci k))), .c (rd k' p.length (p.map ps))] (.tup [.c (.sl 0 103 (rDeleteAt l p).1.length ((rDeleteAt l p).1.flatMap GLeaf.co)), .c (pb (rDeleteAt l p).2)]) [.c (rd k l.length (l.flatMap (GLeaf.ci k))), .c (rd k' p.length (p.map ps))] := by
  refine okS (fn := Try.f88) [] h0 Try.func88 (by kernel_rfl) rfl Try.ntmps88 Try.results88 (by simp) ?_
  simp
  refine Inv_intro (ok_sGoodConfig k l hlo) ?_
  simp
  cases c1 : goodC l with
  | false => simp [rDeleteAt, c1]
  | true =>
    simp
    refine Inv_intro (ok_l15Path k' p hp.1 hp.2) ?_
    simp
    cases c2 : isP p with
    | false => simp [rDeleteAt, c2]
    | true =>
      simp
      refine Inv_intro (ok_l15Own k l hl hx) ?_
      have hll := delL_len p l
      have er : rDeleteAt l p = if (delL p l).length = l.length then ([], false) else (delL p l, true) := by
        unfold rDeleteAt
        by_cases h : (delL p l).length = l.length <;> simp [c1, c2, h]
      rw [er]
      simp
      refine ewp_nil 6 (.op 8 3 0) 103 (by decide) rfl rfl rfl ?_
      refine loopS [0, 1, 6, 18, 19, 20] [.op 8 3 0, .op 4 1 0] (fun n st => ∃ (i : Nat) (C : List PT), i + n = l.length ∧ C.length = l.length * 2 ∧ C.drop (i * 2) = (l.drop i).flatMap GLeaf.co ∧ st = ⟨slOf 40 [(0, .t (rd k l.length (l.flatMap (GLeaf.ci k)))), (1, .t (rd k' p.length (p.map ps))), (6, .ref ⟨.op 8 3 0, []⟩ 0 (delL p (l.take i)).length), (18, .ref ⟨.op 4 1 0, []⟩ 0 l.length), (19, .t (pi l.length)), (20, .t (pi i))], ofL [(.op 8 3 0, .sl 0 103 (delL p (l.take i)).length ((delL p (l.take i)).flatMap GLeaf.co)), (.op 4 1 0, .sl 0 103 l.length C)]⟩) l.length ?_ ?_
      · rintro Inv hI
        simp
        subst hI
        exact ⟨0, l.flatMap GLeaf.co, by omega, fm_len GLeaf.co 2 (fun _ => rfl) l, rfl, rfl⟩
      · rintro Inv hI n st ⟨i, C, hi, hCl, hCd0, rfl⟩
        have hO : (delL p (l.take i)).length ≤ i := Nat.le_trans (delL_len _ _) (by simp; omega)
        have hS := delL_snoc p l i
        have hfin : i = l.length → delL p (l.take i) = delL p l := by rintro rfl; rw [List.take_length]
        generalize hOe : delL p (l.take i) = O at hO hS hfin ⊢
        have hA := fm_len GLeaf.co 2 (fun _ => rfl) O
        have hAm : ∀ y, (O ++ [y]).flatMap GLeaf.co = O.flatMap GLeaf.co ++ GLeaf.co y := fun y => by simp
        refine ewr_sound (M := []) h0 ?_
        simp
        refine brn_app (fun a => ?_) (fun a => ?_)
        · simp at a
          have hS' := hS a
          have hCd : C.drop (i * 2) = .sl 0 9 l[i].Path.length (l[i].Path.map ps) :: ps l[i].Value :: (l.drop (i + 1)).flatMap GLeaf.co := by
            rw [hCd0, drop_step _ i a, List.flatMap_cons]
            rfl
          have hCg : ∀ h : i * 2 < C.length, C[i * 2] = .sl 0 9 l[i].Path.length (l[i].Path.map ps) := by
            intro h
            rw [List.drop_eq_getElem_cons h] at hCd
            exact (List.cons.inj hCd).1
          have hCn : C.drop ((i + 1) * 2) = (l.drop (i + 1)).flatMap GLeaf.co := by
            have : (i + 1) * 2 = i * 2 + 2 := by omega
            rw [this, ← List.drop_drop, hCd]
            rfl
          have hb : i * 2 + 2 ≤ l.length * 2 := by omega
          have hp1 := hx _ (List.getElem_mem a)
          simp [a, hCl, hCd, hCg, hb]
          refine Inv_intro (ok_l15Begins k' 0 p l[i].Path hp.1 (by omega)) ?_
          simp
          refine brn_app (fun b => ?_) (fun b => ?_)
          · simp at b
            rw [if_neg (by simp [b])] at hS'
            generalize hAe : O.flatMap GLeaf.co = A at hA hAm ⊢
            have ht : A.take (O.length * 2) = A := List.take_of_length_le (by omega)
            have hb1 : (O.length + 1) * 40 ≤ 140737488355328 := by omega
            have hb2 : O.length + 1 ≤ 9223372036854775807 := by omega
            simp [hA, ht, hb1, hb2]
            subst hI
            refine Less_mk (n - 1) (by omega) ⟨i + 1, C.set (i * 2) .hole, by omega, by rw [List.length_set]; exact hCl, by rw [set_drop C _ _ _ (by omega), hCn], ?_⟩
            rw [hS', wrNext i (by omega), hAm, List.length_append]
            rfl
          · simp at b
            rw [if_pos b, List.append_nil] at hS'
            simp
            subst hI
            refine Less_mk (n - 1) (by omega) ⟨i + 1, C.set (i * 2) .hole, by omega, by rw [List.length_set]; exact hCl, by rw [set_drop C _ _ _ (by omega), hCn], ?_⟩
            rw [hS', wrNext i (by omega)]
        · simp at a
          have hin : i = l.length := by omega
          have hfin := hfin hin
          subst hfin
          simp
          refine brn_app (fun b => ?_) (fun b => ?_)
          · simp at b
            have h : (delL p l).length = l.length := by omega
            simp [h]
          · simp at b
            have h : ¬ (delL p l).length = l.length := by omega
            have ht : ((delL p l).flatMap GLeaf.co).take ((delL p l).length * 2) = (delL p l).flatMap GLeaf.co := List.take_of_length_le (by omega)
            simp [h, hA, ht]
theorem ofL_mv (n : Nat) (l : List (Id × PT)) (i : Id) (t : PT) (h : ((l.take n).all fun p => !decide (p.1 = i)) = true) : ofL ((i, t) :: l) = ofL (l.take n ++ (i, t) :: l.drop n) := by
  induction n generalizing l with
  | zero => rfl
  | succ n ih => cases l with
    | nil => rfl
    | cons p l =>
      obtain ⟨j, y⟩ := p
      simp at h
      have ih := ih l (by simpa using h.2)
      show ofL ((i, t) :: (j, y) :: l) = ofL ((j, y) :: (l.take n ++ (i, t) :: l.drop n))
      have e : ofL ((j, y) :: (l.take n ++ (i, t) :: l.drop n)) = ofL ((j, y) :: (i, t) :: l) := by
        funext q
        simp only [ofL]
        rw [← ih]
        rfl
      rw [e]
      funext q
      by_cases c : q = i
      · subst c
        have h1 := h.1
        simp [ofL, Ne.symm h1]
      · simp [ofL, c]
theorem ofL_sw2 {a b c : Id} {x y z : PT} (h : b ≠ c) : ofL [(a, x), (c, z), (b, y)] = ofL [(a, x), (b, y), (c, z)] := by
  funext q
  by_cases e : q = c
  · subst e
    simp [ofL, h.symm]
  · simp [ofL, e]
theorem ok_l15Put (m : List GLeaf) (x : GLeaf) (hm' : confOK m) (hl : m.length ≤ 1048576) (hx : x.Path.length ≤ 140737488351232) : CallOK Try.prog 109 [.c (.sl 0 103 m.length (m.flatMap GLeaf.co)), .agg x.co] (.c (.sl 0 103 (putL x.Path x.Value m).length ((putL x.Path x.Value m).flatMap GLeaf.co))) [.c (.sl 0 103 m.length ((m.flatMap GLeaf.co).map PT.hollow)), .agg [.hole, ps x.Value]] := by
  refine okS (fn := Try.f109) [] h0 Try.func109 (by kernel_rfl) rfl Try.ntmps109 Try.results109 (by simp) ?_
  simp
  refine loopS [0, 3, 5] [.arg 0 0, .op 0 0 0] (fun n st => ∃ (k : Nat), k + n = m.length ∧ (∀ (j : Nat) (hj : j < k) (hj' : j < m.length), cmpP m[j].Path x.Path < 0) ∧ st = ⟨slOf 37 [(0, .ref ⟨.arg 0 0, []⟩ 0 m.length), (3, .ptr ⟨.op 0 0 0, []⟩ 0), (5, .t (pi k))], ofL [(.arg 0 0, .sl 0 103 m.length (m.flatMap GLeaf.co)), (.arg 1 0, .hole), (.op 0 0 0, .sl 0 103 1 x.co)]⟩) m.length ?_ ?_
  · rintro Inv hI
    simp
    subst hI
    exact ⟨0, by omega, by intro j hj; omega, rfl⟩
  · rintro Inv hI n st ⟨k, hk, hall, rfl⟩
    have hml := hm'.1
    have hat : ∀ (h : k < m.length), 0 ≤ cmpP m[k].Path x.Path → atI x.Path m = k := fun h h2 => bsI_eq _ m k (by omega) hall fun _ => h2
    have hat2 : k = m.length → atI x.Path m = k := fun h => bsI_eq _ m k (by omega) hall fun h2 => by omega
    have hcm := fm_len GLeaf.co 2 (fun _ => rfl) m
    refine ewr_sound (M := []) h0 ?_
    simp
    by_cases c1 : k < m.length
    · have c1' : (k : Int) < m.length := by omega
      have hd := fm_drop GLeaf.co 2 (fun _ => rfl) m k c1
      have hlt : k * 2 < m.length * 2 := by omega
      have hCg : ∀ h : k * 2 < (m.flatMap GLeaf.co).length, (m.flatMap GLeaf.co)[k * 2] = .sl 0 9 m[k].Path.length (m[k].Path.map ps) := by
        intro h
        have hd2 := hd
        rw [List.drop_eq_getElem_cons h] at hd2
        exact (List.cons.inj hd2).1
      refine drawP (tabEnv [] _) [⟨[], allD 37, true⟩, ⟨[.arg 0 0], allD 37, true⟩, ⟨[.arg 0 0], allD 37, true⟩, ⟨[], allD 37, true⟩, ⟨[], allD 37, true⟩, ⟨[.arg 0 0], allD 37, true⟩, ⟨[], allD 37, true⟩, ⟨[.arg 0 0], allD 37, true⟩, ⟨[.arg 0 0], allD 37, true⟩, ⟨[.arg 0 0], allD 37, true⟩, ⟨[.op 0 0 0], allD 37, true⟩, ⟨[.op 0 0 0], allD 37, true⟩, ⟨[.arg 0 0, .op 0 0 0], [7, 8, 9, 10, 11, 12, 13, 14, 15, 16, 17, 18, 19, 20], false⟩, ⟨[], allD 37, true⟩] h0 hm (tabEnv_ok (tab_cons (ok_l15Less 0 0 m[k].Path x.Path (hm'.2 _ (List.getElem_mem c1)).1.1 hx) tab_nil)) (by kernel_rfl) (by kernel_rfl) ?_
      simp [c1, c1', hd, hcm, hlt, hCg]
      cases c2 : lessP m[k].Path x.Path with
      | true =>
        have h2 := (cmpP_neg _ _).2 c2
        simp
        subst hI
        refine Less_mk (n - 1) (by omega) ⟨k + 1, by omega, ?_, ?_⟩
        · intro j hj hj'
          rcases Nat.lt_or_ge j k with h' | h'
          · exact hall j h' hj'
          · have : j = k := by omega
            subst this
            exact h2
        · rw [wrNext k (by omega), ofL_sw2 (by decide)]
          rfl
      | false =>
        have h2 : 0 ≤ cmpP m[k].Path x.Path := Int.not_lt.1 fun hc => by rw [(cmpP_neg _ _).1 hc] at c2; cases c2
        have hat := hat c1 h2
        have hkl : k ≤ m.length := by omega
        have hpc := putL_co x.Path x.Value m
        have hpl := putL_len x.Path x.Value m
        rw [hat] at hpc
        rw [hpc, hpl]
        generalize m.flatMap GLeaf.co = F at *
        have hb1 : k * 2 ≤ m.length * 2 := by omega
        have hb2 : k * 40 ≤ 140737488355328 := by omega
        have hb3 : k ≤ 9223372036854775807 := by omega
        have hb4 : (k + 1) * 40 ≤ 140737488355328 := by omega
        have hb5 : k + 1 ≤ 9223372036854775807 := by omega
        have hb6 : (m.length + 1) * 40 ≤ 140737488355328 := by omega
        have hb7 : m.length ≤ 9223372036854775806 := by omega
        have hTl : (F.take (k * 2)).length = k * 2 := by rw [List.length_take]; omega
        have hmk : ¬ m.length - k = 0 := by omega
        by_cases hk0 : k = 0
        · subst hk0
          have hmn : ¬ m = [] := by rintro rfl; simp at c1
          have hd1 : m.length * 2 ≤ F.length := by omega
          have hd2 : (1 + m.length) * 40 ≤ 140737488355328 := by omega
          have hd3 : 1 + m.length ≤ 9223372036854775807 := by omega
          have hTF : F.take (m.length * 2) = F := List.take_of_length_le (by omega)
          have hHF : (F.map PT.hollow).take (m.length * 2) ++ F.drop (m.length * 2) = F.map PT.hollow := by rw [List.take_of_length_le (by rw [List.length_map]; omega), List.drop_of_length_le (by omega), List.append_nil]
          have hnn : 1 + m.length = m.length + 1 := by omega
          have hD0 : F.drop (m.length * 2) = [] := List.drop_of_length_le (by omega)
          have hr1 : (m.length + 1) * 2 ≤ m.length * 2 + 1 + 1 := by omega
          have hr2 : ∀ a b : PT, List.take ((m.length + 1) * 2) (a :: b :: F) = a :: b :: F := fun a b => List.take_of_length_le (by simp only [List.length_cons]; omega)
          simp [hkl, hmn, hd1, hd2, hd3, hTF, hHF, hnn, hb6, hb7, hD0, hcm, hr1, hr2]
        · have he1 : k * 2 + (m.length - k) * 2 ≤ m.length * 2 := by omega
          have he2 : (k + 1 + (m.length - k)) * 40 ≤ 140737488355328 := by omega
          have he3 : k + 1 + (m.length - k) ≤ 9223372036854775807 := by omega
          have hTT : (F.take (k * 2)).take (k * 2) = F.take (k * 2) := List.take_of_length_le (by omega)
          have hDD : (F.drop (k * 2)).take ((m.length - k) * 2) = F.drop (k * 2) := List.take_of_length_le (by rw [List.length_drop]; omega)
          have hHF : (F.map PT.hollow).take (k * 2) ++ (((F.map PT.hollow).drop (k * 2)).take ((m.length - k) * 2) ++ F.drop (k * 2 + (m.length - k) * 2)) = F.map PT.hollow := by rw [List.drop_of_length_le (l := F) (by omega), List.append_nil, List.take_of_length_le (l := (F.map PT.hollow).drop (k * 2)) (by rw [List.length_drop, List.length_map]; omega), List.take_append_drop]
          have hnn : k + 1 + (m.length - k) = m.length + 1 := by omega
          have hD0 : F.drop (k * 2 + (m.length - k) * 2) = [] := List.drop_of_length_le (by omega)
          have hr1 : (m.length + 1) * 2 ≤ k * 2 + (m.length * 2 - k * 2 + 1 + 1) := by omega
          have hr2 : ∀ a b : PT, List.take ((m.length + 1) * 2) (F.take (k * 2) ++ a :: b :: F.drop (k * 2)) = F.take (k * 2) ++ a :: b :: F.drop (k * 2) := fun a b => List.take_of_length_le (by simp only [List.length_append, List.length_cons, List.length_drop, hTl]; omega)
          simp [hkl, hk0, hb1, hb2, hb3, hb4, hb5, hb6, hb7, hcm, hTl, hmk, he1, he2, he3, hTT, hDD, hHF, hnn, hD0, hr1, hr2]
    · have c1' : ¬ (k : Int) < m.length := by omega
      refine drawP (tabEnv [] _) [⟨[], allD 37, true⟩, ⟨[.arg 0 0], allD 37, true⟩, ⟨[.arg 0 0], allD 37, true⟩, ⟨[], allD 37, true⟩, ⟨[], allD 37, true⟩, ⟨[.arg 0 0], allD 37, true⟩, ⟨[], allD 37, true⟩, ⟨[.arg 0 0], allD 37, true⟩, ⟨[.arg 0 0], allD 37, true⟩, ⟨[.arg 0 0], allD 37, true⟩, ⟨[.op 0 0 0], allD 37, true⟩, ⟨[.op 0 0 0], allD 37, true⟩, ⟨[.arg 0 0, .op 0 0 0], [7, 8, 9, 10, 11, 12, 13, 14, 15, 16, 17, 18, 19, 20], false⟩, ⟨[], allD 37, true⟩] h0 hm (tabEnv_ok tab_nil) (by kernel_rfl) (by kernel_rfl) ?_
      simp [c1, c1']
      have hkn : k = m.length := by omega
      have hat := hat2 hkn
      have hpc := putL_co x.Path x.Value m
      have hpl := putL_len x.Path x.Value m
      rw [hat] at hpc
      rw [hpc, hpl]
      subst hkn
      generalize m.flatMap GLeaf.co = F at *
      have hb2 : m.length * 40 ≤ 140737488355328 := by omega
      have hb3 : m.length ≤ 9223372036854775807 := by omega
      have hb6 : (m.length + 1) * 40 ≤ 140737488355328 := by omega
      have hb7 : m.length ≤ 9223372036854775806 := by omega
      have hTF : F.take (m.length * 2) = F := List.take_of_length_le (by omega)
      have hD0 : F.drop (m.length * 2) = [] := List.drop_of_length_le (by omega)
      have hHT : (F.map PT.hollow).take (m.length * 2) = F.map PT.hollow := List.take_of_length_le (by rw [List.length_map]; omega)
      by_cases hk0 : m = []
      · subst hk0
        have hF0 : F = [] := List.length_eq_zero_iff.1 (by simpa using hcm)
        subst hF0
        simp
      · have hk1 : ¬ m.length = 0 := fun e => hk0 (List.length_eq_zero_iff.1 e)
        simp [hk0, hk1, hb2, hb3, hb6, hb7, hcm, hTF, hD0, hHT]
end Go.V
