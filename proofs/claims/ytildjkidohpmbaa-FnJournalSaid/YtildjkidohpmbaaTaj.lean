/- What functions of the seat's program do, each proved of its code, under the bounds that its theorem names. -/
import Derived.Test.YtildjkidohpmbaaTai
set_option linter.all false
namespace Go.V
open Go.Proofs
set_option maxHeartbeats 1000000
set_option maxRecDepth 10000
set_option linter.unusedSimpArgs false
set_option linter.unusedVariables false
theorem fm_takeE {α β : Type} (f : α → List β) (c : Nat) (hf : ∀ x, (f x).length = c) (l : List α) (i : Nat) (hi : i ≤ l.length) : (l.flatMap f).take (i * c) = (l.take i).flatMap f := by
  have e := congrArg (List.flatMap f) (List.take_append_drop i l)
  rw [List.flatMap_append] at e
  have hl : ((l.take i).flatMap f).length = i * c := by
    rw [List.length_flatMap]
    have : (List.map (fun a => (f a).length) (l.take i)) = List.replicate (l.take i).length c := by
      rw [List.eq_replicate_iff]
      refine ⟨by simp, ?_⟩
      intro b hb
      obtain ⟨a, _, rfl⟩ := List.mem_map.1 hb
      exact hf a
    rw [this, List.sum_replicate_nat, List.length_take, Nat.min_eq_left hi]
  rw [← e, List.take_left' hl]
theorem fm_dropE {α β : Type} (f : α → List β) (c : Nat) (hf : ∀ x, (f x).length = c) (l : List α) (i : Nat) (hi : i ≤ l.length) : (l.flatMap f).drop (i * c) = (l.drop i).flatMap f := by
  have e := congrArg (List.flatMap f) (List.take_append_drop i l)
  rw [List.flatMap_append] at e
  have h := fm_takeE f c hf l i hi
  have hl : ((l.take i).flatMap f).length = i * c := by
    rw [← h, List.length_take, ← e, List.length_append]
    rw [List.length_flatMap]
    have : (List.map (fun a => (f a).length) (l.take i)) = List.replicate (l.take i).length c := by
      rw [List.eq_replicate_iff]
      refine ⟨by simp, ?_⟩
      intro b hb
      obtain ⟨a, _, rfl⟩ := List.mem_map.1 hb
      exact hf a
    rw [this, List.sum_replicate_nat, List.length_take, Nat.min_eq_left hi]
    omega
  rw [← e, List.drop_left' hl]
def keptL (p : List ByteArray) (l : List GLeaf) : List GLeaf := l.filter fun x => !clashB p x
def atI (p : List ByteArray) (m : List GLeaf) : Nat := bsI (fun x : GLeaf => cmpP x.Path p) m
def putL (p : List ByteArray) (v : ByteArray) (m : List GLeaf) : List GLeaf := m.take (atI p m) ++ [⟨p, v⟩] ++ m.drop (atI p m)
theorem atI_le (p : List ByteArray) (m : List GLeaf) : atI p m ≤ m.length := (List.takeWhile_sublist _).length_le
theorem putL_len (p : List ByteArray) (v : ByteArray) (m : List GLeaf) : (putL p v m).length = m.length + 1 := by
  have := atI_le p m
  unfold putL
  simp only [List.length_append, List.length_take, List.length_drop, List.length_cons, List.length_nil]
  omega
theorem putL_mem {p : List ByteArray} {v : ByteArray} {m : List GLeaf} {x : GLeaf} (h : x ∈ putL p v m) : x = ⟨p, v⟩ ∨ x ∈ m := by
  unfold putL at h
  rcases List.mem_append.1 h with h | h
  · rcases List.mem_append.1 h with h | h
    · exact .inr (List.mem_of_mem_take h)
    · exact .inl (List.mem_singleton.1 h)
  · exact .inr (List.mem_of_mem_drop h)
theorem putL_co (p : List ByteArray) (v : ByteArray) (m : List GLeaf) : (putL p v m).flatMap GLeaf.co = (m.flatMap GLeaf.co).take (atI p m * 2) ++ GLeaf.co ⟨p, v⟩ ++ (m.flatMap GLeaf.co).drop (atI p m * 2) := by
  rw [fm_takeE GLeaf.co 2 (fun _ => rfl) m _ (atI_le p m), fm_dropE GLeaf.co 2 (fun _ => rfl) m _ (atI_le p m)]
  unfold putL
  rw [List.flatMap_append, List.flatMap_append, List.flatMap_cons, List.flatMap_nil, List.append_nil]
def setC (p : List ByteArray) (v : ByteArray) (l : List GLeaf) : List GLeaf := putL p v (keptL p l)
theorem kept_conf {p : List ByteArray} {l : List GLeaf} (h : confOK l) : confOK (keptL p l) := ⟨Nat.le_trans (List.length_filter_le _ _) h.1, fun x hx => h.2 x (List.mem_filter.1 hx).1⟩
theorem set_conf {p : List ByteArray} {v : ByteArray} {l : List GLeaf} (h : confOK l) (hl : l.length ≤ 1048576) (hp : strsOK p) (hv : v.size ≤ 140737488355328) : confOK (setC p v l) := by
  refine ⟨?_, fun x hx => ?_⟩
  · have h2 : (keptL p l).length ≤ l.length := List.length_filter_le _ _
    unfold setC
    rw [putL_len]
    omega
  · rcases putL_mem hx with rfl | hx
    · exact ⟨hp, hv⟩
    · exact (kept_conf h).2 x hx
theorem ok_isetAt (k k' : Nat) (l : List GLeaf) (p : List ByteArray) (v : ByteArray) (hl : l.length ≤ 1048576) (hx : ∀ x ∈ l, x.Path.length ≤ 1048576) (hlo : confOK l) (hp : strsOK p) (hp1 : p.length ≤ 1048576) (hv : v.size ≤ 140737488355328) (hg : goodC l = true) : CallOK Try.prog 113 [.c (rd k l.length (l.flatMap (GLeaf.ci k))), .c (rd k' p.length (p.map ps)), .c (ps v)] (.tup [.c (.sl 0 103 (setC p v l).length ((setC p v l).flatMap GLeaf.co)), .c (pb (goodC (setC p v l)))]) [.c (rd k l.length (l.flatMap (GLeaf.ci k))), .c (rd k' p.length (p.map ps)), .c (ps v)] := by
  refine okS (fn := Try.f113) [(114, [2]), (135, [2,0,2])] h0 Try.func113 (by kernel_rfl) rfl Try.ntmps113 Try.results113 (by simp) ?_
  simp
  refine Inv_intro (ok_ownConfig k l hl hx) ?_
  simp
  refine Inv_intro (ok_DeleteFunc_Leaf 1 132 [[rd 0 p.length (p.map ps)]] (clashB p) l hlo.1 (fun x hx => ok_setAt1 1 0 0 x p (hlo.2 x hx).1.1 hp.1)) ?_
  have hkl : l.filter (fun x => !clashB p x) = keptL p l := rfl
  have hkn : (keptL p l).length ≤ l.length := List.length_filter_le _ _
  have hko := kept_conf (p := p) hlo
  have hso := set_conf (p := p) (v := v) hlo hl hp hv
  have hsort : (keptL p l).Pairwise (fun x y => lessP x.Path y.Path = true) := (goodC_pair hg).filter _
  have hsl : setC p v l = putL p v (keptL p l) := rfl
  rw [hkl]
  generalize keptL p l = m at *
  rw [hsl] at hso ⊢
  simp
  refine Inv_intro (ok_BS_Leaf 0 k' m p hko hp.1 (pair_mono hsort p)) ?_
  have hat : bsI (fun o : GLeaf => cmpP o.Path p) m = atI p m := rfl
  have hle := atI_le p m
  have hcl := fm_len GLeaf.co 2 (fun _ => rfl) m
  have hpc := putL_co p v m
  have hpl := putL_len p v m
  rw [hat]
  simp
  refine Inv_intro (ok_Clone_String k' p hp1) ?_
  simp
  refine Inv_intro (ok_Insert_Leaf m.length (atI p m) (m.flatMap GLeaf.co) (GLeaf.co ⟨p, v⟩) hcl rfl hle (by omega)) ?_
  rw [← hpc, ← hpl]
  simp
  refine Inv_intro (ok_iGoodConfig 0 (putL p v m) hso) ?_
  simp
def rSetAt (l : List GLeaf) (p : List ByteArray) (v : ByteArray) : List GLeaf × Bool := if (goodC l && isP p && isW v && goodC (setC p v l)) = true then (setC p v l, true) else ([], false)
theorem ok_iSetAt (k k' : Nat) (l : List GLeaf) (p : List ByteArray) (v : ByteArray) (hl : l.length ≤ 1048576) (hx : ∀ x ∈ l, x.Path.length ≤ 1048576) (hlo : confOK l) (hp : strsOK p) (hp1 : p.length ≤ 1048576) (hv : v.size ≤ 140737488355328) : CallOK Try.prog 84 [.c (rd k l.length (l.flatMap (GLeaf.ci k))), .c (rd k' p.length (p.map ps)), .c (ps v)] (.tup [.c (.sl 0 103 (rSetAt l p v).1.length ((rSetAt l p v).1.flatMap GLeaf.co)), .c (pb (rSetAt l p v).2)]) [.c (rd k l.length (l.flatMap (GLeaf.ci k))), .c (rd k' p.length (p.map ps)), .c (ps v)] := by
  refine okS (fn := Try.f84) [] h0 Try.func84 (by kernel_rfl) rfl Try.ntmps84 Try.results84 (by simp) ?_
  simp
  refine Inv_intro (ok_iGoodConfig k l hlo) ?_
  simp
  cases c1 : goodC l with
  | false => simp [rSetAt, c1]
  | true =>
    simp
    refine Inv_intro (ok_areWords k' p hp.1 hp.2) ?_
    simp
    cases c2 : isP p with
    | false => simp [rSetAt, c2]
    | true =>
      simp
      refine Inv_intro (ok_isWord v hv) ?_
      simp
      cases c3 : isW v with
      | false => simp [rSetAt, c3]
      | true =>
        simp
        refine Inv_intro (ok_isetAt k k' l p v hl hx hlo hp hp1 hv c1) ?_
        simp
        cases c4 : goodC (setC p v l) with
        | false => simp [rSetAt, c4]
        | true =>
          have er : rSetAt l p v = (setC p v l, true) := by simp [rSetAt, c1, c2, c3, c4]
          rw [er]
          simp
structure GCommand where
  Set : Bool
  Path : (List ByteArray)
  Value : ByteArray
  deriving DecidableEq
def GCommand.co (x : GCommand) : List PT := [pb x.Set, .sl 0 9 x.Path.length (x.Path.map ps), ps x.Value]
def GCommand.ci (k : Nat) (x : GCommand) : List PT := [pb x.Set, rd k x.Path.length (x.Path.map ps), ps x.Value]
attribute [simp] GCommand.co GCommand.ci
theorem GCommand.len_o (x : GCommand) : x.co.length = 3 := rfl
theorem GCommand.len_i (k : Nat) (x : GCommand) : (x.ci k).length = 3 := rfl
theorem GCommand.un1 (x : GCommand) : PT.unownL x.co = x.ci 0 := by simp [rd]
theorem GCommand.uni1 (k : Nat) (x : GCommand) : PT.unownL (x.ci k) = x.ci 0 := by simp [rd]
theorem GCommand.un (xs : List GCommand) : PT.unownL (xs.flatMap GCommand.co) = xs.flatMap (GCommand.ci 0) := by
  rw [unownL_fm]
  congr 1
  funext x
  exact GCommand.un1 x
theorem GCommand.uni (k : Nat) (xs : List GCommand) : PT.unownL (xs.flatMap (GCommand.ci k)) = xs.flatMap (GCommand.ci 0) := by
  rw [unownL_fm]
  congr 1
  funext x
  exact GCommand.uni1 k x
theorem GCommand.nt (xs : List GCommand) : PT.noTmpL (xs.flatMap GCommand.co) = true := noTmpL_fm _ xs fun x => by simp
theorem GCommand.nti (k : Nat) (xs : List GCommand) : PT.noTmpL (xs.flatMap (GCommand.ci (k + 1))) = true := noTmpL_fm _ xs fun x => by simp [rd]
attribute [simp] GCommand.un GCommand.uni GCommand.nt GCommand.nti
theorem GCommand.lenR (xs : List GCommand) : (xs.flatMap GCommand.co).length = xs.length * 3 := fm_len _ 3 (fun _ => rfl) xs
theorem GCommand.lenRi (k : Nat) (xs : List GCommand) : (xs.flatMap (GCommand.ci k)).length = xs.length * 3 := fm_len _ 3 (fun _ => rfl) xs
theorem GCommand.tkR (xs : List GCommand) : (xs.flatMap GCommand.co).take (xs.length * 3) = xs.flatMap GCommand.co := List.take_of_length_le (by rw [GCommand.lenR]; exact Nat.le_refl _)
theorem GCommand.tkRi (k : Nat) (xs : List GCommand) : (xs.flatMap (GCommand.ci k)).take (xs.length * 3) = xs.flatMap (GCommand.ci k) := List.take_of_length_le (by rw [GCommand.lenRi]; exact Nat.le_refl _)
attribute [simp high] GCommand.lenR GCommand.tkR GCommand.lenRi GCommand.tkRi
def GCommand.wt (x : GCommand) : Nat := wt_StringS x.Path + x.Value.size
def GCommand.fits (x : GCommand) : Prop := fits_StringS x.Path ∧ x.Value.size ≤ 140737488351232
def GCommand.lens (x : GCommand) : Prop := lens_StringS x.Path
def GCommand.mark (x : GCommand) (k : Int) : GCommand × Int := (⟨decide (Int.tmod k 3 = 0), (mk_StringS x.Path (k + 1)).1, mtext (mk_StringS x.Path (k + 1)).2⟩, ((mk_StringS x.Path (k + 1)).2 + 1))
def GCommand.cn (x : GCommand) : Nat := 1 + cn_StringS x.Path + 1
theorem GCommand.mark_snd (x : GCommand) (k : Int) : (GCommand.mark x k).2 = k + GCommand.cn x := by
  simp only [GCommand.mark, GCommand.cn, mk_StringS_snd] <;> omega
def GCommand.markT (x : GCommand) (k : Int) : GCommand × Int := (⟨x.Set, (mk_StringS x.Path k).1, x.Value⟩, (mk_StringS x.Path k).2)
def GCommand.cnT (x : GCommand) : Nat := cn_StringS x.Path
theorem GCommand.markT_snd (x : GCommand) (k : Int) : (GCommand.markT x k).2 = k + GCommand.cnT x := by
  simp only [GCommand.markT, GCommand.cnT, mk_StringS_snd] <;> omega
theorem lens_of_Command {x : GCommand} (h : GCommand.wt x ≤ 1048576) : GCommand.lens x := by
  unfold GCommand.wt at h
  exact lens_of_StringS (by omega)
theorem cn_le_Command (x : GCommand) : GCommand.cnT x ≤ 32 * GCommand.wt x := by
  unfold GCommand.cnT GCommand.wt
  have := cn_le_StringS x.Path
  omega
theorem cnE_le_Command (x : GCommand) : GCommand.cn x ≤ 32 * GCommand.wt x + 16 := by
  unfold GCommand.cn GCommand.wt
  have := cn_le_StringS x.Path
  omega
def boundC (l : List GLeaf) : Prop := l.length ≤ 1048576 ∧ ∀ x ∈ l, x.Path.length ≤ 1048576 ∧ leafOK x
theorem boundC_conf {l : List GLeaf} (h : boundC l) : confOK l := ⟨by have := h.1; omega, fun x hx => (h.2 x hx).2⟩
def cmdOK (c : GCommand) : Prop := c.Path.length ≤ 1048576 ∧ strsOK c.Path ∧ c.Value.size ≤ 140737488355328
def doStep (out : List GLeaf) (c : GCommand) : List GLeaf × Bool := if c.Set = true then rSetAt out c.Path c.Value else if c.Value = ⟨#[]⟩ then rDeleteAt out c.Path else ([], false)
theorem bound_step {out : List GLeaf} {c : GCommand} (h : boundC out) (hc : cmdOK c) : boundC (doStep out c).1 := by
  have hnil : boundC [] := ⟨Nat.zero_le _, fun x hx => absurd hx (by simp)⟩
  unfold doStep
  split
  · unfold rSetAt
    split
    · rename_i hg
      simp only [Bool.and_eq_true] at hg
      have hg2 := hg.2
      simp only [goodC, Bool.and_eq_true, decide_eq_true_eq] at hg2
      refine ⟨by have := hg2.2; show (setC c.Path c.Value out).length ≤ _; omega, fun x hx => ?_⟩
      rcases putL_mem hx with rfl | hx
      · exact ⟨hc.1, hc.2.1, hc.2.2⟩
      · exact h.2 x (List.mem_filter.1 hx).1
    · exact hnil
  · split
    · unfold rDeleteAt
      split
      · exact ⟨Nat.le_trans (delL_len _ _) h.1, fun x hx => h.2 x (List.mem_filter.1 hx).1⟩
      · exact hnil
    · exact hnil
def doI (l : List GLeaf) (cs : List GCommand) : Nat → Option (List GLeaf)
  | 0 => some l
  | i + 1 => match doI l cs i with
    | none => none
    | some o => match cs[i]? with
      | none => none
      | some c => if (doStep o c).2 = true then some (doStep o c).1 else none
theorem doI_none (l : List GLeaf) (cs : List GCommand) {i : Nat} (h : doI l cs i = none) : ∀ n, i ≤ n → doI l cs n = none
  | n, hn => by
    induction hn with
    | refl => exact h
    | step _ ih => simp only [doI, ih]
theorem doI_bound {l : List GLeaf} {cs : List GCommand} (hl : boundC l) (hc : ∀ c ∈ cs, cmdOK c) : ∀ (i : Nat) (o : List GLeaf), doI l cs i = some o → boundC o
  | 0, o, h => by cases h; exact hl
  | i + 1, o, h => by
    unfold doI at h
    split at h
    · cases h
    · rename_i o' ho'
      split at h
      · cases h
      · rename_i c hcs
        split at h
        · cases h
          exact bound_step (doI_bound hl hc i o' ho') (hc c (List.mem_of_getElem? hcs))
        · cases h
def rDoCommands (l : List GLeaf) (cs : List GCommand) : List GLeaf × Bool := if goodC l = true ∧ cs.length ≤ 80 then match doI l cs cs.length with
    | some o => (o, true)
    | none => ([], false)
  else ([], false)
theorem ok_sGoodConfig (k : Nat) (l : List GLeaf) (hl : confOK l) : CallOK Try.prog 81 [.c (rd k l.length (l.flatMap (GLeaf.ci k)))] (.c (pb (goodC l))) [.c (rd k l.length (l.flatMap (GLeaf.ci k)))] := by
  obtain ⟨hll, hlx⟩ := hl
  refine okS (fn := Try.f81) [] h0 Try.func81 (by kernel_rfl) rfl Try.ntmps81 Try.results81 (by simp) ?_
  simp
  refine loopS [0, 5, 6, 7] [] (fun n st => ∃ (i : Nat), i + n = l.length ∧ goodG (prevC l i) (l.drop i) = goodG none l ∧ st = ⟨slOf 51 [(0, .t (rd k l.length (l.flatMap (GLeaf.ci k)))), (5, .t (rd k l.length (l.flatMap (GLeaf.ci k)))), (6, .t (pi l.length)), (7, .t (pi i))], ofL []⟩) l.length ?_ ?_
  · rintro Inv hI
    simp
    subst hI
    exact ⟨0, by omega, rfl, rfl⟩
  · rintro Inv hI n st ⟨i, hi, hg, rfl⟩
    refine ewr_sound (M := []) h0 ?_
    simp
    refine brn_app (fun a => ?_) (fun a => ?_)
    · simp at a
      have hx := hlx l[i] (List.getElem_mem a)
      obtain ⟨⟨hx1, hx2⟩, hx3⟩ := hx
      rw [drop_step _ i a, goodG] at hg
      have hd := fm_drop (GLeaf.ci k) 2 (fun _ => rfl) l i a
      have hlen := fm_len (GLeaf.ci k) 2 (fun _ => rfl) l
      have hlt : i * 2 < l.length * 2 := by omega
      have en : prevC l (i + 1) = some l[i] := prevC_next l i a
      simp [a, hd, hlen, hlt]
      refine Inv_intro (ok_l15Path k l[i].Path hx1 hx2) ?_
      simp
      cases c1 : isP l[i].Path with
      | false =>
        have hk : okLeaf l[i] = false := by simp [okLeaf, c1]
        rw [hk, Bool.false_and, Bool.false_and] at hg
        simp [goodC, ← hg]
      | true =>
        simp
        refine Inv_intro (ok_l15Word l[i].Value hx3) ?_
        simp
        cases c2 : isW l[i].Value with
        | false =>
          have hk : okLeaf l[i] = false := by simp [okLeaf, c2]
          rw [hk, Bool.false_and, Bool.false_and] at hg
          simp [goodC, ← hg]
        | true =>
          have hk : okLeaf l[i] = true := by simp [okLeaf, c1, c2]
          rw [hk, Bool.true_and] at hg
          simp
          by_cases c0 : i = 0
          · have e0 : ¬ 0 < i := by omega
            have ep : prevC l i = none := by simp [prevC, c0]
            rw [ep, adjC, Bool.true_and] at hg
            refine drawP (tabEnv [] _) [⟨[], allD 51, true⟩, ⟨[], allD 51, true⟩, ⟨[], allD 51, true⟩, ⟨[], allD 51, true⟩, ⟨[], allD 51, true⟩, ⟨[], allD 51, true⟩, ⟨[], allD 51, true⟩, ⟨[], allD 51, true⟩, ⟨[], allD 51, true⟩, ⟨[.op 3 3 0], allD 51, true⟩, ⟨[.op 3 3 0], allD 51, true⟩, ⟨[], allD 51, false⟩, ⟨[], allD 51, true⟩, ⟨[], allD 51, true⟩, ⟨[], allD 51, true⟩, ⟨[], allD 51, true⟩, ⟨[], allD 51, true⟩, ⟨[], allD 51, true⟩, ⟨[], allD 51, true⟩, ⟨[], allD 51, true⟩, ⟨[.op 3 3 0], allD 51, true⟩, ⟨[.op 3 3 0], allD 51, true⟩, ⟨[], allD 51, false⟩, ⟨[], allD 51, true⟩, ⟨[], allD 51, true⟩] h0 hm (tabEnv_ok tab_nil) (by kernel_rfl) (by kernel_rfl) ?_
            simp [e0]
            subst hI
            exact Less_mk (n - 1) (by omega) ⟨i + 1, by omega, by rw [en]; exact hg, by rw [wrNext i (by omega)]⟩
          · obtain ⟨j, hj⟩ : ∃ j, i = j + 1 := ⟨i - 1, by omega⟩
            have aj : j < l.length := by omega
            have ep : prevC l i = some l[j] := by subst hj; exact prevC_next l j aj
            obtain ⟨⟨hy1, hy2⟩, hy3⟩ := hlx l[j] (List.getElem_mem aj)
            have hdj := fm_drop (GLeaf.ci k) 2 (fun _ => rfl) l j aj
            have hltj : j * 2 < l.length * 2 := by omega
            have hw : IntKind.wrap .i64 ((i : Int) - 1) = j := (wrap64 (by omega) (by omega)).trans (by omega)
            have e0 : 0 < i := by omega
            rw [ep, adjC] at hg
            refine drawP (tabEnv [] _) [⟨[], allD 51, true⟩, ⟨[], allD 51, true⟩, ⟨[], allD 51, true⟩, ⟨[], allD 51, true⟩, ⟨[], allD 51, true⟩, ⟨[], allD 51, true⟩, ⟨[], allD 51, true⟩, ⟨[], allD 51, true⟩, ⟨[], allD 51, true⟩, ⟨[.op 3 3 0], allD 51, true⟩, ⟨[.op 3 3 0], allD 51, true⟩, ⟨[], allD 51, false⟩, ⟨[], allD 51, true⟩, ⟨[], allD 51, true⟩, ⟨[], allD 51, true⟩, ⟨[], allD 51, true⟩, ⟨[], allD 51, true⟩, ⟨[], allD 51, true⟩, ⟨[], allD 51, true⟩, ⟨[], allD 51, true⟩, ⟨[.op 3 3 0], allD 51, true⟩, ⟨[.op 3 3 0], allD 51, true⟩, ⟨[], allD 51, false⟩, ⟨[], allD 51, true⟩, ⟨[], allD 51, true⟩] h0 hm (tabEnv_ok (tab_cons (ok_l15Less k k l[j].Path l[i].Path hy1 hx1) (tab_cons (ok_l15Begins k k l[j].Path l[i].Path hy1 hx1) tab_nil))) (by kernel_rfl) (by kernel_rfl) ?_
            cases c3 : lessP l[j].Path l[i].Path with
            | false =>
              rw [c3, Bool.false_and, Bool.false_and] at hg
              simp [c3, e0, hw, aj, hdj, hlen, hltj, goodC, ← hg]
            | true =>
              cases c4 : begP l[j].Path l[i].Path with
              | true =>
                rw [c3, c4] at hg
                have hg' : false = goodG none l := hg
                simp [c3, c4, e0, hw, aj, hdj, hlen, hltj, goodC, ← hg']
              | false =>
                rw [c3, c4] at hg
                have hg' : goodG (some l[i]) (l.drop (i + 1)) = goodG none l := hg
                simp [c3, c4, e0, hw, aj, hdj, hlen, hltj]
                subst hI
                exact Less_mk (n - 1) (by omega) ⟨i + 1, by omega, by rw [en]; exact hg', by rw [wrNext i (by omega)]⟩
    · simp at a
      rw [List.drop_of_length_le (by omega)] at hg
      have hg' : true = goodG none l := by rw [← hg]; cases prevC l i <;> rfl
      simp [goodC, ← hg']
      omega
abbrev cLeafSo (xs : List GLeaf) : PT := .sl 0 103 xs.length (xs.flatMap GLeaf.co)
abbrev cLeafSi (k : Nat) (xs : List GLeaf) : PT := rd k xs.length (xs.flatMap (GLeaf.ci k))
def wt_LeafS (xs : List GLeaf) : Nat := wtR GLeaf.wt xs
theorem len_wt_LeafS (xs : List GLeaf) : xs.length ≤ wt_LeafS xs := by unfold wt_LeafS wtR; omega
theorem mem_wt_LeafS {xs : List GLeaf} {x : GLeaf} (h : x ∈ xs) : GLeaf.wt x ≤ wt_LeafS xs := by
  have := wt_mem GLeaf.wt h
  unfold wt_LeafS wtR
  omega
def fits_LeafS (xs : List GLeaf) : Prop := xs.length ≤ 140737488351232 ∧ ∀ x ∈ xs, GLeaf.fits x
def lens_LeafS (xs : List GLeaf) : Prop := xs.length ≤ 140737488351232 ∧ ∀ x ∈ xs, GLeaf.lens x
def mk_LeafS (xs : List GLeaf) (k : Int) : List GLeaf × Int := mkR GLeaf.mark xs k
def cn_LeafS (xs : List GLeaf) : Nat := cnR GLeaf.cn xs
theorem mk_LeafS_len (xs : List GLeaf) (k : Int) : (mk_LeafS xs k).1.length = xs.length := mkR_len _ xs k
attribute [simp] mk_LeafS_len
theorem mk_LeafS_snd (xs : List GLeaf) (k : Int) : (mk_LeafS xs k).2 = k + cn_LeafS xs := mkR_snd (GLeaf.mark_snd) xs k
theorem lens_of_LeafS {xs : List GLeaf} (h : wt_LeafS xs ≤ 1048576) : lens_LeafS xs := by
  have hl := len_wt_LeafS xs
  exact ⟨by omega, fun x hx => lens_of_Leaf (by have := mem_wt_LeafS hx; omega)⟩
theorem cn_le_LeafS (xs : List GLeaf) : cn_LeafS xs ≤ 32 * wt_LeafS xs := cnR_le (fun x => by have := cnE_le_Leaf x; omega) xs
theorem strs_ok {p : List ByteArray} (h : wt_StringS p ≤ 1048576) : strsOK p := by
  have := len_wt_StringS p
  refine ⟨by omega, fun s hs => ?_⟩
  have := mem_wt_StringS hs
  omega
theorem leaf_ok {x : GLeaf} (h : GLeaf.wt x ≤ 1048576) : leafOK x := by
  unfold GLeaf.wt at h
  exact ⟨strs_ok (by omega), by omega⟩
theorem conf_ok {l : List GLeaf} (h : wt_LeafS l ≤ 1048576) : confOK l := by
  have := len_wt_LeafS l
  refine ⟨by omega, fun x hx => leaf_ok ?_⟩
  have := mem_wt_LeafS hx
  omega
theorem conf_len {l : List GLeaf} (h : wt_LeafS l ≤ 1048576) : l.length ≤ 1048576 ∧ ∀ x ∈ l, x.Path.length ≤ 1048576 := by
  have := len_wt_LeafS l
  refine ⟨by omega, fun x hx => ?_⟩
  have := mem_wt_LeafS hx
  have := len_wt_StringS x.Path
  unfold GLeaf.wt at *
  omega
def rGoodConfig (v0 : List GLeaf) : Bool := goodC v0
theorem law_iGoodConfig (v0 : List GLeaf) (h0 : wt_LeafS v0 ≤ 1048576) : CallOK Try.prog 44 [.c (rd 0 v0.length (v0.flatMap (GLeaf.ci 0)))] (.c (pb (rGoodConfig v0))) [.c (rd 0 v0.length (v0.flatMap (GLeaf.ci 0)))] := ok_iGoodConfig 0 v0 (conf_ok h0)
theorem law_sGoodConfig (v0 : List GLeaf) (h0 : wt_LeafS v0 ≤ 1048576) : CallOK Try.prog 81 [.c (rd 0 v0.length (v0.flatMap (GLeaf.ci 0)))] (.c (pb (rGoodConfig v0))) [.c (rd 0 v0.length (v0.flatMap (GLeaf.ci 0)))] := ok_sGoodConfig 0 v0 (conf_ok h0)
theorem idxOf_cases {α : Type} (p : α → Bool) (xs : List α) : (idxOf p xs = -1 ∧ xs.find? p = none) ∨ ∃ (i : Nat) (h : i < xs.length), idxOf p xs = i ∧ xs.find? p = some xs[i] := by
  unfold idxOf
  cases h : xs.findIdx? p with
  | none =>
    rw [List.findIdx?_eq_none_iff] at h
    exact .inl ⟨rfl, List.find?_eq_none.2 fun x hx => by simp [h x hx]⟩
  | some i =>
    rw [List.findIdx?_eq_some_iff_getElem] at h
    obtain ⟨h1, h2, h3⟩ := h
    exact .inr ⟨i, h1, rfl, List.find?_eq_some_iff_getElem.2 ⟨h2, i, h1, rfl, fun j hj => by simpa using h3 j hj⟩⟩
def atP (p : List ByteArray) (x : GLeaf) : Bool := decide (x.Path = p)
theorem ok_find1 (q k k' : Nat) (x : GLeaf) (p : List ByteArray) (hx : x.Path.length ≤ 140737488351232) (hp : p.length ≤ 140737488351232) : CallOK Try.prog 130 [.agg (GLeaf.ci k x), .ip q [rd k' p.length (p.map ps)]] (.c (pb (atP p x))) [.agg (GLeaf.ci k x), .ip q [rd k' p.length (p.map ps)]] := by
  refine okS (fn := Try.f130) [] h0 Try.func130 (by kernel_rfl) rfl Try.ntmps130 Try.results130 (by simp) ?_
  simp
  refine Inv_intro (ok_EqualS k k' x.Path p hx hp) ?_
  simp [atP]
theorem ok_find (k k' : Nat) (l : List GLeaf) (p : List ByteArray) (hl : confOK l) (hp : p.length ≤ 140737488351232) : CallOK Try.prog 110 [.c (rd k l.length (l.flatMap (GLeaf.ci k))), .c (rd k' p.length (p.map ps))] (.c (pi (idxOf (atP p) l))) [.c (rd k l.length (l.flatMap (GLeaf.ci k))), .c (rd k' p.length (p.map ps))] := by
  refine okS (fn := Try.f110) [] h0 Try.func110 (by kernel_rfl) rfl Try.ntmps110 Try.results110 (by simp) ?_
  simp
  refine Inv_intro (ok_IndexFunc_Leaf k 1 130 [[rd 0 p.length (p.map ps)]] (atP p) l hl.1 (fun x hx => ok_find1 1 k 0 x p (hl.2 x hx).1.1 hp)) ?_
  simp
theorem fmap_snoc {α β : Type} (f : α → Bool) (g : α → β) (l : List α) (i : Nat) (h : i < l.length) : ((l.take (i + 1)).filter f).map g = ((l.take i).filter f).map g ++ (if f l[i] = true then [g l[i]] else []) := by
  rw [take_step l i h, List.filter_append, List.map_append]
  congr 1
  by_cases hb : f l[i] = true <;> simp [hb]
theorem fmap_len {α β : Type} (f : α → Bool) (g : α → β) (l : List α) : ((l.filter f).map g).length ≤ l.length := by
  rw [List.length_map]
  exact List.length_filter_le _ _
def goneC (b : List GLeaf) (x : GLeaf) : Bool := (b.find? (atP x.Path)).isNone
def delCo (x : GLeaf) : GCommand := ⟨false, x.Path, ByteArray.empty⟩
def freshC (a : List GLeaf) (x : GLeaf) : Bool := match a.find? (atP x.Path) with
  | some y => !decide (y.Value = x.Value)
  | none => true
def setCo (x : GLeaf) : GCommand := ⟨true, x.Path, x.Value⟩
def diffL (a b : List GLeaf) : List GCommand := (a.filter (goneC b)).map delCo ++ (b.filter (freshC a)).map setCo
theorem ok_diffOf (k k' : Nat) (a b : List GLeaf) (ha : a.length ≤ 1048576) (hax : ∀ x ∈ a, x.Path.length ≤ 1048576) (hb : b.length ≤ 1048576) (hbx : ∀ x ∈ b, x.Path.length ≤ 1048576) (hao : confOK a) (hbo : confOK b) : CallOK Try.prog 80 [.c (rd k a.length (a.flatMap (GLeaf.ci k))), .c (rd k' b.length (b.flatMap (GLeaf.ci k')))] (.c (.sl 0 65 (diffL a b).length ((diffL a b).flatMap GCommand.co))) [.c (rd k a.length (a.flatMap (GLeaf.ci k))), .c (rd k' b.length (b.flatMap (GLeaf.ci k')))] := by
  refine okS (fn := Try.f80) [] h0 Try.func80 (by kernel_rfl) rfl Try.ntmps80 Try.results80 (by simp) ?_
  simp
  refine ewp_sw (.op 1 0 0) (.op 6 6 0) rfl rfl ?_
  simp
  refine loopS [0, 1, 5, 12, 13, 14] [.op 6 6 0] (fun n st => ∃ (i : Nat), i + n = a.length ∧ st = ⟨slOf 64 [(0, .t (rd k a.length (a.flatMap (GLeaf.ci k)))), (1, .t (rd k' b.length (b.flatMap (GLeaf.ci k')))), (5, .ref ⟨.op 6 6 0, []⟩ 0 (((a.take i).filter (goneC b)).map delCo).length), (12, .t (rd k a.length (a.flatMap (GLeaf.ci k)))), (13, .t (pi a.length)), (14, .t (pi i))], ofL [(.op 6 6 0, .sl 0 65 (((a.take i).filter (goneC b)).map delCo).length ((((a.take i).filter (goneC b)).map delCo).flatMap GCommand.co))]⟩) a.length ?_ ?_
  · rintro Inv hI
    simp
    subst hI
    exact ⟨0, by omega, by simp⟩
  · rintro Inv hI n st ⟨i, hi, rfl⟩
    have hO : (((a.take i).filter (goneC b)).map delCo).length ≤ i := Nat.le_trans (fmap_len _ _ _) (by simp; omega)
    have hS := fmap_snoc (goneC b) delCo a i
    generalize hOe : ((a.take i).filter (goneC b)).map delCo = O at hO hS ⊢
    have hA := fm_len GCommand.co 3 (fun _ => rfl) O
    have hAm : ∀ y, (O ++ [y]).flatMap GCommand.co = O.flatMap GCommand.co ++ GCommand.co y := fun y => by simp
    generalize hAe : O.flatMap GCommand.co = A at hA hAm ⊢
    refine ewr_sound (M := []) h0 ?_
    simp
    refine brn_app (fun c => ?_) (fun c => ?_)
    · simp at c
      have hd := fm_drop (GLeaf.ci k) 2 (fun _ => rfl) a i c
      have hlen := fm_len (GLeaf.ci k) 2 (fun _ => rfl) a
      have hlt : i * 2 < a.length * 2 := by omega
      have hp1 := hax _ (List.getElem_mem c)
      have hS' := hS c
      have hb1 : (O.length + 1) * 48 ≤ 140737488355328 := by omega
      have hb2 : O.length ≤ 9223372036854775806 := by omega
      have ht : A.take (O.length * 3) = A := List.take_of_length_le (by omega)
      simp [c, hd, hlen, hlt]
      refine Inv_intro (ok_find k' k b a[i].Path hbo (by omega)) ?_
      simp
      have hc2 := idxOf_cases (atP a[i].Path) b
      refine brn_app (fun d => ?_) (fun d => ?_)
      · simp at d
        have hg : goneC b a[i] = true := by
          rcases hc2 with ⟨e1, e2⟩ | ⟨j, hj, e1, e2⟩
          · simp only [goneC, e2, Option.isNone_none]
          · omega
        simp
        refine Inv_intro (ok_Clone_String k a[i].Path hp1) ?_
        simp [hA, hb1, hb2, ht]
        rw [hg] at hS'
        subst hI
        refine Less_mk (n - 1) (by omega) ⟨i + 1, by omega, ?_⟩
        rw [wrNext i (by omega), hS']
        simp [hAm, hAe, delCo]
      · simp at d
        have hg : goneC b a[i] = false := by
          rcases hc2 with ⟨e1, e2⟩ | ⟨j, hj, e1, e2⟩
          · omega
          · simp only [goneC, e2, Option.isNone_some]
        simp
        rw [hg] at hS'
        subst hI
        refine Less_mk (n - 1) (by omega) ⟨i + 1, by omega, ?_⟩
        rw [wrNext i (by omega), hS']
        simp [hAe]
    · simp at c
      have ht : List.take i a = a := List.take_of_length_le (by omega)
      rw [ht] at hOe
      simp
      refine ewp_sw (.op 6 6 0) (.op 13 8 0) rfl rfl ?_
      simp
      refine loopS [0, 5, 31, 32, 33] [.op 13 8 0] (fun n st => ∃ (i : Nat), i + n = b.length ∧ st = ⟨slOf 64 [(0, .t (rd k a.length (a.flatMap (GLeaf.ci k)))), (5, .ref ⟨.op 13 8 0, []⟩ 0 (O.length + (((b.take i).filter (freshC a)).map setCo).length)), (31, .t (rd k' b.length (b.flatMap (GLeaf.ci k')))), (32, .t (pi b.length)), (33, .t (pi i))], ofL [(.op 13 8 0, .sl 0 65 (O.length + (((b.take i).filter (freshC a)).map setCo).length) (A ++ (((b.take i).filter (freshC a)).map setCo).flatMap GCommand.co))]⟩) b.length ?_ ?_
      · rintro Inv hI
        simp
        subst hI
        exact ⟨0, by omega, by simp⟩
      · rintro Inv hI n st ⟨i, hi, rfl⟩
        have hO2 : (((b.take i).filter (freshC a)).map setCo).length ≤ i := Nat.le_trans (fmap_len _ _ _) (by simp; omega)
        have hS2 := fmap_snoc (freshC a) setCo b i
        generalize hOe2 : ((b.take i).filter (freshC a)).map setCo = O2 at hO2 hS2 ⊢
        have hA2 := fm_len GCommand.co 3 (fun _ => rfl) O2
        have hAm2 : ∀ y, (O2 ++ [y]).flatMap GCommand.co = O2.flatMap GCommand.co ++ GCommand.co y := fun y => by simp
        generalize hAe2 : O2.flatMap GCommand.co = A2 at hA2 hAm2 ⊢
        have hAA : (A ++ A2).length = (O.length + O2.length) * 3 := by simp [hA, hA2]; omega
        generalize hAX : A ++ A2 = X at hAA ⊢
        refine ewr_sound (M := []) h0 ?_
        simp
        refine brn_app (fun c2 => ?_) (fun c2 => ?_)
        · simp at c2
          have hd := fm_drop (GLeaf.ci k') 2 (fun _ => rfl) b i c2
          have hlen := fm_len (GLeaf.ci k') 2 (fun _ => rfl) b
          have hlt : i * 2 < b.length * 2 := by omega
          have hp1 := hbx _ (List.getElem_mem c2)
          have hS' := hS2 c2
          have hb1 : (O.length + O2.length + 1) * 48 ≤ 140737488355328 := by omega
          have hb2 : O.length + O2.length ≤ 9223372036854775806 := by omega
          have ht2 : X.take ((O.length + O2.length) * 3) = X := List.take_of_length_le (by omega)
          have next : ∀ B : Bool, freshC a b[i] = B → ∀ X' m, X' = X ++ (if B = true then GCommand.co (setCo b[i]) else []) → m = O.length + O2.length + (if B = true then 1 else 0) → Less Inv n ⟨slOf 64 [(0, .t (rd k a.length (a.flatMap (GLeaf.ci k)))), (5, .ref ⟨.op 13 8 0, []⟩ 0 m), (31, .t (rd k' b.length (b.flatMap (GLeaf.ci k')))), (32, .t (pi b.length)), (33, .t (pi (IntKind.wrap .i64 ((i : Int) + 1))))], ofL [(.op 13 8 0, .sl 0 65 m X')]⟩ := by
            rintro B hB X' m rfl rfl
            rw [hB] at hS'
            subst hI
            refine Less_mk (n - 1) (by omega) ⟨i + 1, by omega, ?_⟩
            rw [wrNext i (by omega), hS', ← hAX]
            cases B <;> simp [hAm2, hAe2, Nat.add_assoc]
          simp [c2, hd, hlen, hlt]
          refine Inv_intro (ok_find k k' a b[i].Path hao (by omega)) ?_
          simp
          rcases idxOf_cases (atP b[i].Path) a with ⟨e1, e2⟩ | ⟨j, hj, e1, e2⟩
          · refine drawP (tabEnv [] _) [⟨[], allD 64, true⟩, ⟨[], allD 64, true⟩, ⟨[], allD 64, true⟩, ⟨[], allD 64, true⟩, ⟨[], allD 64, true⟩, ⟨[], allD 64, true⟩, ⟨[], allD 64, true⟩, ⟨[], allD 64, true⟩, ⟨[.op 10 2 0], allD 64, true⟩, ⟨[.op 10 2 0], allD 64, true⟩, ⟨[], allD 64, true⟩, ⟨[], allD 64, true⟩] h0 hm (tabEnv_ok tab_nil) (by kernel_rfl) (by kernel_rfl) ?_
            simp [e1]
            have hB : freshC a b[i] = true := by simp only [freshC, e2]
            refine drawP (tabEnv [] _) [⟨[.op 13 8 0], allD 64, true⟩, ⟨[.op 10 2 0], allD 64, true⟩, ⟨[.op 10 2 0], allD 64, true⟩, ⟨[], allD 64, false⟩, ⟨[.op 10 2 0], allD 64, true⟩, ⟨[.op 10 2 0], allD 64, true⟩, ⟨[.op 13 3 0], allD 64, true⟩, ⟨[.op 13 3 0, .op 13 6 0], [53, 54, 55, 56, 57, 58, 59, 60, 61, 5], false⟩, ⟨[.op 13 8 0, .op 13 7 0], [53, 54, 55, 56, 57, 58, 59, 60, 61, 5], false⟩, ⟨[.op 13 8 0], allD 64, true⟩] h0 hm (tabEnv_ok (tab_cons (ok_Clone_String k' b[i].Path hp1) tab_nil)) (by kernel_rfl) (by kernel_rfl) ?_
            simp [hAA, hb1, hb2, ht2]
            exact next true hB _ _ (by simp [setCo]) rfl
          · have hdj := fm_drop (GLeaf.ci k) 2 (fun _ => rfl) a j hj
            have hlenj := fm_len (GLeaf.ci k) 2 (fun _ => rfl) a
            have hltj : j * 2 < a.length * 2 := by omega
            have hn : ¬ (j : Int) < 0 := by omega
            refine drawP (tabEnv [] _) [⟨[], allD 64, true⟩, ⟨[], allD 64, true⟩, ⟨[], allD 64, true⟩, ⟨[], allD 64, true⟩, ⟨[], allD 64, true⟩, ⟨[], allD 64, true⟩, ⟨[], allD 64, true⟩, ⟨[], allD 64, true⟩, ⟨[.op 10 2 0], allD 64, true⟩, ⟨[.op 10 2 0], allD 64, true⟩, ⟨[], allD 64, true⟩, ⟨[], allD 64, true⟩] h0 hm (tabEnv_ok tab_nil) (by kernel_rfl) (by kernel_rfl) ?_
            simp [e1, hn, hj, hdj, hlenj, hltj]
            refine brn_app (fun d => ?_) (fun d => ?_)
            · simp at d
              simp
              have hB : freshC a b[i] = true := by simp only [freshC, e2]; simp [d]
              refine drawP (tabEnv [] _) [⟨[.op 13 8 0], allD 64, true⟩, ⟨[.op 10 2 0], allD 64, true⟩, ⟨[.op 10 2 0], allD 64, true⟩, ⟨[], allD 64, false⟩, ⟨[.op 10 2 0], allD 64, true⟩, ⟨[.op 10 2 0], allD 64, true⟩, ⟨[.op 13 3 0], allD 64, true⟩, ⟨[.op 13 3 0, .op 13 6 0], [53, 54, 55, 56, 57, 58, 59, 60, 61, 5], false⟩, ⟨[.op 13 8 0, .op 13 7 0], [53, 54, 55, 56, 57, 58, 59, 60, 61, 5], false⟩, ⟨[.op 13 8 0], allD 64, true⟩] h0 hm (tabEnv_ok (tab_cons (ok_Clone_String k' b[i].Path hp1) tab_nil)) (by kernel_rfl) (by kernel_rfl) ?_
              simp [hAA, hb1, hb2, ht2]
              exact next true hB _ _ (by simp [setCo]) rfl
            · simp at d
              simp
              exact next false (by simp only [freshC, e2]; simp [d]) _ _ (by simp) rfl
        · simp at c2
          have ht : List.take i b = b := List.take_of_length_le (by omega)
          rw [ht] at hOe2
          have hD : diffL a b = O ++ O2 := by rw [diffL, hOe, hOe2]
          have hX' : (diffL a b).flatMap GCommand.co = X := by rw [hD, List.flatMap_append, hAe, hAe2, hAX]
          have hm' : (diffL a b).length = O.length + O2.length := by rw [hD, List.length_append]
          have htX : X.take ((O.length + O2.length) * 3) = X := List.take_of_length_le (by omega)
          rw [hX', hm']
          simp [hAA, htX]
end Go.V
