/- What functions of the seat's program do, each proved of its code, under the bounds that its theorem names. -/
import Derived.Test.YtnmfcpgelajolaaTae
import Derived.Deep.AppendSrc
import Derived.Laws.Externs
import Derived.Laws.IdiomCopy
import Derived.Lib.AppendZeros
import Derived.Lib.AppendZerosOnto
import Derived.Lib.JoinLaws
import Derived.Lib.Overlaps
import Derived.Lib.SliceRun
import Derived.Lib.Walk
import Derived.Shelf.Spec.SlicesInsert
import Derived.Shelf.Spec.SlicesInsertGrow
import Derived.WalkKit
set_option linter.all false
namespace Go.V
open Go.Proofs
set_option maxHeartbeats 1000000
set_option maxRecDepth 10000
set_option linter.unusedSimpArgs false
set_option linter.unusedVariables false
theorem fm_takeE {α β : Type} (f : α → List β) (c : Nat) (hf : ∀ x, (f x).length = c) (l : List α) (i : Nat) (hi : i ≤ l.length) : (l.flatMap f).take (i * c) = (l.take i).flatMap f := by
  have e := congrArg (List.flatMap f) (List.take_append_drop i l)
  rw [List.flatMap_append] at e
  have hl : ((l.take i).flatMap f).length = i * c := by
    rw [List.length_flatMap]
    have : (List.map (fun a => (f a).length) (l.take i)) = List.replicate (l.take i).length c := by
      rw [List.eq_replicate_iff]
      refine ⟨by simp, ?_⟩
      intro b hb
      obtain ⟨a, _, rfl⟩ := List.mem_map.1 hb
      exact hf a
    rw [this, List.sum_replicate_nat, List.length_take, Nat.min_eq_left hi]
  rw [← e, List.take_left' hl]
theorem fm_dropE {α β : Type} (f : α → List β) (c : Nat) (hf : ∀ x, (f x).length = c) (l : List α) (i : Nat) (hi : i ≤ l.length) : (l.flatMap f).drop (i * c) = (l.drop i).flatMap f := by
  have e := congrArg (List.flatMap f) (List.take_append_drop i l)
  rw [List.flatMap_append] at e
  have h := fm_takeE f c hf l i hi
  have hl : ((l.take i).flatMap f).length = i * c := by
    rw [← h, List.length_take, ← e, List.length_append]
    rw [List.length_flatMap]
    have : (List.map (fun a => (f a).length) (l.take i)) = List.replicate (l.take i).length c := by
      rw [List.eq_replicate_iff]
      refine ⟨by simp, ?_⟩
      intro b hb
      obtain ⟨a, _, rfl⟩ := List.mem_map.1 hb
      exact hf a
    rw [this, List.sum_replicate_nat, List.length_take, Nat.min_eq_left hi]
    omega
  rw [← e, List.drop_left' hl]
def keptL (p : List ByteArray) (l : List GLeaf) : List GLeaf := l.filter fun x => !clashB p x
def atI (p : List ByteArray) (m : List GLeaf) : Nat := bsI (fun x : GLeaf => cmpP x.Path p) m
def putL (p : List ByteArray) (v : ByteArray) (m : List GLeaf) : List GLeaf := m.take (atI p m) ++ [⟨p, v⟩] ++ m.drop (atI p m)
theorem atI_le (p : List ByteArray) (m : List GLeaf) : atI p m ≤ m.length := (List.takeWhile_sublist _).length_le
theorem putL_len (p : List ByteArray) (v : ByteArray) (m : List GLeaf) : (putL p v m).length = m.length + 1 := by
  have := atI_le p m
  unfold putL
  simp only [List.length_append, List.length_take, List.length_drop, List.length_cons, List.length_nil]
  omega
theorem putL_mem {p : List ByteArray} {v : ByteArray} {m : List GLeaf} {x : GLeaf} (h : x ∈ putL p v m) : x = ⟨p, v⟩ ∨ x ∈ m := by
  unfold putL at h
  rcases List.mem_append.1 h with h | h
  · rcases List.mem_append.1 h with h | h
    · exact .inr (List.mem_of_mem_take h)
    · exact .inl (List.mem_singleton.1 h)
  · exact .inr (List.mem_of_mem_drop h)
theorem putL_co (p : List ByteArray) (v : ByteArray) (m : List GLeaf) : (putL p v m).flatMap GLeaf.co = (m.flatMap GLeaf.co).take (atI p m * 2) ++ GLeaf.co ⟨p, v⟩ ++ (m.flatMap GLeaf.co).drop (atI p m * 2) := by
  rw [fm_takeE GLeaf.co 2 (fun _ => rfl) m _ (atI_le p m), fm_dropE GLeaf.co 2 (fun _ => rfl) m _ (atI_le p m)]
  unfold putL
  rw [List.flatMap_append, List.flatMap_append, List.flatMap_cons, List.flatMap_nil, List.append_nil]
def setC (p : List ByteArray) (v : ByteArray) (l : List GLeaf) : List GLeaf := putL p v (keptL p l)
theorem kept_conf {p : List ByteArray} {l : List GLeaf} (h : confOK l) : confOK (keptL p l) := ⟨Nat.le_trans (List.length_filter_le _ _) h.1, fun x hx => h.2 x (List.mem_filter.1 hx).1⟩
theorem set_conf {p : List ByteArray} {v : ByteArray} {l : List GLeaf} (h : confOK l) (hl : l.length ≤ 1048576) (hp : strsOK p) (hv : v.size ≤ 140737488355328) : confOK (setC p v l) := by
  refine ⟨?_, fun x hx => ?_⟩
  · have h2 : (keptL p l).length ≤ l.length := List.length_filter_le _ _
    unfold setC
    rw [putL_len]
    omega
  · rcases putL_mem hx with rfl | hx
    · exact ⟨hp, hv⟩
    · exact (kept_conf h).2 x hx
theorem ok_isetAt (k k' : Nat) (l : List GLeaf) (p : List ByteArray) (v : ByteArray) (hl : l.length ≤ 1048576) (hx : ∀ x ∈ l, x.Path.length ≤ 1048576) (hlo : confOK l) (hp : strsOK p) (hp1 : p.length ≤ 1048576) (hv : v.size ≤ 140737488355328) (hg : goodC l = true) : CallOK Try.prog 57 [.c (rd k l.length (l.flatMap (GLeaf.ci k))), .c (rd k' p.length (p.map ps)), .c (ps v)] (.tup [.c (.sl 0 58 (setC p v l).length ((setC p v l).flatMap GLeaf.co)), .c (pb (goodC (setC p v l)))]) [.c (rd k l.length (l.flatMap (GLeaf.ci k))), .c (rd k' p.length (p.map ps)), .c (ps v)] := by
  refine okS (fn := Try.f57) [(58, [2]), (75, [2,0,2])] h0 Try.func57 (by kernel_rfl) rfl Try.ntmps57 Try.results57 (by simp) ?_
  simp
  refine Inv_intro (ok_ownConfig k l hl hx) ?_
  simp
  refine Inv_intro (ok_DeleteFunc_Leaf 1 72 [[rd 0 p.length (p.map ps)]] (clashB p) l hlo.1 (fun x hx => ok_setAt1 1 0 0 x p (hlo.2 x hx).1.1 hp.1)) ?_
  have hkl : l.filter (fun x => !clashB p x) = keptL p l := rfl
  have hkn : (keptL p l).length ≤ l.length := List.length_filter_le _ _
  have hko := kept_conf (p := p) hlo
  have hso := set_conf (p := p) (v := v) hlo hl hp hv
  have hsort : (keptL p l).Pairwise (fun x y => lessP x.Path y.Path = true) := (goodC_pair hg).filter _
  have hsl : setC p v l = putL p v (keptL p l) := rfl
  rw [hkl]
  generalize keptL p l = m at *
  rw [hsl] at hso ⊢
  simp
  refine Inv_intro (ok_BS_Leaf 0 k' m p hko hp.1 (pair_mono hsort p)) ?_
  have hat : bsI (fun o : GLeaf => cmpP o.Path p) m = atI p m := rfl
  have hle := atI_le p m
  have hcl := fm_len GLeaf.co 2 (fun _ => rfl) m
  have hpc := putL_co p v m
  have hpl := putL_len p v m
  rw [hat]
  simp
  refine Inv_intro (ok_Clone_String k' p hp1) ?_
  simp
  refine Inv_intro (ok_Insert_Leaf m.length (atI p m) (m.flatMap GLeaf.co) (GLeaf.co ⟨p, v⟩) hcl rfl hle (by omega)) ?_
  rw [← hpc, ← hpl]
  simp
  refine Inv_intro (ok_iGoodConfig 0 (putL p v m) hso) ?_
  simp
def rSetAt (l : List GLeaf) (p : List ByteArray) (v : ByteArray) : List GLeaf × Bool := if (goodC l && isP p && isW v && goodC (setC p v l)) = true then (setC p v l, true) else ([], false)
theorem ok_iSetAt (k k' : Nat) (l : List GLeaf) (p : List ByteArray) (v : ByteArray) (hl : l.length ≤ 1048576) (hx : ∀ x ∈ l, x.Path.length ≤ 1048576) (hlo : confOK l) (hp : strsOK p) (hp1 : p.length ≤ 1048576) (hv : v.size ≤ 140737488355328) : CallOK Try.prog 33 [.c (rd k l.length (l.flatMap (GLeaf.ci k))), .c (rd k' p.length (p.map ps)), .c (ps v)] (.tup [.c (.sl 0 58 (rSetAt l p v).1.length ((rSetAt l p v).1.flatMap GLeaf.co)), .c (pb (rSetAt l p v).2)]) [.c (rd k l.length (l.flatMap (GLeaf.ci k))), .c (rd k' p.length (p.map ps)), .c (ps v)] := by
  refine okS (fn := Try.f33) [] h0 Try.func33 (by kernel_rfl) rfl Try.ntmps33 Try.results33 (by simp) ?_
  simp
  refine Inv_intro (ok_iGoodConfig k l hlo) ?_
  simp
  cases c1 : goodC l with
  | false => simp [rSetAt, c1]
  | true =>
    simp
    refine Inv_intro (ok_areWords k' p hp.1 hp.2) ?_
    simp
    cases c2 : isP p with
    | false => simp [rSetAt, c2]
    | true =>
      simp
      refine Inv_intro (ok_isWord v hv) ?_
      simp
      cases c3 : isW v with
      | false => simp [rSetAt, c3]
      | true =>
        simp
        refine Inv_intro (ok_isetAt k k' l p v hl hx hlo hp hp1 hv c1) ?_
        simp
        cases c4 : goodC (setC p v l) with
        | false => simp [rSetAt, c4]
        | true =>
          have er : rSetAt l p v = (setC p v l, true) := by simp [rSetAt, c1, c2, c3, c4]
          rw [er]
          simp
structure GCommand where
  Set : Bool
  Path : (List ByteArray)
  Value : ByteArray
  deriving DecidableEq
def GCommand.co (x : GCommand) : List PT := [pb x.Set, .sl 0 9 x.Path.length (x.Path.map ps), ps x.Value]
def GCommand.ci (k : Nat) (x : GCommand) : List PT := [pb x.Set, rd k x.Path.length (x.Path.map ps), ps x.Value]
attribute [simp] GCommand.co GCommand.ci
theorem GCommand.len_o (x : GCommand) : x.co.length = 3 := rfl
theorem GCommand.len_i (k : Nat) (x : GCommand) : (x.ci k).length = 3 := rfl
theorem GCommand.un1 (x : GCommand) : PT.unownL x.co = x.ci 0 := by simp [rd]
theorem GCommand.uni1 (k : Nat) (x : GCommand) : PT.unownL (x.ci k) = x.ci 0 := by simp [rd]
theorem GCommand.un (xs : List GCommand) : PT.unownL (xs.flatMap GCommand.co) = xs.flatMap (GCommand.ci 0) := by
  rw [unownL_fm]
  congr 1
  funext x
  exact GCommand.un1 x
theorem GCommand.uni (k : Nat) (xs : List GCommand) : PT.unownL (xs.flatMap (GCommand.ci k)) = xs.flatMap (GCommand.ci 0) := by
  rw [unownL_fm]
  congr 1
  funext x
  exact GCommand.uni1 k x
theorem GCommand.nt (xs : List GCommand) : PT.noTmpL (xs.flatMap GCommand.co) = true := noTmpL_fm _ xs fun x => by simp
theorem GCommand.nti (k : Nat) (xs : List GCommand) : PT.noTmpL (xs.flatMap (GCommand.ci (k + 1))) = true := noTmpL_fm _ xs fun x => by simp [rd]
attribute [simp] GCommand.un GCommand.uni GCommand.nt GCommand.nti
theorem GCommand.lenR (xs : List GCommand) : (xs.flatMap GCommand.co).length = xs.length * 3 := fm_len _ 3 (fun _ => rfl) xs
theorem GCommand.lenRi (k : Nat) (xs : List GCommand) : (xs.flatMap (GCommand.ci k)).length = xs.length * 3 := fm_len _ 3 (fun _ => rfl) xs
theorem GCommand.tkR (xs : List GCommand) : (xs.flatMap GCommand.co).take (xs.length * 3) = xs.flatMap GCommand.co := List.take_of_length_le (by rw [GCommand.lenR]; exact Nat.le_refl _)
theorem GCommand.tkRi (k : Nat) (xs : List GCommand) : (xs.flatMap (GCommand.ci k)).take (xs.length * 3) = xs.flatMap (GCommand.ci k) := List.take_of_length_le (by rw [GCommand.lenRi]; exact Nat.le_refl _)
attribute [simp high] GCommand.lenR GCommand.tkR GCommand.lenRi GCommand.tkRi
def GCommand.wt (x : GCommand) : Nat := wt_StringS x.Path + x.Value.size
def GCommand.fits (x : GCommand) : Prop := fits_StringS x.Path ∧ x.Value.size ≤ 140737488351232
def GCommand.lens (x : GCommand) : Prop := lens_StringS x.Path
def GCommand.mark (x : GCommand) (k : Int) : GCommand × Int := (⟨decide (Int.tmod k 3 = 0), (mk_StringS x.Path (k + 1)).1, mtext (mk_StringS x.Path (k + 1)).2⟩, ((mk_StringS x.Path (k + 1)).2 + 1))
def GCommand.cn (x : GCommand) : Nat := 1 + cn_StringS x.Path + 1
theorem GCommand.mark_snd (x : GCommand) (k : Int) : (GCommand.mark x k).2 = k + GCommand.cn x := by
  simp only [GCommand.mark, GCommand.cn, mk_StringS_snd] <;> omega
def GCommand.markT (x : GCommand) (k : Int) : GCommand × Int := (⟨x.Set, (mk_StringS x.Path k).1, x.Value⟩, (mk_StringS x.Path k).2)
def GCommand.cnT (x : GCommand) : Nat := cn_StringS x.Path
theorem GCommand.markT_snd (x : GCommand) (k : Int) : (GCommand.markT x k).2 = k + GCommand.cnT x := by
  simp only [GCommand.markT, GCommand.cnT, mk_StringS_snd] <;> omega
theorem lens_of_Command {x : GCommand} (h : GCommand.wt x ≤ 1048576) : GCommand.lens x := by
  unfold GCommand.wt at h
  exact lens_of_StringS (by omega)
theorem cn_le_Command (x : GCommand) : GCommand.cnT x ≤ 32 * GCommand.wt x := by
  unfold GCommand.cnT GCommand.wt
  have := cn_le_StringS x.Path
  omega
theorem cnE_le_Command (x : GCommand) : GCommand.cn x ≤ 32 * GCommand.wt x + 16 := by
  unfold GCommand.cn GCommand.wt
  have := cn_le_StringS x.Path
  omega
def boundC (l : List GLeaf) : Prop := l.length ≤ 1048576 ∧ ∀ x ∈ l, x.Path.length ≤ 1048576 ∧ leafOK x
theorem boundC_conf {l : List GLeaf} (h : boundC l) : confOK l := ⟨by have := h.1; omega, fun x hx => (h.2 x hx).2⟩
def cmdOK (c : GCommand) : Prop := c.Path.length ≤ 1048576 ∧ strsOK c.Path ∧ c.Value.size ≤ 140737488355328
def doStep (out : List GLeaf) (c : GCommand) : List GLeaf × Bool := if c.Set = true then rSetAt out c.Path c.Value else if c.Value = ⟨#[]⟩ then rDeleteAt out c.Path else ([], false)
theorem bound_step {out : List GLeaf} {c : GCommand} (h : boundC out) (hc : cmdOK c) : boundC (doStep out c).1 := by
  have hnil : boundC [] := ⟨Nat.zero_le _, fun x hx => absurd hx (by simp)⟩
  unfold doStep
  split
  · unfold rSetAt
    split
    · rename_i hg
      simp only [Bool.and_eq_true] at hg
      have hg2 := hg.2
      simp only [goodC, Bool.and_eq_true, decide_eq_true_eq] at hg2
      refine ⟨by have := hg2.2; show (setC c.Path c.Value out).length ≤ _; omega, fun x hx => ?_⟩
      rcases putL_mem hx with rfl | hx
      · exact ⟨hc.1, hc.2.1, hc.2.2⟩
      · exact h.2 x (List.mem_filter.1 hx).1
    · exact hnil
  · split
    · unfold rDeleteAt
      split
      · exact ⟨Nat.le_trans (delL_len _ _) h.1, fun x hx => h.2 x (List.mem_filter.1 hx).1⟩
      · exact hnil
    · exact hnil
def doI (l : List GLeaf) (cs : List GCommand) : Nat → Option (List GLeaf)
  | 0 => some l
  | i + 1 => match doI l cs i with
    | none => none
    | some o => match cs[i]? with
      | none => none
      | some c => if (doStep o c).2 = true then some (doStep o c).1 else none
theorem doI_none (l : List GLeaf) (cs : List GCommand) {i : Nat} (h : doI l cs i = none) : ∀ n, i ≤ n → doI l cs n = none
  | n, hn => by
    induction hn with
    | refl => exact h
    | step _ ih => simp only [doI, ih]
theorem doI_bound {l : List GLeaf} {cs : List GCommand} (hl : boundC l) (hc : ∀ c ∈ cs, cmdOK c) : ∀ (i : Nat) (o : List GLeaf), doI l cs i = some o → boundC o
  | 0, o, h => by cases h; exact hl
  | i + 1, o, h => by
    unfold doI at h
    split at h
    · cases h
    · rename_i o' ho'
      split at h
      · cases h
      · rename_i c hcs
        split at h
        · cases h
          exact bound_step (doI_bound hl hc i o' ho') (hc c (List.mem_of_getElem? hcs))
        · cases h
def rDoCommands (l : List GLeaf) (cs : List GCommand) : List GLeaf × Bool := if goodC l = true ∧ cs.length ≤ 80 then match doI l cs cs.length with
    | some o => (o, true)
    | none => ([], false)
  else ([], false)
/-- A road of slices.Insert: at the end. -/
theorem ins_endLeafS (base : Option Addr) (vb n c vc : Nat) (w w1 : World) (r : Value) (hn : n ≤ c)
    (hr : ∀ ty, (Builtin.append_ #[26, 26] ty #[.slice base n c, .slice (some ⟨vb, 0, none⟩) 1 vc]).run Try.prog w = .ok r w1) :
    Calls Try.prog 60 #[.slice base n c, .int .i64 n, .slice (some ⟨vb, 0, none⟩) 1 vc] w fun e w' => e = .returned r ∧ w' = w1 := by
  have mixed : Try.prog.follows .mixedOrders = true := by kernel_rfl
  have tS : Try.prog.underlying 26 = some (.slice 25) := by kernel_rfl
  have uS := run_underlying tS
  have zE : ∀ w, (Go.sizeOf 25).run Try.prog w = .ok 1 w := fun w => by kernel_rfl
  have zS : ∀ w, (Go.sizeOf 26).run Try.prog w = .ok 1 w := fun w => by kernel_rfl
  have aS : ∀ w, (isAgg 26).run Try.prog w = .ok false w := fun w => by kernel_rfl
  have t3 : Try.prog.underlying 3 = some (.int .i64) := by kernel_rfl
  have u3 := run_underlying t3
  have a3 : ∀ w, (isAgg 3).run Try.prog w = .ok false w := fun w => by kernel_rfl
  have z3 : ∀ w, (Go.sizeOf 3).run Try.prog w = .ok 1 w := fun w => by kernel_rfl
  go_enter Try.func60, Try.ntmps60
  go_wp2_with (at_builtin; refine Lib.wpList_append_run _ rfl _ _ _ _ rfl _ _ rfl rfl _ _ (hr _) ?_)
  all_goals (go_ret; exact ⟨rfl, rfl⟩)
/-- A road of slices.Insert: ahead of the end, with room. -/
theorem ins_shiftLeafS (b vb n c i vc : Nat) (w w1 w2 : World) (x1 x2 : Value) (hi : i < n) (hn63 : n < 9223372036854775807) (hroom : n + 1 ≤ c)
    (hov : ∀ lb cb, (callFunc 77 #[.slice (some ⟨vb, 0, none⟩) 1 vc, .slice (some ⟨b, (i + 1), none⟩) lb cb]).run Try.prog w = .ok (.value (.bool false)) w)
    (hc1 : ∀ ty dc sc, (Builtin.copy_ #[26, 26] ty #[.slice (some ⟨b, (i + 1), none⟩) (n - i) dc, .slice (some ⟨b, i, none⟩) (n + 1 - i) sc]).run Try.prog w.drew = .ok x1 w1)
    (hc2 : ∀ ty dc, (Builtin.copy_ #[26, 26] ty #[.slice (some ⟨b, i, none⟩) (n + 1 - i) dc, .slice (some ⟨vb, 0, none⟩) 1 vc]).run Try.prog w1 = .ok x2 w2) :
    Calls Try.prog 60 #[.slice (some ⟨b, 0, none⟩) n c, .int .i64 i, .slice (some ⟨vb, 0, none⟩) 1 vc] w fun e w' => e = .returned (.slice (some ⟨b, 0, none⟩) (n + 1) c) ∧ w' = w2 := by
  have mixed : Try.prog.follows .mixedOrders = true := by kernel_rfl
  have tS : Try.prog.underlying 26 = some (.slice 25) := by kernel_rfl
  have uS := run_underlying tS
  have zE : ∀ w, (Go.sizeOf 25).run Try.prog w = .ok 1 w := fun w => by kernel_rfl
  have zS : ∀ w, (Go.sizeOf 26).run Try.prog w = .ok 1 w := fun w => by kernel_rfl
  have aS : ∀ w, (isAgg 26).run Try.prog w = .ok false w := fun w => by kernel_rfl
  have t3 : Try.prog.underlying 3 = some (.int .i64) := by kernel_rfl
  have u3 := run_underlying t3
  have a3 : ∀ w, (isAgg 3).run Try.prog w = .ok false w := fun w => by kernel_rfl
  have z3 : ∀ w, (Go.sizeOf 3).run Try.prog w = .ok 1 w := fun w => by kernel_rfl
  have hz2 : ¬ ((i : Int) = (n : Int)) := by omega
  have hw1 : IntKind.i64.wrap ((i : Int) + 1) = (i : Int) + 1 := by rw [IntKind.wrap_i64]; omega
  have hb1 : (0 : Int) ≤ (i : Int) + 1 := by omega
  have hin : i ≤ n := by omega
  have htn : ((i : Int) + 1).toNat = i + 1 := by omega
  have hb2 : ¬ (c = i + 1) := by omega
  have hb3 : (i : Int) ≤ (n : Int) + 1 := by omega
  have hb4 : ¬ (c = i) := by omega
  go_enter Try.func60, Try.ntmps60
  go_wp2_with (simp only [hov])
  go_region_law_o (refine step_copy_runI rfl _ _ 26 26 rfl _ _ (by simp [Act.eval, Act.put]) (by simp [Act.eval, Act.put]) (hc1 _ _ _) ?_)
  go_wp2_with (at_builtin; refine wpList_copy_runI _ rfl _ _ 26 26 rfl _ _ rfl rfl (hc2 _ _) ?_)
  go_ret
  exact ⟨rfl, rfl⟩
/-- A road of slices.Insert: ahead of the end, no room. -/
theorem ins_growLeafS (b vb n c i vc N G : Nat) (w w1 w2 w3 : World) (x1 x2 : Value) (hi : i < n) (hn63 : n < 9223372036854775807) (hnc : n ≤ c) (hroom : c < n + 1) (hG : n + 1 ≤ G)
    (hr : ∀ ty, (Builtin.append_ #[26, 3] ty #[.slice (some ⟨b, 0, none⟩) i c, .int .i64 ((n : Int) + 1 - (i : Int))]).run Try.prog w = .ok (.slice (some ⟨N, 0, none⟩) (n + 1) G) w1)
    (hc1 : ∀ ty dc, (Builtin.copy_ #[26, 26] ty #[.slice (some ⟨N, i, none⟩) (n + 1 - i) dc, .slice (some ⟨vb, 0, none⟩) 1 vc]).run Try.prog w1 = .ok x1 w2)
    (hc2 : ∀ ty dc sc, (Builtin.copy_ #[26, 26] ty #[.slice (some ⟨N, (i + 1), none⟩) (n - i) dc, .slice (some ⟨b, i, none⟩) (n - i) sc]).run Try.prog w2.drew = .ok x2 w3) :
    Calls Try.prog 60 #[.slice (some ⟨b, 0, none⟩) n c, .int .i64 i, .slice (some ⟨vb, 0, none⟩) 1 vc] w fun e w' => e = .returned (.slice (some ⟨N, 0, none⟩) (n + 1) G) ∧ w' = w3 := by
  have mixed : Try.prog.follows .mixedOrders = true := by kernel_rfl
  have tS : Try.prog.underlying 26 = some (.slice 25) := by kernel_rfl
  have uS := run_underlying tS
  have zE : ∀ w, (Go.sizeOf 25).run Try.prog w = .ok 1 w := fun w => by kernel_rfl
  have zS : ∀ w, (Go.sizeOf 26).run Try.prog w = .ok 1 w := fun w => by kernel_rfl
  have aS : ∀ w, (isAgg 26).run Try.prog w = .ok false w := fun w => by kernel_rfl
  have t3 : Try.prog.underlying 3 = some (.int .i64) := by kernel_rfl
  have u3 := run_underlying t3
  have a3 : ∀ w, (isAgg 3).run Try.prog w = .ok false w := fun w => by kernel_rfl
  have z3 : ∀ w, (Go.sizeOf 3).run Try.prog w = .ok 1 w := fun w => by kernel_rfl
  have hz2 : ¬ ((i : Int) = (n : Int)) := by omega
  have hz3 : (c : Int) < (n : Int) + 1 := by omega
  have hw0 : IntKind.i64.wrap ((n : Int) + 1) = (n : Int) + 1 := by rw [IntKind.wrap_i64]; omega
  have hw1 : IntKind.i64.wrap ((i : Int) + 1) = (i : Int) + 1 := by rw [IntKind.wrap_i64]; omega
  have hw2 : IntKind.i64.wrap ((n : Int) + 1 - (i : Int)) = (n : Int) + 1 - (i : Int) := by rw [IntKind.wrap_i64]; omega
  have hb1 : (0 : Int) ≤ (i : Int) + 1 := by omega
  have hin : i ≤ n := by omega
  have htn : ((i : Int) + 1).toNat = i + 1 := by omega
  have hGi : ¬ (G = i) := by omega
  have hGim : ¬ (G = i + 1) := by omega
  have hci : ¬ (c = i) := by omega
  have hb3 : (i : Int) ≤ (n : Int) := by omega
  go_enter Try.func60, Try.ntmps60
  go_wp2_with (first
    | (at_builtin; refine Lib.wpList_append_run _ rfl _ _ _ _ rfl _ _ rfl rfl _ _ (hr _) ?_)
    | (at_builtin; refine wpList_copy_runI _ rfl _ _ 26 26 rfl _ _ rfl rfl (hc1 _ _) ?_))
  go_region_law_o (refine step_copy_runI rfl _ _ 26 26 rfl _ _ (by simp [Act.eval, Act.put]) (by simp [Act.eval, Act.put]) (hc2 _ _ _) ?_)
  go_wp2
  go_ret
  exact ⟨rfl, rfl⟩
theorem ins_worldLeafS (b vb n c i vc : Nat) (w : World) (arr va : Array Value) (cv vv : List Value) (hba : w.heap[b]? = some (.cells arr 25 (0, 0))) (hvb : w.heap[vb]? = some (.cells va 25 (0, 0))) (hne : vb ≠ b)
    (hcl : cv.length = n * 1) (hvl : vv.length = 1) (hca : c * 1 ≤ arr.size) (hva : 1 ≤ va.size) (hnc : n ≤ c) (hi : i ≤ n)
    (hcv : ∀ (j : Nat) u, cv[j]? = some u → arr[j]? = some u) (hvv : ∀ (j : Nat) u, vv[j]? = some u → va[j]? = some u) (h1c : ∀ v ∈ cv, v.oneCell' = true) (h1v : ∀ v ∈ vv, v.oneCell' = true)
    (hbig : (n + 1) * 24 ≤ 140737488355328) :
    ∃ (b' c' : Nat) (arr' : Array Value) (w' : World), Calls Try.prog 60 #[.slice (some ⟨b, 0, none⟩) n c, .int .i64 i, .slice (some ⟨vb, 0, none⟩) 1 vc] w (fun e w'' => e = .returned (.slice (some ⟨b', 0, none⟩) (n + 1) c') ∧ w'' = w') ∧
      w'.heap[b']? = some (.cells arr' 25 (0, 0)) ∧ c' * 1 ≤ arr'.size ∧ n + 1 ≤ c' ∧ (∀ (j : Nat) u, (insV 1 i cv vv)[j]? = some u → arr'[j]? = some u) ∧ (b' = b ∨ w.heap.size ≤ b') ∧ Kp [b] w w' := by
  have tS : Try.prog.underlying 26 = some (.slice 25) := by kernel_rfl
  have t3 : Try.prog.underlying 3 = some (.int .i64) := by kernel_rfl
  have zE : ∀ w, (Go.sizeOf 25).run Try.prog w = .ok 1 w := fun w => by kernel_rfl
  obtain ⟨inf, hinf⟩ := tsz_info (P := Try.prog) (t := 25) (by simp)
  have hsz : inf.size = 1 := by
    have h1 : tsz Try.prog 25 = inf.size := by simp only [tsz, hinf]
    have h2 : tsz Try.prog 25 = 1 := by kernel_rfl
    omega
  have hby : inf.bytes = 24 := by
    have h1 : tby Try.prog 25 = inf.bytes := by simp only [tby, hinf]
    have h2 : tby Try.prog 25 = 24 := by kernel_rfl
    omega
  have hszs : (Try.prog.info? 25).map (·.size) = some 1 := by rw [hinf, Option.map_some, hsz]
  obtain ⟨z, hz⟩ : ∃ z, inf.zero = some z := by
    have h2 : (tzero Try.prog 25).isSome = true := by kernel_rfl
    have h1 : tzero Try.prog 25 = inf.zero := by simp only [tzero, hinf]
    rw [h1] at h2
    exact Option.isSome_iff_exists.1 h2
  have hzs : z.cells.size = 1 := by
    have h2 : (tzero Try.prog 25).map (fun z => z.cells.size) = some 1 := by kernel_rfl
    have h1 : tzero Try.prog 25 = inf.zero := by simp only [tzero, hinf]
    rw [h1, hz] at h2
    simpa using h2
  have hcellb : ∀ (k : Nat) u, cv[k]? = some u → w.cell? ⟨b, k, none⟩ = some u := fun k u h => by rw [cell_at hba]; exact hcv k u h
  have hcellv : ∀ (k : Nat) u, vv[k]? = some u → w.cell? ⟨vb, k, none⟩ = some u := fun k u h => by rw [cell_at hvb]; exact hvv k u h
  have hvlt : vb < w.heap.size := (Array.getElem?_eq_some_iff.1 hvb).1
  have hblt : b < w.heap.size := (Array.getElem?_eq_some_iff.1 hba).1
  by_cases hin : i = n
  · subst hin
    have hins : insV 1 i cv vv = cv ++ vv := by
      unfold insV
      rw [List.take_of_length_le (by omega), List.drop_of_length_le (by omega), List.append_nil]
    rw [hins]
    by_cases hroom : i + 1 ≤ c
    · have hr : ∀ ty, (Builtin.append_ #[26, 26] ty #[.slice (some ⟨b, 0, none⟩) i c, .slice (some ⟨vb, 0, none⟩) 1 vc]).run Try.prog w = .ok (.slice (some ⟨b, 0, none⟩) (i + 1) c) (w.setCells b (i * 1) vv) := fun ty => by
        have h := run_append_room_cells (P := Try.prog) w 26 ty 25 inf tS hinf b 0 i c ⟨vb, 0, none⟩ 1 vc vv (by rw [hsz, hvl]) (fun j u hj => by rw [Addr.add_lit, Nat.zero_add]; exact hcellv j u hj) h1v hroom
          (fun j hj => by rw [cell_at hba, hsz, Array.getElem?_eq_getElem (by omega)]; rfl) (fun j hj => by simp [World.frozen?, hba])
        rw [hsz, Nat.zero_add] at h
        exact h
      obtain ⟨arr', r1, r2, r3⟩ := setCells_heap vv (i * 1) w arr hba
      refine ⟨b, c, arr', _, ins_endLeafS (some ⟨b, 0, none⟩) vb i c vc w _ _ hnc hr, r1, by omega, hroom, ?_, .inl rfl, setCells_kp b vv _ w⟩
      intro j u hj
      rw [r3]
      rw [List.getElem?_append] at hj
      split at hj
      · rw [if_neg (by omega)]
        exact hcv j u hj
      · have := getv hj
        rw [if_pos (by omega), ← hcl]
        exact hj
    · have hr : ∀ ty, (Builtin.append_ #[26, 26] ty #[.slice (some ⟨b, 0, none⟩) i c, .slice (some ⟨vb, 0, none⟩) 1 vc]).run Try.prog w = .ok (.slice (some ⟨w.heap.size, 0, none⟩) (i + 1) (grownCap w (i + 1) c 25)) (w.drew.alloc (.cells (cv.toArray ++ vv.toArray ++ Builtin.zeroCells z.cells (grownCap w (i + 1) c 25 - (i + 1))) 25)) := fun ty =>
        run_append_grow (P := Try.prog) w 26 ty 25 inf z tS hinf hz ⟨b, 0, none⟩ i c cv (by rw [hsz, hcl]) (fun j u hj => by rw [Addr.add_lit, Nat.zero_add]; exact hcellb j u hj) ⟨vb, 0, none⟩ 1 vc vv (by rw [hsz, hvl]) (fun j u hj => by rw [Addr.add_lit, Nat.zero_add]; exact hcellv j u hj) (by omega) (by omega) (growslice_fits (by omega) (by rw [hby]; exact hbig))
      have hge := grownCap_ge w (i + 1) c 25
      refine ⟨w.heap.size, _, _, _, ins_endLeafS (some ⟨b, 0, none⟩) vb i c vc w _ _ hnc hr, alloc_at w.drew _, ?_, hge, ?_, .inr (Nat.le_refl _), (Kp.of_below (drew_below w)).trans (alloc_kp [] w.drew _) (by simp)⟩
      · simp only [Array.size_append, List.size_toArray, size_zeroCells, hzs, hcl, hvl]
        omega
      · intro j u hj
        have hjl := getv hj
        rw [List.length_append] at hjl
        rw [Array.getElem?_append_left (by simpa using hjl)]
        simpa using hj
  · have hin' : i < n := by omega
    have hdl : (cv.drop (i * 1)).length = (n - i) * 1 := by rw [List.length_drop, hcl]; omega
    have hdat : ∀ (j : Nat) u, (cv.drop (i * 1))[j]? = some u → cv[i * 1 + j]? = some u := fun j u h => by rwa [List.getElem?_drop] at h
    by_cases hroom : n + 1 ≤ c
    · obtain ⟨arr1, p1, p2, p3⟩ := setCells_heap (cv.drop (i * 1)) ((i + 1) * 1) w.drew arr hba
      have hk1 := setCells_kp b (cv.drop (i * 1)) ((i + 1) * 1) w.drew
      have hc1 : ∀ ty dc sc, (Builtin.copy_ #[26, 26] ty #[.slice (some ⟨b, (i + 1) * 1, none⟩) (n - i) dc, .slice (some ⟨b, i * 1, none⟩) (n + 1 - i) sc]).run Try.prog w.drew = .ok (goInt (Nat.min (n + 1 - i) (n - i))) (w.drew.setCells b ((i + 1) * 1) (cv.drop (i * 1))) := fun ty dc sc =>
        run_copy_n w.drew _ _ ty 25 b ((i + 1) * 1) (n - i) dc ⟨b, i * 1, none⟩ (n + 1 - i) sc 1 (cv.drop (i * 1)) tS hszs (by rw [hdl, show Nat.min (n + 1 - i) (n - i) = n - i from Nat.min_eq_right (by omega)])
          (fun j v hj => by rw [Addr.add_lit]; exact hcellb _ v (hdat j v hj))
          (fun j hj => by
            show (w.cell? ⟨b, _, none⟩).isSome = true
            rw [cell_at hba, Array.getElem?_eq_getElem (by omega)]; rfl)
          (fun j hj => by
            show w.frozen? ⟨b, _, none⟩ = false
            simp [World.frozen?, hba]) (fun v hv => h1c v (List.mem_of_mem_drop hv))
      generalize w.drew.setCells b ((i + 1) * 1) (cv.drop (i * 1)) = W1 at p1 hk1 hc1
      obtain ⟨arr2, q1, q2, q3⟩ := setCells_heap vv (i * 1) W1 arr1 p1
      have hk2 := setCells_kp b vv (i * 1) W1
      have hvW : W1.heap[vb]? = some (.cells va 25 (0, 0)) := (hk1.block vb hvlt (by simpa using hne)).trans hvb
      have hc2 : ∀ ty dc, (Builtin.copy_ #[26, 26] ty #[.slice (some ⟨b, i * 1, none⟩) (n + 1 - i) dc, .slice (some ⟨vb, 0, none⟩) 1 vc]).run Try.prog W1 = .ok (goInt (Nat.min 1 (n + 1 - i))) (W1.setCells b (i * 1) vv) := fun ty dc =>
        run_copy_n W1 _ _ ty 25 b (i * 1) (n + 1 - i) dc ⟨vb, 0, none⟩ 1 vc 1 vv tS hszs (by rw [hvl, show Nat.min 1 (n + 1 - i) = 1 from Nat.min_eq_left (by omega)])
          (fun j v hj => by rw [Addr.add_lit, Nat.zero_add, cell_at hvW]; exact hvv j v hj)
          (fun j hj => by rw [cell_at p1, Array.getElem?_eq_getElem (by omega)]; rfl)
          (fun j hj => by simp [World.frozen?, p1]) h1v
      have hov : ∀ lb cb, (callFunc 77 #[.slice (some ⟨vb, 0, none⟩) 1 vc, .slice (some ⟨b, (i + 1) * 1, none⟩) lb cb]).run Try.prog w = .ok (.value (.bool false)) w := fun lb cb => by
        rw [run_callFunc_extern (f := 77) Try.func77 (by kernel_rfl) (by kernel_rfl) (by kernel_rfl) (e := Extern.SlicesOverlaps.overlaps #[26, 26] #[4]) (by kernel_rfl),
          Lib.run_overlaps_apart w 26 4 25 tS 1 zE ⟨vb, 0, none⟩ ⟨b, (i + 1) * 1, none⟩ 1 vc lb cb hne 25 25 va.size arr.size (by simp [World.shape?, hvb]) (by simp [World.shape?, hba]) (by omega) (by simp [World.frozen?, hvb]) (by simp [World.frozen?, hvb])]
        rfl
      refine ⟨b, c, arr2, _, ins_shiftLeafS b vb n c i vc w W1 _ _ _ hin' (by omega) hroom (by simpa using hov) (by simpa using hc1) (by simpa using hc2), q1, by omega, hroom, ?_, .inl rfl, ((Kp.of_below (drew_below w)).trans hk1 (by intro y hy; exact .inl hy)).trans hk2 (by intro y hy; exact .inl hy)⟩
      intro j u hj
      rw [insV_at _ _ _ _ hvl (by omega)] at hj
      rw [q3]
      split at hj
      · have := getv hj
        rw [if_neg (by omega), p3, if_neg (by omega)]
        exact hcv j u hj
      · split at hj
        · rw [if_pos (by omega)]
          exact hj
        · have := getv hj
          rw [if_neg (by omega), p3, if_pos (by omega), List.getElem?_drop]
          have e : i * 1 + (j - (i + 1) * 1) = j - 1 := by omega
          rw [e]
          exact hj
    · have hold : (Builtin.firstCells inf.size i (.slice (some ⟨b, 0, none⟩) i c)).run Try.prog w.drew = .ok (cv.take (i * 1)).toArray w.drew :=
        run_firstCells_some w.drew inf.size i ⟨b, 0, none⟩ i c (cv.take (i * 1)) (by rw [List.length_take, hsz]; omega) (fun j v hj => by
          rw [Addr.add_lit, Nat.zero_add]
          rw [List.getElem?_take] at hj
          split at hj
          · exact hcellb j v hj
          · cases hj)
      obtain ⟨G, hG⟩ : ∃ G, G = grownCap w (n + 1) c 25 := ⟨_, rfl⟩
      have hge := grownCap_ge w (n + 1) c 25
      rw [← hG] at hge
      obtain ⟨ROW, hROW⟩ : ∃ ROW : Array Value, ROW = (cv.take (i * 1)).toArray ++ Builtin.zeroCells z.cells (n + 1 - i) ++ Builtin.zeroCells z.cells (G - (n + 1)) := ⟨_, rfl⟩
      have hRs : ROW.size = G * 1 := by
        rw [hROW]
        simp only [Array.size_append, List.size_toArray, size_zeroCells, hzs, List.length_take, hcl]
        omega
      have hRa : ∀ (j : Nat), j < i * 1 → ROW[j]? = cv[j]? := by
        intro j hj
        have h1 : j < (cv.take (i * 1)).toArray.size := by simp only [List.size_toArray, List.length_take]; omega
        rw [hROW, Array.append_assoc, Array.getElem?_append_left h1]
        simp only [List.getElem?_toArray, List.getElem?_take, if_pos hj]
      have hr : ∀ ty, (Builtin.append_ #[26, 3] ty #[.slice (some ⟨b, 0, none⟩) i c, .int .i64 ((n : Int) + 1 - (i : Int))]).run Try.prog w = .ok (.slice (some ⟨w.heap.size, 0, none⟩) (n + 1) G) (w.drew.alloc (.cells ROW 25)) := fun ty => by
        have hik : i + (n + 1 - i) = n + 1 := by omega
        have hkk : (n : Int) + 1 - (i : Int) = ((n + 1 - i : Nat) : Int) := by omega
        have h := Lib.run_append_grow_zeros w 26 3 ty 25 inf z .i64 .i64 tS t3 hinf hz (some ⟨b, 0, none⟩) i c (cv.take (i * 1)) hold (n + 1 - i) (by omega) (by omega) (by omega) (by omega) (by rw [hby]; omega) (by rw [hby, hik]; exact growslice_fits (by omega) hbig)
        rw [hik, ← hG, ← hROW] at h
        rw [hkk]
        exact h
      obtain ⟨N, hN⟩ : ∃ N, N = w.heap.size := ⟨_, rfl⟩
      have hN0 : (w.drew.alloc (.cells ROW 25)).heap[N]? = some (.cells ROW 25 (0, 0)) := by rw [hN]; exact alloc_at w.drew _
      have hk0 : Kp [] w (w.drew.alloc (.cells ROW 25)) := (Kp.of_below (drew_below w)).trans (alloc_kp [] w.drew _) (by simp)
      rw [← hN] at hr
      generalize w.drew.alloc (.cells ROW 25) = W0 at hr hN0 hk0
      obtain ⟨arr1, p1, p2, p3⟩ := setCells_heap vv (i * 1) W0 ROW hN0
      have hk1 := setCells_kp N vv (i * 1) W0
      have hv0 : W0.heap[vb]? = some (.cells va 25 (0, 0)) := (hk0.block vb hvlt (by simp)).trans hvb
      have hb0 : W0.heap[b]? = some (.cells arr 25 (0, 0)) := (hk0.block b hblt (by simp)).trans hba
      have hc1 : ∀ ty dc, (Builtin.copy_ #[26, 26] ty #[.slice (some ⟨N, i * 1, none⟩) (n + 1 - i) dc, .slice (some ⟨vb, 0, none⟩) 1 vc]).run Try.prog W0 = .ok (goInt (Nat.min 1 (n + 1 - i))) (W0.setCells N (i * 1) vv) := fun ty dc =>
        run_copy_n W0 _ _ ty 25 N (i * 1) (n + 1 - i) dc ⟨vb, 0, none⟩ 1 vc 1 vv tS hszs (by rw [hvl, show Nat.min 1 (n + 1 - i) = 1 from Nat.min_eq_left (by omega)])
          (fun j v hj => by rw [Addr.add_lit, Nat.zero_add, cell_at hv0]; exact hvv j v hj)
          (fun j hj => by rw [cell_at hN0, Array.getElem?_eq_getElem (by omega)]; rfl)
          (fun j hj => by simp [World.frozen?, hN0]) h1v
      have hb1 : (W0.setCells N (i * 1) vv).heap[b]? = some (.cells arr 25 (0, 0)) := by
        rw [hk1.block b (Nat.lt_of_lt_of_le hblt hk0.size) (by simp; omega)]
        exact hb0
      generalize W0.setCells N (i * 1) vv = W1 at p1 hk1 hc1 hb1
      have p1d : W1.drew.heap[N]? = some (.cells arr1 25 (0, 0)) := p1
      obtain ⟨arr2, q1, q2, q3⟩ := setCells_heap (cv.drop (i * 1)) ((i + 1) * 1) W1.drew arr1 p1d
      have hk2 := setCells_kp N (cv.drop (i * 1)) ((i + 1) * 1) W1.drew
      have hc2 : ∀ ty dc sc, (Builtin.copy_ #[26, 26] ty #[.slice (some ⟨N, (i + 1) * 1, none⟩) (n - i) dc, .slice (some ⟨b, i * 1, none⟩) (n - i) sc]).run Try.prog W1.drew = .ok (goInt (Nat.min (n - i) (n - i))) (W1.drew.setCells N ((i + 1) * 1) (cv.drop (i * 1))) := fun ty dc sc =>
        run_copy_n W1.drew _ _ ty 25 N ((i + 1) * 1) (n - i) dc ⟨b, i * 1, none⟩ (n - i) sc 1 (cv.drop (i * 1)) tS hszs (by rw [hdl, show Nat.min (n - i) (n - i) = n - i from Nat.min_self _])
          (fun j v hj => by
            rw [Addr.add_lit]
            show W1.cell? ⟨b, _, none⟩ = some v
            rw [cell_at hb1]
            exact hcv _ v (hdat j v hj))
          (fun j hj => by
            show (W1.cell? ⟨N, _, none⟩).isSome = true
            rw [cell_at p1, Array.getElem?_eq_getElem (by omega)]; rfl)
          (fun j hj => by
            show W1.frozen? ⟨N, _, none⟩ = false
            simp [World.frozen?, p1]) (fun v hv => h1c v (List.mem_of_mem_drop hv))
      refine ⟨N, G, arr2, _, ins_growLeafS b vb n c i vc N G w W0 W1 _ _ _ hin' (by omega) hnc (by omega) hge (by simpa using hr) (by simpa using hc1) (by simpa using hc2), q1, by omega, hge, ?_, .inr (by omega), ?_⟩
      · intro j u hj
        rw [insV_at _ _ _ _ hvl (by omega)] at hj
        rw [q3]
        split at hj
        · have := getv hj
          rw [if_neg (by omega), p3, if_neg (by omega), hRa j (by omega)]
          exact hj
        · split at hj
          · have := getv hj
            rw [if_neg (by omega), p3, if_pos (by omega)]
            exact hj
          · have := getv hj
            rw [if_pos (by omega), List.getElem?_drop]
            have e : i * 1 + (j - (i + 1) * 1) = j - 1 := by omega
            rw [e]
            exact hj
      · have hk1' : Kp [] w W1 := hk0.trans hk1 (by simp; omega)
        have hk2' : Kp [] w (W1.drew.setCells N ((i + 1) * 1) (cv.drop (i * 1))) := (hk1'.trans (Kp.of_below (bs := []) (drew_below W1)) (by simp)).trans hk2 (by simp; omega)
        exact Kp.of_below hk2'.below
end Go.V
