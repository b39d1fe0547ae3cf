/- What functions of the seat's program do, each proved of its code, under the bounds that its theorem names. -/
import Derived.Test.YtnmfcpgelajolaaTaa
set_option linter.all false
namespace Go.V
open Go.Proofs
set_option maxHeartbeats 1000000
set_option maxRecDepth 10000
set_option linter.unusedSimpArgs false
set_option linter.unusedVariables false
structure GLeaf where
  Path : (List ByteArray)
  Value : ByteArray
  deriving DecidableEq
def GLeaf.co (x : GLeaf) : List PT := [.sl 0 9 x.Path.length (x.Path.map ps), ps x.Value]
def GLeaf.ci (k : Nat) (x : GLeaf) : List PT := [rd k x.Path.length (x.Path.map ps), ps x.Value]
attribute [simp] GLeaf.co GLeaf.ci
theorem GLeaf.len_o (x : GLeaf) : x.co.length = 2 := rfl
theorem GLeaf.len_i (k : Nat) (x : GLeaf) : (x.ci k).length = 2 := rfl
theorem GLeaf.un1 (x : GLeaf) : PT.unownL x.co = x.ci 0 := by simp [rd]
theorem GLeaf.uni1 (k : Nat) (x : GLeaf) : PT.unownL (x.ci k) = x.ci 0 := by simp [rd]
theorem GLeaf.un (xs : List GLeaf) : PT.unownL (xs.flatMap GLeaf.co) = xs.flatMap (GLeaf.ci 0) := by
  rw [unownL_fm]
  congr 1
  funext x
  exact GLeaf.un1 x
theorem GLeaf.uni (k : Nat) (xs : List GLeaf) : PT.unownL (xs.flatMap (GLeaf.ci k)) = xs.flatMap (GLeaf.ci 0) := by
  rw [unownL_fm]
  congr 1
  funext x
  exact GLeaf.uni1 k x
theorem GLeaf.nt (xs : List GLeaf) : PT.noTmpL (xs.flatMap GLeaf.co) = true := noTmpL_fm _ xs fun x => by simp
theorem GLeaf.nti (k : Nat) (xs : List GLeaf) : PT.noTmpL (xs.flatMap (GLeaf.ci (k + 1))) = true := noTmpL_fm _ xs fun x => by simp [rd]
attribute [simp] GLeaf.un GLeaf.uni GLeaf.nt GLeaf.nti
theorem GLeaf.lenR (xs : List GLeaf) : (xs.flatMap GLeaf.co).length = xs.length * 2 := fm_len _ 2 (fun _ => rfl) xs
theorem GLeaf.lenRi (k : Nat) (xs : List GLeaf) : (xs.flatMap (GLeaf.ci k)).length = xs.length * 2 := fm_len _ 2 (fun _ => rfl) xs
theorem GLeaf.tkR (xs : List GLeaf) : (xs.flatMap GLeaf.co).take (xs.length * 2) = xs.flatMap GLeaf.co := List.take_of_length_le (by rw [GLeaf.lenR]; exact Nat.le_refl _)
theorem GLeaf.tkRi (k : Nat) (xs : List GLeaf) : (xs.flatMap (GLeaf.ci k)).take (xs.length * 2) = xs.flatMap (GLeaf.ci k) := List.take_of_length_le (by rw [GLeaf.lenRi]; exact Nat.le_refl _)
attribute [simp high] GLeaf.lenR GLeaf.tkR GLeaf.lenRi GLeaf.tkRi
def GLeaf.wt (x : GLeaf) : Nat := wt_StringS x.Path + x.Value.size
def GLeaf.fits (x : GLeaf) : Prop := fits_StringS x.Path ∧ x.Value.size ≤ 140737488351232
def GLeaf.lens (x : GLeaf) : Prop := lens_StringS x.Path
def GLeaf.mark (x : GLeaf) (k : Int) : GLeaf × Int := (⟨(mk_StringS x.Path k).1, mtext (mk_StringS x.Path k).2⟩, ((mk_StringS x.Path k).2 + 1))
def GLeaf.cn (x : GLeaf) : Nat := cn_StringS x.Path + 1
theorem GLeaf.mark_snd (x : GLeaf) (k : Int) : (GLeaf.mark x k).2 = k + GLeaf.cn x := by
  simp only [GLeaf.mark, GLeaf.cn, mk_StringS_snd] <;> omega
def GLeaf.markT (x : GLeaf) (k : Int) : GLeaf × Int := (⟨(mk_StringS x.Path k).1, x.Value⟩, (mk_StringS x.Path k).2)
def GLeaf.cnT (x : GLeaf) : Nat := cn_StringS x.Path
theorem GLeaf.markT_snd (x : GLeaf) (k : Int) : (GLeaf.markT x k).2 = k + GLeaf.cnT x := by
  simp only [GLeaf.markT, GLeaf.cnT, mk_StringS_snd] <;> omega
theorem lens_of_Leaf {x : GLeaf} (h : GLeaf.wt x ≤ 1048576) : GLeaf.lens x := by
  unfold GLeaf.wt at h
  exact lens_of_StringS (by omega)
theorem cn_le_Leaf (x : GLeaf) : GLeaf.cnT x ≤ 32 * GLeaf.wt x := by
  unfold GLeaf.cnT GLeaf.wt
  have := cn_le_StringS x.Path
  omega
theorem cnE_le_Leaf (x : GLeaf) : GLeaf.cn x ≤ 32 * GLeaf.wt x + 16 := by
  unfold GLeaf.cn GLeaf.wt
  have := cn_le_StringS x.Path
  omega
def okLeaf (x : GLeaf) : Bool := isP x.Path && isW x.Value
def adjC (q : Option GLeaf) (x : GLeaf) : Bool := match q with
  | none => true
  | some q => lessP q.Path x.Path && !begP q.Path x.Path
def goodG : Option GLeaf → List GLeaf → Bool
  | _, [] => true
  | q, x :: xs => okLeaf x && adjC q x && goodG (some x) xs
def goodC (l : List GLeaf) : Bool := goodG none l && decide (l.length ≤ 30)
def prevC (l : List GLeaf) (i : Nat) : Option GLeaf := if i = 0 then none else l[i - 1]?
theorem prevC_next (l : List GLeaf) (i : Nat) (h : i < l.length) : prevC l (i + 1) = some l[i] := by simp [prevC, h]
def strsOK (p : List ByteArray) : Prop := p.length ≤ 140737488351232 ∧ ∀ s ∈ p, s.size ≤ 140737488355328
def leafOK (x : GLeaf) : Prop := strsOK x.Path ∧ x.Value.size ≤ 140737488355328
def confOK (l : List GLeaf) : Prop := l.length ≤ 140737488351232 ∧ ∀ x ∈ l, leafOK x
theorem exists_run {α : Type} (N : Nat) (x0 : α) (I : Nat → α → Prop) (R : α → α → Prop) (h0 : I 0 x0) (hs : ∀ i x, i < N → I i x → ∃ y, R x y ∧ I (i + 1) y) : ∃ run : Nat → α, run 0 = x0 ∧ (∀ i, i ≤ N → I i (run i)) ∧ ∀ i, i < N → R (run i) (run (i + 1)) := by
  classical
  obtain ⟨run, hr⟩ : ∃ run : Nat → α, run = fun n => Nat.rec x0 (fun i x => if h : ∃ y, R x y ∧ I (i + 1) y then Classical.choose h else x) n := ⟨_, rfl⟩
  have hz : run 0 = x0 := by subst hr; rfl
  have hst : ∀ i, run (i + 1) = if h : ∃ y, R (run i) y ∧ I (i + 1) y then Classical.choose h else run i := fun i => by subst hr; rfl
  have hI : ∀ i, i ≤ N → I i (run i) := by
    intro i
    induction i with
    | zero => intro _; rw [hz]; exact h0
    | succ i ih =>
      intro hi
      have h1 := hs i (run i) (by omega) (ih (by omega))
      rw [hst, dif_pos h1]
      exact (Classical.choose_spec h1).2
  refine ⟨run, hz, hI, fun i hi => ?_⟩
  have h1 := hs i (run i) hi (hI i (by omega))
  rw [hst, dif_pos h1]
  exact (Classical.choose_spec h1).1
theorem ok_configValue (code : List Int) (hc : codeOK code) (a s : Int) (ha : 0 ≤ a) (ha2 : a ≤ 3999990) : ∃ v a' s', v.size ≤ 9 ∧ (a ≤ a' ∧ a' ≤ a + 2) ∧ CallOK Try.prog 55 [.bp (curP code a s)] (.c (ps v)) [.bp (curP code a' s')] := by
  obtain ⟨b, a1, s1, ha1, h1⟩ := ok_one code hc 30 (by decide) (by decide) a s ha (by omega)
  obtain ⟨v2, a2, s2, hv2, ha2', h2⟩ := ok_of 0 code hc [⟨#[]⟩, ⟨#[66]⟩, ⟨#[110, 105, 110, 101, 98, 121, 116, 101, 115]⟩] (by decide) (by decide) a1 s1 (by omega) (by omega)
  obtain ⟨v3, a3, s3, hv3, ha3, h3⟩ := ok_of 0 code hc [⟨#[49]⟩, ⟨#[50]⟩, ⟨#[111, 110]⟩, ⟨#[111, 102, 102]⟩] (by decide) (by decide) a1 s1 (by omega) (by omega)
  have hz2 : v2.size ≤ 9 := by
    simp only [List.mem_cons, List.not_mem_nil, or_false] at hv2
    rcases hv2 with rfl | rfl | rfl <;> decide
  have hz3 : v3.size ≤ 9 := by
    simp only [List.mem_cons, List.not_mem_nil, or_false] at hv3
    rcases hv3 with rfl | rfl | rfl | rfl <;> decide
  cases b with
  | true =>
    refine ⟨v2, a2, s2, hz2, by omega, ?_⟩
    refine okS (fn := Try.f55) [(28, [1]), (56, [1])] h0 Try.func55 (by kernel_rfl) rfl Try.ntmps55 Try.results55 (by simp) ?_
    unfold curP at h1 h2 ⊢
    simp
    refine Inv_intro h1 ?_
    simp
    refine Inv_intro h2 ?_
    simp
  | false =>
    refine ⟨v3, a3, s3, hz3, by omega, ?_⟩
    refine okS (fn := Try.f55) [(28, [1]), (56, [1])] h0 Try.func55 (by kernel_rfl) rfl Try.ntmps55 Try.results55 (by simp) ?_
    unfold curP at h1 h3 ⊢
    simp
    refine Inv_intro h1 ?_
    simp
    refine Inv_intro h3 ?_
    simp
def pathOK (p : List ByteArray) : Prop := p.length ≤ 8 ∧ ∀ w ∈ p, w.size ≤ 9
def wordsD : List ByteArray := [⟨#[97]⟩, ⟨#[98]⟩, ⟨#[112, 101, 101, 114]⟩, ⟨#[120, 45, 49]⟩]
theorem ok_configPath (code : List Int) (hc : codeOK code) (a s : Int) (ha : 0 ≤ a) (ha2 : a ≤ 3999980) : ∃ p a' s', pathOK p ∧ (a ≤ a' ∧ a' ≤ a + 6) ∧ CallOK Try.prog 54 [.bp (curP code a s)] (.c (.sl 0 9 p.length (p.map ps))) [.bp (curP code a' s')] := by
  obtain ⟨n, a1, s1, hn, ha1, h1⟩ := ok_pick code hc 3 (by decide) (by decide) a s ha (by omega)
  obtain ⟨N, hN⟩ : ∃ N : Nat, (N : Int) = 1 + n := ⟨(1 + n).toNat, by omega⟩
  obtain ⟨run, run0, runI, runR⟩ := exists_run (α := List ByteArray × Int × Int) N ([], a1, s1) (fun i x => x.1.length = i ∧ (∀ w ∈ x.1, w.size ≤ 9) ∧ a1 ≤ x.2.1 ∧ x.2.1 ≤ a1 + i)
    (fun x y => ∃ w, y.1 = x.1 ++ [w] ∧ CallOK Try.prog 56 [.bp (curP code x.2.1 x.2.2), .c (rd 0 4 (wordsD.map ps))] (.c (ps w)) [.bp (curP code y.2.1 y.2.2), .c (rd 0 4 (wordsD.map ps))])
    ⟨rfl, by simp, by simp, by simp⟩ (by
      rintro i ⟨p, b, t⟩ hi ⟨g1, g2, g3, g4⟩
      simp only at g1 g2 g3 g4
      obtain ⟨w, b', t', hw, hb', hcall⟩ := ok_of 0 code hc wordsD (by decide) (by decide) b t (by omega) (by omega)
      refine ⟨(p ++ [w], b', t'), ⟨w, rfl, hcall⟩, by simp [g1], fun v hv => ?_, by simp only; omega, by simp only; omega⟩
      rcases List.mem_append.1 hv with hv | hv
      · exact g2 v hv
      · rw [List.mem_singleton.1 hv]
        simp only [wordsD, List.mem_cons, List.not_mem_nil, or_false] at hw
        rcases hw with rfl | rfl | rfl | rfl <;> decide)
  obtain ⟨e1, e2, e3, e4⟩ := runI N (Nat.le_refl _)
  obtain ⟨x, a2, s2, hx, ha2', h2⟩ := ok_pick code hc 60 (by decide) (by decide) (run N).2.1 (run N).2.2 (by omega) (by omega)
  have hlen : (run N).1.length ≤ 8 := by omega
  have hN3 : 1 ≤ N ∧ N ≤ 3 := by omega
  obtain ⟨p, a3, s3, hp, ha3, hfin⟩ : ∃ (p : List ByteArray) (a3 s3 : Int), pathOK p ∧ (a2 ≤ a3 ∧ a3 ≤ a2 + 1) ∧ ((x = 0 ∧ ∃ w, p = (run N).1.set 0 w ∧ CallOK Try.prog 56 [.bp (curP code a2 s2), .c (rd 0 3 ([⟨#[]⟩, ⟨#[65]⟩, ⟨#[110, 105, 110, 101, 98, 121, 116, 101, 115]⟩].map ps))] (.c (ps w)) [.bp (curP code a3 s3), .c (rd 0 3 ([⟨#[]⟩, ⟨#[65]⟩, ⟨#[110, 105, 110, 101, 98, 121, 116, 101, 115]⟩].map ps))]) ∨ (x = 1 ∧ p = (run N).1 ++ [⟨#[97]⟩, ⟨#[98]⟩, ⟨#[99]⟩, ⟨#[100]⟩, ⟨#[101]⟩] ∧ a3 = a2 ∧ s3 = s2) ∨ (¬ x = 0 ∧ ¬ x = 1 ∧ p = (run N).1 ∧ a3 = a2 ∧ s3 = s2)) := by
    by_cases x0 : x = 0
    · obtain ⟨w, a3, s3, hw, ha3, h3⟩ := ok_of 0 code hc [⟨#[]⟩, ⟨#[65]⟩, ⟨#[110, 105, 110, 101, 98, 121, 116, 101, 115]⟩] (by decide) (by decide) a2 s2 (by omega) (by omega)
      refine ⟨(run N).1.set 0 w, a3, s3, ⟨by rw [List.length_set]; omega, fun v hv => ?_⟩, ha3, .inl ⟨x0, w, rfl, h3⟩⟩
      rcases List.mem_or_eq_of_mem_set hv with hv | rfl
      · exact e2 v hv
      · simp only [List.mem_cons, List.not_mem_nil, or_false] at hw
        rcases hw with rfl | rfl | rfl <;> decide
    · by_cases x1 : x = 1
      · refine ⟨_, a2, s2, ⟨by rw [List.length_append]; simp only [List.length_cons, List.length_nil]; omega, fun v hv => ?_⟩, by omega, .inr (.inl ⟨x1, rfl, rfl, rfl⟩)⟩
        rcases List.mem_append.1 hv with hv | hv
        · exact e2 v hv
        · simp only [List.mem_cons, List.not_mem_nil, or_false] at hv
          rcases hv with rfl | rfl | rfl | rfl | rfl <;> decide
      · exact ⟨_, a2, s2, ⟨by omega, e2⟩, by omega, .inr (.inr ⟨x0, x1, rfl, rfl, rfl⟩)⟩
  refine ⟨p, a3, s3, hp, by omega, ?_⟩
  refine okS (fn := Try.f54) [(27, [1]), (56, [1])] h0 Try.func54 (by kernel_rfl) rfl Try.ntmps54 Try.results54 (by simp) ?_
  unfold curP at h1 h2 hfin runR ⊢
  have w1 : IntKind.i64.wrap (1 + n) = 1 + n := wrap64 (by omega) (by omega)
  simp
  refine Inv_intro h1 ?_
  have wN : IntKind.i64.wrap (N : Int) = (N : Int) := wrap64 (by omega) (by omega)
  simp [w1, ← hN, wN]
  refine ewp_nil 3 (.op 5 5 0) 9 (by decide) rfl rfl rfl ?_
  refine loopS [0, 3, 4] [.op 5 5 0, .arg 0 0] (fun m st => ∃ (i : Nat), i + m = N ∧ st = ⟨slOf 33 [(0, .ptr ⟨.arg 0 0, []⟩ 0), (3, .ref ⟨.op 5 5 0, []⟩ 0 i), (4, .t (pi m))], ofL [(.op 5 5 0, .sl 0 9 i ((run i).1.map ps)), (.arg 0 0, .sl 0 49 1 [rd 1 code.length (code.map pu), pi (run i).2.1, .raw (.int .u64 (run i).2.2)])]⟩) N ?_ ?_
  · rintro Inv hI
    simp
    subst hI
    exact ⟨0, by omega, by rw [run0]; rfl⟩
  · rintro Inv hI m st ⟨i, hi, rfl⟩
    refine ewr_sound (M := [(27, [1]), (56, [1])]) h0 ?_
    by_cases c : 0 < m
    · obtain ⟨f1, _⟩ := runI i (by omega)
      obtain ⟨w, g1, hcall⟩ := runR i (by omega)
      have c' : (0 : Int) < (m : Int) := by omega
      have w2 : IntKind.i64.wrap ((m : Int) - 1) = ((m - 1 : Nat) : Int) := by rw [wrap64 (by omega) (by omega)]; omega
      have hb1 : (i + 1) * 16 ≤ 140737488355328 := by omega
      have hb2 : i ≤ 9223372036854775806 := by omega
      have hml : ((run i).1.map ps).length = i := by rw [List.length_map, f1]
      have hmt : List.take i ((run i).1.map ps) = (run i).1.map ps := List.take_of_length_le (by omega)
      simp [c, c']
      refine Inv_intro hcall ?_
      simp [f1, hb1, hb2, hml, hmt, w2]
      subst hI
      refine Less_mk (m - 1) (by omega) ⟨i + 1, by omega, ?_⟩
      rw [g1]
      simp
    · have hm0 : m = 0 := by omega
      have hiN : i = N := by omega
      subst hm0
      subst hiN
      simp
      refine Inv_intro h2 ?_
      have hi0 : 0 < i := by omega
      have hi1 : 1 ≤ i := by omega
      obtain ⟨p0, pr, hpr⟩ : ∃ p0 pr, (run i).1 = p0 :: pr := by
        cases hP : (run i).1 with
        | nil => rw [hP] at e1; simp at e1; omega
        | cons p0 pr => exact ⟨p0, pr, rfl⟩
      have hsz : pr.length + 1 = i := by rw [hpr] at e1; simpa using e1
      have ht1 : ∀ x : PT, List.take i (x :: pr.map ps) = x :: pr.map ps := fun x => List.take_of_length_le (by rw [List.length_cons, List.length_map]; omega)
      have hl1 : i ≤ pr.length + 1 := by omega
      have hb1 : (i + 5) * 16 ≤ 140737488355328 := by omega
      have hb2 : i + 5 ≤ 9223372036854775807 := by omega
      have hsz5 : pr.length + 5 + 1 = i + 5 := by omega
      have ht5 : ∀ a b c d e f : PT, List.take (i + 5) (a :: (pr.map ps ++ [b, c, d, e, f])) = a :: (pr.map ps ++ [b, c, d, e, f]) := fun a b c d e f => List.take_of_length_le (by simp only [List.length_cons, List.length_append, List.length_map, List.length_nil]; omega)
      rcases hfin with ⟨rfl, w, rfl, hcall⟩ | ⟨rfl, rfl, rfl, rfl⟩ | ⟨x0, x1, rfl, rfl, rfl⟩
      · simp
        refine Inv_intro hcall ?_
        simp [hi0, hi1, hpr, hsz, ht1, hl1]
      · simp [hi0, hpr, hsz, ht1, hl1, hb1, hb2, hsz5, ht5]
      · simp [x0, x1, hpr, hsz, ht1, hl1]
structure GOp where
  Kind : Int
  Path : (List ByteArray)
  Value : ByteArray
  N : Int
  deriving DecidableEq
def GOp.co (x : GOp) : List PT := [pi x.Kind, .sl 0 9 x.Path.length (x.Path.map ps), ps x.Value, pi x.N]
def GOp.ci (k : Nat) (x : GOp) : List PT := [pi x.Kind, rd k x.Path.length (x.Path.map ps), ps x.Value, pi x.N]
attribute [simp] GOp.co GOp.ci
theorem GOp.len_o (x : GOp) : x.co.length = 4 := rfl
theorem GOp.len_i (k : Nat) (x : GOp) : (x.ci k).length = 4 := rfl
theorem GOp.un1 (x : GOp) : PT.unownL x.co = x.ci 0 := by simp [rd]
theorem GOp.uni1 (k : Nat) (x : GOp) : PT.unownL (x.ci k) = x.ci 0 := by simp [rd]
theorem GOp.un (xs : List GOp) : PT.unownL (xs.flatMap GOp.co) = xs.flatMap (GOp.ci 0) := by
  rw [unownL_fm]
  congr 1
  funext x
  exact GOp.un1 x
theorem GOp.uni (k : Nat) (xs : List GOp) : PT.unownL (xs.flatMap (GOp.ci k)) = xs.flatMap (GOp.ci 0) := by
  rw [unownL_fm]
  congr 1
  funext x
  exact GOp.uni1 k x
theorem GOp.nt (xs : List GOp) : PT.noTmpL (xs.flatMap GOp.co) = true := noTmpL_fm _ xs fun x => by simp
theorem GOp.nti (k : Nat) (xs : List GOp) : PT.noTmpL (xs.flatMap (GOp.ci (k + 1))) = true := noTmpL_fm _ xs fun x => by simp [rd]
attribute [simp] GOp.un GOp.uni GOp.nt GOp.nti
theorem GOp.lenR (xs : List GOp) : (xs.flatMap GOp.co).length = xs.length * 4 := fm_len _ 4 (fun _ => rfl) xs
theorem GOp.lenRi (k : Nat) (xs : List GOp) : (xs.flatMap (GOp.ci k)).length = xs.length * 4 := fm_len _ 4 (fun _ => rfl) xs
theorem GOp.tkR (xs : List GOp) : (xs.flatMap GOp.co).take (xs.length * 4) = xs.flatMap GOp.co := List.take_of_length_le (by rw [GOp.lenR]; exact Nat.le_refl _)
theorem GOp.tkRi (k : Nat) (xs : List GOp) : (xs.flatMap (GOp.ci k)).take (xs.length * 4) = xs.flatMap (GOp.ci k) := List.take_of_length_le (by rw [GOp.lenRi]; exact Nat.le_refl _)
attribute [simp high] GOp.lenR GOp.tkR GOp.lenRi GOp.tkRi
def GOp.wt (x : GOp) : Nat := wt_StringS x.Path + x.Value.size
def GOp.fits (x : GOp) : Prop := fits_StringS x.Path ∧ x.Value.size ≤ 140737488351232
def GOp.lens (x : GOp) : Prop := lens_StringS x.Path
def GOp.mark (x : GOp) (k : Int) : GOp × Int := (⟨k, (mk_StringS x.Path (k + 1)).1, mtext (mk_StringS x.Path (k + 1)).2, ((mk_StringS x.Path (k + 1)).2 + 1)⟩, (((mk_StringS x.Path (k + 1)).2 + 1) + 1))
def GOp.cn (x : GOp) : Nat := 1 + cn_StringS x.Path + 1 + 1
theorem GOp.mark_snd (x : GOp) (k : Int) : (GOp.mark x k).2 = k + GOp.cn x := by
  simp only [GOp.mark, GOp.cn, mk_StringS_snd] <;> omega
def GOp.markT (x : GOp) (k : Int) : GOp × Int := (⟨x.Kind, (mk_StringS x.Path k).1, x.Value, x.N⟩, (mk_StringS x.Path k).2)
def GOp.cnT (x : GOp) : Nat := cn_StringS x.Path
theorem GOp.markT_snd (x : GOp) (k : Int) : (GOp.markT x k).2 = k + GOp.cnT x := by
  simp only [GOp.markT, GOp.cnT, mk_StringS_snd] <;> omega
theorem lens_of_Op {x : GOp} (h : GOp.wt x ≤ 1048576) : GOp.lens x := by
  unfold GOp.wt at h
  exact lens_of_StringS (by omega)
theorem cn_le_Op (x : GOp) : GOp.cnT x ≤ 32 * GOp.wt x := by
  unfold GOp.cnT GOp.wt
  have := cn_le_StringS x.Path
  omega
theorem cnE_le_Op (x : GOp) : GOp.cn x ≤ 32 * GOp.wt x + 16 := by
  unfold GOp.cn GOp.wt
  have := cn_le_StringS x.Path
  omega
def opD (o : GOp) : Prop := pathOK o.Path ∧ o.Value.size ≤ 9
theorem path_nil : pathOK [] := ⟨Nat.zero_le _, fun w hw => absurd hw (by simp)⟩
theorem ok_op (code : List Int) (hc : codeOK code) (a s : Int) (ha : 0 ≤ a) (ha2 : a ≤ 3999900) : ∃ o a' s', opD o ∧ (a ≤ a' ∧ a' ≤ a + 20) ∧ CallOK Try.prog 29 [.bp (curP code a s)] (.agg o.co) [.bp (curP code a' s')] := by
  obtain ⟨kd, a1, s1, hk, ha1, h1⟩ := ok_among 0 code hc [1, 1, 1, 2, 3, 4, 5, 6, 7, 8, 8, 8] (by decide) (by decide) a s ha (by omega)
  obtain ⟨o1, a2, s2, ho1, ha2', hph⟩ : ∃ (o1 : GOp) (a2 s2 : Int), opD o1 ∧ (a1 ≤ a2 ∧ a2 ≤ a1 + 8) ∧ ((kd = 1 ∧ ∃ p b t v, o1 = ⟨1, p, v, 0⟩ ∧ CallOK Try.prog 54 [.bp (curP code a1 s1)] (.c (.sl 0 9 p.length (p.map ps))) [.bp (curP code b t)] ∧ CallOK Try.prog 55 [.bp (curP code b t)] (.c (ps v)) [.bp (curP code a2 s2)]) ∨ (kd = 2 ∧ ∃ p, o1 = ⟨2, p, ⟨#[]⟩, 0⟩ ∧ CallOK Try.prog 54 [.bp (curP code a1 s1)] (.c (.sl 0 9 p.length (p.map ps))) [.bp (curP code a2 s2)]) ∨ (kd = 4 ∧ ∃ n, (0 ≤ n ∧ n ≤ 3) ∧ o1 = ⟨4, [], ⟨#[]⟩, 1 + n⟩ ∧ CallOK Try.prog 27 [.bp (curP code a1 s1), .c (pi 4)] (.c (pi n)) [.bp (curP code a2 s2), .c (pi 4)]) ∨ (kd = 6 ∧ ∃ n, (0 ≤ n ∧ n ≤ 3) ∧ o1 = ⟨6, [], ⟨#[]⟩, n⟩ ∧ CallOK Try.prog 27 [.bp (curP code a1 s1), .c (pi 4)] (.c (pi n)) [.bp (curP code a2 s2), .c (pi 4)]) ∨ (¬ kd = 1 ∧ ¬ kd = 2 ∧ ¬ kd = 4 ∧ ¬ kd = 6 ∧ o1 = ⟨kd, [], ⟨#[]⟩, 0⟩ ∧ a2 = a1 ∧ s2 = s1)) := by
    by_cases k1 : kd = 1
    · obtain ⟨p, b, t, hp, hb, h2⟩ := ok_configPath code hc a1 s1 (by omega) (by omega)
      obtain ⟨v, a2, s2, hv, hb2, h3⟩ := ok_configValue code hc b t (by omega) (by omega)
      exact ⟨_, a2, s2, ⟨hp, hv⟩, by omega, .inl ⟨k1, p, b, t, v, rfl, h2, h3⟩⟩
    · by_cases k2 : kd = 2
      · obtain ⟨p, b, t, hp, hb, h2⟩ := ok_configPath code hc a1 s1 (by omega) (by omega)
        exact ⟨_, b, t, ⟨hp, Nat.zero_le _⟩, by omega, .inr (.inl ⟨k2, p, rfl, h2⟩)⟩
      · by_cases k4 : kd = 4
        · obtain ⟨n, b, t, hn, hb, h2⟩ := ok_pick code hc 4 (by decide) (by decide) a1 s1 (by omega) (by omega)
          exact ⟨_, b, t, ⟨path_nil, Nat.zero_le _⟩, by omega, .inr (.inr (.inl ⟨k4, n, by omega, rfl, h2⟩))⟩
        · by_cases k6 : kd = 6
          · obtain ⟨n, b, t, hn, hb, h2⟩ := ok_pick code hc 4 (by decide) (by decide) a1 s1 (by omega) (by omega)
            exact ⟨_, b, t, ⟨path_nil, Nat.zero_le _⟩, by omega, .inr (.inr (.inr (.inl ⟨k6, n, by omega, rfl, h2⟩)))⟩
          · exact ⟨_, a1, s1, ⟨path_nil, Nat.zero_le _⟩, by omega, .inr (.inr (.inr (.inr ⟨k1, k2, k4, k6, rfl, rfl, rfl⟩)))⟩
  obtain ⟨b, a3, s3, ha3, h40⟩ := ok_one code hc 40 (by decide) (by decide) a2 s2 (by omega) (by omega)
  obtain ⟨o, a4, s4, ho, ha4, hfin⟩ : ∃ (o : GOp) (a4 s4 : Int), opD o ∧ (a3 ≤ a4 ∧ a4 ≤ a3 + 3) ∧ ((b = true ∧ ∃ n b1 t1 m b2 t2 v, o = ⟨n, [], v, m⟩ ∧ CallOK Try.prog 27 [.bp (curP code a3 s3), .c (pi 10)] (.c (pi n)) [.bp (curP code b1 t1), .c (pi 10)] ∧ CallOK Try.prog 53 [.bp (curP code b1 t1), .c (rd 0 5 ([(-1 : Int), 0, 10, 100, 101].map pi))] (.c (pi m)) [.bp (curP code b2 t2), .c (rd 0 5 ([(-1 : Int), 0, 10, 100, 101].map pi))] ∧ CallOK Try.prog 56 [.bp (curP code b2 t2), .c (rd 0 2 ([⟨#[]⟩, ⟨#[120]⟩].map ps))] (.c (ps v)) [.bp (curP code a4 s4), .c (rd 0 2 ([⟨#[]⟩, ⟨#[120]⟩].map ps))]) ∨ (b = false ∧ o = o1 ∧ a4 = a3 ∧ s4 = s3)) := by
    cases b with
    | true =>
      obtain ⟨n, b1, t1, hn, hb1, g1⟩ := ok_pick code hc 10 (by decide) (by decide) a3 s3 (by omega) (by omega)
      obtain ⟨m, b2, t2, hm', hb2, g2⟩ := ok_among 0 code hc [-1, 0, 10, 100, 101] (by decide) (by decide) b1 t1 (by omega) (by omega)
      obtain ⟨v, b3, t3, hv, hb3, g3⟩ := ok_of 0 code hc [⟨#[]⟩, ⟨#[120]⟩] (by decide) (by decide) b2 t2 (by omega) (by omega)
      refine ⟨_, b3, t3, ⟨path_nil, ?_⟩, by omega, .inl ⟨rfl, n, b1, t1, m, b2, t2, v, rfl, g1, g2, g3⟩⟩
      simp only [List.mem_cons, List.not_mem_nil, or_false] at hv
      rcases hv with rfl | rfl
      · show (⟨#[]⟩ : ByteArray).size ≤ 9; decide
      · show (⟨#[120]⟩ : ByteArray).size ≤ 9; decide
    | false => exact ⟨o1, a3, s3, ho1, by omega, .inr ⟨rfl, rfl, rfl, rfl⟩⟩
  refine ⟨o, a4, s4, ho, by omega, ?_⟩
  refine okS (fn := Try.f29) [(53, [1]), (54, [1]), (55, [1]), (27, [1]), (28, [1]), (56, [1])] h0 Try.func29 (by kernel_rfl) rfl Try.ntmps29 Try.results29 (by simp) ?_
  unfold curP at h1 hph h40 hfin ⊢
  have hr12 : ([0, 1, 2, 3, 4, 5, 6, 7, 8, 9, 10, 11] : List Nat) = List.range 12 := rfl
  simp [hr12]
  refine Inv_intro h1 ?_
  rcases hph with ⟨rfl, p, b', t', v, rfl, h2, h3⟩ | ⟨rfl, p, rfl, h2⟩ | ⟨rfl, n, hn, rfl, h2⟩ | ⟨rfl, n, hn, rfl, h2⟩ | ⟨k1, k2, k4, k6, rfl, rfl, rfl⟩
  · simp
    refine Inv_intro h2 ?_
    simp
    refine Inv_intro h3 ?_
    simp
    refine Inv_intro h40 ?_
    rcases hfin with ⟨rfl, n', b1, t1, m', b2, t2, v', rfl, g1, g2, g3⟩ | ⟨rfl, rfl, rfl, rfl⟩
    · simp
      refine Inv_intro g1 ?_
      simp
      refine Inv_intro g2 ?_
      simp
      refine Inv_intro g3 ?_
      simp
    · simp
  · simp
    refine Inv_intro h2 ?_
    simp
    refine Inv_intro h40 ?_
    rcases hfin with ⟨rfl, n', b1, t1, m', b2, t2, v', rfl, g1, g2, g3⟩ | ⟨rfl, rfl, rfl, rfl⟩
    · simp
      refine Inv_intro g1 ?_
      simp
      refine Inv_intro g2 ?_
      simp
      refine Inv_intro g3 ?_
      simp
    · simp
      all_goals rfl
  · have w1 : IntKind.i64.wrap (1 + n) = 1 + n := wrap64 (by omega) (by omega)
    simp
    refine Inv_intro h2 ?_
    simp [w1]
    refine Inv_intro h40 ?_
    rcases hfin with ⟨rfl, n', b1, t1, m', b2, t2, v', rfl, g1, g2, g3⟩ | ⟨rfl, rfl, rfl, rfl⟩
    · simp
      refine Inv_intro g1 ?_
      simp
      refine Inv_intro g2 ?_
      simp
      refine Inv_intro g3 ?_
      simp
    · simp
      all_goals rfl
  · simp
    refine Inv_intro h2 ?_
    simp
    refine Inv_intro h40 ?_
    rcases hfin with ⟨rfl, n', b1, t1, m', b2, t2, v', rfl, g1, g2, g3⟩ | ⟨rfl, rfl, rfl, rfl⟩
    · simp
      refine Inv_intro g1 ?_
      simp
      refine Inv_intro g2 ?_
      simp
      refine Inv_intro g3 ?_
      simp
    · simp
      all_goals rfl
  · simp [k1, k2, k4, k6]
    refine Inv_intro h40 ?_
    rcases hfin with ⟨rfl, n', b1, t1, m', b2, t2, v', rfl, g1, g2, g3⟩ | ⟨rfl, rfl, rfl, rfl⟩
    · simp
      refine Inv_intro g1 ?_
      simp
      refine Inv_intro g2 ?_
      simp
      refine Inv_intro g3 ?_
      simp
    · simp
      all_goals rfl
theorem ok_ops (code : List Int) (hc : codeOK code) (a s : Int) (ha : 0 ≤ a) (ha2 : a ≤ 1000) : ∃ (l : List GOp) (a' s' : Int), (l.length ≤ 61 ∧ ∀ o ∈ l, opD o) ∧ CallOK Try.prog 14 [.bp (curP code a s)] (.c (.sl 0 44 l.length (l.flatMap GOp.co))) [.bp (curP code a' s')] := by
  obtain ⟨n0, a1, s1, hn0, ha1, h1⟩ := ok_pick code hc 24 (by decide) (by decide) a s ha (by omega)
  obtain ⟨b, a2, s2, ha2', h2⟩ := ok_one code hc 20 (by decide) (by decide) a1 s1 (by omega) (by omega)
  obtain ⟨N, a3, s3, hN, ha3, hb⟩ : ∃ (N : Nat) (a3 s3 : Int), N ≤ 61 ∧ (a2 ≤ a3 ∧ a3 ≤ a2 + 1) ∧ ((b = true ∧ ∃ n, (0 ≤ n ∧ n ≤ 1) ∧ (N : Int) = 60 + n ∧ CallOK Try.prog 27 [.bp (curP code a2 s2), .c (pi 2)] (.c (pi n)) [.bp (curP code a3 s3), .c (pi 2)]) ∨ (b = false ∧ (N : Int) = n0 ∧ a3 = a2 ∧ s3 = s2)) := by
    cases b with
    | true =>
      obtain ⟨n, a3, s3, hn, ha3, h3⟩ := ok_pick code hc 2 (by decide) (by decide) a2 s2 (by omega) (by omega)
      exact ⟨(60 + n).toNat, a3, s3, by omega, ha3, .inl ⟨rfl, n, by omega, by omega, h3⟩⟩
    | false => exact ⟨n0.toNat, a2, s2, by omega, by omega, .inr ⟨rfl, by omega, rfl, rfl⟩⟩
  obtain ⟨run, run0, runI, runR⟩ := exists_run (α := List GOp × Int × Int) N ([], a3, s3) (fun i x => x.1.length = i ∧ (∀ o ∈ x.1, opD o) ∧ a3 ≤ x.2.1 ∧ x.2.1 ≤ a3 + 20 * i)
    (fun x y => ∃ o, y.1 = x.1 ++ [o] ∧ CallOK Try.prog 29 [.bp (curP code x.2.1 x.2.2)] (.agg o.co) [.bp (curP code y.2.1 y.2.2)])
    ⟨rfl, by simp, by simp, by simp⟩ (by
      rintro i ⟨p, b, t⟩ hi ⟨g1, g2, g3, g4⟩
      simp only at g1 g2 g3 g4
      obtain ⟨o, b', t', ho, hb', hcall⟩ := ok_op code hc b t (by omega) (by omega)
      refine ⟨(p ++ [o], b', t'), ⟨o, rfl, hcall⟩, by simp [g1], fun v hv => ?_, by simp only; omega, by simp only; omega⟩
      rcases List.mem_append.1 hv with hv | hv
      · exact g2 v hv
      · rw [List.mem_singleton.1 hv]; exact ho)
  obtain ⟨e1, e2, e3, e4⟩ := runI N (Nat.le_refl _)
  refine ⟨(run N).1, (run N).2.1, (run N).2.2, ⟨by omega, e2⟩, ?_⟩
  refine okS (fn := Try.f14) [(27, [1]), (28, [1]), (29, [1])] h0 Try.func14 (by kernel_rfl) rfl Try.ntmps14 Try.results14 (by simp) ?_
  unfold curP at h1 h2 hb runR ⊢
  have wN : IntKind.i64.wrap (N : Int) = (N : Int) := wrap64 (by omega) (by omega)
  simp
  refine Inv_intro h1 ?_
  simp
  refine Inv_intro h2 ?_
  rcases hb with ⟨rfl, n, hn, hNn, h3⟩ | ⟨rfl, rfl, rfl, rfl⟩
  · simp
    refine Inv_intro h3 ?_
    simp [← hNn, wN]
    refine ewp_nil 3 (.op 7 4 0) 44 (by decide) rfl rfl rfl ?_
    refine loopS [0, 3, 4] [.op 7 4 0, .arg 0 0] (fun m st => ∃ (i : Nat), i + m = N ∧ st = ⟨slOf 22 [(0, .ptr ⟨.arg 0 0, []⟩ 0), (3, .ref ⟨.op 7 4 0, []⟩ 0 i), (4, .t (pi m))], ofL [(.op 7 4 0, .sl 0 44 i ((run i).1.flatMap GOp.co)), (.arg 0 0, .sl 0 49 1 [rd 1 code.length (code.map pu), pi (run i).2.1, .raw (.int .u64 (run i).2.2)])]⟩) N ?_ ?_
    · rintro Inv hI
      simp
      subst hI
      exact ⟨0, by omega, by rw [run0]; rfl⟩
    · rintro Inv hI m st ⟨i, hi, rfl⟩
      refine ewr_sound (M := [(27, [1]), (28, [1]), (29, [1])]) h0 ?_
      by_cases c : 0 < m
      · obtain ⟨f1, _⟩ := runI i (by omega)
        obtain ⟨w, g1, hcall⟩ := runR i (by omega)
        have c' : (0 : Int) < (m : Int) := by omega
        have w2 : IntKind.i64.wrap ((m : Int) - 1) = ((m - 1 : Nat) : Int) := by rw [wrap64 (by omega) (by omega)]; omega
        have hb1 : (i + 1) * 56 ≤ 140737488355328 := by omega
        have hb2 : i ≤ 9223372036854775806 := by omega
        have hml : ((run i).1.flatMap GOp.co).length = i * 4 := by rw [fm_len GOp.co 4 (fun _ => rfl), f1]
        have hmt : List.take (i * 4) ((run i).1.flatMap GOp.co) = (run i).1.flatMap GOp.co := List.take_of_length_le (by omega)
        simp [c, c']
        refine Inv_intro hcall ?_
        simp [f1, hb1, hb2, hml, hmt, w2]
        subst hI
        refine Less_mk (m - 1) (by omega) ⟨i + 1, by omega, ?_⟩
        rw [g1]
        simp
      · have hm0 : m = 0 := by omega
        have hiN : i = N := by omega
        subst hm0
        subst hiN
        have hml : ((run i).1.flatMap GOp.co).length = i * 4 := by rw [fm_len GOp.co 4 (fun _ => rfl), e1]
        have hmt : List.take (i * 4) ((run i).1.flatMap GOp.co) = (run i).1.flatMap GOp.co := List.take_of_length_le (by omega)
        simp [e1, hml, hmt]

  · simp
    refine ewp_nil 3 (.op 7 4 0) 44 (by decide) rfl rfl rfl ?_
    refine loopS [0, 3, 4] [.op 7 4 0, .arg 0 0] (fun m st => ∃ (i : Nat), i + m = N ∧ st = ⟨slOf 22 [(0, .ptr ⟨.arg 0 0, []⟩ 0), (3, .ref ⟨.op 7 4 0, []⟩ 0 i), (4, .t (pi m))], ofL [(.op 7 4 0, .sl 0 44 i ((run i).1.flatMap GOp.co)), (.arg 0 0, .sl 0 49 1 [rd 1 code.length (code.map pu), pi (run i).2.1, .raw (.int .u64 (run i).2.2)])]⟩) N ?_ ?_
    · rintro Inv hI
      simp
      subst hI
      exact ⟨0, by omega, by rw [run0]; rfl⟩
    · rintro Inv hI m st ⟨i, hi, rfl⟩
      refine ewr_sound (M := [(27, [1]), (28, [1]), (29, [1])]) h0 ?_
      by_cases c : 0 < m
      · obtain ⟨f1, _⟩ := runI i (by omega)
        obtain ⟨w, g1, hcall⟩ := runR i (by omega)
        have c' : (0 : Int) < (m : Int) := by omega
        have w2 : IntKind.i64.wrap ((m : Int) - 1) = ((m - 1 : Nat) : Int) := by rw [wrap64 (by omega) (by omega)]; omega
        have hb1 : (i + 1) * 56 ≤ 140737488355328 := by omega
        have hb2 : i ≤ 9223372036854775806 := by omega
        have hml : ((run i).1.flatMap GOp.co).length = i * 4 := by rw [fm_len GOp.co 4 (fun _ => rfl), f1]
        have hmt : List.take (i * 4) ((run i).1.flatMap GOp.co) = (run i).1.flatMap GOp.co := List.take_of_length_le (by omega)
        simp [c, c']
        refine Inv_intro hcall ?_
        simp [f1, hb1, hb2, hml, hmt, w2]
        subst hI
        refine Less_mk (m - 1) (by omega) ⟨i + 1, by omega, ?_⟩
        rw [g1]
        simp
      · have hm0 : m = 0 := by omega
        have hiN : i = N := by omega
        subst hm0
        subst hiN
        have hml : ((run i).1.flatMap GOp.co).length = i * 4 := by rw [fm_len GOp.co 4 (fun _ => rfl), e1]
        have hmt : List.take (i * 4) ((run i).1.flatMap GOp.co) = (run i).1.flatMap GOp.co := List.take_of_length_le (by omega)
        simp [e1, hml, hmt]


theorem ok_DrawPlayOps (code : List Int) (hc : codeOK code) : ∃ l : List GOp, (l.length ≤ 61 ∧ ∀ o ∈ l, opD o) ∧ CallOK Try.prog 4 [.c (rd 1 code.length (code.map pu))] (.c (.sl 0 44 l.length (l.flatMap GOp.co))) [.c (rd 1 code.length (code.map pu))] := by
  obtain ⟨l, a', s', hl, h1⟩ := ok_ops code hc 0 0 (by decide) (by decide)
  refine ⟨l, hl, ?_⟩
  refine okS (fn := Try.f4) [(14, [1])] h0 Try.func4 (by kernel_rfl) rfl Try.ntmps4 Try.results4 (by simp) ?_
  unfold curP at h1
  have hml : (l.flatMap GOp.co).length = l.length * 4 := fm_len GOp.co 4 (fun _ => rfl) l
  have hmt : List.take (l.length * 4) (l.flatMap GOp.co) = l.flatMap GOp.co := List.take_of_length_le (by omega)
  simp
  refine Inv_intro h1 ?_
  simp [hml, hmt]
end Go.V
