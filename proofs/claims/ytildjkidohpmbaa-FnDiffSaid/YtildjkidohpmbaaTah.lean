/- What functions of the seat's program do, each proved of its code, under the bounds that its theorem names. -/
import Derived.Test.YtildjkidohpmbaaTag
set_option linter.all false
namespace Go.V
open Go.Proofs
set_option maxHeartbeats 1000000
set_option maxRecDepth 10000
set_option linter.unusedSimpArgs false
set_option linter.unusedVariables false
theorem exists_run {α : Type} (N : Nat) (x0 : α) (I : Nat → α → Prop) (R : α → α → Prop) (h0 : I 0 x0) (hs : ∀ i x, i < N → I i x → ∃ y, R x y ∧ I (i + 1) y) : ∃ run : Nat → α, run 0 = x0 ∧ (∀ i, i ≤ N → I i (run i)) ∧ ∀ i, i < N → R (run i) (run (i + 1)) := by
  classical
  obtain ⟨run, hr⟩ : ∃ run : Nat → α, run = fun n => Nat.rec x0 (fun i x => if h : ∃ y, R x y ∧ I (i + 1) y then Classical.choose h else x) n := ⟨_, rfl⟩
  have hz : run 0 = x0 := by subst hr; rfl
  have hst : ∀ i, run (i + 1) = if h : ∃ y, R (run i) y ∧ I (i + 1) y then Classical.choose h else run i := fun i => by subst hr; rfl
  have hI : ∀ i, i ≤ N → I i (run i) := by
    intro i
    induction i with
    | zero => intro _; rw [hz]; exact h0
    | succ i ih =>
      intro hi
      have h1 := hs i (run i) (by omega) (ih (by omega))
      rw [hst, dif_pos h1]
      exact (Classical.choose_spec h1).2
  refine ⟨run, hz, hI, fun i hi => ?_⟩
  have h1 := hs i (run i) hi (hI i (by omega))
  rw [hst, dif_pos h1]
  exact (Classical.choose_spec h1).1
theorem ok_configValue (code : List Int) (hc : codeOK code) (a s : Int) (ha : 0 ≤ a) (ha2 : a ≤ 3999990) : ∃ v a' s', v.size ≤ 9 ∧ (a ≤ a' ∧ a' ≤ a + 2) ∧ CallOK Try.prog 79 [.bp (curP code a s)] (.c (ps v)) [.bp (curP code a' s')] := by
  obtain ⟨b, a1, s1, ha1, h1⟩ := ok_one code hc 30 (by decide) (by decide) a s ha (by omega)
  obtain ⟨v2, a2, s2, hv2, ha2', h2⟩ := ok_of 0 code hc [⟨#[]⟩, ⟨#[66]⟩, ⟨#[110, 105, 110, 101, 98, 121, 116, 101, 115]⟩] (by decide) (by decide) a1 s1 (by omega) (by omega)
  obtain ⟨v3, a3, s3, hv3, ha3, h3⟩ := ok_of 0 code hc [⟨#[49]⟩, ⟨#[50]⟩, ⟨#[111, 110]⟩, ⟨#[111, 102, 102]⟩] (by decide) (by decide) a1 s1 (by omega) (by omega)
  have hz2 : v2.size ≤ 9 := by
    simp only [List.mem_cons, List.not_mem_nil, or_false] at hv2
    rcases hv2 with rfl | rfl | rfl <;> decide
  have hz3 : v3.size ≤ 9 := by
    simp only [List.mem_cons, List.not_mem_nil, or_false] at hv3
    rcases hv3 with rfl | rfl | rfl | rfl <;> decide
  cases b with
  | true =>
    refine ⟨v2, a2, s2, hz2, by omega, ?_⟩
    refine okS (fn := Try.f79) [(60, [1]), (69, [1])] h0 Try.func79 (by kernel_rfl) rfl Try.ntmps79 Try.results79 (by simp) ?_
    unfold curP at h1 h2 ⊢
    simp
    refine Inv_intro h1 ?_
    simp
    refine Inv_intro h2 ?_
    simp
  | false =>
    refine ⟨v3, a3, s3, hz3, by omega, ?_⟩
    refine okS (fn := Try.f79) [(60, [1]), (69, [1])] h0 Try.func79 (by kernel_rfl) rfl Try.ntmps79 Try.results79 (by simp) ?_
    unfold curP at h1 h3 ⊢
    simp
    refine Inv_intro h1 ?_
    simp
    refine Inv_intro h3 ?_
    simp
def pathOK (p : List ByteArray) : Prop := p.length ≤ 8 ∧ ∀ w ∈ p, w.size ≤ 9
def wordsD : List ByteArray := [⟨#[97]⟩, ⟨#[98]⟩, ⟨#[112, 101, 101, 114]⟩, ⟨#[120, 45, 49]⟩]
theorem ok_configPath (code : List Int) (hc : codeOK code) (a s : Int) (ha : 0 ≤ a) (ha2 : a ≤ 3999980) : ∃ p a' s', pathOK p ∧ (a ≤ a' ∧ a' ≤ a + 6) ∧ CallOK Try.prog 78 [.bp (curP code a s)] (.c (.sl 0 9 p.length (p.map ps))) [.bp (curP code a' s')] := by
  obtain ⟨n, a1, s1, hn, ha1, h1⟩ := ok_pick code hc 3 (by decide) (by decide) a s ha (by omega)
  obtain ⟨N, hN⟩ : ∃ N : Nat, (N : Int) = 1 + n := ⟨(1 + n).toNat, by omega⟩
  obtain ⟨run, run0, runI, runR⟩ := exists_run (α := List ByteArray × Int × Int) N ([], a1, s1) (fun i x => x.1.length = i ∧ (∀ w ∈ x.1, w.size ≤ 9) ∧ a1 ≤ x.2.1 ∧ x.2.1 ≤ a1 + i)
    (fun x y => ∃ w, y.1 = x.1 ++ [w] ∧ CallOK Try.prog 69 [.bp (curP code x.2.1 x.2.2), .c (rd 0 4 (wordsD.map ps))] (.c (ps w)) [.bp (curP code y.2.1 y.2.2), .c (rd 0 4 (wordsD.map ps))])
    ⟨rfl, by simp, by simp, by simp⟩ (by
      rintro i ⟨p, b, t⟩ hi ⟨g1, g2, g3, g4⟩
      simp only at g1 g2 g3 g4
      obtain ⟨w, b', t', hw, hb', hcall⟩ := ok_of 0 code hc wordsD (by decide) (by decide) b t (by omega) (by omega)
      refine ⟨(p ++ [w], b', t'), ⟨w, rfl, hcall⟩, by simp [g1], fun v hv => ?_, by simp only; omega, by simp only; omega⟩
      rcases List.mem_append.1 hv with hv | hv
      · exact g2 v hv
      · rw [List.mem_singleton.1 hv]
        simp only [wordsD, List.mem_cons, List.not_mem_nil, or_false] at hw
        rcases hw with rfl | rfl | rfl | rfl <;> decide)
  obtain ⟨e1, e2, e3, e4⟩ := runI N (Nat.le_refl _)
  obtain ⟨x, a2, s2, hx, ha2', h2⟩ := ok_pick code hc 60 (by decide) (by decide) (run N).2.1 (run N).2.2 (by omega) (by omega)
  have hlen : (run N).1.length ≤ 8 := by omega
  have hN3 : 1 ≤ N ∧ N ≤ 3 := by omega
  obtain ⟨p, a3, s3, hp, ha3, hfin⟩ : ∃ (p : List ByteArray) (a3 s3 : Int), pathOK p ∧ (a2 ≤ a3 ∧ a3 ≤ a2 + 1) ∧ ((x = 0 ∧ ∃ w, p = (run N).1.set 0 w ∧ CallOK Try.prog 69 [.bp (curP code a2 s2), .c (rd 0 3 ([⟨#[]⟩, ⟨#[65]⟩, ⟨#[110, 105, 110, 101, 98, 121, 116, 101, 115]⟩].map ps))] (.c (ps w)) [.bp (curP code a3 s3), .c (rd 0 3 ([⟨#[]⟩, ⟨#[65]⟩, ⟨#[110, 105, 110, 101, 98, 121, 116, 101, 115]⟩].map ps))]) ∨ (x = 1 ∧ p = (run N).1 ++ [⟨#[97]⟩, ⟨#[98]⟩, ⟨#[99]⟩, ⟨#[100]⟩, ⟨#[101]⟩] ∧ a3 = a2 ∧ s3 = s2) ∨ (¬ x = 0 ∧ ¬ x = 1 ∧ p = (run N).1 ∧ a3 = a2 ∧ s3 = s2)) := by
    by_cases x0 : x = 0
    · obtain ⟨w, a3, s3, hw, ha3, h3⟩ := ok_of 0 code hc [⟨#[]⟩, ⟨#[65]⟩, ⟨#[110, 105, 110, 101, 98, 121, 116, 101, 115]⟩] (by decide) (by decide) a2 s2 (by omega) (by omega)
      refine ⟨(run N).1.set 0 w, a3, s3, ⟨by rw [List.length_set]; omega, fun v hv => ?_⟩, ha3, .inl ⟨x0, w, rfl, h3⟩⟩
      rcases List.mem_or_eq_of_mem_set hv with hv | rfl
      · exact e2 v hv
      · simp only [List.mem_cons, List.not_mem_nil, or_false] at hw
        rcases hw with rfl | rfl | rfl <;> decide
    · by_cases x1 : x = 1
      · refine ⟨_, a2, s2, ⟨by rw [List.length_append]; simp only [List.length_cons, List.length_nil]; omega, fun v hv => ?_⟩, by omega, .inr (.inl ⟨x1, rfl, rfl, rfl⟩)⟩
        rcases List.mem_append.1 hv with hv | hv
        · exact e2 v hv
        · simp only [List.mem_cons, List.not_mem_nil, or_false] at hv
          rcases hv with rfl | rfl | rfl | rfl | rfl <;> decide
      · exact ⟨_, a2, s2, ⟨by omega, e2⟩, by omega, .inr (.inr ⟨x0, x1, rfl, rfl, rfl⟩)⟩
  refine ⟨p, a3, s3, hp, by omega, ?_⟩
  refine okS (fn := Try.f78) [(63, [1]), (69, [1])] h0 Try.func78 (by kernel_rfl) rfl Try.ntmps78 Try.results78 (by simp) ?_
  unfold curP at h1 h2 hfin runR ⊢
  have w1 : IntKind.i64.wrap (1 + n) = 1 + n := wrap64 (by omega) (by omega)
  simp
  refine Inv_intro h1 ?_
  have wN : IntKind.i64.wrap (N : Int) = (N : Int) := wrap64 (by omega) (by omega)
  simp [w1, ← hN, wN]
  refine ewp_nil 3 (.op 5 5 0) 9 (by decide) rfl rfl rfl ?_
  refine loopS [0, 3, 4] [.op 5 5 0, .arg 0 0] (fun m st => ∃ (i : Nat), i + m = N ∧ st = ⟨slOf 33 [(0, .ptr ⟨.arg 0 0, []⟩ 0), (3, .ref ⟨.op 5 5 0, []⟩ 0 i), (4, .t (pi m))], ofL [(.op 5 5 0, .sl 0 9 i ((run i).1.map ps)), (.arg 0 0, .sl 0 77 1 [rd 1 code.length (code.map pu), pi (run i).2.1, .raw (.int .u64 (run i).2.2)])]⟩) N ?_ ?_
  · rintro Inv hI
    simp
    subst hI
    exact ⟨0, by omega, by rw [run0]; rfl⟩
  · rintro Inv hI m st ⟨i, hi, rfl⟩
    refine ewr_sound (M := [(63, [1]), (69, [1])]) h0 ?_
    by_cases c : 0 < m
    · obtain ⟨f1, _⟩ := runI i (by omega)
      obtain ⟨w, g1, hcall⟩ := runR i (by omega)
      have c' : (0 : Int) < (m : Int) := by omega
      have w2 : IntKind.i64.wrap ((m : Int) - 1) = ((m - 1 : Nat) : Int) := by rw [wrap64 (by omega) (by omega)]; omega
      have hb1 : (i + 1) * 16 ≤ 140737488355328 := by omega
      have hb2 : i ≤ 9223372036854775806 := by omega
      have hml : ((run i).1.map ps).length = i := by rw [List.length_map, f1]
      have hmt : List.take i ((run i).1.map ps) = (run i).1.map ps := List.take_of_length_le (by omega)
      simp [c, c']
      refine Inv_intro hcall ?_
      simp [f1, hb1, hb2, hml, hmt, w2]
      subst hI
      refine Less_mk (m - 1) (by omega) ⟨i + 1, by omega, ?_⟩
      rw [g1]
      simp
    · have hm0 : m = 0 := by omega
      have hiN : i = N := by omega
      subst hm0
      subst hiN
      simp
      refine Inv_intro h2 ?_
      have hi0 : 0 < i := by omega
      have hi1 : 1 ≤ i := by omega
      obtain ⟨p0, pr, hpr⟩ : ∃ p0 pr, (run i).1 = p0 :: pr := by
        cases hP : (run i).1 with
        | nil => rw [hP] at e1; simp at e1; omega
        | cons p0 pr => exact ⟨p0, pr, rfl⟩
      have hsz : pr.length + 1 = i := by rw [hpr] at e1; simpa using e1
      have ht1 : ∀ x : PT, List.take i (x :: pr.map ps) = x :: pr.map ps := fun x => List.take_of_length_le (by rw [List.length_cons, List.length_map]; omega)
      have hl1 : i ≤ pr.length + 1 := by omega
      have hb1 : (i + 5) * 16 ≤ 140737488355328 := by omega
      have hb2 : i + 5 ≤ 9223372036854775807 := by omega
      have hsz5 : pr.length + 5 + 1 = i + 5 := by omega
      have ht5 : ∀ a b c d e f : PT, List.take (i + 5) (a :: (pr.map ps ++ [b, c, d, e, f])) = a :: (pr.map ps ++ [b, c, d, e, f]) := fun a b c d e f => List.take_of_length_le (by simp only [List.length_cons, List.length_append, List.length_map, List.length_nil]; omega)
      rcases hfin with ⟨rfl, w, rfl, hcall⟩ | ⟨rfl, rfl, rfl, rfl⟩ | ⟨x0, x1, rfl, rfl, rfl⟩
      · simp
        refine Inv_intro hcall ?_
        simp [hi0, hi1, hpr, hsz, ht1, hl1]
      · simp [hi0, hpr, hsz, ht1, hl1, hb1, hb2, hsz5, ht5]
      · simp [x0, x1, hpr, hsz, ht1, hl1]
def cmdD (c : GCommand) : Prop := pathOK c.Path ∧ c.Value.size ≤ 9
theorem ok_command (code : List Int) (hc : codeOK code) (a s : Int) (ha : 0 ≤ a) (ha2 : a ≤ 3999900) : ∃ (c : GCommand) (a' s' : Int), cmdD c ∧ (a ≤ a' ∧ a' ≤ a + 10) ∧ CallOK Try.prog 86 [.bp (curP code a s)] (.agg c.co) [.bp (curP code a' s')] := by
  obtain ⟨b, a1, s1, ha1, h1⟩ := ok_one code hc 2 (by decide) (by decide) a s ha (by omega)
  obtain ⟨p, a2, s2, hp, ha2', h2⟩ := ok_configPath code hc a1 s1 (by omega) (by omega)
  obtain ⟨c, a3, s3, hcd, ha3, h3⟩ : ∃ (c : GCommand) (a3 s3 : Int), cmdD c ∧ (a2 ≤ a3 ∧ a3 ≤ a2 + 3) ∧ (
      (b = true ∧ ∃ v, c = ⟨true, p, v⟩ ∧ CallOK Try.prog 79 [.bp (curP code a2 s2)] (.c (ps v)) [.bp (curP code a3 s3)]) ∨
      (b = false ∧ ∃ (z : Bool) (b1 t1 : Int), CallOK Try.prog 60 [.bp (curP code a2 s2), .c (pi 12)] (.c (pb z)) [.bp (curP code b1 t1), .c (pi 12)] ∧
        ((z = true ∧ ∃ v, c = ⟨false, p, v⟩ ∧ CallOK Try.prog 79 [.bp (curP code b1 t1)] (.c (ps v)) [.bp (curP code a3 s3)]) ∨ (z = false ∧ c = ⟨false, p, ByteArray.empty⟩ ∧ a3 = b1 ∧ s3 = t1)))) := by
    cases b with
    | true =>
      obtain ⟨v, a3, s3, hv, ha3, c1⟩ := ok_configValue code hc a2 s2 (by omega) (by omega)
      exact ⟨⟨true, p, v⟩, a3, s3, ⟨hp, hv⟩, by omega, .inl ⟨rfl, v, rfl, c1⟩⟩
    | false =>
      obtain ⟨z, b1, t1, hb1, c1⟩ := ok_one code hc 12 (by decide) (by decide) a2 s2 (by omega) (by omega)
      cases z with
      | true =>
        obtain ⟨v, a3, s3, hv, ha3, c2⟩ := ok_configValue code hc b1 t1 (by omega) (by omega)
        exact ⟨⟨false, p, v⟩, a3, s3, ⟨hp, hv⟩, by omega, .inr ⟨rfl, true, b1, t1, c1, .inl ⟨rfl, v, rfl, c2⟩⟩⟩
      | false => exact ⟨⟨false, p, ByteArray.empty⟩, b1, t1, ⟨hp, Nat.zero_le _⟩, by omega, .inr ⟨rfl, false, b1, t1, c1, .inr ⟨rfl, rfl, rfl, rfl⟩⟩⟩
  refine ⟨c, a3, s3, hcd, by omega, ?_⟩
  refine okS (fn := Try.f86) [(60, [1]), (78, [1]), (79, [1])] h0 Try.func86 (by kernel_rfl) rfl Try.ntmps86 Try.results86 (by simp) ?_
  unfold curP at h1 h2 h3 ⊢
  simp
  refine Inv_intro h1 ?_
  simp
  refine Inv_intro h2 ?_
  rcases h3 with ⟨rfl, v, rfl, c1⟩ | ⟨rfl, z, b1, t1, c1, ⟨rfl, v, rfl, c2⟩ | ⟨rfl, rfl, rfl, rfl⟩⟩
  · simp
    refine Inv_intro c1 ?_
    simp
  · simp
    refine Inv_intro c1 ?_
    simp
    refine Inv_intro c2 ?_
    simp
  · simp
    refine Inv_intro c1 ?_
    simp
theorem ok_DrawCommandText (code : List Int) (hc : codeOK code) : ∃ (c : GCommand), cmdD c ∧ CallOK Try.prog 41 [.c (rd 1 code.length (code.map pu))] (.agg c.co) [.c (rd 1 code.length (code.map pu))] := by
  obtain ⟨c, a1, s1, hcd, ha1, h1⟩ := ok_command code hc 0 0 (by decide) (by decide)
  refine ⟨c, hcd, ?_⟩
  refine okS (fn := Try.f41) [(86, [1])] h0 Try.func41 (by kernel_rfl) rfl Try.ntmps41 Try.results41 (by simp) ?_
  unfold curP at h1
  simp
  refine Inv_intro h1 ?_
  simp
abbrev cLeafSSo (xs : List (List GLeaf)) : PT := .sl 0 58 xs.length (xs.map (cLeafSo))
abbrev cLeafSSi (k : Nat) (xs : List (List GLeaf)) : PT := rd k xs.length (xs.map (cLeafSi k))
theorem un_LeafSS (xs : List (List GLeaf)) : PT.unownL (xs.map (cLeafSo)) = (xs.map (cLeafSi 0)) := by
  rw [unownL_map]
  congr 1
  funext r
  simp [cLeafSo, cLeafSi, rd]
theorem uni_LeafSS (k : Nat) (xs : List (List GLeaf)) : PT.unownL (xs.map (cLeafSi k)) = (xs.map (cLeafSi 0)) := by
  rw [unownL_map]
  congr 1
  funext r
  simp [cLeafSo, cLeafSi, rd]
theorem nt_LeafSS (xs : List (List GLeaf)) : PT.noTmpL (xs.map (cLeafSo)) = true := noTmpL_map _ xs fun r => by simp [cLeafSo]
theorem nti_LeafSS (k : Nat) (xs : List (List GLeaf)) : PT.noTmpL (xs.map (cLeafSi (k + 1))) = true := noTmpL_map _ xs fun r => by simp [cLeafSi, rd]
attribute [simp] un_LeafSS uni_LeafSS nt_LeafSS nti_LeafSS
def wt_LeafSS (xs : List (List GLeaf)) : Nat := wtR wt_LeafS xs
theorem len_wt_LeafSS (xs : List (List GLeaf)) : xs.length ≤ wt_LeafSS xs := by unfold wt_LeafSS wtR; omega
theorem mem_wt_LeafSS {xs : List (List GLeaf)} {x : (List GLeaf)} (h : x ∈ xs) : wt_LeafS x ≤ wt_LeafSS xs := by
  have := wt_mem wt_LeafS h
  unfold wt_LeafSS wtR
  omega
def fits_LeafSS (xs : List (List GLeaf)) : Prop := xs.length ≤ 140737488351232 ∧ ∀ x ∈ xs, fits_LeafS x
def lens_LeafSS (xs : List (List GLeaf)) : Prop := xs.length ≤ 140737488351232 ∧ ∀ x ∈ xs, lens_LeafS x
def mk_LeafSS (xs : List (List GLeaf)) (k : Int) : List (List GLeaf) × Int := mkR mk_LeafS xs k
def cn_LeafSS (xs : List (List GLeaf)) : Nat := cnR cn_LeafS xs
theorem mk_LeafSS_len (xs : List (List GLeaf)) (k : Int) : (mk_LeafSS xs k).1.length = xs.length := mkR_len _ xs k
attribute [simp] mk_LeafSS_len
theorem mk_LeafSS_snd (xs : List (List GLeaf)) (k : Int) : (mk_LeafSS xs k).2 = k + cn_LeafSS xs := mkR_snd (mk_LeafS_snd) xs k
theorem lens_of_LeafSS {xs : List (List GLeaf)} (h : wt_LeafSS xs ≤ 1048576) : lens_LeafSS xs := by
  have hl := len_wt_LeafSS xs
  exact ⟨by omega, fun x hx => lens_of_LeafS (by have := mem_wt_LeafSS hx; omega)⟩
theorem cn_le_LeafSS (xs : List (List GLeaf)) : cn_LeafSS xs ≤ 32 * wt_LeafSS xs := cnR_le (fun x => by have := cn_le_LeafS x; omega) xs
structure GStore where
  Candidate : (List GLeaf)
  Running : (List GLeaf)
  History : (List (List GLeaf))
  Left : Int
  deriving DecidableEq
def GStore.co (x : GStore) : List PT := [.sl 0 103 x.Candidate.length (x.Candidate.flatMap GLeaf.co), .sl 0 103 x.Running.length (x.Running.flatMap GLeaf.co), .sl 0 58 x.History.length (x.History.map (cLeafSo)), pi x.Left]
def GStore.ci (k : Nat) (x : GStore) : List PT := [rd k x.Candidate.length (x.Candidate.flatMap (GLeaf.ci k)), rd k x.Running.length (x.Running.flatMap (GLeaf.ci k)), rd k x.History.length (x.History.map (cLeafSi k)), pi x.Left]
attribute [simp] GStore.co GStore.ci
theorem GStore.len_o (x : GStore) : x.co.length = 4 := rfl
theorem GStore.len_i (k : Nat) (x : GStore) : (x.ci k).length = 4 := rfl
theorem GStore.un1 (x : GStore) : PT.unownL x.co = x.ci 0 := by simp [rd]
theorem GStore.uni1 (k : Nat) (x : GStore) : PT.unownL (x.ci k) = x.ci 0 := by simp [rd]
theorem GStore.un (xs : List GStore) : PT.unownL (xs.flatMap GStore.co) = xs.flatMap (GStore.ci 0) := by
  rw [unownL_fm]
  congr 1
  funext x
  exact GStore.un1 x
theorem GStore.uni (k : Nat) (xs : List GStore) : PT.unownL (xs.flatMap (GStore.ci k)) = xs.flatMap (GStore.ci 0) := by
  rw [unownL_fm]
  congr 1
  funext x
  exact GStore.uni1 k x
theorem GStore.nt (xs : List GStore) : PT.noTmpL (xs.flatMap GStore.co) = true := noTmpL_fm _ xs fun x => by simp
theorem GStore.nti (k : Nat) (xs : List GStore) : PT.noTmpL (xs.flatMap (GStore.ci (k + 1))) = true := noTmpL_fm _ xs fun x => by simp [rd]
attribute [simp] GStore.un GStore.uni GStore.nt GStore.nti
theorem GStore.lenR (xs : List GStore) : (xs.flatMap GStore.co).length = xs.length * 4 := fm_len _ 4 (fun _ => rfl) xs
theorem GStore.lenRi (k : Nat) (xs : List GStore) : (xs.flatMap (GStore.ci k)).length = xs.length * 4 := fm_len _ 4 (fun _ => rfl) xs
theorem GStore.tkR (xs : List GStore) : (xs.flatMap GStore.co).take (xs.length * 4) = xs.flatMap GStore.co := List.take_of_length_le (by rw [GStore.lenR]; exact Nat.le_refl _)
theorem GStore.tkRi (k : Nat) (xs : List GStore) : (xs.flatMap (GStore.ci k)).take (xs.length * 4) = xs.flatMap (GStore.ci k) := List.take_of_length_le (by rw [GStore.lenRi]; exact Nat.le_refl _)
attribute [simp high] GStore.lenR GStore.tkR GStore.lenRi GStore.tkRi
def GStore.wt (x : GStore) : Nat := wt_LeafS x.Candidate + wt_LeafS x.Running + wt_LeafSS x.History
def GStore.fits (x : GStore) : Prop := fits_LeafS x.Candidate ∧ fits_LeafS x.Running ∧ fits_LeafSS x.History
def GStore.lens (x : GStore) : Prop := lens_LeafS x.Candidate ∧ lens_LeafS x.Running ∧ lens_LeafSS x.History
def GStore.mark (x : GStore) (k : Int) : GStore × Int := (⟨(mk_LeafS x.Candidate k).1, (mk_LeafS x.Running (mk_LeafS x.Candidate k).2).1, (mk_LeafSS x.History (mk_LeafS x.Running (mk_LeafS x.Candidate k).2).2).1, (mk_LeafSS x.History (mk_LeafS x.Running (mk_LeafS x.Candidate k).2).2).2⟩, ((mk_LeafSS x.History (mk_LeafS x.Running (mk_LeafS x.Candidate k).2).2).2 + 1))
def GStore.cn (x : GStore) : Nat := cn_LeafS x.Candidate + cn_LeafS x.Running + cn_LeafSS x.History + 1
theorem GStore.mark_snd (x : GStore) (k : Int) : (GStore.mark x k).2 = k + GStore.cn x := by
  simp only [GStore.mark, GStore.cn, mk_LeafSS_snd, mk_LeafS_snd] <;> omega
def GStore.markT (x : GStore) (k : Int) : GStore × Int := (⟨(mk_LeafS x.Candidate k).1, (mk_LeafS x.Running (mk_LeafS x.Candidate k).2).1, (mk_LeafSS x.History (mk_LeafS x.Running (mk_LeafS x.Candidate k).2).2).1, x.Left⟩, (mk_LeafSS x.History (mk_LeafS x.Running (mk_LeafS x.Candidate k).2).2).2)
def GStore.cnT (x : GStore) : Nat := cn_LeafS x.Candidate + cn_LeafS x.Running + cn_LeafSS x.History
theorem GStore.markT_snd (x : GStore) (k : Int) : (GStore.markT x k).2 = k + GStore.cnT x := by
  simp only [GStore.markT, GStore.cnT, mk_LeafSS_snd, mk_LeafS_snd] <;> omega
theorem lens_of_Store {x : GStore} (h : GStore.wt x ≤ 1048576) : GStore.lens x := by
  unfold GStore.wt at h
  exact ⟨lens_of_LeafS (by omega), lens_of_LeafS (by omega), lens_of_LeafSS (by omega)⟩
theorem cn_le_Store (x : GStore) : GStore.cnT x ≤ 32 * GStore.wt x := by
  unfold GStore.cnT GStore.wt
  have := cn_le_LeafS x.Candidate
  have := cn_le_LeafS x.Running
  have := cn_le_LeafSS x.History
  omega
theorem cnE_le_Store (x : GStore) : GStore.cn x ≤ 32 * GStore.wt x + 16 := by
  unfold GStore.cn GStore.wt
  have := cn_le_LeafS x.Candidate
  have := cn_le_LeafS x.Running
  have := cn_le_LeafSS x.History
  omega
def storeOK (s : GStore) : Prop := confOK s.Candidate ∧ confOK s.Running ∧ s.History.length ≤ 140737488351232 ∧ ∀ l ∈ s.History, confOK l
def goodS (s : GStore) : Bool := goodC s.Candidate && goodC s.Running && decide ((1 : Int) ≤ s.History.length ∧ (s.History.length : Int) ≤ 10) && s.History.all goodC && decide (0 ≤ s.Left ∧ s.Left ≤ 100) && (decide (s.Left = 0) == decide (s.Running = s.History.headD []))
theorem head_cells (k : Nat) (h : List (List GLeaf)) (l : List GLeaf) (t : List (List GLeaf)) (e : h = l :: t) : h.map (cLeafSi k) = cLeafSi k l :: t.map (cLeafSi k) := by rw [e]; rfl
structure GOp where
  Kind : Int
  Path : (List ByteArray)
  Value : ByteArray
  N : Int
  deriving DecidableEq
def GOp.co (x : GOp) : List PT := [pi x.Kind, .sl 0 9 x.Path.length (x.Path.map ps), ps x.Value, pi x.N]
def GOp.ci (k : Nat) (x : GOp) : List PT := [pi x.Kind, rd k x.Path.length (x.Path.map ps), ps x.Value, pi x.N]
attribute [simp] GOp.co GOp.ci
theorem GOp.len_o (x : GOp) : x.co.length = 4 := rfl
theorem GOp.len_i (k : Nat) (x : GOp) : (x.ci k).length = 4 := rfl
theorem GOp.un1 (x : GOp) : PT.unownL x.co = x.ci 0 := by simp [rd]
theorem GOp.uni1 (k : Nat) (x : GOp) : PT.unownL (x.ci k) = x.ci 0 := by simp [rd]
theorem GOp.un (xs : List GOp) : PT.unownL (xs.flatMap GOp.co) = xs.flatMap (GOp.ci 0) := by
  rw [unownL_fm]
  congr 1
  funext x
  exact GOp.un1 x
theorem GOp.uni (k : Nat) (xs : List GOp) : PT.unownL (xs.flatMap (GOp.ci k)) = xs.flatMap (GOp.ci 0) := by
  rw [unownL_fm]
  congr 1
  funext x
  exact GOp.uni1 k x
theorem GOp.nt (xs : List GOp) : PT.noTmpL (xs.flatMap GOp.co) = true := noTmpL_fm _ xs fun x => by simp
theorem GOp.nti (k : Nat) (xs : List GOp) : PT.noTmpL (xs.flatMap (GOp.ci (k + 1))) = true := noTmpL_fm _ xs fun x => by simp [rd]
attribute [simp] GOp.un GOp.uni GOp.nt GOp.nti
theorem GOp.lenR (xs : List GOp) : (xs.flatMap GOp.co).length = xs.length * 4 := fm_len _ 4 (fun _ => rfl) xs
theorem GOp.lenRi (k : Nat) (xs : List GOp) : (xs.flatMap (GOp.ci k)).length = xs.length * 4 := fm_len _ 4 (fun _ => rfl) xs
theorem GOp.tkR (xs : List GOp) : (xs.flatMap GOp.co).take (xs.length * 4) = xs.flatMap GOp.co := List.take_of_length_le (by rw [GOp.lenR]; exact Nat.le_refl _)
theorem GOp.tkRi (k : Nat) (xs : List GOp) : (xs.flatMap (GOp.ci k)).take (xs.length * 4) = xs.flatMap (GOp.ci k) := List.take_of_length_le (by rw [GOp.lenRi]; exact Nat.le_refl _)
attribute [simp high] GOp.lenR GOp.tkR GOp.lenRi GOp.tkRi
def GOp.wt (x : GOp) : Nat := wt_StringS x.Path + x.Value.size
def GOp.fits (x : GOp) : Prop := fits_StringS x.Path ∧ x.Value.size ≤ 140737488351232
def GOp.lens (x : GOp) : Prop := lens_StringS x.Path
def GOp.mark (x : GOp) (k : Int) : GOp × Int := (⟨k, (mk_StringS x.Path (k + 1)).1, mtext (mk_StringS x.Path (k + 1)).2, ((mk_StringS x.Path (k + 1)).2 + 1)⟩, (((mk_StringS x.Path (k + 1)).2 + 1) + 1))
def GOp.cn (x : GOp) : Nat := 1 + cn_StringS x.Path + 1 + 1
theorem GOp.mark_snd (x : GOp) (k : Int) : (GOp.mark x k).2 = k + GOp.cn x := by
  simp only [GOp.mark, GOp.cn, mk_StringS_snd] <;> omega
def GOp.markT (x : GOp) (k : Int) : GOp × Int := (⟨x.Kind, (mk_StringS x.Path k).1, x.Value, x.N⟩, (mk_StringS x.Path k).2)
def GOp.cnT (x : GOp) : Nat := cn_StringS x.Path
theorem GOp.markT_snd (x : GOp) (k : Int) : (GOp.markT x k).2 = k + GOp.cnT x := by
  simp only [GOp.markT, GOp.cnT, mk_StringS_snd] <;> omega
theorem lens_of_Op {x : GOp} (h : GOp.wt x ≤ 1048576) : GOp.lens x := by
  unfold GOp.wt at h
  exact lens_of_StringS (by omega)
theorem cn_le_Op (x : GOp) : GOp.cnT x ≤ 32 * GOp.wt x := by
  unfold GOp.cnT GOp.wt
  have := cn_le_StringS x.Path
  omega
theorem cnE_le_Op (x : GOp) : GOp.cn x ≤ 32 * GOp.wt x + 16 := by
  unfold GOp.cn GOp.wt
  have := cn_le_StringS x.Path
  omega
def isOpB (o : GOp) : Bool := decide (1 ≤ o.Kind ∧ o.Kind ≤ 8) && (decide (o.Kind = 1 ∨ o.Kind = 2) || decide (o.Path.length = 0)) && (decide (o.Kind = 1) || decide (o.Value = ⟨#[]⟩)) && (decide (o.Kind = 4 ∨ o.Kind = 6) || decide (o.N = 0))
def opOK (o : GOp) : Prop := strsOK o.Path ∧ o.Path.length ≤ 1048576 ∧ o.Value.size ≤ 140737488355328
def textB (o : GOp) : Bool := decide (o.Path.length = 0) && decide (o.Value = ⟨#[]⟩)
def l16OpB (o : GOp) : Bool :=
  if o.Kind = 1 then decide (o.N = 0) && isP o.Path && isW o.Value
  else if o.Kind = 2 then decide (o.N = 0) && isP o.Path && decide (o.Value = ⟨#[]⟩)
  else if o.Kind = 4 then textB o && decide (1 ≤ o.N ∧ o.N ≤ 100)
  else if o.Kind = 6 then textB o && decide (0 ≤ o.N ∧ o.N ≤ 9)
  else if o.Kind = 3 ∨ o.Kind = 5 ∨ o.Kind = 7 ∨ o.Kind = 8 then textB o && decide (o.N = 0)
  else false
theorem ci_inj : ∀ {a b : List GLeaf} {k : Nat}, a.flatMap (GLeaf.ci k) = b.flatMap (GLeaf.ci k) → a = b
  | [], [], _, _ => rfl
  | [], y :: b, k, h => by simp at h
  | x :: a, [], k, h => by simp at h
  | x :: a, y :: b, k, h => by
    simp only [List.flatMap_cons, GLeaf.ci, List.cons_append, List.nil_append, List.cons.injEq] at h
    obtain ⟨h1, h2, h3⟩ := h
    have e1 : x.Path = y.Path := by
      simp only [rd, PT.sl.injEq] at h1
      have h4 := h1.2.2.2
      exact List.map_inj_right (fun u v huv => by simpa [ps] using huv) |>.1 h4
    have e2 : x.Value = y.Value := by simpa [ps] using h2
    rw [ci_inj h3]
    cases x; cases y
    simp only at e1 e2
    rw [e1, e2]
def storeB (s : GStore) : Prop := boundC s.Candidate ∧ boundC s.Running ∧ s.History.length ≤ 1048576 ∧ ∀ h ∈ s.History, boundC h
def confirmS (s : GStore) : GStore := if s.History.head? = some s.Running then { s with Left := 0 } else { s with Left := 0, History := (s.Running :: s.History).take 10 }
def stepSp (s : GStore) (o : GOp) : GStore × Bool :=
  if l16OpB o = false then (s, false)
  else if o.Kind = 1 then (⟨(rSetAt s.Candidate o.Path o.Value).1, s.Running, s.History, s.Left⟩, (rSetAt s.Candidate o.Path o.Value).2)
  else if o.Kind = 2 then (⟨(rDeleteAt s.Candidate o.Path).1, s.Running, s.History, s.Left⟩, (rDeleteAt s.Candidate o.Path).2)
  else if o.Kind = 3 then (confirmS ⟨s.Candidate, s.Candidate, s.History, s.Left⟩, true)
  else if o.Kind = 4 then (⟨s.Candidate, s.Candidate, s.History, if s.Candidate = s.History.headD [] then 0 else o.N⟩, true)
  else if o.Kind = 5 then (if s.Left = 0 then (s, false) else (confirmS s, true))
  else if o.Kind = 6 then (if (s.History.length : Int) ≤ o.N then (s, false) else (⟨s.History.getD o.N.toNat [], s.Running, s.History, s.Left⟩, true))
  else if o.Kind = 7 then (⟨s.Running, s.Running, s.History, s.Left⟩, true)
  else (if s.Left = 0 then (s, false) else (⟨s.Candidate, (if s.Left - 1 = 0 then s.History.headD [] else s.Running), s.History, s.Left - 1⟩, true))
def zeroS : GStore := ⟨[], [], [], 0⟩
def stepI (s : GStore) (o : GOp) : GStore × Bool :=
  if isOpB o = false then (zeroS, false)
  else if o.Kind = 1 then (⟨(rSetAt s.Candidate o.Path o.Value).1, s.Running, s.History, s.Left⟩, (rSetAt s.Candidate o.Path o.Value).2)
  else if o.Kind = 2 then (⟨(rDeleteAt s.Candidate o.Path).1, s.Running, s.History, s.Left⟩, (rDeleteAt s.Candidate o.Path).2)
  else if o.Kind = 3 then (confirmS ⟨s.Candidate, s.Candidate, s.History, s.Left⟩, true)
  else if o.Kind = 4 then (⟨s.Candidate, s.Candidate, s.History, if s.Candidate = s.History.headD [] then 0 else o.N⟩, decide (1 ≤ o.N ∧ o.N ≤ 100))
  else if o.Kind = 5 then (confirmS s, decide (0 < s.Left))
  else if o.Kind = 6 then (if 0 ≤ o.N ∧ o.N ≤ (s.History.length : Int) - 1 then (⟨s.History.getD o.N.toNat [], s.Running, s.History, s.Left⟩, true) else (zeroS, false))
  else if o.Kind = 7 then (⟨s.Running, s.Running, s.History, s.Left⟩, true)
  else if o.Kind = 8 then (⟨s.Candidate, (if s.Left - 1 = 0 then s.History.headD [] else s.Running), s.History, s.Left - 1⟩, decide (0 < s.Left))
  else (s, true)
theorem wtR_leC {α : Type} (f : α → Nat) (b : Nat) : ∀ l : List α, (∀ x ∈ l, f x ≤ b) → wtR f l ≤ l.length * (b + 1)
  | [], _ => by simp [wtR]
  | x :: l, h => by
    have ih := wtR_leC f b l fun y hy => h y (by simp [hy])
    have hx := h x (by simp)
    simp only [wtR, List.map_cons, List.sum_cons, List.length_cons] at ih ⊢
    rw [Nat.succ_mul]
    omega
theorem isW_size {w : ByteArray} (h : isW w = true) : w.size ≤ 8 := by
  simp only [isW, Bool.and_eq_true, decide_eq_true_eq] at h
  omega
def smC (l : List GLeaf) : Prop := l.length ≤ 30 ∧ ∀ x ∈ l, okLeaf x = true
theorem goodC_sm {l : List GLeaf} (h : goodC l = true) : smC l := by
  refine ⟨?_, goodC_all h⟩
  simp only [goodC, Bool.and_eq_true, decide_eq_true_eq] at h
  exact h.2
theorem smC_wt {l : List GLeaf} (h : smC l) : wt_LeafS l ≤ 2000 := by
  have hl := h.1
  have h1 : wtR GLeaf.wt l ≤ l.length * (53 + 1) := by
    refine wtR_leC GLeaf.wt 53 l fun x hx => ?_
    have ho := h.2 x hx
    simp only [okLeaf, Bool.and_eq_true, isP, decide_eq_true_eq] at ho
    obtain ⟨⟨h2, h3⟩, h4⟩ := ho
    have h5 := isW_size h4
    have h6 : wtR ByteArray.size x.Path ≤ x.Path.length * (8 + 1) := wtR_leC ByteArray.size 8 x.Path fun w hw => isW_size (List.all_eq_true.1 h3 w hw)
    unfold GLeaf.wt
    show wtR ByteArray.size x.Path + x.Value.size ≤ 53
    omega
  show wtR GLeaf.wt l ≤ 2000
  omega
def invS (s : GStore) : Prop := smC s.Candidate ∧ smC s.Running ∧ 1 ≤ s.History.length ∧ s.History.length ≤ 10 ∧ (∀ l ∈ s.History, smC l) ∧ (0 ≤ s.Left ∧ s.Left ≤ 100)
theorem goodS_inv {s : GStore} (h : goodS s = true) : invS s := by
  simp only [goodS, Bool.and_eq_true, decide_eq_true_eq, List.all_eq_true] at h
  obtain ⟨⟨⟨⟨⟨h1, h2⟩, h3⟩, h4⟩, h5⟩, h6⟩ := h
  exact ⟨goodC_sm h1, goodC_sm h2, by omega, by omega, fun l hl => goodC_sm (h4 l hl), h5⟩
theorem invS_wt {s : GStore} (h : invS s) : GStore.wt s ≤ 1048576 := by
  obtain ⟨h1, h2, h3, h4, h5, _⟩ := h
  have a1 := smC_wt h1
  have a2 := smC_wt h2
  have a3 : wtR wt_LeafS s.History ≤ s.History.length * (2000 + 1) := wtR_leC wt_LeafS 2000 s.History fun l hl => smC_wt (h5 l hl)
  unfold GStore.wt
  show wt_LeafS s.Candidate + wt_LeafS s.Running + wtR wt_LeafS s.History ≤ 1048576
  omega
theorem wt_storeB {s : GStore} (h : GStore.wt s ≤ 1048576) : storeB s := by
  unfold GStore.wt at h
  have key : ∀ l : List GLeaf, wt_LeafS l ≤ 1048576 → boundC l := fun l hl => ⟨(conf_len hl).1, fun x hx => ⟨(conf_len hl).2 x hx, (conf_ok hl).2 x hx⟩⟩
  exact ⟨key _ (by omega), key _ (by omega), by have := len_wt_LeafSS s.History; omega, fun l hl => key _ (by have := mem_wt_LeafSS hl; omega)⟩
theorem wt_opOK {o : GOp} (h : GOp.wt o ≤ 1048576) : opOK o := by
  unfold GOp.wt at h
  have := len_wt_StringS o.Path
  exact ⟨strs_ok (by omega), by omega, by omega⟩
theorem step_agree {s : GStore} (o : GOp) (hs : invS s) : (stepSp s o).2 = (stepI s o).2 ∧ ((stepI s o).2 = true → (stepSp s o).1 = (stepI s o).1) := by
  obtain ⟨h1, h2, h3, h4, h5, h6⟩ := hs
  obtain ⟨C, R, H, F⟩ := s
  obtain ⟨K, Pa, V, N⟩ := o
  simp only at h1 h2 h3 h4 h5 h6
  by_cases k1 : K = 1
  · subst k1
    cases c1 : isP Pa <;> cases c2 : isW V <;> by_cases c3 : N = 0 <;> simp [stepSp, stepI, isOpB, l16OpB, rSetAt, c1, c2, c3, zeroS]
  by_cases k2 : K = 2
  · subst k2
    cases c1 : isP Pa <;> by_cases c2 : V = ⟨#[]⟩ <;> by_cases c3 : N = 0 <;> simp [stepSp, stepI, isOpB, l16OpB, rDeleteAt, c1, c2, c3, zeroS]
  by_cases k3 : K = 3
  · subst k3
    by_cases c1 : Pa = [] <;> by_cases c2 : V = ⟨#[]⟩ <;> by_cases c3 : N = 0 <;> simp [stepSp, stepI, isOpB, l16OpB, textB, c1, c2, c3, zeroS]
  by_cases k4 : K = 4
  · subst k4
    by_cases c1 : Pa = [] <;> by_cases c2 : V = ⟨#[]⟩ <;> by_cases c3 : 1 ≤ N ∧ N ≤ 100 <;> simp [stepSp, stepI, isOpB, l16OpB, textB, c1, c2, c3, zeroS]
  by_cases k5 : K = 5
  · subst k5
    by_cases c1 : Pa = [] <;> by_cases c2 : V = ⟨#[]⟩ <;> by_cases c3 : N = 0 <;> by_cases c4 : F = 0 <;> simp [stepSp, stepI, isOpB, l16OpB, textB, c1, c2, c3, c4, zeroS]
    omega
  by_cases k6 : K = 6
  · subst k6
    by_cases c1 : Pa = [] <;> by_cases c2 : V = ⟨#[]⟩ <;> by_cases c3 : 0 ≤ N ∧ N ≤ 9
    all_goals
      by_cases c4 : (H.length : Int) ≤ N
      · have c5 : ¬ (0 ≤ N ∧ N ≤ (H.length : Int) - 1) := by omega
        have c6 : ¬ N ≤ (H.length : Int) - 1 := by omega
        simp [c6, stepSp, stepI, isOpB, l16OpB, textB, c1, c2, c3, c4, c5, zeroS]
      · by_cases c5 : 0 ≤ N ∧ N ≤ (H.length : Int) - 1
        · first
          | (exfalso; omega)
          | simp [stepSp, stepI, isOpB, l16OpB, textB, c1, c2, c3, c4, c5, zeroS]
        · first
          | (exfalso; omega)
          | simp [stepSp, stepI, isOpB, l16OpB, textB, c1, c2, c3, c4, c5, zeroS]
  by_cases k7 : K = 7
  · subst k7
    by_cases c1 : Pa = [] <;> by_cases c2 : V = ⟨#[]⟩ <;> by_cases c3 : N = 0 <;> simp [stepSp, stepI, isOpB, l16OpB, textB, c1, c2, c3, zeroS]
  by_cases k8 : K = 8
  · subst k8
    by_cases c1 : Pa = [] <;> by_cases c2 : V = ⟨#[]⟩ <;> by_cases c3 : N = 0 <;> by_cases c4 : F = 0 <;> simp [stepSp, stepI, isOpB, l16OpB, textB, c1, c2, c3, c4, zeroS]
    omega
  · have c1 : ¬ (1 ≤ K ∧ K ≤ 8) := by omega
    simp [stepSp, stepI, isOpB, l16OpB, k1, k2, k3, k4, k5, k6, k7, k8, c1]
theorem headD_mem {H : List (List GLeaf)} (h : 1 ≤ H.length) : H.headD [] ∈ H := by
  cases H with
  | nil => simp at h
  | cons x H => simp
theorem confirmS_inv {s : GStore} (h1 : smC s.Candidate) (h2 : smC s.Running) (h3 : 1 ≤ s.History.length) (h4 : s.History.length ≤ 10) (h5 : ∀ l ∈ s.History, smC l) : invS (confirmS s) := by
  obtain ⟨C, R, H, F⟩ := s
  simp only at h1 h2 h3 h4 h5
  have h0 : (0 : Int) ≤ 0 ∧ (0 : Int) ≤ 100 := by decide
  unfold confirmS
  split
  · exact ⟨h1, h2, h3, h4, h5, h0⟩
  · refine ⟨h1, h2, ?_, ?_, ?_, h0⟩
    · simp only [List.take_succ_cons, List.length_cons]; omega
    · simp only [List.length_take]; omega
    · intro l hl
      have := List.mem_of_mem_take hl
      rcases List.mem_cons.1 this with rfl | h
      · exact h2
      · exact h5 l h
theorem step_inv {s : GStore} {o : GOp} (hs : invS s) (ho : (stepI s o).2 = true) : invS (stepI s o).1 := by
  have hs' := hs
  obtain ⟨h1, h2, h3, h4, h5, h6⟩ := hs
  have hhd := h5 _ (headD_mem h3)
  obtain ⟨C, R, H, F⟩ := s
  obtain ⟨K, Pa, V, N⟩ := o
  simp only at h1 h2 h3 h4 h5 h6 hhd
  unfold stepI at ho ⊢
  simp only at ho ⊢
  split at ho
  · simp at ho
  rename_i c0
  rw [if_neg c0]
  split at ho
  · rename_i k
    rw [if_pos k]
    refine ⟨?_, h2, h3, h4, h5, h6⟩
    unfold rSetAt at ho ⊢
    split at ho
    · rename_i hg
      rw [if_pos hg]
      simp only [Bool.and_eq_true] at hg
      exact goodC_sm hg.2
    · simp at ho
  rename_i k1
  rw [if_neg k1]
  split at ho
  · rename_i k
    rw [if_pos k]
    refine ⟨?_, h2, h3, h4, h5, h6⟩
    unfold rDeleteAt at ho ⊢
    split at ho
    · rename_i hg
      rw [if_pos hg]
      exact ⟨Nat.le_trans (delL_len _ _) h1.1, fun x hx => h1.2 x (List.mem_filter.1 hx).1⟩
    · simp at ho
  rename_i k2
  rw [if_neg k2]
  split at ho
  · rename_i k
    rw [if_pos k]
    exact confirmS_inv h1 h1 h3 h4 h5
  rename_i k3
  rw [if_neg k3]
  split at ho
  · rename_i k
    rw [if_pos k]
    simp only [decide_eq_true_eq] at ho
    refine ⟨h1, h1, h3, h4, h5, ?_⟩
    show 0 ≤ (if C = H.headD [] then (0 : Int) else N) ∧ (if C = H.headD [] then (0 : Int) else N) ≤ 100
    split <;> omega
  rename_i k4
  rw [if_neg k4]
  split at ho
  · rename_i k
    rw [if_pos k]
    exact confirmS_inv h1 h2 h3 h4 h5
  rename_i k5
  rw [if_neg k5]
  split at ho
  · rename_i k
    rw [if_pos k]
    split at ho
    · rename_i hN
      rw [if_pos hN]
      refine ⟨?_, h2, h3, h4, h5, h6⟩
      have hlt : N.toNat < H.length := by omega
      show smC (H.getD N.toNat [])
      rw [List.getD_eq_getElem?_getD, List.getElem?_eq_getElem hlt]
      exact h5 _ (List.getElem_mem hlt)
    · simp at ho
  rename_i k6
  rw [if_neg k6]
  split at ho
  · rename_i k
    rw [if_pos k]
    exact ⟨h2, h2, h3, h4, h5, h6⟩
  rename_i k7
  rw [if_neg k7]
  split at ho
  · rename_i k
    rw [if_pos k]
    simp only [decide_eq_true_eq] at ho
    refine ⟨h1, ?_, h3, h4, h5, by show 0 ≤ F - 1 ∧ F - 1 ≤ 100; omega⟩
    show smC (if F - 1 = 0 then H.headD [] else R)
    split
    · exact hhd
    · exact h2
  rename_i k8
  rw [if_neg k8]
  exact hs'
def rStepStore (v0 : GStore) (v1 : GOp) : GStore × Bool := if goodS v0 = true ∧ (stepI v0 v1).2 = true then ((stepI v0 v1).1, true) else (zeroS, false)
theorem rStepStore_ok (v0 : GStore) (v1 : GOp) (hv0 : GStore.wt v0 ≤ 1048576) (hv1 : GOp.wt v1 ≤ 1048576) : (rStepStore v0 v1).1.lens ∧ GStore.cnT (rStepStore v0 v1).1 ≤ 1152921504606846976 := by
  have key : GStore.wt (rStepStore v0 v1).1 ≤ 1048576 := by
    unfold rStepStore
    split
    · rename_i h; exact invS_wt (step_inv (goodS_inv h.1) h.2)
    · decide
  exact ⟨lens_of_Store key, by have := cn_le_Store (rStepStore v0 v1).1; omega⟩
end Go.V
