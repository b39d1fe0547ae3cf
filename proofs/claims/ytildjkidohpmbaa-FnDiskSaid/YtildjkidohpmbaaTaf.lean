/- What functions of the seat's program do, each proved of its code, under the bounds that its theorem names. -/
import Derived.Test.YtildjkidohpmbaaTae
set_option linter.all false
namespace Go.V
open Go.Proofs
set_option maxHeartbeats 1000000
set_option maxRecDepth 10000
set_option linter.unusedSimpArgs false
set_option linter.unusedVariables false
theorem exists_run {α : Type} (N : Nat) (x0 : α) (I : Nat → α → Prop) (R : α → α → Prop) (h0 : I 0 x0) (hs : ∀ i x, i < N → I i x → ∃ y, R x y ∧ I (i + 1) y) : ∃ run : Nat → α, run 0 = x0 ∧ (∀ i, i ≤ N → I i (run i)) ∧ ∀ i, i < N → R (run i) (run (i + 1)) := by
  classical
  obtain ⟨run, hr⟩ : ∃ run : Nat → α, run = fun n => Nat.rec x0 (fun i x => if h : ∃ y, R x y ∧ I (i + 1) y then Classical.choose h else x) n := ⟨_, rfl⟩
  have hz : run 0 = x0 := by subst hr; rfl
  have hst : ∀ i, run (i + 1) = if h : ∃ y, R (run i) y ∧ I (i + 1) y then Classical.choose h else run i := fun i => by subst hr; rfl
  have hI : ∀ i, i ≤ N → I i (run i) := by
    intro i
    induction i with
    | zero => intro _; rw [hz]; exact h0
    | succ i ih =>
      intro hi
      have h1 := hs i (run i) (by omega) (ih (by omega))
      rw [hst, dif_pos h1]
      exact (Classical.choose_spec h1).2
  refine ⟨run, hz, hI, fun i hi => ?_⟩
  have h1 := hs i (run i) hi (hI i (by omega))
  rw [hst, dif_pos h1]
  exact (Classical.choose_spec h1).1
theorem ok_configValue (code : List Int) (hc : codeOK code) (a s : Int) (ha : 0 ≤ a) (ha2 : a ≤ 3999990) : ∃ v a' s', v.size ≤ 9 ∧ (a ≤ a' ∧ a' ≤ a + 2) ∧ CallOK Try.prog 79 [.bp (curP code a s)] (.c (ps v)) [.bp (curP code a' s')] := by
  obtain ⟨b, a1, s1, ha1, h1⟩ := ok_one code hc 30 (by decide) (by decide) a s ha (by omega)
  obtain ⟨v2, a2, s2, hv2, ha2', h2⟩ := ok_of 0 code hc [⟨#[]⟩, ⟨#[66]⟩, ⟨#[110, 105, 110, 101, 98, 121, 116, 101, 115]⟩] (by decide) (by decide) a1 s1 (by omega) (by omega)
  obtain ⟨v3, a3, s3, hv3, ha3, h3⟩ := ok_of 0 code hc [⟨#[49]⟩, ⟨#[50]⟩, ⟨#[111, 110]⟩, ⟨#[111, 102, 102]⟩] (by decide) (by decide) a1 s1 (by omega) (by omega)
  have hz2 : v2.size ≤ 9 := by
    simp only [List.mem_cons, List.not_mem_nil, or_false] at hv2
    rcases hv2 with rfl | rfl | rfl <;> decide
  have hz3 : v3.size ≤ 9 := by
    simp only [List.mem_cons, List.not_mem_nil, or_false] at hv3
    rcases hv3 with rfl | rfl | rfl | rfl <;> decide
  cases b with
  | true =>
    refine ⟨v2, a2, s2, hz2, by omega, ?_⟩
    refine okS (fn := Try.f79) [(60, [1]), (69, [1])] h0 Try.func79 (by kernel_rfl) rfl Try.ntmps79 Try.results79 (by simp) ?_
    unfold curP at h1 h2 ⊢
    simp
    refine Inv_intro h1 ?_
    simp
    refine Inv_intro h2 ?_
    simp
  | false =>
    refine ⟨v3, a3, s3, hz3, by omega, ?_⟩
    refine okS (fn := Try.f79) [(60, [1]), (69, [1])] h0 Try.func79 (by kernel_rfl) rfl Try.ntmps79 Try.results79 (by simp) ?_
    unfold curP at h1 h3 ⊢
    simp
    refine Inv_intro h1 ?_
    simp
    refine Inv_intro h3 ?_
    simp
def pathOK (p : List ByteArray) : Prop := p.length ≤ 8 ∧ ∀ w ∈ p, w.size ≤ 9
def wordsD : List ByteArray := [⟨#[97]⟩, ⟨#[98]⟩, ⟨#[112, 101, 101, 114]⟩, ⟨#[120, 45, 49]⟩]
theorem ok_configPath (code : List Int) (hc : codeOK code) (a s : Int) (ha : 0 ≤ a) (ha2 : a ≤ 3999980) : ∃ p a' s', pathOK p ∧ (a ≤ a' ∧ a' ≤ a + 6) ∧ CallOK Try.prog 78 [.bp (curP code a s)] (.c (.sl 0 9 p.length (p.map ps))) [.bp (curP code a' s')] := by
  obtain ⟨n, a1, s1, hn, ha1, h1⟩ := ok_pick code hc 3 (by decide) (by decide) a s ha (by omega)
  obtain ⟨N, hN⟩ : ∃ N : Nat, (N : Int) = 1 + n := ⟨(1 + n).toNat, by omega⟩
  obtain ⟨run, run0, runI, runR⟩ := exists_run (α := List ByteArray × Int × Int) N ([], a1, s1) (fun i x => x.1.length = i ∧ (∀ w ∈ x.1, w.size ≤ 9) ∧ a1 ≤ x.2.1 ∧ x.2.1 ≤ a1 + i)
    (fun x y => ∃ w, y.1 = x.1 ++ [w] ∧ CallOK Try.prog 69 [.bp (curP code x.2.1 x.2.2), .c (rd 0 4 (wordsD.map ps))] (.c (ps w)) [.bp (curP code y.2.1 y.2.2), .c (rd 0 4 (wordsD.map ps))])
    ⟨rfl, by simp, by simp, by simp⟩ (by
      rintro i ⟨p, b, t⟩ hi ⟨g1, g2, g3, g4⟩
      simp only at g1 g2 g3 g4
      obtain ⟨w, b', t', hw, hb', hcall⟩ := ok_of 0 code hc wordsD (by decide) (by decide) b t (by omega) (by omega)
      refine ⟨(p ++ [w], b', t'), ⟨w, rfl, hcall⟩, by simp [g1], fun v hv => ?_, by simp only; omega, by simp only; omega⟩
      rcases List.mem_append.1 hv with hv | hv
      · exact g2 v hv
      · rw [List.mem_singleton.1 hv]
        simp only [wordsD, List.mem_cons, List.not_mem_nil, or_false] at hw
        rcases hw with rfl | rfl | rfl | rfl <;> decide)
  obtain ⟨e1, e2, e3, e4⟩ := runI N (Nat.le_refl _)
  obtain ⟨x, a2, s2, hx, ha2', h2⟩ := ok_pick code hc 60 (by decide) (by decide) (run N).2.1 (run N).2.2 (by omega) (by omega)
  have hlen : (run N).1.length ≤ 8 := by omega
  have hN3 : 1 ≤ N ∧ N ≤ 3 := by omega
  obtain ⟨p, a3, s3, hp, ha3, hfin⟩ : ∃ (p : List ByteArray) (a3 s3 : Int), pathOK p ∧ (a2 ≤ a3 ∧ a3 ≤ a2 + 1) ∧ ((x = 0 ∧ ∃ w, p = (run N).1.set 0 w ∧ CallOK Try.prog 69 [.bp (curP code a2 s2), .c (rd 0 3 ([⟨#[]⟩, ⟨#[65]⟩, ⟨#[110, 105, 110, 101, 98, 121, 116, 101, 115]⟩].map ps))] (.c (ps w)) [.bp (curP code a3 s3), .c (rd 0 3 ([⟨#[]⟩, ⟨#[65]⟩, ⟨#[110, 105, 110, 101, 98, 121, 116, 101, 115]⟩].map ps))]) ∨ (x = 1 ∧ p = (run N).1 ++ [⟨#[97]⟩, ⟨#[98]⟩, ⟨#[99]⟩, ⟨#[100]⟩, ⟨#[101]⟩] ∧ a3 = a2 ∧ s3 = s2) ∨ (¬ x = 0 ∧ ¬ x = 1 ∧ p = (run N).1 ∧ a3 = a2 ∧ s3 = s2)) := by
    by_cases x0 : x = 0
    · obtain ⟨w, a3, s3, hw, ha3, h3⟩ := ok_of 0 code hc [⟨#[]⟩, ⟨#[65]⟩, ⟨#[110, 105, 110, 101, 98, 121, 116, 101, 115]⟩] (by decide) (by decide) a2 s2 (by omega) (by omega)
      refine ⟨(run N).1.set 0 w, a3, s3, ⟨by rw [List.length_set]; omega, fun v hv => ?_⟩, ha3, .inl ⟨x0, w, rfl, h3⟩⟩
      rcases List.mem_or_eq_of_mem_set hv with hv | rfl
      · exact e2 v hv
      · simp only [List.mem_cons, List.not_mem_nil, or_false] at hw
        rcases hw with rfl | rfl | rfl <;> decide
    · by_cases x1 : x = 1
      · refine ⟨_, a2, s2, ⟨by rw [List.length_append]; simp only [List.length_cons, List.length_nil]; omega, fun v hv => ?_⟩, by omega, .inr (.inl ⟨x1, rfl, rfl, rfl⟩)⟩
        rcases List.mem_append.1 hv with hv | hv
        · exact e2 v hv
        · simp only [List.mem_cons, List.not_mem_nil, or_false] at hv
          rcases hv with rfl | rfl | rfl | rfl | rfl <;> decide
      · exact ⟨_, a2, s2, ⟨by omega, e2⟩, by omega, .inr (.inr ⟨x0, x1, rfl, rfl, rfl⟩)⟩
  refine ⟨p, a3, s3, hp, by omega, ?_⟩
  refine okS (fn := Try.f78) [(63, [1]), (69, [1])] h0 Try.func78 (by kernel_rfl) rfl Try.ntmps78 Try.results78 (by simp) ?_
  unfold curP at h1 h2 hfin runR ⊢
  have w1 : IntKind.i64.wrap (1 + n) = 1 + n := wrap64 (by omega) (by omega)
  simp
  refine Inv_intro h1 ?_
  have wN : IntKind.i64.wrap (N : Int) = (N : Int) := wrap64 (by omega) (by omega)
  simp [w1, ← hN, wN]
  refine ewp_nil 3 (.op 5 5 0) 9 (by decide) rfl rfl rfl ?_
  refine loopS [0, 3, 4] [.op 5 5 0, .arg 0 0] (fun m st => ∃ (i : Nat), i + m = N ∧ st = ⟨slOf 33 [(0, .ptr ⟨.arg 0 0, []⟩ 0), (3, .ref ⟨.op 5 5 0, []⟩ 0 i), (4, .t (pi m))], ofL [(.op 5 5 0, .sl 0 9 i ((run i).1.map ps)), (.arg 0 0, .sl 0 77 1 [rd 1 code.length (code.map pu), pi (run i).2.1, .raw (.int .u64 (run i).2.2)])]⟩) N ?_ ?_
  · rintro Inv hI
    simp
    subst hI
    exact ⟨0, by omega, by rw [run0]; rfl⟩
  · rintro Inv hI m st ⟨i, hi, rfl⟩
    refine ewr_sound (M := [(63, [1]), (69, [1])]) h0 ?_
    by_cases c : 0 < m
    · obtain ⟨f1, _⟩ := runI i (by omega)
      obtain ⟨w, g1, hcall⟩ := runR i (by omega)
      have c' : (0 : Int) < (m : Int) := by omega
      have w2 : IntKind.i64.wrap ((m : Int) - 1) = ((m - 1 : Nat) : Int) := by rw [wrap64 (by omega) (by omega)]; omega
      have hb1 : (i + 1) * 16 ≤ 140737488355328 := by omega
      have hb2 : i ≤ 9223372036854775806 := by omega
      have hml : ((run i).1.map ps).length = i := by rw [List.length_map, f1]
      have hmt : List.take i ((run i).1.map ps) = (run i).1.map ps := List.take_of_length_le (by omega)
      simp [c, c']
      refine Inv_intro hcall ?_
      simp [f1, hb1, hb2, hml, hmt, w2]
      subst hI
      refine Less_mk (m - 1) (by omega) ⟨i + 1, by omega, ?_⟩
      rw [g1]
      simp
    · have hm0 : m = 0 := by omega
      have hiN : i = N := by omega
      subst hm0
      subst hiN
      simp
      refine Inv_intro h2 ?_
      have hi0 : 0 < i := by omega
      have hi1 : 1 ≤ i := by omega
      obtain ⟨p0, pr, hpr⟩ : ∃ p0 pr, (run i).1 = p0 :: pr := by
        cases hP : (run i).1 with
        | nil => rw [hP] at e1; simp at e1; omega
        | cons p0 pr => exact ⟨p0, pr, rfl⟩
      have hsz : pr.length + 1 = i := by rw [hpr] at e1; simpa using e1
      have ht1 : ∀ x : PT, List.take i (x :: pr.map ps) = x :: pr.map ps := fun x => List.take_of_length_le (by rw [List.length_cons, List.length_map]; omega)
      have hl1 : i ≤ pr.length + 1 := by omega
      have hb1 : (i + 5) * 16 ≤ 140737488355328 := by omega
      have hb2 : i + 5 ≤ 9223372036854775807 := by omega
      have hsz5 : pr.length + 5 + 1 = i + 5 := by omega
      have ht5 : ∀ a b c d e f : PT, List.take (i + 5) (a :: (pr.map ps ++ [b, c, d, e, f])) = a :: (pr.map ps ++ [b, c, d, e, f]) := fun a b c d e f => List.take_of_length_le (by simp only [List.length_cons, List.length_append, List.length_map, List.length_nil]; omega)
      rcases hfin with ⟨rfl, w, rfl, hcall⟩ | ⟨rfl, rfl, rfl, rfl⟩ | ⟨x0, x1, rfl, rfl, rfl⟩
      · simp
        refine Inv_intro hcall ?_
        simp [hi0, hi1, hpr, hsz, ht1, hl1]
      · simp [hi0, hpr, hsz, ht1, hl1, hb1, hb2, hsz5, ht5]
      · simp [x0, x1, hpr, hsz, ht1, hl1]
def textsD : List ByteArray := [⟨#[97, 98, 99]⟩, ⟨#[115, 111, 109, 101, 32, 116, 101, 120, 116, 32, 111, 102, 32, 105, 116]⟩, ⟨#[0, 255]⟩, ⟨#[120]⟩]
theorem ok_journalText (code : List Int) (hc : codeOK code) (a s : Int) (ha : 0 ≤ a) (ha2 : a ≤ 3999900) : ∃ (p : ByteArray) (a' s' : Int), p.size ≤ 100 ∧ (a ≤ a' ∧ a' ≤ a + 8) ∧ CallOK Try.prog 62 [.bp (curP code a s)] (.c (ps p)) [.bp (curP code a' s')] := by
  obtain ⟨n, a1, s1, hn, ha1, h1⟩ := ok_pick code hc 6 (by decide) (by decide) a s ha (by omega)
  obtain ⟨N, rfl⟩ : ∃ N : Nat, n = (N : Int) := ⟨n.toNat, by omega⟩
  obtain ⟨run, run0, runI, runR⟩ := exists_run (α := ByteArray × Int × Int) N (⟨#[]⟩, a1, s1) (fun i x => x.1.size ≤ 15 * i ∧ a1 ≤ x.2.1 ∧ x.2.1 ≤ a1 + i)
    (fun x y => ∃ w, y.1 = x.1 ++ w ∧ w.size ≤ 15 ∧ CallOK Try.prog 69 [.bp (curP code x.2.1 x.2.2), .c (rd 0 4 (textsD.map ps))] (.c (ps w)) [.bp (curP code y.2.1 y.2.2), .c (rd 0 4 (textsD.map ps))])
    ⟨Nat.zero_le _, by simp, by simp⟩ (by
      rintro i ⟨p, b, t⟩ hi ⟨g2, g3, g4⟩
      simp only at g2 g3 g4
      obtain ⟨w, b', t', hw, hb', hcall⟩ := ok_of 0 code hc textsD (by decide) (by decide) b t (by omega) (by omega)
      have hz : w.size ≤ 15 := by
        simp only [textsD, List.mem_cons, List.not_mem_nil, or_false] at hw
        rcases hw with rfl | rfl | rfl | rfl <;> decide
      refine ⟨(p ++ w, b', t'), ⟨w, rfl, hz, hcall⟩, ?_, by simp only; omega, by simp only; omega⟩
      simp only [ByteArray.size_append]
      omega)
  obtain ⟨e2, e3, e4⟩ := runI N (Nat.le_refl _)
  obtain ⟨b, a2, s2, ha2', h2⟩ := ok_one code hc 20 (by decide) (by decide) (run N).2.1 (run N).2.2 (by omega) (by omega)
  obtain ⟨p, a3, s3, hp, ha3, hfin⟩ : ∃ (p : ByteArray) (a3 s3 : Int), p.size ≤ 100 ∧ (a2 ≤ a3 ∧ a3 ≤ a2 + 1) ∧ ((b = true ∧ ∃ M : Nat, M ≤ 1 ∧ p = strOf (List.replicate (72 + M) 0) ∧ CallOK Try.prog 63 [.bp (curP code a2 s2), .c (pi 2)] (.c (pi M)) [.bp (curP code a3 s3), .c (pi 2)]) ∨ (b = false ∧ p = (run N).1 ∧ a3 = a2 ∧ s3 = s2)) := by
    cases b with
    | true =>
      obtain ⟨m, a3, s3, hm', ha3, h3⟩ := ok_pick code hc 2 (by decide) (by decide) a2 s2 (by omega) (by omega)
      obtain ⟨M, rfl⟩ : ∃ M : Nat, m = (M : Int) := ⟨m.toNat, by omega⟩
      exact ⟨_, a3, s3, by rw [strOf_size, List.length_replicate]; omega, ha3, .inl ⟨rfl, M, by omega, rfl, h3⟩⟩
    | false => exact ⟨_, a2, s2, by omega, by omega, .inr ⟨rfl, rfl, rfl, rfl⟩⟩
  refine ⟨p, a3, s3, hp, by omega, ?_⟩
  refine okS (fn := Try.f62) [(63, [1]), (69, [1]), (60, [1])] h0 Try.func62 (by kernel_rfl) rfl Try.ntmps62 Try.results62 (by simp) ?_
  unfold curP at h1 h2 hfin runR ⊢
  simp
  refine Inv_intro h1 ?_
  simp
  refine loopS [0, 3, 4] [.arg 0 0] (fun m st => ∃ (i : Nat), i + m = N ∧ st = ⟨slOf 24 [(0, .ptr ⟨.arg 0 0, []⟩ 0), (3, .t (ps (run i).1)), (4, .t (pi m))], ofL [(.arg 0 0, .sl 0 77 1 [rd 1 code.length (code.map pu), pi (run i).2.1, .raw (.int .u64 (run i).2.2)])]⟩) N ?_ ?_
  · rintro Inv hI
    simp
    subst hI
    exact ⟨0, by omega, by rw [run0]⟩
  · rintro Inv hI m st ⟨i, hi, rfl⟩
    refine ewr_sound (M := [(63, [1]), (69, [1]), (60, [1])]) h0 ?_
    by_cases c : 0 < m
    · obtain ⟨f1, _⟩ := runI i (by omega)
      obtain ⟨w, g1, gz, hcall⟩ := runR i (by omega)
      have c' : (0 : Int) < (m : Int) := by omega
      have w2 : IntKind.i64.wrap ((m : Int) - 1) = ((m - 1 : Nat) : Int) := by rw [wrap64 (by omega) (by omega)]; omega
      have hsz : (run i).1.size + w.size ≤ 9223372036854775807 := by omega
      simp [c, c']
      refine Inv_intro hcall ?_
      simp [hsz, w2]
      subst hI
      refine Less_mk (m - 1) (by omega) ⟨i + 1, by omega, ?_⟩
      rw [g1]
    · have hm0 : m = 0 := by omega
      have hiN : i = N := by omega
      subst hm0
      subst hiN
      simp
      refine Inv_intro h2 ?_
      rcases hfin with ⟨rfl, M, hM, rfl, h3⟩ | ⟨rfl, rfl, rfl, rfl⟩
      · have w3 : IntKind.i64.wrap (72 + (M : Int)) = 72 + (M : Int) := wrap64 (by omega) (by omega)
        simp
        refine Inv_intro h3 ?_
        have hM1 : (0 : Int) ≤ 72 + (M : Int) := by omega
        have hM2 : 72 + (M : Int) ≤ 281474976710656 := by omega
        have hM3 : (72 + (M : Int)).toNat = 72 + M := by omega
        have hrep : List.replicate (72 + M) (PT.raw (.int .u8 0)) = (List.replicate (72 + M) (0 : Int)).map pu := by rw [List.map_replicate]
        have hbo : bytesOf (List.replicate (72 + M) (PT.raw (.int .u8 0))) = some (List.replicate (72 + M) (0 : Int)) := by
          rw [hrep]
          exact bytesOf_pu _
        simp [w3, hM1, hM2, hM3, hbo]
      · simp
theorem ok_keep (code : List Int) (hc : codeOK code) (a s : Int) (ha : 0 ≤ a) (ha2 : a ≤ 3999900) : ∃ (p : List Bool) (a' s' : Int), p.length ≤ 5 ∧ (a ≤ a' ∧ a' ≤ a + 6) ∧ CallOK Try.prog 96 [.bp (curP code a s)] (.c (.sl 0 4 p.length (p.map pb))) [.bp (curP code a' s')] := by
  obtain ⟨n, a1, s1, hn, ha1, h1⟩ := ok_pick code hc 6 (by decide) (by decide) a s ha (by omega)
  obtain ⟨N, rfl⟩ : ∃ N : Nat, n = (N : Int) := ⟨n.toNat, by omega⟩
  obtain ⟨run, run0, runI, runR⟩ := exists_run (α := List Bool × Int × Int) N ([], a1, s1) (fun i x => x.1.length = i ∧ a1 ≤ x.2.1 ∧ x.2.1 ≤ a1 + i)
    (fun x y => ∃ w, y.1 = x.1 ++ [w] ∧ CallOK Try.prog 60 [.bp (curP code x.2.1 x.2.2), .c (pi 2)] (.c (pb w)) [.bp (curP code y.2.1 y.2.2), .c (pi 2)])
    ⟨rfl, by simp, by simp⟩ (by
      rintro i ⟨p, b, t⟩ hi ⟨g1, g3, g4⟩
      simp only at g1 g3 g4
      obtain ⟨w, b', t', hb', hcall⟩ := ok_one code hc 2 (by decide) (by decide) b t (by omega) (by omega)
      exact ⟨(p ++ [w], b', t'), ⟨w, rfl, hcall⟩, by simp [g1], by simp only; omega, by simp only; omega⟩)
  obtain ⟨e1, e3, e4⟩ := runI N (Nat.le_refl _)
  refine ⟨(run N).1, (run N).2.1, (run N).2.2, by omega, by omega, ?_⟩
  refine okS (fn := Try.f96) [(63, [1]), (60, [1])] h0 Try.func96 (by kernel_rfl) rfl Try.ntmps96 Try.results96 (by simp) ?_
  unfold curP at h1 runR ⊢
  simp
  refine Inv_intro h1 ?_
  simp
  refine ewp_nil 3 (.op 5 4 0) 4 (by decide) rfl rfl rfl ?_
  refine loopS [0, 3, 4] [.op 5 4 0, .arg 0 0] (fun m st => ∃ (i : Nat), i + m = N ∧ st = ⟨slOf 17 [(0, .ptr ⟨.arg 0 0, []⟩ 0), (3, .ref ⟨.op 5 4 0, []⟩ 0 i), (4, .t (pi m))], ofL [(.op 5 4 0, .sl 0 4 i ((run i).1.map pb)), (.arg 0 0, .sl 0 77 1 [rd 1 code.length (code.map pu), pi (run i).2.1, .raw (.int .u64 (run i).2.2)])]⟩) N ?_ ?_
  · rintro Inv hI
    simp
    subst hI
    exact ⟨0, by omega, by rw [run0]; rfl⟩
  · rintro Inv hI m st ⟨i, hi, rfl⟩
    refine ewr_sound (M := [(63, [1]), (60, [1])]) h0 ?_
    by_cases c : 0 < m
    · obtain ⟨f1, _⟩ := runI i (by omega)
      obtain ⟨w, g1, hcall⟩ := runR i (by omega)
      have c' : (0 : Int) < (m : Int) := by omega
      have w2 : IntKind.i64.wrap ((m : Int) - 1) = ((m - 1 : Nat) : Int) := by rw [wrap64 (by omega) (by omega)]; omega
      have hb1 : (i + 1) * 1 ≤ 140737488355328 := by omega
      have hb2 : i ≤ 9223372036854775806 := by omega
      have hb3 : i ≤ 140737488355327 := by omega
      have hml : ((run i).1.map pb).length = i := by rw [List.length_map, f1]
      have hmt : List.take i ((run i).1.map pb) = (run i).1.map pb := List.take_of_length_le (by omega)
      simp [c, c']
      refine Inv_intro hcall ?_
      simp [f1, hb1, hb2, hb3, hml, hmt, w2]
      subst hI
      refine Less_mk (m - 1) (by omega) ⟨i + 1, by omega, ?_⟩
      rw [g1]
      simp
    · have hm0 : m = 0 := by omega
      have hiN : i = N := by omega
      subst hm0
      subst hiN
      have hmt : List.take i ((run i).1.map pb) = (run i).1.map pb := List.take_of_length_le (by rw [List.length_map]; omega)
      simp [e1, hmt]
def savesOK (l : List ByteArray) : Prop := l.length ≤ 41 ∧ ∀ w ∈ l, w.size ≤ 100
theorem ok_saves (code : List Int) (hc : codeOK code) (a s : Int) (ha : 0 ≤ a) (ha2 : a ≤ 3999000) : ∃ (l : List ByteArray) (d : Int) (k : List Bool) (a' s' : Int), (savesOK l ∧ 1 ≤ l.length ∧ (0 ≤ d ∧ d ≤ 7) ∧ k.length ≤ 5) ∧ (a ≤ a' ∧ a' ≤ a + 400) ∧ CallOK Try.prog 45 [.bp (curP code a s)] (.tup [.c (.sl 0 9 l.length (l.map ps)), .c (pi d), .c (.sl 0 4 k.length (k.map pb))]) [.bp (curP code a' s')] := by
  obtain ⟨n0, a1, s1, hn0, ha1, h1⟩ := ok_pick code hc 4 (by decide) (by decide) a s ha (by omega)
  obtain ⟨b, a2, s2, ha2', h2⟩ := ok_one code hc 30 (by decide) (by decide) a1 s1 (by omega) (by omega)
  obtain ⟨N, a3, s3, hN, ha3, hb⟩ : ∃ (N : Nat) (a3 s3 : Int), (1 ≤ N ∧ N ≤ 41) ∧ (a2 ≤ a3 ∧ a3 ≤ a2 + 1) ∧ ((b = true ∧ ∃ n, (0 ≤ n ∧ n ≤ 1) ∧ (N : Int) = 40 + n ∧ CallOK Try.prog 63 [.bp (curP code a2 s2), .c (pi 2)] (.c (pi n)) [.bp (curP code a3 s3), .c (pi 2)]) ∨ (b = false ∧ (N : Int) = 1 + n0 ∧ a3 = a2 ∧ s3 = s2)) := by
    cases b with
    | true =>
      obtain ⟨n, a3, s3, hn, ha3, h3⟩ := ok_pick code hc 2 (by decide) (by decide) a2 s2 (by omega) (by omega)
      exact ⟨(40 + n).toNat, a3, s3, by omega, ha3, .inl ⟨rfl, n, by omega, by omega, h3⟩⟩
    | false => exact ⟨(1 + n0).toNat, a2, s2, by omega, by omega, .inr ⟨rfl, by omega, rfl, rfl⟩⟩
  obtain ⟨run, run0, runI, runR⟩ := exists_run (α := List ByteArray × Int × Int) N ([], a3, s3) (fun i x => x.1.length = i ∧ (∀ w ∈ x.1, w.size ≤ 100) ∧ a3 ≤ x.2.1 ∧ x.2.1 ≤ a3 + 8 * i)
    (fun x y => ∃ w, y.1 = x.1 ++ [w] ∧ CallOK Try.prog 62 [.bp (curP code x.2.1 x.2.2)] (.c (ps w)) [.bp (curP code y.2.1 y.2.2)])
    ⟨rfl, by simp, by simp, by simp⟩ (by
      rintro i ⟨p, b, t⟩ hi ⟨g1, g2, g3, g4⟩
      simp only at g1 g2 g3 g4
      obtain ⟨w, b', t', hw, hb', hcall⟩ := ok_journalText code hc b t (by omega) (by omega)
      refine ⟨(p ++ [w], b', t'), ⟨w, rfl, hcall⟩, by simp [g1], fun v hv => ?_, by simp only; omega, by simp only; omega⟩
      rcases List.mem_append.1 hv with hv | hv
      · exact g2 v hv
      · rw [List.mem_singleton.1 hv]; exact hw)
  obtain ⟨e1, e2, e3, e4⟩ := runI N (Nat.le_refl _)
  obtain ⟨d, a4, s4, hd, ha4, h4⟩ := ok_pick code hc 8 (by decide) (by decide) (run N).2.1 (run N).2.2 (by omega) (by omega)
  obtain ⟨k, a5, s5, hk, ha5, h5⟩ := ok_keep code hc a4 s4 (by omega) (by omega)
  refine ⟨(run N).1, d, k, a5, s5, ⟨⟨by omega, e2⟩, by omega, by omega, hk⟩, by omega, ?_⟩
  refine okE (fn := Try.f45) h0 Try.func45 (by kernel_rfl) rfl Try.ntmps45 Try.results45 (by simp) ?_
  unfold curP at h1 h2 hb runR h4 h5 ⊢
  have wN : IntKind.i64.wrap (N : Int) = (N : Int) := wrap64 (by omega) (by omega)
  have w0 : IntKind.i64.wrap (1 + n0) = 1 + n0 := wrap64 (by omega) (by omega)
  refine ewrN_cut (M := [(63, [1]), (60, [1]), (62, [1]), (96, [1])]) h0 4 [0, 5, 6] [] ⟨slOf 29 [(0, .ptr ⟨.arg 0 0, []⟩ 0), (5, .t (.sl 0 nilE 0 [])), (6, .t (pi N))], ofL [(.arg 0 0, .sl 0 77 1 [rd 1 code.length (code.map pu), pi a3, .raw (.int .u64 s3)])]⟩ ?_ ?_
  · refine ewr_sound (M := [(63, [1]), (60, [1]), (62, [1]), (96, [1])]) h0 ?_
    simp [Code.rest]
    refine ewp_nil 5 (.op 7 4 0) 9 (by decide) rfl rfl rfl ?_
    refine loopS [0, 5, 6] [.op 7 4 0, .arg 0 0] (fun m st => ∃ (i : Nat), i + m = N ∧ st = ⟨slOf 29 [(0, .ptr ⟨.arg 0 0, []⟩ 0), (5, .ref ⟨.op 7 4 0, []⟩ 0 i), (6, .t (pi m))], ofL [(.op 7 4 0, .sl 0 9 i ((run i).1.map ps)), (.arg 0 0, .sl 0 77 1 [rd 1 code.length (code.map pu), pi (run i).2.1, .raw (.int .u64 (run i).2.2)])]⟩) N ?_ ?_
    · rintro Inv hI
      simp
      subst hI
      exact ⟨0, by omega, by rw [run0]; rfl⟩
    · rintro Inv hI m st ⟨i, hi, rfl⟩
      refine ewr_sound (M := [(63, [1]), (60, [1]), (62, [1]), (96, [1])]) h0 ?_
      by_cases c : 0 < m
      · obtain ⟨f1, _⟩ := runI i (by omega)
        obtain ⟨w, g1, hcall⟩ := runR i (by omega)
        have c' : (0 : Int) < (m : Int) := by omega
        have w2 : IntKind.i64.wrap ((m : Int) - 1) = ((m - 1 : Nat) : Int) := by rw [wrap64 (by omega) (by omega)]; omega
        have hb1 : (i + 1) * 16 ≤ 140737488355328 := by omega
        have hb2 : i ≤ 9223372036854775806 := by omega
        have hml : ((run i).1.map ps).length = i := by rw [List.length_map, f1]
        have hmt : List.take i ((run i).1.map ps) = (run i).1.map ps := List.take_of_length_le (by omega)
        simp [c, c']
        refine Inv_intro hcall ?_
        simp [f1, hb1, hb2, hml, hmt, w2]
        subst hI
        refine Less_mk (m - 1) (by omega) ⟨i + 1, by omega, ?_⟩
        rw [g1]
        simp
      · have hm0 : m = 0 := by omega
        have hiN : i = N := by omega
        subst hm0
        subst hiN
        have hmt : List.take i ((run i).1.map ps) = (run i).1.map ps := List.take_of_length_le (by rw [List.length_map]; omega)
        have hkt : List.take k.length (k.map pb) = k.map pb := List.take_of_length_le (by rw [List.length_map]; exact Nat.le_refl _)
        simp
        refine Inv_intro h4 ?_
        simp
        refine Inv_intro h5 ?_
        simp [e1, hmt, hkt]
  · intro K hK
    simp
    refine Inv_intro h1 ?_
    simp
    refine Inv_intro h2 ?_
    rcases hb with ⟨rfl, n, hn, hNn, h3⟩ | ⟨rfl, hNn, rfl, rfl⟩
    · simp
      refine Inv_intro h3 ?_
      simp [← hNn, wN]
      refine hK _ ?_
      simp
    · simp [← hNn, wN]
      refine hK _ ?_
      simp
theorem ok_DrawPlaySaves (code : List Int) (hc : codeOK code) : ∃ (l : List ByteArray) (d : Int) (k : List Bool), (savesOK l ∧ 1 ≤ l.length ∧ (0 ≤ d ∧ d ≤ 7) ∧ k.length ≤ 5) ∧ CallOK Try.prog 6 [.c (rd 1 code.length (code.map pu))] (.tup [.c (.sl 0 9 l.length (l.map ps)), .c (pi d), .c (.sl 0 4 k.length (k.map pb))]) [.c (rd 1 code.length (code.map pu))] := by
  obtain ⟨l, d, k, a', s', hl, _, h1⟩ := ok_saves code hc 0 0 (by decide) (by decide)
  refine ⟨l, d, k, hl, ?_⟩
  refine okS (fn := Try.f6) [(45, [1])] h0 Try.func6 (by kernel_rfl) rfl Try.ntmps6 Try.results6 (by simp) ?_
  unfold curP at h1
  have hlt : List.take l.length (l.map ps) = l.map ps := List.take_of_length_le (by rw [List.length_map]; exact Nat.le_refl _)
  have hkt : List.take k.length (k.map pb) = k.map pb := List.take_of_length_le (by rw [List.length_map]; exact Nat.le_refl _)
  simp
  refine Inv_intro h1 ?_
  simp [hlt, hkt]
theorem unseal_seal (s : ByteArray) : rUnseal (sealS s) = (s, true) := by
  have h1 : (sealS s).size = s.size + 1 := sealS_size s
  have h2 : (sealS s).extract 0 ((sealS s).size - 1) = s := by
    rw [h1]
    unfold sealS
    exact ByteArray.extract_append_eq_left (by omega)
  unfold rUnseal
  rw [h2, if_pos ⟨by omega, rfl⟩]
def bt (a : Int) : Int := byteAt (strOf [a]) 0
theorem bt_num : ∀ n : Fin 1000, bt (tb (n.val : Int) 1) * 256 + bt (tb (n.val : Int) 0) = (n.val : Int) := by decide +kernel
theorem bt_long : ∀ n : Fin 73, bt (tb (n.val : Int) 0) = (n.val : Int) := by decide +kernel
theorem numB_eq {a b : Int} (h1 : 0 ≤ a) (h2 : a < 256) (h3 : 0 ≤ b) (h4 : b < 256) : numB a b = a * 256 + b := by
  unfold numB
  have e : (2 : Int) ^ min 8 IntKind.i64.bits = 256 := by decide
  rw [e, wrap64 (by omega) (by omega), bitOr_bytes h1 h2 h3 h4]
theorem tellsR_num (s : ByteArray) : 0 ≤ (tellsR s).1 := by
  unfold tellsR
  split
  · have h1 := byteAt_bd (rUnseal s).1 0
    have h2 := byteAt_bd (rUnseal s).1 1
    show 0 ≤ numB _ _
    rw [numB_eq h1.1 h1.2 h2.1 h2.2]
    omega
  · exact Int.le_refl _
theorem tells_teller (n l : Nat) (hn : n ≤ 999) (hl : l ≤ 72) : tellsR (sealS (strOf [tb (n : Int) 1, tb (n : Int) 0, tb (l : Int) 0])) = ((n : Int), (l : Int), true) := by
  have e1 := bt_num ⟨n, by omega⟩
  have e2 := bt_long ⟨l, by omega⟩
  simp only at e1 e2
  unfold tellsR
  rw [unseal_seal]
  have b0 : byteAt (strOf [tb (n : Int) 1, tb (n : Int) 0, tb (l : Int) 0]) 0 = bt (tb (n : Int) 1) := rfl
  have b1 : byteAt (strOf [tb (n : Int) 1, tb (n : Int) 0, tb (l : Int) 0]) 1 = bt (tb (n : Int) 0) := rfl
  have b2 : byteAt (strOf [tb (n : Int) 1, tb (n : Int) 0, tb (l : Int) 0]) 2 = bt (tb (l : Int) 0) := rfl
  have hs : (strOf [tb (n : Int) 1, tb (n : Int) 0, tb (l : Int) 0]).size = 3 := by rw [strOf_size]; rfl
  simp only [b0, b1, b2, hs]
  have r1 : 0 ≤ bt (tb (n : Int) 1) ∧ bt (tb (n : Int) 1) < 256 := byteAt_bd _ _
  have r2 : 0 ≤ bt (tb (n : Int) 0) ∧ bt (tb (n : Int) 0) < 256 := byteAt_bd _ _
  have hnb : numB (bt (tb (n : Int) 1)) (bt (tb (n : Int) 0)) = (n : Int) := by rw [numB_eq r1.1 r1.2 r2.1 r2.2, e1]
  rw [hnb, e2]
  have c1 : (n : Int) < 1000 := by omega
  have c2 : (l : Int) ≤ 72 := by omega
  simp [c1, c2]
theorem cut_part (t : ByteArray) (k : Nat) : cut18 (partK t k) = partK t k := by
  have := partK_size t k
  unfold cut18
  rw [Nat.min_eq_right this, ByteArray.extract_zero_size]
theorem cat_parts (t : ByteArray) (h : t.size ≤ 72) : catCut [partK t 0, partK t 1, partK t 2, partK t 3] = t := by
  unfold catCut
  simp only [List.foldl_cons, List.foldl_nil, cut_part]
  unfold partK
  have e0 : ByteArray.empty ++ t.extract (min (18 * 0) t.size) (min (18 * 0 + 18) t.size) = t.extract 0 (min 18 t.size) := by
    rw [ByteArray.empty_append]
    congr 1
  rw [e0]
  rw [← ByteArray.extract_eq_extract_append_extract (a := t) (i := 0) (k := min (18 * 1 + 18) t.size) (min (18 * 1) t.size) (by omega) (by omega)]
  rw [← ByteArray.extract_eq_extract_append_extract (a := t) (i := 0) (k := min (18 * 2 + 18) t.size) (min (18 * 2) t.size) (by omega) (by omega)]
  rw [← ByteArray.extract_eq_extract_append_extract (a := t) (i := 0) (k := min (18 * 3 + 18) t.size) (min (18 * 3) t.size) (by omega) (by omega)]
  have : min (18 * 3 + 18) t.size = t.size := by omega
  rw [this, ByteArray.extract_zero_size]
theorem list10 {α : Type} {l : List α} (h : l.length = 10) : ∃ a0 a1 a2 a3 a4 a5 a6 a7 a8 a9, l = [a0, a1, a2, a3, a4, a5, a6, a7, a8, a9] := by
  match l, h with
  | [a0, a1, a2, a3, a4, a5, a6, a7, a8, a9], _ => exact ⟨_, _, _, _, _, _, _, _, _, _, rfl⟩
theorem applyW_frame (keep : Nat → Bool) (j : Nat) : ∀ (ws : List GWrite) (i : Nat) (ss : List ByteArray), (∀ w ∈ ws, w.At.toNat ≠ j) → secAt (applyW keep i ws ss) j = secAt ss j
  | [], i, ss, _ => rfl
  | w :: ws, i, ss, h => by
    unfold applyW
    rw [applyW_frame keep j ws (i + 1) _ fun x hx => h x (List.mem_cons_of_mem _ hx)]
    split
    · unfold secAt
      rw [List.getElem?_set_ne (h w (List.mem_cons_self ..))]
    · rfl
theorem load_same {ss ss' : List ByteArray} (h1 : ss.length = 10) (h2 : ss'.length = 10) (e8 : secAt ss' 8 = secAt ss 8) (e9 : secAt ss' 9 = secAt ss 9) (h : Nat) (hh : h ≤ 1) (hn : (newR ss).1 = (h : Int)) (hk : ∀ k, k < 4 → secAt ss' (4 * h + k) = secAt ss (4 * h + k)) : loadR ss' = loadR ss := by
  have hnew : newR ss' = newR ss := by
    show nwStep (nwStep (-1, 0, 0) (0 : Nat) (tellsR (secAt ss' 8))) (1 : Nat) (tellsR (secAt ss' 9)) = nwStep (nwStep (-1, 0, 0) (0 : Nat) (tellsR (secAt ss 8))) (1 : Nat) (tellsR (secAt ss 9))
    rw [e8, e9]
  have hf : (ss'.drop (4 * h)).take 4 = (ss.drop (4 * h)).take 4 := by
    obtain ⟨a0, a1, a2, a3, a4, a5, a6, a7, a8, a9, rfl⟩ := list10 h1
    obtain ⟨b0, b1, b2, b3, b4, b5, b6, b7, b8, b9, rfl⟩ := list10 h2
    have k0 := hk 0 (by omega)
    have k1 := hk 1 (by omega)
    have k2 := hk 2 (by omega)
    have k3 := hk 3 (by omega)
    have : h = 0 ∨ h = 1 := by omega
    rcases this with rfl | rfl
    · simp [secAt] at k0 k1 k2 k3 ⊢
      exact ⟨k0, k1, k2, k3⟩
    · simp [secAt] at k0 k1 k2 k3 ⊢
      exact ⟨k0, k1, k2, k3⟩
  unfold loadR
  rw [hnew, hn]
  have : ((h : Int)).toNat = h := by omega
  rw [this, hf]
/-- What a plan is, and of which half. -/
theorem plan_spec {ss : List ByteArray} {text : ByteArray} (h : (planL ss text).2 = true) : ∃ (o n : Nat), o ≤ 1 ∧ (newR ss).1 = ((1 - o : Nat) : Int) ∧ (loadR ss).2.1 = (n : Int) ∧ (newR ss).2.1 = (n : Int) ∧ n < 999 ∧ text.size ≤ 72 ∧ (loadR ss).2.2 = true ∧ (tellsR (secAt ss (8 + (1 - o)))).1 = (n : Int) ∧
    (planL ss text).1 = planN text o 4 ++ [⟨(8 + o : Nat), sealS (strOf [tb ((n + 1 : Nat) : Int) 1, tb ((n + 1 : Nat) : Int) 0, tb (text.size : Int) 0])⟩] := by
  unfold planL at h ⊢
  by_cases c : (!(loadR ss).2.2 || decide (999 ≤ (loadR ss).2.1) || decide (72 < text.size)) = true
  · rw [if_pos c] at h; cases h
  · rw [if_neg c]
    simp only [Bool.or_eq_true, Bool.not_eq_true', decide_eq_true_eq, not_or, Bool.not_eq_false] at c
    obtain ⟨⟨c1, c2⟩, c3⟩ := c
    obtain ⟨o, ho, e1, e2⟩ := loadR_new c1
    have hnum : (loadR ss).2.1 = (newR ss).2.1 := by
      unfold loadR at c1 ⊢
      split at c1
      · cases c1
      · rename_i q1
        rw [if_neg q1]
        split at c1
        · cases c1
        · rename_i q2
          rw [if_neg q2]
    have htell : (newR ss).2.1 = (tellsR (secAt ss (8 + (1 - o)))).1 := by
      rcases newR_cases ss with e | ⟨h', hh, e⟩
      · omega
      · have : h' = 1 - o := by rw [e] at e1; simp only at e1; omega
        rw [e, this]
    have hz := tellsR_num (secAt ss (8 + (1 - o)))
    refine ⟨o, (loadR ss).2.1.toNat, ho, e1, by omega, by omega, by omega, by omega, c1, by omega, ?_⟩
    have w : IntKind.wrap .i64 ((loadR ss).2.1 + 1) = (((loadR ss).2.1.toNat + 1 : Nat) : Int) := by
      rw [wrap64 (by omega) (by omega)]
      omega
    rw [e2, w]
theorem four_at {o : Nat} {text : ByteArray} {w : GWrite} (hw : w ∈ planN text o 4) : ∃ j, j < 4 ∧ w.At.toNat = 4 * o + j := by
  unfold planN at hw
  obtain ⟨j, hj, rfl⟩ := List.mem_map.1 hw
  have hj := List.mem_range.1 hj
  refine ⟨j, hj, ?_⟩
  show (((4 * o + j : Nat) : Int)).toNat = 4 * o + j
  omega
theorem load_parts {ss : List ByteArray} {text : ByteArray} {o : Nat} (hl : ss.length = 10) (ho : o ≤ 1) (e1 : (newR ss).1 = ((1 - o : Nat) : Int)) (keep : Nat → Bool) (i : Nat) (ws : List GWrite) (hws : ∀ w ∈ ws, w ∈ planN text o 4) : loadR (applyW keep i ws ss) = loadR ss := by
  have fr : ∀ j, (j < 4 * o ∨ 4 * o + 4 ≤ j) → secAt (applyW keep i ws ss) j = secAt ss j := by
    intro j hj
    refine applyW_frame keep j ws i ss fun w hw => ?_
    obtain ⟨m, hm, e⟩ := four_at (hws w hw)
    omega
  exact load_same hl (by rw [applyW_len]; exact hl) (fr 8 (by omega)) (fr 9 (by omega)) (1 - o) (by omega) e1 fun k hk => fr _ (by omega)
theorem load_new {ss : List ByteArray} {text : ByteArray} {o n : Nat} (hl : ss.length = 10) (ho : o ≤ 1) (hn : n < 999) (ht : text.size ≤ 72) (e5 : (tellsR (secAt ss (8 + (1 - o)))).1 = (n : Int)) : loadR ((applyW (fun _ => true) 0 (planN text o 4) ss).set (((8 + o : Nat) : Int)).toNat (sealS (strOf [tb ((n + 1 : Nat) : Int) 1, tb ((n + 1 : Nat) : Int) 0, tb (text.size : Int) 0]))) = (text, (n : Int) + 1, true) := by
  have hT := tells_teller (n + 1) text.size (by omega) ht
  generalize hte : sealS (strOf [tb ((n + 1 : Nat) : Int) 1, tb ((n + 1 : Nat) : Int) 0, tb (text.size : Int) 0]) = t at hT ⊢
  obtain ⟨S, hS⟩ : ∃ S, S = (applyW (fun _ => true) 0 (planN text o 4) ss).set (((8 + o : Nat) : Int)).toNat t := ⟨_, rfl⟩
  rw [← hS]
  have hfour : (S.drop (4 * o)).take 4 = [partK text 0, partK text 1, partK text 2, partK text 3] := by
    obtain ⟨a0, a1, a2, a3, a4, a5, a6, a7, a8, a9, rfl⟩ := list10 hl
    have : o = 0 ∨ o = 1 := by omega
    rcases this with rfl | rfl
    · rw [hS]; rfl
    · rw [hS]; rfl
  have hnew : newR S = ((o : Int), ((n + 1 : Nat) : Int), (text.size : Int)) := by
    show nwStep (nwStep (-1, 0, 0) (0 : Nat) (tellsR (secAt S 8))) (1 : Nat) (tellsR (secAt S 9)) = _
    obtain ⟨a0, a1, a2, a3, a4, a5, a6, a7, a8, a9, rfl⟩ := list10 hl
    have : o = 0 ∨ o = 1 := by omega
    rcases this with rfl | rfl
    · have s8 : secAt S 8 = t := by rw [hS]; rfl
      have s9 : secAt S 9 = a9 := by rw [hS]; rfl
      have e5' : (tellsR a9).1 = (n : Int) := e5
      rw [s8, s9, hT]
      generalize tellsR a9 = q at e5'
      obtain ⟨q1, q2, q3⟩ := q
      simp only at e5'
      subst e5'
      have c1 : ¬ (((n + 1 : Nat) : Int) < (n : Int)) := by omega
      simp only [nwStep]
      simp
      omega
    · have s8 : secAt S 8 = a8 := by rw [hS]; rfl
      have s9 : secAt S 9 = t := by rw [hS]; rfl
      have e5' : (tellsR a8).1 = (n : Int) := e5
      rw [s8, s9, hT]
      generalize tellsR a8 = q at e5'
      obtain ⟨q1, q2, q3⟩ := q
      simp only at e5'
      subst e5'
      have c1 : ((n : Int) < ((n + 1 : Nat) : Int)) := by omega
      cases q3
      · simp [nwStep]
      · simp [nwStep]
        omega
  have hcat := cat_parts text ht
  unfold loadR
  have ho2 : ((o : Int)).toNat = o := by omega
  rw [hnew]
  simp only [ho2, hfour, hcat]
  rw [if_neg (by omega), if_neg (by omega)]
  have hz : ((text.size : Int)).toNat = text.size := by omega
  rw [hz, ByteArray.extract_zero_size]
  rfl
theorem applyW_none : ∀ (ws : List GWrite) (i : Nat) (ss : List ByteArray), applyW (kp []) i ws ss = ss
  | [], i, ss => rfl
  | w :: ws, i, ss => by
    unfold applyW
    have : kp [] i = false := by simp [kp]
    rw [this, applyW_none ws]
    rfl
theorem save_load {ss : List ByteArray} {text : ByteArray} (hl : ss.length = 10) (hp : (planL ss text).2 = true) (kept : List Bool) (k : Nat) (hk : k ≤ 7) : loadR (crashed (saveN (planL ss text).1 ⟨ss, []⟩ k) kept).Sectors = if k = 7 ∨ (k = 6 ∧ kp kept 0 = true) then (text, (loadR ss).2.1 + 1, true) else loadR ss := by
  obtain ⟨o, n, ho, e1, e2, e3, hn, ht, e4, e5, e6⟩ := plan_spec hp
  have hnew := load_new hl ho hn ht e5
  have hfr := fun keep i ws => load_parts (text := text) hl ho e1 keep i ws
  rw [e6]
  rw [e2]
  generalize sealS (strOf [tb ((n + 1 : Nat) : Int) 1, tb ((n + 1 : Nat) : Int) 0, tb (text.size : Int) 0]) = t at hnew
  have hpl : planN text o 4 = [⟨(4 * o + 0 : Nat), partK text 0⟩, ⟨(4 * o + 1 : Nat), partK text 1⟩, ⟨(4 * o + 2 : Nat), partK text 2⟩, ⟨(4 * o + 3 : Nat), partK text 3⟩] := rfl
  rw [hpl] at hnew hfr ⊢
  generalize (⟨(4 * o + 0 : Nat), partK text 0⟩ : GWrite) = w0 at hnew hfr
  generalize (⟨(4 * o + 1 : Nat), partK text 1⟩ : GWrite) = w1 at hnew hfr
  generalize (⟨(4 * o + 2 : Nat), partK text 2⟩ : GWrite) = w2 at hnew hfr
  generalize (⟨(4 * o + 3 : Nat), partK text 3⟩ : GWrite) = w3 at hnew hfr
  have hk' : k = 0 ∨ k = 1 ∨ k = 2 ∨ k = 3 ∨ k = 4 ∨ k = 5 ∨ k = 6 ∨ k = 7 := by omega
  rcases hk' with rfl | rfl | rfl | rfl | rfl | rfl | rfl | rfl
  · rw [if_neg (by omega)]
    exact hfr (kp kept) 0 [] (by simp)
  · rw [if_neg (by omega)]
    exact hfr (kp kept) 0 [w0] (by simp)
  · rw [if_neg (by omega)]
    exact hfr (kp kept) 0 [w0, w1] (by simp)
  · rw [if_neg (by omega)]
    exact hfr (kp kept) 0 [w0, w1, w2] (by simp)
  · rw [if_neg (by omega)]
    exact hfr (kp kept) 0 [w0, w1, w2, w3] (by simp)
  · rw [if_neg (by omega)]
    exact hfr (fun _ => true) 0 [w0, w1, w2, w3] (by simp)
  · show loadR (applyW (kp kept) 0 [⟨(8 + o : Nat), t⟩] (applyW (fun _ => true) 0 [w0, w1, w2, w3] ss)) = _
    unfold applyW
    cases c : kp kept 0 with
    | true =>
      rw [if_pos (show (6 : Nat) = 7 ∨ ((6 : Nat) = 6 ∧ true = true) from .inr ⟨rfl, rfl⟩)]
      exact hnew
    | false =>
      rw [if_neg (by rintro (h | ⟨_, h⟩) <;> cases h)]
      exact hfr (fun _ => true) 0 [w0, w1, w2, w3] (by simp)
  · rw [if_pos (.inl rfl)]
    exact hnew
theorem crashed_none (d : GDisk) : (crashed d []).Sectors = d.Sectors := applyW_none _ _ _
def lastT (l : List ByteArray) : Nat → ByteArray
  | 0 => ⟨#[]⟩
  | i + 1 => secAt l i
theorem save_w7 (pl : List GWrite) (d : GDisk) : (saveN pl d 7).Waiting = [] := rfl
theorem play_load (l : List ByteArray) (done : Nat) : ∀ (i : Nat) (d : GDisk), i + 1 ≤ l.length → playI l done i = some d → d.Waiting = [] ∧ d.Sectors.length = 10 ∧ loadR d.Sectors = (lastT l i, (i : Int), true)
  | 0, d, _, h => by
    cases h
    exact ⟨rfl, rfl, by kernel_rfl⟩
  | i + 1, d, hi, h => by
    rw [playI] at h
    cases h0 : playI l done i with
    | none => rw [h0] at h; cases h
    | some d0 =>
      rw [h0] at h
      obtain ⟨q1, q2, q3⟩ := play_load l done i d0 (by omega) h0
      obtain ⟨ss, ws⟩ := d0
      simp only at q1 q2 q3 h
      subst q1
      have e7 : stepsOf l.length done i = 7 := by unfold stepsOf; rw [if_neg (by omega)]
      rw [e7] at h
      unfold saveL at h
      cases hp : (planL ss (secAt l i)).2 with
      | false => simp [hp] at h
      | true =>
        simp [hp] at h
        subst h
        have h1 := save_load q2 hp [] 7 (by omega)
        rw [crashed_none, if_pos (.inl rfl), q3] at h1
        refine ⟨rfl, ?_, ?_⟩
        · have := okD_save (okPl_plan hp) (d := ⟨ss, []⟩) (m := 0) 
          show (applyW _ _ _ (applyW _ _ _ ss)).length = 10
          rw [applyW_len, applyW_len]
          exact q2
        · rw [h1]
          rfl
theorem okD_good {d : GDisk} {m : Nat} (h : okD d m) (hw : d.Waiting = []) : goodDisk d = true := by
  obtain ⟨h1, h2, _, _⟩ := h
  simp only [goodDisk, Bool.and_eq_true, decide_eq_true_eq, List.all_eq_true, hw]
  exact ⟨⟨⟨h1, by simp⟩, h2⟩, by simp⟩
/-- What a log of saves leaves: the newest text that was saved whole. -/
theorem play_last {l : List ByteArray} {done : Int} {kept : List Bool} {d : GDisk} (h : rPlaySaves l done kept = (d, true)) : 1 ≤ l.length ∧ l.length ≤ 40 ∧ goodDisk d = true ∧ d.Waiting = [] ∧ loadR d.Sectors = if done = 7 ∨ (done = 6 ∧ kp kept 0 = true) then (secAt l (l.length - 1), (l.length : Int), true) else (lastT l (l.length - 1), (l.length : Int) - 1, true) := by
  unfold rPlaySaves at h
  split at h
  · rename_i hok
    obtain ⟨⟨n1, n2⟩, n3, n4⟩ := hok
    split at h
    · rename_i d1 hd1
      cases h
      have hD := okD_crash kept (playI_ok l done.toNat (by omega) l.length d1 hd1)
      refine ⟨n1, n2, okD_good hD rfl, rfl, ?_⟩
      obtain ⟨i, hi⟩ : ∃ i, l.length = i + 1 := ⟨l.length - 1, by omega⟩
      rw [hi] at hd1
      rw [playI] at hd1
      cases h0 : playI l done.toNat i with
      | none => rw [h0] at hd1; cases hd1
      | some d0 =>
        rw [h0] at hd1
        obtain ⟨q1, q2, q3⟩ := play_load l done.toNat i d0 (by omega) h0
        obtain ⟨ss, ws⟩ := d0
        simp only at q1 q2 q3 hd1
        subst q1
        have e7 : stepsOf l.length done.toNat i = done.toNat := by unfold stepsOf; rw [if_pos (by omega)]
        rw [e7] at hd1
        unfold saveL at hd1
        cases hp : (planL ss (secAt l i)).2 with
        | false => simp [hp] at hd1
        | true =>
          simp [hp] at hd1
          subst hd1
          rw [save_load q2 hp kept done.toNat (by omega), q3]
          have ei : l.length - 1 = i := by omega
          rw [ei, hi]
          by_cases c : done = 7 ∨ (done = 6 ∧ kp kept 0 = true)
          · rw [if_pos c, if_pos (c.elim (fun h => .inl (by omega)) (fun h => .inr ⟨by omega, h.2⟩))]
            rfl
          · rw [if_neg c, if_neg (fun c' => c (c'.elim (fun h => .inl (by omega)) (fun h => .inr ⟨by omega, h.2⟩)))]
            have : ((i + 1 : Nat) : Int) - 1 = (i : Int) := by omega
            rw [this]
    · cases h
  · cases h
end Go.V
