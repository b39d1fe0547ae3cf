/- What functions of the seat's program do, each proved of its code, under the bounds that its theorem names. -/
import Derived.Test.YtildjkidohpmbaaTaf
set_option linter.all false
namespace Go.V
open Go.Proofs
set_option maxHeartbeats 1000000
set_option maxRecDepth 10000
set_option linter.unusedSimpArgs false
set_option linter.unusedVariables false
def diskD (d : GDisk) : Prop := d.Sectors.length = 10 ∧ (∀ s ∈ d.Sectors, s.size ≤ 22) ∧ d.Waiting.length ≤ 41 ∧ ∀ w ∈ d.Waiting, w.Data.size ≤ 20
theorem wt_le_StringS {l : List ByteArray} {n m : Nat} (hl : l.length ≤ n) (hs : ∀ s ∈ l, s.size ≤ m) : wt_StringS l ≤ n * (m + 1) := by
  have h : ∀ l : List ByteArray, (∀ s ∈ l, s.size ≤ m) → wt_StringS l ≤ l.length * (m + 1) := by
    intro l
    induction l with
    | nil => intro _; simp [wt_StringS, wtR]
    | cons x l ih =>
      intro h
      have h1 := ih (fun s hs => h s (List.mem_cons_of_mem _ hs))
      have h2 := h x List.mem_cons_self
      simp only [wt_StringS, wtR, List.length_cons, List.map_cons, List.sum_cons] at h1 ⊢
      rw [Nat.add_mul]
      omega
  exact Nat.le_trans (h l hs) (Nat.mul_le_mul_right _ hl)
theorem wt_le_WriteS {l : List GWrite} {n m : Nat} (hl : l.length ≤ n) (hs : ∀ s ∈ l, s.Data.size ≤ m) : wt_WriteS l ≤ n * (m + 1) := by
  have h : ∀ l : List GWrite, (∀ s ∈ l, s.Data.size ≤ m) → wt_WriteS l ≤ l.length * (m + 1) := by
    intro l
    induction l with
    | nil => intro _; simp [wt_WriteS, wtR]
    | cons x l ih =>
      intro h
      have h1 := ih (fun s hs => h s (List.mem_cons_of_mem _ hs))
      have h2 := h x List.mem_cons_self
      simp only [wt_WriteS, wtR, List.length_cons, List.map_cons, List.sum_cons, GWrite.wt] at h1 ⊢
      rw [Nat.add_mul]
      omega
  exact Nat.le_trans (h l hs) (Nat.mul_le_mul_right _ hl)
theorem diskD_wt {d : GDisk} (h : diskD d) : d.wt ≤ 1048576 := by
  obtain ⟨h1, h2, h3, h4⟩ := h
  have a := wt_le_StringS (n := 10) (m := 22) (by omega) h2
  have b := wt_le_WriteS (n := 41) (m := 20) h3 h4
  unfold GDisk.wt
  omega
theorem good_diskD {d : GDisk} (h : goodDisk d = true) : diskD d ∧ d.Waiting.length ≤ 40 := by
  simp only [goodDisk, Bool.and_eq_true, decide_eq_true_eq, List.all_eq_true] at h
  obtain ⟨⟨⟨h1, h2⟩, h3⟩, h4⟩ := h
  refine ⟨⟨h1, fun s hs => ?_, by omega, fun w hw => ?_⟩, h2⟩
  · have := h3 s hs
    omega
  · have := h4 w hw
    simp only [okWrite, Bool.and_eq_true, decide_eq_true_eq] at this
    exact this.2
theorem write_good {d : GDisk} {i : Int} {t : ByteArray} (h : (rWriteTo d i t).2 = true) : goodDisk (rWriteTo d i t).1 = true ∧ goodDisk d = true ∧ (0 ≤ i ∧ i ≤ 9) ∧ t.size ≤ 20 ∧ (rWriteTo d i t).1 = ⟨d.Sectors, d.Waiting ++ [⟨i, t⟩]⟩ := by
  unfold rWriteTo at h ⊢
  split at h
  · rename_i hc
    obtain ⟨h1, h2, h3⟩ := hc
    rw [if_pos ⟨h1, h2, h3⟩]
    have h2' := h2
    simp only [okWrite, Bool.and_eq_true, decide_eq_true_eq] at h2'
    refine ⟨?_, h1, h2'.1, h2'.2, rfl⟩
    simp only [goodDisk, Bool.and_eq_true, decide_eq_true_eq, List.all_eq_true] at h1 ⊢
    obtain ⟨⟨⟨a1, a2⟩, a3⟩, a4⟩ := h1
    refine ⟨⟨⟨a1, by simp only [List.length_append, List.length_cons, List.length_nil]; omega⟩, a3⟩, fun w hw => ?_⟩
    rcases List.mem_append.1 hw with hw | hw
    · exact a4 w hw
    · rw [List.mem_singleton.1 hw]; exact h2
  · cases h
theorem good_disk0 : goodDisk disk0 = true := okD_good (okD_disk0 0) rfl
def datasD : List ByteArray := [⟨#[]⟩, ⟨#[100, 97, 116, 97]⟩, ⟨#[0, 1, 2, 3]⟩]
def longD : List ByteArray := [⟨#[]⟩, ⟨#[120]⟩, ⟨#[109, 111, 114, 101, 32, 116, 104, 97, 110, 32, 116, 119, 101, 110, 116, 121, 32, 98, 121, 116, 101, 115]⟩]
theorem ok_disk (code : List Int) (hc : codeOK code) (a s : Int) (ha : 0 ≤ a) (ha2 : a ≤ 3997000) : ∃ (d : GDisk) (a' s' : Int), diskD d ∧ (a ≤ a' ∧ a' ≤ a + 450) ∧ CallOK Try.prog 61 [.bp (curP code a s)] (.agg d.co) [.bp (curP code a' s')] := by
  obtain ⟨l, dn, kk, a1, s1, ⟨hl, hl1, hdn, hkk⟩, ha1, h1⟩ := ok_saves code hc a s ha (by omega)
  have hwl : wt_StringS l ≤ 1048576 := Nat.le_trans (wt_le_StringS hl.1 hl.2) (by decide)
  have hwk : wt_BoolS kk ≤ 1048576 := by unfold wt_BoolS; omega
  have h2 := law_sPlaySaves l dn kk hwl hwk
  obtain ⟨d0, hd0, hd0e⟩ : ∃ d0, goodDisk d0 = true ∧ d0 = if (rPlaySaves l dn kk).2 = true then (rPlaySaves l dn kk).1 else disk0 := by
    refine ⟨_, ?_, rfl⟩
    split
    · rename_i hp
      exact (play_last (d := (rPlaySaves l dn kk).1) (by rw [← hp])).2.2.1
    · exact good_disk0
  obtain ⟨n, a2, s2, hn, ha2', h3⟩ := ok_pick code hc 4 (by decide) (by decide) a1 s1 (by omega) (by omega)
  obtain ⟨N, rfl⟩ : ∃ N : Nat, n = (N : Int) := ⟨n.toNat, by omega⟩
  obtain ⟨run, run0, runI, runR⟩ := exists_run (α := GDisk × Int × Int) N (d0, a2, s2) (fun i x => goodDisk x.1 = true ∧ a2 ≤ x.2.1 ∧ x.2.1 ≤ a2 + 3 * i)
    (fun x y => ∃ (i b t : Int) (w : ByteArray) (b2 t2 : Int), CallOK Try.prog 63 [.bp (curP code x.2.1 x.2.2), .c (pi 10)] (.c (pi i)) [.bp (curP code b t), .c (pi 10)] ∧ CallOK Try.prog 69 [.bp (curP code b t), .c (rd 0 3 (datasD.map ps))] (.c (ps w)) [.bp (curP code b2 t2), .c (rd 0 3 (datasD.map ps))] ∧
      (if (rWriteTo x.1 i w).2 = true then ∃ z, CallOK Try.prog 60 [.bp (curP code b2 t2), .c (pi 2)] (.c (pb z)) [.bp (curP code y.2.1 y.2.2), .c (pi 2)] ∧ y.1 = if z = true then (rWriteTo x.1 i w).1 else x.1 else y = (x.1, b2, t2)))
    ⟨hd0, by simp, by simp⟩ (by
      rintro i ⟨d, b, t⟩ hi ⟨g1, g3, g4⟩
      simp only at g1 g3 g4
      obtain ⟨j, b1, t1, hj, hb1, c1⟩ := ok_pick code hc 10 (by decide) (by decide) b t (by omega) (by omega)
      obtain ⟨w, b2, t2, hw, hb2, c2⟩ := ok_of 0 code hc datasD (by decide) (by decide) b1 t1 (by omega) (by omega)
      by_cases c : (rWriteTo d j w).2 = true
      · obtain ⟨z, b3, t3, hb3, c3⟩ := ok_one code hc 2 (by decide) (by decide) b2 t2 (by omega) (by omega)
        refine ⟨(if z = true then (rWriteTo d j w).1 else d, b3, t3), ⟨j, b1, t1, w, b2, t2, c1, c2, ?_⟩, ?_, by simp only; omega, by simp only; omega⟩
        · rw [if_pos c]
          exact ⟨z, c3, rfl⟩
        · simp only
          split
          · exact (write_good c).1
          · exact g1
      · refine ⟨(d, b2, t2), ⟨j, b1, t1, w, b2, t2, c1, c2, ?_⟩, g1, by simp only; omega, by simp only; omega⟩
        rw [if_neg c])
  obtain ⟨e1, e3, e4⟩ := runI N (Nat.le_refl _)
  obtain ⟨m, a3, s3, hm', ha3, h4⟩ := ok_pick code hc 30 (by decide) (by decide) (run N).2.1 (run N).2.2 (by omega) (by omega)
  obtain ⟨D, a4, s4, hD, ha4, h5⟩ : ∃ (D : GDisk) (a4 s4 : Int), diskD D ∧ (a3 ≤ a4 ∧ a4 ≤ a3 + 3) ∧ (
      (m = 0 ∧ ∃ (i : Int) (b t : Int) (w : ByteArray), (0 ≤ i ∧ i ≤ 9) ∧ D = ⟨(run N).1.Sectors.set i.toNat w, (run N).1.Waiting⟩ ∧ CallOK Try.prog 63 [.bp (curP code a3 s3), .c (pi 10)] (.c (pi i)) [.bp (curP code b t), .c (pi 10)] ∧ CallOK Try.prog 69 [.bp (curP code b t), .c (rd 0 3 (longD.map ps))] (.c (ps w)) [.bp (curP code a4 s4), .c (rd 0 3 (longD.map ps))]) ∨
      (m = 1 ∧ ∃ (i : Int), (0 ≤ i ∧ i ≤ 11) ∧ D = ⟨(run N).1.Sectors, (run N).1.Waiting ++ [⟨i - 1, ByteArray.empty⟩]⟩ ∧ CallOK Try.prog 63 [.bp (curP code a3 s3), .c (pi 12)] (.c (pi i)) [.bp (curP code a4 s4), .c (pi 12)]) ∨
      (m = 2 ∧ ∃ (i x : Int) (y : Nat) (b t b2 t2 : Int), (0 ≤ i ∧ i ≤ 1) ∧ D = ⟨(run N).1.Sectors.set (8 + i).toNat (sealS (strOf [tb x 1, tb x 0, tb y 0])), (run N).1.Waiting⟩ ∧ CallOK Try.prog 63 [.bp (curP code a3 s3), .c (pi 2)] (.c (pi i)) [.bp (curP code b t), .c (pi 2)] ∧ CallOK Try.prog 101 [.bp (curP code b t), .c (rd 0 3 ([998, 999, 1000].map pi))] (.c (pi x)) [.bp (curP code b2 t2), .c (rd 0 3 ([998, 999, 1000].map pi))] ∧ CallOK Try.prog 101 [.bp (curP code b2 t2), .c (rd 0 3 ([0, 72, 73].map pi))] (.c (pi y)) [.bp (curP code a4 s4), .c (rd 0 3 ([0, 72, 73].map pi))]) ∨
      (m ≠ 0 ∧ m ≠ 1 ∧ m ≠ 2 ∧ D = (run N).1 ∧ a4 = a3 ∧ s4 = s3)) := by
    obtain ⟨⟨g1, g2, g3, g4⟩, g5⟩ := good_diskD e1
    by_cases m0 : m = 0
    · obtain ⟨i, b, t, hi, hb, c1⟩ := ok_pick code hc 10 (by decide) (by decide) a3 s3 (by omega) (by omega)
      obtain ⟨w, b2, t2, hw, hb2, c2⟩ := ok_of 0 code hc longD (by decide) (by decide) b t (by omega) (by omega)
      refine ⟨⟨(run N).1.Sectors.set i.toNat w, (run N).1.Waiting⟩, b2, t2, ⟨by rw [List.length_set]; exact g1, fun x hx => ?_, g3, g4⟩, by omega, .inl ⟨m0, i, b, t, w, by omega, rfl, c1, c2⟩⟩
      rcases List.mem_or_eq_of_mem_set hx with h | h
      · exact g2 x h
      · subst h
        simp only [longD, List.mem_cons, List.not_mem_nil, or_false] at hw
        rcases hw with rfl | rfl | rfl <;> decide
    · by_cases m1 : m = 1
      · obtain ⟨i, b, t, hi, hb, c1⟩ := ok_pick code hc 12 (by decide) (by decide) a3 s3 (by omega) (by omega)
        refine ⟨⟨(run N).1.Sectors, (run N).1.Waiting ++ [⟨i - 1, ByteArray.empty⟩]⟩, b, t, ⟨g1, g2, by simp only [List.length_append, List.length_cons, List.length_nil]; omega, fun x hx => ?_⟩, by omega, .inr (.inl ⟨m1, i, by omega, rfl, c1⟩)⟩
        rcases List.mem_append.1 hx with h | h
        · exact g4 x h
        · rw [List.mem_singleton.1 h]; exact Nat.zero_le _
      · by_cases m2 : m = 2
        · obtain ⟨i, b, t, hi, hb, c1⟩ := ok_pick code hc 2 (by decide) (by decide) a3 s3 (by omega) (by omega)
          obtain ⟨x, b2, t2, hx, hb2, c2⟩ := ok_among 0 code hc [998, 999, 1000] (by decide) (by decide) b t (by omega) (by omega)
          obtain ⟨y, b3, t3, hy, hb3, c3⟩ := ok_among 0 code hc [0, 72, 73] (by decide) (by decide) b2 t2 (by omega) (by omega)
          obtain ⟨Y, rfl⟩ : ∃ Y : Nat, y = (Y : Int) := ⟨y.toNat, by simp only [List.mem_cons, List.not_mem_nil, or_false] at hy; omega⟩
          refine ⟨⟨(run N).1.Sectors.set (8 + i).toNat (sealS (strOf [tb x 1, tb x 0, tb Y 0])), (run N).1.Waiting⟩, b3, t3, ⟨by rw [List.length_set]; exact g1, fun z hz => ?_, g3, g4⟩, by omega, .inr (.inr (.inl ⟨m2, i, x, Y, b, t, b2, t2, by omega, rfl, c1, c2, c3⟩))⟩
          rcases List.mem_or_eq_of_mem_set hz with h | h
          · exact g2 z h
          · subst h
            rw [sealS_size, strOf_size]
            simp
        · exact ⟨_, a3, s3, ⟨g1, g2, g3, g4⟩, by omega, .inr (.inr (.inr ⟨m0, m1, m2, rfl, rfl, rfl⟩))⟩
  refine ⟨D, a4, s4, hD, by omega, ?_⟩
  refine okE (fn := Try.f61) h0 Try.func61 (by kernel_rfl) rfl Try.ntmps61 Try.results61 (by simp) ?_
  unfold curP at h1 h3 runR h4 ⊢
  refine ewrN_cut (M := [(63, [1]), (69, [1]), (60, [1]), (45, [1])]) h0 4 [0, 2, 6] [.op 0 0 0, .op 2 7 0] ⟨slOf 88 [(0, .ptr ⟨.arg 0 0, []⟩ 0), (2, .ptr ⟨.op 0 0 0, []⟩ 0), (6, .ptr ⟨.op 2 7 0, []⟩ 0)], ofL [(.arg 0 0, .sl 0 77 1 [rd 1 code.length (code.map pu), pi a1, .raw (.int .u64 s1)]), (.op 0 0 0, .sl 0 29 1 [.sl 0 nilE 0 [], .sl 0 nilE 0 []]), (.op 2 7 0, .sl 0 29 1 d0.co)]⟩ ?_ ?_
  · refine ewr_sound (M := [(63, [1]), (69, [1]), (60, [1])]) h0 ?_
    simp [Code.rest]
    refine Inv_intro h3 ?_
    simp
    refine loopS [0, 2, 6, 8] [.arg 0 0, .op 0 0 0, .op 2 7 0] (fun q st => ∃ (i : Nat), i + q = N ∧ st = ⟨slOf 88 [(0, .ptr ⟨.arg 0 0, []⟩ 0), (2, .ptr ⟨.op 0 0 0, []⟩ 0), (6, .ptr ⟨.op 2 7 0, []⟩ 0), (8, .t (pi q))], ofL [(.arg 0 0, .sl 0 77 1 [rd 1 code.length (code.map pu), pi (run i).2.1, .raw (.int .u64 (run i).2.2)]), (.op 0 0 0, .sl 0 29 1 [.sl 0 nilE 0 [], .sl 0 nilE 0 []]), (.op 2 7 0, .sl 0 29 1 (run i).1.co)]⟩) N ?_ ?_
    · rintro Inv hI
      simp
      subst hI
      refine ⟨0, by omega, ?_⟩
      rw [run0]
      simp
    · rintro Inv hI q st ⟨i, hi, rfl⟩
      refine ewr_sound (M := [(63, [1]), (69, [1]), (60, [1])]) h0 ?_
      by_cases c : 0 < q
      · obtain ⟨f1, f2, f3⟩ := runI i (by omega)
        obtain ⟨j, b, t, w, b2, t2, k1, k2, k3⟩ := runR i (by omega)
        generalize run i = x at *
        generalize hy : run (i + 1) = y at *
        obtain ⟨d, b0, t0⟩ := x
        obtain ⟨d', b', t'⟩ := y
        simp only at f1 f2 f3 k1 k2 k3
        have c' : (0 : Int) < (q : Int) := by omega
        have w2 : IntKind.i64.wrap ((q : Int) - 1) = ((q - 1 : Nat) : Int) := by rw [wrap64 (by omega) (by omega)]; omega
        obtain ⟨hgd, hgw⟩ := good_diskD f1
        simp only [datasD, List.map_cons, List.map_nil] at k2
        simp [c, c']
        refine drawK [1, 3] (tabEnv [(63, [1]), (69, [1])] _) [⟨[.op 2 7 0], allD 88, true⟩, ⟨[], allD 88, true⟩, ⟨[.arg 0 0], [34, 36, 38, 39, 40, 33, 41, 42, 9, 10], false⟩, ⟨[], allD 88, true⟩, ⟨[], allD 88, false⟩, ⟨[.arg 0 0, .op 8 4 0], [34, 36, 38, 39, 40, 33, 41, 42, 9, 10], false⟩, ⟨[.op 2 7 0], allD 88, true⟩, ⟨[.op 8 6 0, .op 8 6 1], allD 88, true⟩, ⟨[.op 8 6 0, .op 8 6 1], allD 88, true⟩, ⟨[], allD 88, true⟩, ⟨[], allD 88, false⟩, ⟨[.op 8 6 0, .op 8 6 1, .op 8 10 0], [34, 36, 38, 39, 40, 33, 41, 42, 9, 10], false⟩, ⟨[], allD 88, true⟩] h0 hm (tabEnv_ok (tab_cons k1 (tab_cons k2 (tab_cons (ok_sWriteTo 0 d j w (by have := hgd.1; omega) (by omega)) tab_nil)))) (by kernel_rfl) (by kernel_rfl) ?_
        simp
        refine gT (fun e => ?_) (fun e => ?_)
        · rw [if_pos e] at k3
          obtain ⟨z, k4, k5⟩ := k3
          simp [e]
          refine Inv_intro k4 ?_
          cases z with
          | true =>
            simp at k5
            subst k5
            simp [w2]
            subst hI
            refine Less_mk (q - 1) (by omega) ⟨i + 1, by omega, ?_⟩
            rw [hy]
            simp
          | false =>
            simp at k5
            subst k5
            simp [w2]
            subst hI
            refine Less_mk (q - 1) (by omega) ⟨i + 1, by omega, ?_⟩
            rw [hy]
            simp
        · rw [if_neg (by simpa using e)] at k3
          cases k3
          simp [e, w2]
          subst hI
          refine Less_mk (q - 1) (by omega) ⟨i + 1, by omega, ?_⟩
          rw [hy]
          simp
      · have hm0 : q = 0 := by omega
        have hiN : i = N := by omega
        subst hm0
        subst hiN
        simp
        refine Inv_intro h4 ?_
        rcases h5 with ⟨rfl, j, b, t, w, hj, rfl, c1, c2⟩ | ⟨rfl, j, hj, rfl, c1⟩ | ⟨rfl, j, x_1, y, b, t, b2, t2, hj, rfl, c1, c2, c3⟩ | ⟨m0, m1, m2, rfl, rfl, rfl⟩
        · obtain ⟨⟨g1, g2, g3, g4⟩, g5⟩ := good_diskD e1
          unfold curP at c1 c2
          simp only [longD, List.map_cons, List.map_nil] at c2
          generalize hx : run i = x at *
          obtain ⟨⟨S, W⟩, b0, t0⟩ := x
          simp only at g1 g5
          have hn : j.toNat < S.length := by omega
          have hn2 : j < S.length := by omega
          have hn1 : j.toNat + 1 ≤ S.length := by omega
          have hs := map_set ps S j.toNat w hn
          have hln : S.length ≤ min j.toNat S.length + (S.length - (j.toNat + 1) + 1) := by omega
          have htk : List.take S.length (List.take j.toNat (List.map ps S) ++ ps w :: List.drop (j.toNat + 1) (List.map ps S)) = (S.set j.toNat w).map ps := by
            rw [hs]
            exact List.take_of_length_le (by simp)
          simp
          refine drawK [2, 4] (tabEnv [(63, [1]), (69, [1])] _) [⟨[.op 2 7 0], allD 88, true⟩, ⟨[.op 2 7 0], allD 88, true⟩, ⟨[], allD 88, true⟩, ⟨[.arg 0 0], [53, 54, 56, 58, 59, 60], false⟩, ⟨[], allD 88, true⟩, ⟨[], allD 88, false⟩, ⟨[.arg 0 0, .op 13 5 0], [53, 54, 56, 58, 59, 60], false⟩, ⟨[.op 2 7 0], allD 88, true⟩, ⟨[.op 2 7 0], [53, 54, 56, 58, 59, 60], false⟩] h0 hm (tabEnv_ok (tab_cons c1 (tab_cons c2 tab_nil))) (by kernel_rfl) (by kernel_rfl) ?_
          simp [hj, hn, hn1, hn2, hln, htk]
          exact .inr (nleL_of_eq (List.take_of_length_le (by simp)))
        · obtain ⟨⟨g1, g2, g3, g4⟩, g5⟩ := good_diskD e1
          generalize hx : run i = x at *
          obtain ⟨⟨S, W⟩, b0, t0⟩ := x
          simp only at g1 g5
          simp
          unfold curP at c1
          have w3 : IntKind.i64.wrap (j - 1) = j - 1 := wrap64 (by omega) (by omega)
          refine drawK [2] (tabEnv [(63, [1])] _) [⟨[.op 2 7 0], allD 88, true⟩, ⟨[.op 2 7 0], allD 88, true⟩, ⟨[], allD 88, true⟩, ⟨[.arg 0 0], [63, 64, 66, 67, 68, 69, 70, 71], false⟩, ⟨[], allD 88, true⟩, ⟨[], allD 88, true⟩, ⟨[], allD 88, false⟩, ⟨[.op 2 7 0, .op 15 6 0], [63, 64, 66, 67, 68, 69, 70, 71], false⟩, ⟨[.op 2 7 0], allD 88, true⟩, ⟨[.op 2 7 0, .op 15 7 0], [63, 64, 66, 67, 68, 69, 70, 71], false⟩] h0 hm (tabEnv_ok (tab_cons c1 tab_nil)) (by kernel_rfl) (by kernel_rfl) ?_
          have hW1 : (W.length + 1) * 24 ≤ 140737488355328 := by omega
          have hW2 : W.length ≤ 9223372036854775806 := by omega
          simp [w3, hW1, hW2]
        · obtain ⟨⟨g1, g2, g3, g4⟩, g5⟩ := good_diskD e1
          unfold curP at c1 c2 c3
          simp only [List.map_cons, List.map_nil] at c2 c3
          generalize hx : run i = x at *
          obtain ⟨⟨S, W⟩, b0, t0⟩ := x
          simp only at g1 g5
          have w3 : IntKind.i64.wrap (8 + j) = 8 + j := wrap64 (by omega) (by omega)
          have hn : (8 + j).toNat < S.length := by omega
          have hn0 : 0 ≤ 8 + j := by omega
          have hn2 : 8 + j < S.length := by omega
          have hn1 : (8 + j).toNat + 1 ≤ S.length := by omega
          generalize hT : sealS (strOf [tb x_1 1, tb x_1 0, tb (y : Int) 0]) = T at *
          have hst := ok_steller x_1 y
          rw [hT] at hst
          have hs := map_set ps S (8 + j).toNat T hn
          have hln : S.length ≤ min (8 + j).toNat S.length + (S.length - ((8 + j).toNat + 1) + 1) := by omega
          have htk : List.take S.length (List.take (8 + j).toNat (List.map ps S) ++ ps T :: List.drop ((8 + j).toNat + 1) (List.map ps S)) = (S.set (8 + j).toNat T).map ps := by
            rw [hs]
            exact List.take_of_length_le (by simp)
          simp
          refine drawK [2, 5, 8] (tabEnv [(63, [1]), (101, [1])] _) [⟨[.op 2 7 0], allD 88, true⟩, ⟨[.op 2 7 0], allD 88, true⟩, ⟨[], allD 88, true⟩, ⟨[.arg 0 0], [74, 75, 77, 78, 80, 81, 83, 84, 85, 86], false⟩, ⟨[], allD 88, true⟩, ⟨[], allD 88, true⟩, ⟨[], allD 88, false⟩, ⟨[.arg 0 0, .op 17 6 0], [74, 75, 77, 78, 80, 81, 83, 84, 85, 86], false⟩, ⟨[], allD 88, true⟩, ⟨[], allD 88, false⟩, ⟨[.arg 0 0, .op 17 9 0], [74, 75, 77, 78, 80, 81, 83, 84, 85, 86], false⟩, ⟨[], allD 88, false⟩, ⟨[.op 2 7 0], allD 88, true⟩, ⟨[.op 2 7 0], [74, 75, 77, 78, 80, 81, 83, 84, 85, 86], false⟩] h0 hm (tabEnv_ok (tab_cons c1 (tab_cons c2 (tab_cons c3 (tab_cons hst tab_nil))))) (by kernel_rfl) (by kernel_rfl) ?_
          simp [hn0, hn, hn1, hn2, w3, tabCall, hln, htk]
          exact .inr (nleL_of_eq (List.take_of_length_le (by simp)))
        · simp [m0, m1, m2]
  · intro K hK
    simp
    refine Inv_intro h1 ?_
    simp
    refine Inv_intro h2 ?_
    generalize hR : rPlaySaves l dn kk = R at *
    obtain ⟨R1, R2⟩ := R
    cases R2 with
    | true =>
      simp at hd0e
      subst hd0e
      simp
      refine hK _ ?_
      simp
    | false =>
      simp at hd0e
      subst hd0e
      simp
      refine Inv_intro ok_sNewDisk ?_
      simp
      refine hK _ ?_
      simp
theorem ok_DrawSealOf (code : List Int) (hc : codeOK code) : ∃ (p : ByteArray), p.size ≤ 100 ∧ CallOK Try.prog 26 [.c (rd 1 code.length (code.map pu))] (.c (ps p)) [.c (rd 1 code.length (code.map pu))] := by
  obtain ⟨p, a1, s1, hp, ha1, h1⟩ := ok_journalText code hc 0 0 (by decide) (by decide)
  refine ⟨p, hp, ?_⟩
  refine okS (fn := Try.f26) [(62, [1])] h0 Try.func26 (by kernel_rfl) rfl Try.ntmps26 Try.results26 (by simp) ?_
  unfold curP at h1
  simp
  refine Inv_intro h1 ?_
  simp
theorem ok_DrawWriteTo (code : List Int) (hc : codeOK code) : ∃ (d : GDisk) (i : Int) (w : ByteArray), (diskD d ∧ (-1 ≤ i ∧ i ≤ 10) ∧ w.size ≤ 22) ∧ CallOK Try.prog 20 [.c (rd 1 code.length (code.map pu))] (.tup [.agg d.co, .c (pi i), .c (ps w)]) [.c (rd 1 code.length (code.map pu))] := by
  obtain ⟨d, a1, s1, hd, ha1, h1⟩ := ok_disk code hc 0 0 (by decide) (by decide)
  obtain ⟨i, a2, s2, hi, ha2, h2⟩ := ok_pick code hc 12 (by decide) (by decide) a1 s1 (by omega) (by omega)
  obtain ⟨w, a3, s3, hw, ha3, h3⟩ := ok_of 0 code hc [⟨#[]⟩, ⟨#[100, 97, 116, 97]⟩, ⟨#[109, 111, 114, 101, 32, 116, 104, 97, 110, 32, 116, 119, 101, 110, 116, 121, 32, 98, 121, 116, 101, 115]⟩] (by decide) (by decide) a2 s2 (by omega) (by omega)
  have w3 : IntKind.i64.wrap (i - 1) = i - 1 := wrap64 (by omega) (by omega)
  have hz : w.size ≤ 22 := by
    simp only [List.mem_cons, List.not_mem_nil, or_false] at hw
    rcases hw with rfl | rfl | rfl <;> decide
  refine ⟨d, i - 1, w, ⟨hd, by omega, hz⟩, ?_⟩
  refine okS (fn := Try.f20) [(61, [1]), (63, [1]), (69, [1])] h0 Try.func20 (by kernel_rfl) rfl Try.ntmps20 Try.results20 (by simp) ?_
  unfold curP at h1 h2 h3
  simp
  refine Inv_intro h1 ?_
  simp
  refine Inv_intro h2 ?_
  simp
  refine Inv_intro h3 ?_
  simp [w3]
theorem ok_DrawSaveTo (code : List Int) (hc : codeOK code) : ∃ (d : GDisk) (t : ByteArray) (n : Int), (diskD d ∧ t.size ≤ 100 ∧ -1 ≤ n ∧ n ≤ 8) ∧ CallOK Try.prog 12 [.c (rd 1 code.length (code.map pu))] (.tup [.agg d.co, .c (ps t), .c (pi n)]) [.c (rd 1 code.length (code.map pu))] := by
  obtain ⟨l, dn, kk, a1, s1, ⟨hl, hl1, hdn, hkk⟩, ha1, h1⟩ := ok_saves code hc 0 0 (by decide) (by decide)
  have hwl : wt_StringS l ≤ 1048576 := Nat.le_trans (wt_le_StringS hl.1 hl.2) (by decide)
  have hwk : wt_BoolS kk ≤ 1048576 := by unfold wt_BoolS; omega
  have h2 := law_sPlaySaves l dn kk hwl hwk
  obtain ⟨D, a2, s2, hD, ha2, h3⟩ : ∃ (D : GDisk) (a2 s2 : Int), diskD D ∧ (a1 ≤ a2 ∧ a2 ≤ a1 + 451) ∧ (
      ((rPlaySaves l dn kk).2 = false ∧ CallOK Try.prog 61 [.bp (curP code a1 s1)] (.agg D.co) [.bp (curP code a2 s2)]) ∨
      ((rPlaySaves l dn kk).2 = true ∧ ∃ (z : Bool) (b t : Int), CallOK Try.prog 60 [.bp (curP code a1 s1), .c (pi 4)] (.c (pb z)) [.bp (curP code b t), .c (pi 4)] ∧
        ((z = true ∧ CallOK Try.prog 61 [.bp (curP code b t)] (.agg D.co) [.bp (curP code a2 s2)]) ∨ (z = false ∧ D = (rPlaySaves l dn kk).1 ∧ a2 = b ∧ s2 = t)))) := by
    cases hp : (rPlaySaves l dn kk).2 with
    | false =>
      obtain ⟨d, a2, s2, hd, ha2, c1⟩ := ok_disk code hc a1 s1 (by omega) (by omega)
      exact ⟨d, a2, s2, hd, by omega, .inl ⟨rfl, c1⟩⟩
    | true =>
      obtain ⟨z, b, t, hb, c1⟩ := ok_one code hc 4 (by decide) (by decide) a1 s1 (by omega) (by omega)
      cases z with
      | true =>
        obtain ⟨d, a2, s2, hd, ha2, c2⟩ := ok_disk code hc b t (by omega) (by omega)
        exact ⟨d, a2, s2, hd, by omega, .inr ⟨rfl, true, b, t, c1, .inl ⟨rfl, c2⟩⟩⟩
      | false =>
        exact ⟨_, b, t, (good_diskD (play_last (d := (rPlaySaves l dn kk).1) (by rw [← hp])).2.2.1).1, by omega, .inr ⟨rfl, false, b, t, c1, .inr ⟨rfl, rfl, rfl, rfl⟩⟩⟩
  obtain ⟨T, a3, s3, hT, ha3, h4⟩ := ok_journalText code hc a2 s2 (by omega) (by omega)
  obtain ⟨n, a4, s4, hn, ha4, h5⟩ := ok_pick code hc 10 (by decide) (by decide) a3 s3 (by omega) (by omega)
  have w3 : IntKind.i64.wrap (n - 1) = n - 1 := wrap64 (by omega) (by omega)
  refine ⟨D, T, n - 1, ⟨hD, hT, by omega, by omega⟩, ?_⟩
  refine okE (fn := Try.f12) h0 Try.func12 (by kernel_rfl) rfl Try.ntmps12 Try.results12 (by simp) ?_
  unfold curP at h1 h3 h4 h5
  refine ewrN_cut (M := [(45, [1]), (60, [1]), (61, [1])]) h0 5 [2, 5, 9] [.op 0 0 0, .op 1 2 0, .op 3 7 0] ⟨slOf 41 [(2, .ptr ⟨.op 0 0 0, []⟩ 0), (5, .ptr ⟨.op 1 2 0, []⟩ 0), (9, .ptr ⟨.op 3 7 0, []⟩ 0)], ofL [(.op 0 0 0, .sl 0 29 1 [.sl 0 nilE 0 [], .sl 0 nilE 0 []]), (.op 1 2 0, .sl 0 77 1 [rd 1 code.length (code.map pu), pi a2, .raw (.int .u64 s2)]), (.op 3 7 0, .sl 0 29 1 D.co)]⟩ ?_ ?_
  · refine ewr_sound (M := []) h0 ?_
    simp [Code.rest]
    refine drawK [1, 3] (tabEnv [(63, [1]), (62, [1])] _) [⟨[.op 3 7 0], allD 41, true⟩, ⟨[], allD 41, true⟩, ⟨[.op 1 2 0], [35, 37, 39, 40, 3, 4], false⟩, ⟨[], allD 41, true⟩, ⟨[.op 1 2 0], [35, 37, 39, 40, 3, 4], false⟩, ⟨[], allD 41, true⟩, ⟨[.op 3 7 0, .op 0 0 0], [35, 37, 39, 40, 3, 4], false⟩, ⟨[], allD 41, true⟩, ⟨[], allD 41, true⟩] h0 hm (tabEnv_ok (tab_cons h4 (tab_cons h5 tab_nil))) (by kernel_rfl) (by kernel_rfl) ?_
    simp [w3]
  · intro K hK
    simp
    refine Inv_intro h1 ?_
    simp
    refine Inv_intro h2 ?_
    generalize rPlaySaves l dn kk = R at *
    obtain ⟨R1, R2⟩ := R
    rcases h3 with ⟨e, c1⟩ | ⟨e, z, b, t, c1, ⟨rfl, c2⟩ | ⟨rfl, rfl, rfl, rfl⟩⟩
    · simp only at e
      subst e
      simp
      refine Inv_intro c1 ?_
      simp
      refine hK _ ?_
      simp
    · simp only at e
      subst e
      simp
      refine Inv_intro c1 ?_
      simp
      refine Inv_intro c2 ?_
      simp
      refine hK _ ?_
      simp
    · simp only at e
      subst e
      simp
      refine Inv_intro c1 ?_
      simp
      refine hK _ ?_
      simp
theorem ok_DrawCrashDisk (code : List Int) (hc : codeOK code) : ∃ (d : GDisk) (p : List Bool), (diskD d ∧ p.length ≤ 42) ∧ CallOK Try.prog 17 [.c (rd 1 code.length (code.map pu))] (.tup [.agg d.co, .c (.sl 0 4 p.length (p.map pb))]) [.c (rd 1 code.length (code.map pu))] := by
  obtain ⟨d, a1, s1, hd, ha1, h1⟩ := ok_disk code hc 0 0 (by decide) (by decide)
  have hd' := hd
  obtain ⟨q1, q2, q3, q4⟩ := hd'
  obtain ⟨run, run0, runI, runR⟩ := exists_run (α := List Bool × Int × Int) d.Waiting.length ([], a1, s1) (fun i x => x.1.length = i ∧ a1 ≤ x.2.1 ∧ x.2.1 ≤ a1 + i)
    (fun x y => ∃ w, y.1 = x.1 ++ [w] ∧ CallOK Try.prog 60 [.bp (curP code x.2.1 x.2.2), .c (pi 2)] (.c (pb w)) [.bp (curP code y.2.1 y.2.2), .c (pi 2)])
    ⟨rfl, by simp, by simp⟩ (by
      rintro i ⟨p, b, t⟩ hi ⟨g1, g3, g4⟩
      simp only at g1 g3 g4
      obtain ⟨w, b', t', hb', hcall⟩ := ok_one code hc 2 (by decide) (by decide) b t (by omega) (by omega)
      exact ⟨(p ++ [w], b', t'), ⟨w, rfl, hcall⟩, by simp [g1], by simp only; omega, by simp only; omega⟩)
  obtain ⟨e1, e3, e4⟩ := runI _ (Nat.le_refl _)
  obtain ⟨z, a2, s2, ha2, h2⟩ := ok_one code hc 12 (by decide) (by decide) (run d.Waiting.length).2.1 (run d.Waiting.length).2.2 (by omega) (by omega)
  refine ⟨d, if z = true then (run d.Waiting.length).1 ++ [true] else (run d.Waiting.length).1, ⟨hd, by split <;> (try rw [List.length_append]) <;> (try rw [List.length_singleton]) <;> omega⟩, ?_⟩
  refine okS (fn := Try.f17) [(61, [1]), (60, [1])] h0 Try.func17 (by kernel_rfl) rfl Try.ntmps17 Try.results17 (by simp) ?_
  unfold curP at h1 runR h2
  simp
  refine Inv_intro h1 ?_
  simp
  refine ewp_nil 6 (.op 6 4 0) 4 (by decide) rfl rfl rfl ?_
  refine loopS [2, 4, 5, 6, 14, 15] [.op 6 4 0, .op 0 0 0, .op 1 2 0, .op 2 2 0] (fun m st => ∃ (i : Nat), i + m = d.Waiting.length ∧ st = ⟨slOf 30 [(2, .ptr ⟨.op 0 0 0, []⟩ 0), (4, .ptr ⟨.op 1 2 0, []⟩ 0), (5, .ptr ⟨.op 2 2 0, []⟩ 0), (6, .ref ⟨.op 6 4 0, []⟩ 0 i), (14, .t (pi d.Waiting.length)), (15, .t (pi i))], ofL [(.op 6 4 0, .sl 0 4 i ((run i).1.map pb)), (.op 0 0 0, .sl 0 29 1 [.sl 0 nilE 0 [], .sl 0 nilE 0 []]), (.op 1 2 0, .sl 0 77 1 [rd 1 code.length (code.map pu), pi (run i).2.1, .raw (.int .u64 (run i).2.2)]), (.op 2 2 0, .sl 0 29 1 d.co)]⟩) d.Waiting.length ?_ ?_
  · rintro Inv hI
    simp
    subst hI
    exact ⟨0, by omega, by rw [run0]; rfl⟩
  · rintro Inv hI m st ⟨i, hi, rfl⟩
    refine ewr_sound (M := [(60, [1])]) h0 ?_
    by_cases c : 0 < m
    · obtain ⟨f1, _⟩ := runI i (by omega)
      obtain ⟨w, g1, hcall⟩ := runR i (by omega)
      have c' : i < d.Waiting.length := by omega
      have hb1 : (i + 1) * 1 ≤ 140737488355328 := by omega
      have hb2 : i ≤ 9223372036854775806 := by omega
      have hb3 : i ≤ 140737488355327 := by omega
      have hml : ((run i).1.map pb).length = i := by rw [List.length_map, f1]
      have hmt : List.take i ((run i).1.map pb) = (run i).1.map pb := List.take_of_length_le (by omega)
      simp [c']
      refine Inv_intro hcall ?_
      simp [f1, hb1, hb2, hb3, hml, hmt]
      subst hI
      refine Less_mk (m - 1) (by omega) ⟨i + 1, by omega, ?_⟩
      rw [g1, wrNext i (by omega)]
      simp
    · have hm0 : m = 0 := by omega
      have hiN : i = d.Waiting.length := by omega
      subst hm0
      subst hiN
      have hmt : List.take d.Waiting.length ((run d.Waiting.length).1.map pb) = (run d.Waiting.length).1.map pb := List.take_of_length_le (by rw [List.length_map]; omega)
      have hb1 : (d.Waiting.length + 1) * 1 ≤ 140737488355328 := by omega
      have hb2 : d.Waiting.length ≤ 9223372036854775806 := by omega
      have hb3 : d.Waiting.length ≤ 140737488355327 := by omega
      have hml : ((run d.Waiting.length).1.map pb).length = d.Waiting.length := by rw [List.length_map, e1]
      simp
      refine Inv_intro h2 ?_
      cases z with
      | true =>
        simp [e1, hmt, hb1, hb2, hb3, hml]
      | false =>
        simp [e1, hmt, hb1, hb2, hb3, hml]
def strJ (t w : ByteArray) (j : Nat) (m : Int) : ByteArray := if m = 0 then t.extract 0 j ++ w ++ t.extract j t.size else if m = 1 then t.extract 0 j ++ w ++ t.extract (j + 1) t.size else t.extract 0 j ++ t.extract (j + 1) t.size
theorem ok_spoilt (code : List Int) (hc : codeOK code) (t W : ByteArray) (ht : t.size ≤ 150) (hW : W.size = 3) (a s : Int) (ha : 0 ≤ a) (ha2 : a ≤ 3999900) : ∃ (p : ByteArray) (a' s' : Int), p.size ≤ 160 ∧ (a ≤ a' ∧ a' ≤ a + 10) ∧ CallOK Try.prog 72 [.bp (curP code a s), .c (ps t), .c (ps W)] (.c (ps p)) [.bp (curP code a' s'), .c (ps t), .c (ps W)] := by
  obtain ⟨n, a1, s1, hn, ha1, h1⟩ := ok_pick code hc 3 (by decide) (by decide) a s ha (by omega)
  obtain ⟨N, rfl⟩ : ∃ N : Nat, n = (N : Int) := ⟨n.toNat, by omega⟩
  obtain ⟨run, run0, runI, runR⟩ := exists_run (α := ByteArray × Int × Int) N (t, a1, s1) (fun i x => x.1.size ≤ 150 + i ∧ a1 ≤ x.2.1 ∧ x.2.1 ≤ a1 + 3 * i)
    (fun x y => if x.1.size = 0 then y = x else ∃ (J : Nat) (k m b t b2 t2 : Int), J < x.1.size ∧ (0 ≤ k ∧ k ≤ 2) ∧ (0 ≤ m ∧ m ≤ 2) ∧ CallOK Try.prog 63 [.bp (curP code x.2.1 x.2.2), .c (pi x.1.size)] (.c (pi J)) [.bp (curP code b t), .c (pi x.1.size)] ∧ CallOK Try.prog 63 [.bp (curP code b t), .c (pi 3)] (.c (pi k)) [.bp (curP code b2 t2), .c (pi 3)] ∧
      CallOK Try.prog 63 [.bp (curP code b2 t2), .c (pi 3)] (.c (pi m)) [.bp (curP code y.2.1 y.2.2), .c (pi 3)] ∧ y.1 = strJ x.1 (strOf [byteAt W k.toNat]) J m)
    ⟨by simp only; omega, by simp, by simp⟩ (by
      rintro i ⟨p, b, u⟩ hi ⟨g1, g3, g4⟩
      simp only at g1 g3 g4
      by_cases c : p.size = 0
      · refine ⟨(p, b, u), by rw [if_pos c], by simp only; omega, by simp only; omega, by simp only; omega⟩
      · obtain ⟨j, b1, u1, hj, hb1, c1⟩ := ok_pick code hc (p.size : Int) (by omega) (by omega) b u (by omega) (by omega)
        obtain ⟨J, rfl⟩ : ∃ J : Nat, j = (J : Int) := ⟨j.toNat, by omega⟩
        obtain ⟨k, b2, u2, hk, hb2, c2⟩ := ok_pick code hc 3 (by decide) (by decide) b1 u1 (by omega) (by omega)
        obtain ⟨m, b3, u3, hm', hb3, c3⟩ := ok_pick code hc 3 (by decide) (by decide) b2 u2 (by omega) (by omega)
        refine ⟨(strJ p (strOf [byteAt W k.toNat]) J m, b3, u3), ?_, ?_, by simp only; omega, by simp only; omega⟩
        · rw [if_neg c]
          exact ⟨J, k, m, b1, u1, b2, u2, by simp only; omega, by omega, by omega, c1, c2, c3, rfl⟩
        · simp only at c ⊢
          have hz : (strOf [byteAt W k.toNat]).size = 1 := by rw [strOf_size]; rfl
          simp only [strJ]
          split
          · simp only [ByteArray.size_append, ByteArray.size_extract, hz]; omega
          · split
            · simp only [ByteArray.size_append, ByteArray.size_extract, hz]; omega
            · simp only [ByteArray.size_append, ByteArray.size_extract]; omega)
  obtain ⟨e1, e3, e4⟩ := runI N (Nat.le_refl _)
  have hstop : ∀ i, i ≤ N → (run i).1.size = 0 → run N = run i := by
    intro i hi hz
    have : ∀ k, i + k ≤ N → run (i + k) = run i := by
      intro k
      induction k with
      | zero => intro _; rfl
      | succ k ih =>
        intro hk
        have h2 := ih (by omega)
        have h3 := runR (i + k) (by omega)
        rw [h2, if_pos hz] at h3
        exact h3
    have h4 := this (N - i) (by omega)
    rwa [show i + (N - i) = N by omega] at h4
  refine ⟨(run N).1, (run N).2.1, (run N).2.2, by omega, by omega, ?_⟩
  refine okS (fn := Try.f72) [(63, [1])] h0 Try.func72 (by kernel_rfl) rfl Try.ntmps72 Try.results72 (by simp) ?_
  unfold curP at h1 runR ⊢
  simp
  refine Inv_intro h1 ?_
  simp
  refine loopS [0, 1, 2, 7] [.arg 0 0] (fun q st => ∃ (i : Nat), i + q = N ∧ st = ⟨slOf 67 [(0, .ptr ⟨.arg 0 0, []⟩ 0), (1, .t (ps (run i).1)), (2, .t (ps W)), (7, .t (pi q))], ofL [(.arg 0 0, .sl 0 77 1 [rd 1 code.length (code.map pu), pi (run i).2.1, .raw (.int .u64 (run i).2.2)])]⟩) N ?_ ?_
  · rintro Inv hI
    simp
    subst hI
    exact ⟨0, by omega, by rw [run0]⟩
  · rintro Inv hI q st ⟨i, hi, rfl⟩
    refine ewr_sound (M := [(63, [1])]) h0 ?_
    by_cases c : 0 < q
    · by_cases cz : (run i).1.size = 0
      · have hs := hstop i (by omega) cz
        have c' : (0 : Int) < (q : Int) := by omega
        simp [c, c', cz, hs]
      · obtain ⟨f1, _⟩ := runI i (by omega)
        have hR := runR i (by omega)
        rw [if_neg cz] at hR
        obtain ⟨J, k, m, b, u, b2, u2, hJ, hk, hm', c1, c2, c3, g1⟩ := hR
        have c' : (0 : Int) < (q : Int) := by omega
        have cz' : 0 < (run i).1.size := by omega
        have w2 : IntKind.i64.wrap ((q : Int) - 1) = ((q - 1 : Nat) : Int) := by rw [wrap64 (by omega) (by omega)]; omega
        have hk3 : k < (W.size : Int) := by omega
        have hbo : bytesOf [PT.raw (.int .u8 (byteAt W k.toNat))] = some [byteAt W k.toNat] := bytesOf_pu [byteAt W k.toNat]
        simp [c, c', cz, cz']
        refine Inv_intro c1 ?_
        simp [hW]
        refine Inv_intro c2 ?_
        simp [hk, hk3, hbo]
        refine Inv_intro c3 ?_
        have hzz : (strOf [byteAt W k.toNat]).size = 1 := by rw [strOf_size]; rfl
        generalize strOf [byteAt W k.toNat] = z at *
        generalize hT : (run i).1 = T at *
        have j0 : 0 ≤ (J : Int) := by omega
        have j1 : (J : Int) ≤ T.size := by omega
        have j2 : 0 ≤ (J : Int) + 1 := by omega
        have j3 : (J : Int) + 1 ≤ T.size := by omega
        have w3 : IntKind.i64.wrap ((J : Int) + 1) = (J : Int) + 1 := wrap64 (by omega) (by omega)
        have j4 : ((J : Int) + 1).toNat = J + 1 := by omega
        have z1 : (T.extract 0 J).size + z.size ≤ 9223372036854775807 := by rw [ByteArray.size_extract]; omega
        have z2 : (T.extract 0 J ++ z).size + (T.extract J T.size).size ≤ 9223372036854775807 := by rw [ByteArray.size_append, ByteArray.size_extract, ByteArray.size_extract]; omega
        have z3 : (T.extract 0 J ++ z).size + (T.extract (J + 1) T.size).size ≤ 9223372036854775807 := by rw [ByteArray.size_append, ByteArray.size_extract, ByteArray.size_extract]; omega
        have z4 : (T.extract 0 J).size + (T.extract (J + 1) T.size).size ≤ 9223372036854775807 := by rw [ByteArray.size_extract, ByteArray.size_extract]; omega
        have y1 := z1
        have y2 := z2
        have y3 := z3
        have y4 := z4
        simp at y1 y2 y3 y4
        obtain rfl | rfl | rfl : m = 0 ∨ m = 1 ∨ m = 2 := by omega
        · simp
          refine drawP (tabEnv [] []) [⟨[], allD 67, true⟩, ⟨[], allD 67, true⟩, ⟨[], allD 67, true⟩, ⟨[], allD 67, true⟩, ⟨[], allD 67, true⟩, ⟨[], allD 67, true⟩, ⟨[], allD 67, true⟩, ⟨[], allD 67, true⟩, ⟨[], allD 67, true⟩, ⟨[], allD 67, true⟩] h0 hm (tabEnv_ok tab_nil) (by kernel_rfl) (by kernel_rfl) ?_
          simp [j1, z1, z2, y1, y2, w2]
          subst hI
          refine Less_mk (q - 1) (by omega) ⟨i + 1, by omega, ?_⟩
          rw [g1]
          simp [strJ]
        · simp
          refine drawP (tabEnv [] []) [⟨[], allD 67, true⟩, ⟨[], allD 67, true⟩, ⟨[], allD 67, true⟩, ⟨[], allD 67, true⟩, ⟨[], allD 67, true⟩, ⟨[], allD 67, true⟩, ⟨[], allD 67, true⟩, ⟨[], allD 67, true⟩, ⟨[], allD 67, true⟩, ⟨[], allD 67, true⟩, ⟨[], allD 67, true⟩] h0 hm (tabEnv_ok tab_nil) (by kernel_rfl) (by kernel_rfl) ?_
          simp [j1, j2, j3, j4, w3, z1, z3, y1, y3, w2]
          subst hI
          refine Less_mk (q - 1) (by omega) ⟨i + 1, by omega, ?_⟩
          rw [g1]
          simp [strJ]
        · simp
          refine drawP (tabEnv [] []) [⟨[], allD 67, true⟩, ⟨[], allD 67, true⟩, ⟨[], allD 67, true⟩, ⟨[], allD 67, true⟩, ⟨[], allD 67, true⟩, ⟨[], allD 67, true⟩, ⟨[], allD 67, true⟩, ⟨[], allD 67, true⟩, ⟨[], allD 67, true⟩] h0 hm (tabEnv_ok tab_nil) (by kernel_rfl) (by kernel_rfl) ?_
          simp [j1, j2, j3, j4, w3, z4, y4, w2]
          subst hI
          refine Less_mk (q - 1) (by omega) ⟨i + 1, by omega, ?_⟩
          rw [g1]
          simp [strJ]
    · have hm0 : q = 0 := by omega
      have hiN : i = N := by omega
      subst hm0
      subst hiN
      simp
theorem ok_DrawUnseal (code : List Int) (hc : codeOK code) : ∃ (p : ByteArray), p.size ≤ 160 ∧ CallOK Try.prog 29 [.c (rd 1 code.length (code.map pu))] (.c (ps p)) [.c (rd 1 code.length (code.map pu))] := by
  obtain ⟨t, a1, s1, ht, ha1, h1⟩ := ok_journalText code hc 0 0 (by decide) (by decide)
  have hz := sealS_size t
  obtain ⟨b, a2, s2, ha2, h2⟩ := ok_one code hc 3 (by decide) (by decide) a1 s1 (by omega) (by omega)
  obtain ⟨p, a3, s3, hp, ha3, h3⟩ := ok_spoilt code hc (sealS t) ⟨#[97, 0, 7]⟩ (by omega) (by decide) a2 s2 (by omega) (by omega)
  refine ⟨if b = true then p else sealS t, by split <;> omega, ?_⟩
  refine okS (fn := Try.f29) [(62, [1]), (60, [1]), (72, [1])] h0 Try.func29 (by kernel_rfl) rfl Try.ntmps29 Try.results29 (by simp) ?_
  unfold curP at h1 h2 h3
  simp
  refine Inv_intro h1 ?_
  simp
  refine Inv_intro (ok_sSealOf t (by omega)) ?_
  simp
  refine Inv_intro h2 ?_
  cases b with
  | true =>
    simp
    refine Inv_intro h3 ?_
    simp
  | false => simp
end Go.V
