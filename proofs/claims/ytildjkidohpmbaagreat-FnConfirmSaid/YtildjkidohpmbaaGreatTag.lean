/- What functions of the seat's program do, each proved of its code, under the bounds that its theorem names. -/
import Derived.Test.YtildjkidohpmbaaGreatTaf
set_option linter.all false
namespace Go.V
open Go.Proofs
set_option maxHeartbeats 1000000
set_option maxRecDepth 10000
set_option linter.unusedSimpArgs false
set_option linter.unusedVariables false
theorem do_bound {v0 : List GLeaf} {v1 : List GCommand} (h0 : wt_LeafS v0 ≤ 1048576) (h1 : wt_CommandS v1 ≤ 1048576) : boundC v0 ∧ (∀ c ∈ v1, cmdOK c) ∧ v1.length ≤ 140737488351232 := by
  have hl := len_wt_CommandS v1
  refine ⟨⟨(conf_len h0).1, fun x hx => ⟨(conf_len h0).2 x hx, (conf_ok h0).2 x hx⟩⟩, fun c hc => ?_, by omega⟩
  have h2 := mem_wt_CommandS hc
  unfold GCommand.wt at h2
  have h3 := len_wt_StringS c.Path
  exact ⟨by omega, strs_ok (by omega), by omega⟩
theorem law_iDoCommands (v0 : List GLeaf) (v1 : List GCommand) (h0 : wt_LeafS v0 ≤ 1048576) (h1 : wt_CommandS v1 ≤ 1048576) : CallOK Tryz.prog 14 [.c (rd 0 v0.length (v0.flatMap (GLeaf.ci 0))), .c (rd 0 v1.length (v1.flatMap (GCommand.ci 0)))] (.tup [.c (.sl 0 58 (rDoCommands v0 v1).1.length ((rDoCommands v0 v1).1.flatMap GLeaf.co)), .c (pb (rDoCommands v0 v1).2)]) [.c (rd 0 v0.length (v0.flatMap (GLeaf.ci 0))), .c (rd 0 v1.length (v1.flatMap (GCommand.ci 0)))] := ok_iDoCommands 0 0 v0 v1 (do_bound h0 h1).1 (do_bound h0 h1).2.1 (do_bound h0 h1).2.2
theorem wt_step (o : List GLeaf) (c : GCommand) : wt_LeafS (doStep o c).1 ≤ wt_LeafS o + GCommand.wt c + 1 := by
  unfold doStep
  split
  · unfold rSetAt
    split
    · have e := wt_filter (fun x => !clashB c.Path x) id (fun x => Nat.le_refl _) (l := o)
      rw [List.map_id] at e
      have h3 : wt_LeafS (keptL c.Path o) ≤ wt_LeafS o := e
      show wt_LeafS (putL c.Path c.Value (keptL c.Path o)) ≤ _
      rw [wt_putL]
      unfold GCommand.wt
      omega
    · show wt_LeafS [] ≤ _
      simp [wt_LeafS, wtR]
  · split
    · unfold rDeleteAt
      split
      · have e := wt_filter (fun x => !begL c.Path x) id (fun x => Nat.le_refl _) (l := o)
        rw [List.map_id] at e
        have h3 : wt_LeafS (delL c.Path o) ≤ wt_LeafS o := e
        show wt_LeafS (delL c.Path o) ≤ _
        omega
      · show wt_LeafS [] ≤ _
        simp [wt_LeafS, wtR]
    · show wt_LeafS [] ≤ _
      simp [wt_LeafS, wtR]
theorem wt_doI {l : List GLeaf} {cs : List GCommand} : ∀ (i : Nat) (o : List GLeaf), doI l cs i = some o → wt_LeafS o ≤ wt_LeafS l + i * (wt_CommandS cs + 1)
  | 0, o, h => by cases h; omega
  | i + 1, o, h => by
    unfold doI at h
    split at h
    · cases h
    · rename_i o' ho'
      split at h
      · cases h
      · rename_i c hcs
        split at h
        · cases h
          have h1 := wt_doI i o' ho'
          have h2 := wt_step o' c
          have h3 := mem_wt_CommandS (List.mem_of_getElem? hcs)
          rw [Nat.succ_mul]
          omega
        · cases h
theorem rDoCommands_ok (v0 : List GLeaf) (v1 : List GCommand) (h0 : wt_LeafS v0 ≤ 1048576) (h1 : wt_CommandS v1 ≤ 1048576) : lens_LeafS (rDoCommands v0 v1).1 ∧ cn_LeafS (rDoCommands v0 v1).1 ≤ 1152921504606846976 := by
  refine leafs_big ?_
  unfold rDoCommands
  split
  · rename_i h
    split
    · rename_i o ho
      have h3 := wt_doI v1.length o ho
      have h4 : v1.length * (wt_CommandS v1 + 1) ≤ 80 * (1048576 + 1) := Nat.mul_le_mul h.2 (by omega)
      show wt_LeafS o ≤ _
      omega
    · exact Nat.zero_le _
  · exact Nat.zero_le _
theorem exists_run {α : Type} (N : Nat) (x0 : α) (I : Nat → α → Prop) (R : α → α → Prop) (h0 : I 0 x0) (hs : ∀ i x, i < N → I i x → ∃ y, R x y ∧ I (i + 1) y) : ∃ run : Nat → α, run 0 = x0 ∧ (∀ i, i ≤ N → I i (run i)) ∧ ∀ i, i < N → R (run i) (run (i + 1)) := by
  classical
  obtain ⟨run, hr⟩ : ∃ run : Nat → α, run = fun n => Nat.rec x0 (fun i x => if h : ∃ y, R x y ∧ I (i + 1) y then Classical.choose h else x) n := ⟨_, rfl⟩
  have hz : run 0 = x0 := by subst hr; rfl
  have hst : ∀ i, run (i + 1) = if h : ∃ y, R (run i) y ∧ I (i + 1) y then Classical.choose h else run i := fun i => by subst hr; rfl
  have hI : ∀ i, i ≤ N → I i (run i) := by
    intro i
    induction i with
    | zero => intro _; rw [hz]; exact h0
    | succ i ih =>
      intro hi
      have h1 := hs i (run i) (by omega) (ih (by omega))
      rw [hst, dif_pos h1]
      exact (Classical.choose_spec h1).2
  refine ⟨run, hz, hI, fun i hi => ?_⟩
  have h1 := hs i (run i) hi (hI i (by omega))
  rw [hst, dif_pos h1]
  exact (Classical.choose_spec h1).1
theorem ok_configValue (code : List Int) (hc : codeOK code) (a s : Int) (ha : 0 ≤ a) (ha2 : a ≤ 3999990) : ∃ v a' s', v.size ≤ 9 ∧ (a ≤ a' ∧ a' ≤ a + 2) ∧ CallOK Tryz.prog 50 [.bp (curP code a s)] (.c (ps v)) [.bp (curP code a' s')] := by
  obtain ⟨b, a1, s1, ha1, h1⟩ := ok_one code hc 30 (by decide) (by decide) a s ha (by omega)
  obtain ⟨v2, a2, s2, hv2, ha2', h2⟩ := ok_of 0 code hc [⟨#[]⟩, ⟨#[66]⟩, ⟨#[110, 105, 110, 101, 98, 121, 116, 101, 115]⟩] (by decide) (by decide) a1 s1 (by omega) (by omega)
  obtain ⟨v3, a3, s3, hv3, ha3, h3⟩ := ok_of 0 code hc [⟨#[49]⟩, ⟨#[50]⟩, ⟨#[111, 110]⟩, ⟨#[111, 102, 102]⟩] (by decide) (by decide) a1 s1 (by omega) (by omega)
  have hz2 : v2.size ≤ 9 := by
    simp only [List.mem_cons, List.not_mem_nil, or_false] at hv2
    rcases hv2 with rfl | rfl | rfl <;> decide
  have hz3 : v3.size ≤ 9 := by
    simp only [List.mem_cons, List.not_mem_nil, or_false] at hv3
    rcases hv3 with rfl | rfl | rfl | rfl <;> decide
  cases b with
  | true =>
    refine ⟨v2, a2, s2, hz2, by omega, ?_⟩
    refine okS (fn := Tryz.f50) [(51, [1]), (52, [1])] h0 Tryz.func50 (by kernel_rfl) rfl Tryz.ntmps50 Tryz.results50 (by simp) ?_
    unfold curP at h1 h2 ⊢
    simp
    refine Inv_intro h1 ?_
    simp
    refine Inv_intro h2 ?_
    simp
  | false =>
    refine ⟨v3, a3, s3, hz3, by omega, ?_⟩
    refine okS (fn := Tryz.f50) [(51, [1]), (52, [1])] h0 Tryz.func50 (by kernel_rfl) rfl Tryz.ntmps50 Tryz.results50 (by simp) ?_
    unfold curP at h1 h3 ⊢
    simp
    refine Inv_intro h1 ?_
    simp
    refine Inv_intro h3 ?_
    simp
def pathOK (p : List ByteArray) : Prop := p.length ≤ 8 ∧ ∀ w ∈ p, w.size ≤ 9
def wordsD : List ByteArray := [⟨#[97]⟩, ⟨#[98]⟩, ⟨#[112, 101, 101, 114]⟩, ⟨#[120, 45, 49]⟩]
theorem ok_configPath (code : List Int) (hc : codeOK code) (a s : Int) (ha : 0 ≤ a) (ha2 : a ≤ 3999980) : ∃ p a' s', pathOK p ∧ (a ≤ a' ∧ a' ≤ a + 6) ∧ CallOK Tryz.prog 49 [.bp (curP code a s)] (.c (.sl 0 9 p.length (p.map ps))) [.bp (curP code a' s')] := by
  obtain ⟨n, a1, s1, hn, ha1, h1⟩ := ok_pick code hc 3 (by decide) (by decide) a s ha (by omega)
  obtain ⟨N, hN⟩ : ∃ N : Nat, (N : Int) = 1 + n := ⟨(1 + n).toNat, by omega⟩
  obtain ⟨run, run0, runI, runR⟩ := exists_run (α := List ByteArray × Int × Int) N ([], a1, s1) (fun i x => x.1.length = i ∧ (∀ w ∈ x.1, w.size ≤ 9) ∧ a1 ≤ x.2.1 ∧ x.2.1 ≤ a1 + i)
    (fun x y => ∃ w, y.1 = x.1 ++ [w] ∧ CallOK Tryz.prog 52 [.bp (curP code x.2.1 x.2.2), .c (rd 0 4 (wordsD.map ps))] (.c (ps w)) [.bp (curP code y.2.1 y.2.2), .c (rd 0 4 (wordsD.map ps))])
    ⟨rfl, by simp, by simp, by simp⟩ (by
      rintro i ⟨p, b, t⟩ hi ⟨g1, g2, g3, g4⟩
      simp only at g1 g2 g3 g4
      obtain ⟨w, b', t', hw, hb', hcall⟩ := ok_of 0 code hc wordsD (by decide) (by decide) b t (by omega) (by omega)
      refine ⟨(p ++ [w], b', t'), ⟨w, rfl, hcall⟩, by simp [g1], fun v hv => ?_, by simp only; omega, by simp only; omega⟩
      rcases List.mem_append.1 hv with hv | hv
      · exact g2 v hv
      · rw [List.mem_singleton.1 hv]
        simp only [wordsD, List.mem_cons, List.not_mem_nil, or_false] at hw
        rcases hw with rfl | rfl | rfl | rfl <;> decide)
  obtain ⟨e1, e2, e3, e4⟩ := runI N (Nat.le_refl _)
  obtain ⟨x, a2, s2, hx, ha2', h2⟩ := ok_pick code hc 60 (by decide) (by decide) (run N).2.1 (run N).2.2 (by omega) (by omega)
  have hlen : (run N).1.length ≤ 8 := by omega
  have hN3 : 1 ≤ N ∧ N ≤ 3 := by omega
  obtain ⟨p, a3, s3, hp, ha3, hfin⟩ : ∃ (p : List ByteArray) (a3 s3 : Int), pathOK p ∧ (a2 ≤ a3 ∧ a3 ≤ a2 + 1) ∧ ((x = 0 ∧ ∃ w, p = (run N).1.set 0 w ∧ CallOK Tryz.prog 52 [.bp (curP code a2 s2), .c (rd 0 3 ([⟨#[]⟩, ⟨#[65]⟩, ⟨#[110, 105, 110, 101, 98, 121, 116, 101, 115]⟩].map ps))] (.c (ps w)) [.bp (curP code a3 s3), .c (rd 0 3 ([⟨#[]⟩, ⟨#[65]⟩, ⟨#[110, 105, 110, 101, 98, 121, 116, 101, 115]⟩].map ps))]) ∨ (x = 1 ∧ p = (run N).1 ++ [⟨#[97]⟩, ⟨#[98]⟩, ⟨#[99]⟩, ⟨#[100]⟩, ⟨#[101]⟩] ∧ a3 = a2 ∧ s3 = s2) ∨ (¬ x = 0 ∧ ¬ x = 1 ∧ p = (run N).1 ∧ a3 = a2 ∧ s3 = s2)) := by
    by_cases x0 : x = 0
    · obtain ⟨w, a3, s3, hw, ha3, h3⟩ := ok_of 0 code hc [⟨#[]⟩, ⟨#[65]⟩, ⟨#[110, 105, 110, 101, 98, 121, 116, 101, 115]⟩] (by decide) (by decide) a2 s2 (by omega) (by omega)
      refine ⟨(run N).1.set 0 w, a3, s3, ⟨by rw [List.length_set]; omega, fun v hv => ?_⟩, ha3, .inl ⟨x0, w, rfl, h3⟩⟩
      rcases List.mem_or_eq_of_mem_set hv with hv | rfl
      · exact e2 v hv
      · simp only [List.mem_cons, List.not_mem_nil, or_false] at hw
        rcases hw with rfl | rfl | rfl <;> decide
    · by_cases x1 : x = 1
      · refine ⟨_, a2, s2, ⟨by rw [List.length_append]; simp only [List.length_cons, List.length_nil]; omega, fun v hv => ?_⟩, by omega, .inr (.inl ⟨x1, rfl, rfl, rfl⟩)⟩
        rcases List.mem_append.1 hv with hv | hv
        · exact e2 v hv
        · simp only [List.mem_cons, List.not_mem_nil, or_false] at hv
          rcases hv with rfl | rfl | rfl | rfl | rfl <;> decide
      · exact ⟨_, a2, s2, ⟨by omega, e2⟩, by omega, .inr (.inr ⟨x0, x1, rfl, rfl, rfl⟩)⟩
  refine ⟨p, a3, s3, hp, by omega, ?_⟩
  refine okS (fn := Tryz.f49) [(46, [1]), (52, [1])] h0 Tryz.func49 (by kernel_rfl) rfl Tryz.ntmps49 Tryz.results49 (by simp) ?_
  unfold curP at h1 h2 hfin runR ⊢
  have w1 : IntKind.i64.wrap (1 + n) = 1 + n := wrap64 (by omega) (by omega)
  simp
  refine Inv_intro h1 ?_
  have wN : IntKind.i64.wrap (N : Int) = (N : Int) := wrap64 (by omega) (by omega)
  simp [w1, ← hN, wN]
  refine ewp_nil 3 (.op 5 5 0) 9 (by decide) rfl rfl rfl ?_
  refine loopS [0, 3, 4] [.op 5 5 0, .arg 0 0] (fun m st => ∃ (i : Nat), i + m = N ∧ st = ⟨slOf 33 [(0, .ptr ⟨.arg 0 0, []⟩ 0), (3, .ref ⟨.op 5 5 0, []⟩ 0 i), (4, .t (pi m))], ofL [(.op 5 5 0, .sl 0 9 i ((run i).1.map ps)), (.arg 0 0, .sl 0 51 1 [rd 1 code.length (code.map pu), pi (run i).2.1, .raw (.int .u64 (run i).2.2)])]⟩) N ?_ ?_
  · rintro Inv hI
    simp
    subst hI
    exact ⟨0, by omega, by rw [run0]; rfl⟩
  · rintro Inv hI m st ⟨i, hi, rfl⟩
    refine ewr_sound (M := [(46, [1]), (52, [1])]) h0 ?_
    by_cases c : 0 < m
    · obtain ⟨f1, _⟩ := runI i (by omega)
      obtain ⟨w, g1, hcall⟩ := runR i (by omega)
      have c' : (0 : Int) < (m : Int) := by omega
      have w2 : IntKind.i64.wrap ((m : Int) - 1) = ((m - 1 : Nat) : Int) := by rw [wrap64 (by omega) (by omega)]; omega
      have hb1 : (i + 1) * 16 ≤ 140737488355328 := by omega
      have hb2 : i ≤ 9223372036854775806 := by omega
      have hml : ((run i).1.map ps).length = i := by rw [List.length_map, f1]
      have hmt : List.take i ((run i).1.map ps) = (run i).1.map ps := List.take_of_length_le (by omega)
      simp [c, c']
      refine Inv_intro hcall ?_
      simp [f1, hb1, hb2, hml, hmt, w2]
      subst hI
      refine Less_mk (m - 1) (by omega) ⟨i + 1, by omega, ?_⟩
      rw [g1]
      simp
    · have hm0 : m = 0 := by omega
      have hiN : i = N := by omega
      subst hm0
      subst hiN
      simp
      refine Inv_intro h2 ?_
      have hi0 : 0 < i := by omega
      have hi1 : 1 ≤ i := by omega
      obtain ⟨p0, pr, hpr⟩ : ∃ p0 pr, (run i).1 = p0 :: pr := by
        cases hP : (run i).1 with
        | nil => rw [hP] at e1; simp at e1; omega
        | cons p0 pr => exact ⟨p0, pr, rfl⟩
      have hsz : pr.length + 1 = i := by rw [hpr] at e1; simpa using e1
      have ht1 : ∀ x : PT, List.take i (x :: pr.map ps) = x :: pr.map ps := fun x => List.take_of_length_le (by rw [List.length_cons, List.length_map]; omega)
      have hl1 : i ≤ pr.length + 1 := by omega
      have hb1 : (i + 5) * 16 ≤ 140737488355328 := by omega
      have hb2 : i + 5 ≤ 9223372036854775807 := by omega
      have hsz5 : pr.length + 5 + 1 = i + 5 := by omega
      have ht5 : ∀ a b c d e f : PT, List.take (i + 5) (a :: (pr.map ps ++ [b, c, d, e, f])) = a :: (pr.map ps ++ [b, c, d, e, f]) := fun a b c d e f => List.take_of_length_le (by simp only [List.length_cons, List.length_append, List.length_map, List.length_nil]; omega)
      rcases hfin with ⟨rfl, w, rfl, hcall⟩ | ⟨rfl, rfl, rfl, rfl⟩ | ⟨x0, x1, rfl, rfl, rfl⟩
      · simp
        refine Inv_intro hcall ?_
        simp [hi0, hi1, hpr, hsz, ht1, hl1]
      · simp [hi0, hpr, hsz, ht1, hl1, hb1, hb2, hsz5, ht5]
      · simp [x0, x1, hpr, hsz, ht1, hl1]
theorem begP_len : ∀ a b : List ByteArray, (begP a b && decide (a.length = b.length)) = decide (a = b)
  | [], [] => rfl
  | [], _ :: _ => rfl
  | _ :: _, [] => rfl
  | a :: us, b :: vs => by
    have := begP_len us vs
    simp only [begP, List.length_cons, Nat.add_right_cancel_iff, List.cons.injEq, Bool.and_assoc, this]
    simp
theorem ok_l15SamePath (k k' : Nat) (xs ys : List ByteArray) (ha : xs.length ≤ 140737488351232) (hb : ys.length ≤ 140737488351232) : CallOK Tryz.prog 72 [.c (rd k xs.length (xs.map ps)), .c (rd k' ys.length (ys.map ps))] (.c (pb (decide (xs = ys)))) [.c (rd k xs.length (xs.map ps)), .c (rd k' ys.length (ys.map ps))] := by
  refine okS (fn := Tryz.f72) [] h0 Tryz.func72 (by kernel_rfl) rfl Tryz.ntmps72 Tryz.results72 (by simp) ?_
  simp
  refine Inv_intro (ok_l15Begins k k' xs ys ha hb) ?_
  simp
  rw [← begP_len]
  cases begP xs ys with
  | false => simp
  | true =>
    simp
    omega
def hasV (l : List GLeaf) (p : List ByteArray) : ByteArray := match l.find? (atP p) with
  | some x => x.Value
  | none => ⟨#[]⟩
theorem ok_l15Has (k k' : Nat) (l : List GLeaf) (p : List ByteArray) (hl : confOK l) (hp : p.length ≤ 140737488351232) : CallOK Tryz.prog 75 [.c (rd k l.length (l.flatMap (GLeaf.ci k))), .c (rd k' p.length (p.map ps))] (.c (ps (hasV l p))) [.c (rd k l.length (l.flatMap (GLeaf.ci k))), .c (rd k' p.length (p.map ps))] := by
  have hll := hl.1
  refine okS (fn := Tryz.f75) [] h0 Tryz.func75 (by kernel_rfl) rfl Tryz.ntmps75 Tryz.results75 (by simp) ?_
  simp
  refine loopS [1, 7, 8, 9] [] (fun n st => ∃ (i : Nat), i + n = l.length ∧ (l.drop i).find? (atP p) = l.find? (atP p) ∧ st = ⟨slOf 20 [(1, .t (rd k' p.length (p.map ps))), (7, .t (rd k l.length (l.flatMap (GLeaf.ci k)))), (8, .t (pi l.length)), (9, .t (pi i))], ofL []⟩) l.length ?_ ?_
  · rintro Inv hI
    simp
    subst hI
    exact ⟨0, by omega, rfl, rfl⟩
  · rintro Inv hI n st ⟨i, hi, hf, rfl⟩
    refine ewr_sound (M := []) h0 ?_
    simp
    refine brn_app (fun a => ?_) (fun a => ?_)
    · simp at a
      have hx := hl.2 l[i] (List.getElem_mem a)
      rw [drop_step _ i a, List.find?_cons] at hf
      have hd := fm_drop (GLeaf.ci k) 2 (fun _ => rfl) l i a
      have hlen := fm_len (GLeaf.ci k) 2 (fun _ => rfl) l
      have hlt : i * 2 < l.length * 2 := by omega
      simp [a, hd, hlen, hlt]
      refine Inv_intro (ok_l15SamePath k k' l[i].Path p hx.1.1 hp) ?_
      simp
      refine brn_app (fun b => ?_) (fun b => ?_)
      · have b' : atP p l[i] = true := b
        rw [b'] at hf
        have hf' : some l[i] = l.find? (atP p) := hf
        simp [hasV, ← hf']
      · have b' : atP p l[i] = false := b
        rw [b'] at hf
        simp
        subst hI
        exact Less_mk (n - 1) (by omega) ⟨i + 1, by omega, hf, by rw [wrNext i (by omega)]⟩
    · simp at a
      rw [List.drop_of_length_le (by omega), List.find?_nil] at hf
      simp [hasV, ← hf]
theorem goodG_all : ∀ (q : Option GLeaf) (l : List GLeaf), goodG q l = true → ∀ x ∈ l, okLeaf x = true
  | _, [], _, _, hx => by simp at hx
  | q, y :: l, h, x, hx => by
    simp only [goodG, Bool.and_eq_true] at h
    rcases List.mem_cons.1 hx with rfl | hx
    · exact h.1.1
    · exact goodG_all _ l h.2 x hx
theorem goodC_all {l : List GLeaf} (h : goodC l = true) : ∀ x ∈ l, okLeaf x = true := by
  simp only [goodC, Bool.and_eq_true] at h
  exact goodG_all _ l h.1
theorem isW_ne {s : ByteArray} (h : isW s = true) : s ≠ ⟨#[]⟩ := by
  rintro rfl
  have : isW ⟨#[]⟩ = false := rfl
  rw [this] at h
  cases h
theorem okLeaf_val {x : GLeaf} (h : okLeaf x = true) : x.Value ≠ ⟨#[]⟩ := by
  simp only [okLeaf, Bool.and_eq_true] at h
  exact isW_ne h.2
theorem okLeaf_path {x : GLeaf} (h : okLeaf x = true) : x.Path ≠ [] := by
  simp only [okLeaf, isP, Bool.and_eq_true, decide_eq_true_eq] at h
  intro e
  rw [e] at h
  have := h.1.1.1
  simp at this
theorem hasV_gone {b : List GLeaf} (hb : goodC b = true) (x : GLeaf) : (hasV b x.Path = ⟨#[]⟩) = (goneC b x = true) := by
  unfold hasV goneC
  cases h : b.find? (atP x.Path) with
  | none => simp
  | some y =>
    have := okLeaf_val (goodC_all hb y (List.mem_of_find?_eq_some h))
    simp [this]
theorem hasV_fresh {a : List GLeaf} {x : GLeaf} (hx : x.Value ≠ ⟨#[]⟩) : (hasV a x.Path = x.Value) = (freshC a x = false) := by
  unfold hasV freshC
  cases h : a.find? (atP x.Path) with
  | none =>
    simp
    exact fun e => hx e.symm
  | some y => simp
theorem ok_l15Diff (k k' : Nat) (a b : List GLeaf) (ha : a.length ≤ 1048576) (hax : ∀ x ∈ a, x.Path.length ≤ 1048576) (hb : b.length ≤ 1048576) (hbx : ∀ x ∈ b, x.Path.length ≤ 1048576) (hao : confOK a) (hbo : confOK b) (ga : goodC a = true) (gb : goodC b = true) : CallOK Tryz.prog 37 [.c (rd k a.length (a.flatMap (GLeaf.ci k))), .c (rd k' b.length (b.flatMap (GLeaf.ci k')))] (.c (.sl 0 63 (diffL a b).length ((diffL a b).flatMap GCommand.co))) [.c (rd k a.length (a.flatMap (GLeaf.ci k))), .c (rd k' b.length (b.flatMap (GLeaf.ci k')))] := by
  refine okS (fn := Tryz.f37) [] h0 Tryz.func37 (by kernel_rfl) rfl Tryz.ntmps37 Tryz.results37 (by simp) ?_
  simp
  refine ewp_nil 5 (.op 6 7 0) 63 (by decide) rfl rfl rfl ?_
  refine loopS [0, 1, 5, 10, 11, 12] [.op 6 7 0] (fun n st => ∃ (i : Nat), i + n = a.length ∧ st = ⟨slOf 55 [(0, .t (rd k a.length (a.flatMap (GLeaf.ci k)))), (1, .t (rd k' b.length (b.flatMap (GLeaf.ci k')))), (5, .ref ⟨.op 6 7 0, []⟩ 0 (((a.take i).filter (goneC b)).map delCo).length), (10, .t (rd k a.length (a.flatMap (GLeaf.ci k)))), (11, .t (pi a.length)), (12, .t (pi i))], ofL [(.op 6 7 0, .sl 0 63 (((a.take i).filter (goneC b)).map delCo).length ((((a.take i).filter (goneC b)).map delCo).flatMap GCommand.co))]⟩) a.length ?_ ?_
  · rintro Inv hI
    simp
    subst hI
    exact ⟨0, by omega, by simp⟩
  · rintro Inv hI n st ⟨i, hi, rfl⟩
    have hO : (((a.take i).filter (goneC b)).map delCo).length ≤ i := Nat.le_trans (fmap_len _ _ _) (by simp; omega)
    have hS := fmap_snoc (goneC b) delCo a i
    generalize hOe : ((a.take i).filter (goneC b)).map delCo = O at hO hS ⊢
    have hA := fm_len GCommand.co 3 (fun _ => rfl) O
    have hAm : ∀ y, (O ++ [y]).flatMap GCommand.co = O.flatMap GCommand.co ++ GCommand.co y := fun y => by simp
    generalize hAe : O.flatMap GCommand.co = A at hA hAm ⊢
    refine ewr_sound (M := []) h0 ?_
    simp
    refine brn_app (fun c => ?_) (fun c => ?_)
    · simp at c
      have hd := fm_drop (GLeaf.ci k) 2 (fun _ => rfl) a i c
      have hlen := fm_len (GLeaf.ci k) 2 (fun _ => rfl) a
      have hlt : i * 2 < a.length * 2 := by omega
      have hp1 := hax _ (List.getElem_mem c)
      have hpn := okLeaf_path (goodC_all ga _ (List.getElem_mem c))
      have hS' := hS c
      have hb1 : (O.length + 1) * 48 ≤ 140737488355328 := by omega
      have hb2 : O.length ≤ 9223372036854775806 := by omega
      have hp3 : a[i].Path.length * 16 ≤ 140737488355328 := by omega
      have hp4 : a[i].Path.length ≤ 9223372036854775807 := by omega
      have ht : A.take (O.length * 3) = A := List.take_of_length_le (by omega)
      have hv := hasV_gone gb a[i]
      simp [c, hd, hlen, hlt]
      refine Inv_intro (ok_l15Has k' k b a[i].Path hbo (by omega)) ?_
      simp
      refine brn_app (fun d => ?_) (fun d => ?_)
      · have hg : goneC b a[i] = true := by
          simp at d
          rw [← hv]
          exact d
        simp [hpn, hp3, hp4, hA, hb1, hb2, ht]
        rw [hg] at hS'
        subst hI
        refine Less_mk (n - 1) (by omega) ⟨i + 1, by omega, ?_⟩
        rw [wrNext i (by omega), hS']
        simp [hAm, hAe, delCo]
      · have hg : goneC b a[i] = false := by
          simp at d
          cases e : goneC b a[i] with
          | false => rfl
          | true => exact absurd (hv.mpr e) d
        simp
        rw [hg] at hS'
        subst hI
        refine Less_mk (n - 1) (by omega) ⟨i + 1, by omega, ?_⟩
        rw [wrNext i (by omega), hS']
        simp [hAe]
    · simp at c
      have ht : List.take i a = a := List.take_of_length_le (by omega)
      rw [ht] at hOe
      simp
      refine ewp_sw (.op 6 7 0) (.op 12 9 0) rfl rfl ?_
      simp
      refine loopS [0, 5, 30, 31, 32] [.op 12 9 0] (fun n st => ∃ (i : Nat), i + n = b.length ∧ st = ⟨slOf 55 [(0, .t (rd k a.length (a.flatMap (GLeaf.ci k)))), (5, .ref ⟨.op 12 9 0, []⟩ 0 (O.length + (((b.take i).filter (freshC a)).map setCo).length)), (30, .t (rd k' b.length (b.flatMap (GLeaf.ci k')))), (31, .t (pi b.length)), (32, .t (pi i))], ofL [(.op 12 9 0, .sl 0 63 (O.length + (((b.take i).filter (freshC a)).map setCo).length) (A ++ (((b.take i).filter (freshC a)).map setCo).flatMap GCommand.co))]⟩) b.length ?_ ?_
      · rintro Inv hI
        simp
        subst hI
        exact ⟨0, by omega, by simp⟩
      · rintro Inv hI n st ⟨i, hi, rfl⟩
        have hO2 : (((b.take i).filter (freshC a)).map setCo).length ≤ i := Nat.le_trans (fmap_len _ _ _) (by simp; omega)
        have hS2 := fmap_snoc (freshC a) setCo b i
        generalize hOe2 : ((b.take i).filter (freshC a)).map setCo = O2 at hO2 hS2 ⊢
        have hA2 := fm_len GCommand.co 3 (fun _ => rfl) O2
        have hAm2 : ∀ y, (O2 ++ [y]).flatMap GCommand.co = O2.flatMap GCommand.co ++ GCommand.co y := fun y => by simp
        generalize hAe2 : O2.flatMap GCommand.co = A2 at hA2 hAm2 ⊢
        have hAA : (A ++ A2).length = (O.length + O2.length) * 3 := by simp [hA, hA2]; omega
        generalize hAX : A ++ A2 = X at hAA ⊢
        refine ewr_sound (M := []) h0 ?_
        simp
        refine brn_app (fun c2 => ?_) (fun c2 => ?_)
        · simp at c2
          have hd := fm_drop (GLeaf.ci k') 2 (fun _ => rfl) b i c2
          have hlen := fm_len (GLeaf.ci k') 2 (fun _ => rfl) b
          have hlt : i * 2 < b.length * 2 := by omega
          have hp1 := hbx _ (List.getElem_mem c2)
          have hok := goodC_all gb _ (List.getElem_mem c2)
          have hpn := okLeaf_path hok
          have hS' := hS2 c2
          have hb1 : (O.length + O2.length + 1) * 48 ≤ 140737488355328 := by omega
          have hb2 : O.length + O2.length ≤ 9223372036854775806 := by omega
          have hp3 : b[i].Path.length * 16 ≤ 140737488355328 := by omega
          have hp4 : b[i].Path.length ≤ 9223372036854775807 := by omega
          have ht2 : X.take ((O.length + O2.length) * 3) = X := List.take_of_length_le (by omega)
          have hv := hasV_fresh (a := a) (okLeaf_val hok)
          have next : ∀ B : Bool, freshC a b[i] = B → ∀ X' m, X' = X ++ (if B = true then GCommand.co (setCo b[i]) else []) → m = O.length + O2.length + (if B = true then 1 else 0) → Less Inv n ⟨slOf 55 [(0, .t (rd k a.length (a.flatMap (GLeaf.ci k)))), (5, .ref ⟨.op 12 9 0, []⟩ 0 m), (30, .t (rd k' b.length (b.flatMap (GLeaf.ci k')))), (31, .t (pi b.length)), (32, .t (pi (IntKind.wrap .i64 ((i : Int) + 1))))], ofL [(.op 12 9 0, .sl 0 63 m X')]⟩ := by
            rintro B hB X' m rfl rfl
            rw [hB] at hS'
            subst hI
            refine Less_mk (n - 1) (by omega) ⟨i + 1, by omega, ?_⟩
            rw [wrNext i (by omega), hS', ← hAX]
            cases B <;> simp [hAm2, hAe2, Nat.add_assoc]
          simp [c2, hd, hlen, hlt]
          refine drawP (tabEnv [] _) [⟨[], allD 55, true⟩, ⟨[.op 10 2 0], allD 55, true⟩, ⟨[.op 10 2 0], allD 55, true⟩, ⟨[], allD 55, false⟩, ⟨[.op 10 2 0], allD 55, true⟩, ⟨[.op 10 2 0], allD 55, true⟩, ⟨[], allD 55, true⟩] h0 hm (tabEnv_ok (tab_cons (ok_l15Has k k' a b[i].Path hao (by omega)) tab_nil)) (by kernel_rfl) (by kernel_rfl) ?_
          simp
          refine brn_app (fun d => ?_) (fun d => ?_)
          · simp at d
            have hB : freshC a b[i] = true := by
              cases e : freshC a b[i] with
              | true => rfl
              | false => exact absurd (hv.mpr e) d
            simp
            refine drawP (tabEnv [] _) [⟨[.op 12 9 0], allD 55, true⟩, ⟨[], allD 55, false⟩, ⟨[.op 10 2 0], allD 55, true⟩, ⟨[.op 10 2 0], allD 55, true⟩, ⟨[.op 12 1 0], [43, 44, 45, 46, 47, 48, 49, 50, 51, 52, 5], false⟩, ⟨[.op 10 2 0], allD 55, true⟩, ⟨[.op 10 2 0], allD 55, true⟩, ⟨[.op 12 4 0], allD 55, true⟩, ⟨[.op 12 4 0, .op 12 7 0], [43, 44, 45, 46, 47, 48, 49, 50, 51, 52, 5], false⟩, ⟨[.op 12 9 0, .op 12 8 0], [43, 44, 45, 46, 47, 48, 49, 50, 51, 52, 5], false⟩, ⟨[.op 12 9 0], allD 55, true⟩] h0 hm (tabEnv_ok tab_nil) (by kernel_rfl) (by kernel_rfl) ?_
            simp [hAA, hb1, hb2, ht2, hpn, hp3, hp4]
            exact next true hB _ _ (by simp [setCo]) rfl
          · simp at d
            have hB : freshC a b[i] = false := by rw [← hv]; exact d
            simp
            exact next false hB _ _ (by simp) rfl
        · simp at c2
          have ht : List.take i b = b := List.take_of_length_le (by omega)
          rw [ht] at hOe2
          have hD : diffL a b = O ++ O2 := by rw [diffL, hOe, hOe2]
          have hX' : (diffL a b).flatMap GCommand.co = X := by rw [hD, List.flatMap_append, hAe, hAe2, hAX]
          have hm' : (diffL a b).length = O.length + O2.length := by rw [hD, List.length_append]
          have htX : X.take ((O.length + O2.length) * 3) = X := List.take_of_length_le (by omega)
          rw [hX', hm']
          simp [hAA, htX]
theorem ok_IndexFunc_LeafS (k q g : Nat) (caps : List (List PT)) (p : (List GLeaf) → Bool) (xs : List (List GLeaf)) (ha : xs.length ≤ 140737488351232)
    (hg : ∀ x ∈ xs, CallOK Tryz.prog g (.c (rd k x.length (x.flatMap (GLeaf.ci k))) :: caps.map (PV.ip q)) (.c (pb (p x))) (.c (rd k x.length (x.flatMap (GLeaf.ci k))) :: caps.map (PV.ip q))) :
    CallOK Tryz.prog 64 [.c (rd k xs.length (xs.map (cLeafSi k))), .c (.fn q g caps)] (.c (pi (idxOf p xs))) [.c (rd k xs.length (xs.map (cLeafSi k))), .c (.fn q g caps)] := by
  refine okS (fn := Tryz.f64) [] h0 Tryz.func64 (by kernel_rfl) rfl Tryz.ntmps64 Tryz.results64 (by simp) ?_
  simp
  refine loopS [0, 1, 7, 8] [] (fun n st => ∃ (i : Nat), i + n = xs.length ∧ (∀ (j : Nat) (hj : j < i) (hj' : j < xs.length), p xs[j] = false) ∧ st = ⟨slOf 19 [(0, .t (rd k xs.length (xs.map (cLeafSi k)))), (1, .t (.fn q g caps)), (7, .t (pi xs.length)), (8, .t (pi i))], ofL []⟩) xs.length ?_ ?_
  · rintro Inv hI
    simp
    subst hI
    exact ⟨0, by omega, by intro j hj; omega, rfl⟩
  · rintro Inv hI n st ⟨i, hi, hall, rfl⟩
    refine ewr_sound (M := []) h0 ?_
    simp
    refine brn_app (fun h => ?_) (fun h => ?_)
    · simp at h
      simp [h]
      refine Inv_intro (hg _ (List.getElem_mem h)) ?_
      simp
      refine brn_app (fun h2 => ?_) (fun h2 => ?_)
      · simp
        exact (idxOf_hit p xs i h h2 fun j hj => hall j hj (by omega)).symm
      · simp
        subst hI
        refine Less_mk (n - 1) (by omega) ⟨i + 1, by omega, ?_, by rw [wrNext i (by omega)]⟩
        intro j hj hj'
        by_cases hji : j = i
        · subst hji; exact h2
        · exact hall j (by omega) hj'
    · simp at h
      simp
      exact (idxOf_no p xs fun j hj => hall j (by omega) hj).symm
theorem ok_ContainsFunc_LeafS (k q g : Nat) (caps : List (List PT)) (p : (List GLeaf) → Bool) (xs : List (List GLeaf)) (ha : xs.length ≤ 140737488351232)
    (hg : ∀ x ∈ xs, CallOK Tryz.prog g (.c (rd k x.length (x.flatMap (GLeaf.ci k))) :: caps.map (PV.ip q)) (.c (pb (p x))) (.c (rd k x.length (x.flatMap (GLeaf.ci k))) :: caps.map (PV.ip q))) :
    CallOK Tryz.prog 28 [.c (rd k xs.length (xs.map (cLeafSi k))), .c (.fn q g caps)] (.c (pb (xs.any p))) [.c (rd k xs.length (xs.map (cLeafSi k))), .c (.fn q g caps)] := by
  refine okS (fn := Tryz.f28) [] h0 Tryz.func28 (by kernel_rfl) rfl Tryz.ntmps28 Tryz.results28 (by simp) ?_
  simp
  refine Inv_intro (ok_IndexFunc_LeafS k q g caps p xs ha hg) ?_
  simp [idxOf_any]
theorem ok_sameConfig1 (k k' : Nat) (x y : GLeaf) (hx : x.Path.length ≤ 140737488351232) (hy : y.Path.length ≤ 140737488351232) : CallOK Tryz.prog 66 [.agg (GLeaf.ci k x), .agg (GLeaf.ci k' y)] (.c (pb (decide (x = y)))) [.agg (GLeaf.ci k x), .agg (GLeaf.ci k' y)] := by
  refine okS (fn := Tryz.f66) [] h0 Tryz.func66 (by kernel_rfl) rfl Tryz.ntmps66 Tryz.results66 (by simp) ?_
  have e : decide (x = y) = (decide (x.Value = y.Value) && decide (x.Path = y.Path)) := by
    cases x
    cases y
    simp
    rw [Bool.and_comm]
  rw [e]
  simp
  refine gT (fun a => ?_) (fun a => ?_)
  · simp [a]
    refine Inv_intro (ok_EqualS k k' x.Path y.Path hx hy) ?_
    simp at a
    simp [a]
  · simp [a]
theorem ok_EqualFunc_Leaf (k k' : Nat) (xs ys : List GLeaf) (hx : confOK xs) (hy : confOK ys) : CallOK Tryz.prog 65 [.c (rd k xs.length (xs.flatMap (GLeaf.ci k))), .c (rd k' ys.length (ys.flatMap (GLeaf.ci k'))), .c (.fn 0 66 [])] (.c (pb (decide (xs = ys)))) [.c (rd k xs.length (xs.flatMap (GLeaf.ci k))), .c (rd k' ys.length (ys.flatMap (GLeaf.ci k'))), .c (.fn 0 66 [])] := by
  obtain ⟨hxl, hxx⟩ := hx
  obtain ⟨hyl, hyy⟩ := hy
  refine okS (fn := Tryz.f65) [] h0 Tryz.func65 (by kernel_rfl) rfl Tryz.ntmps65 Tryz.results65 (by simp) ?_
  simp
  refine brn_app (fun h => ?_) (fun h => ?_)
  · simp at h
    simp
    rintro rfl
    exact h rfl
  · simp at h
    have hl : ys.length = xs.length := by omega
    simp
    refine loopS [1, 2, 15, 16, 17] [] (fun n st => ∃ (i : Nat), i + n = xs.length ∧ (xs.drop i = ys.drop i ↔ xs = ys) ∧ st = ⟨slOf 32 [(1, .t (rd k' ys.length (ys.flatMap (GLeaf.ci k')))), (2, .t (.fn 0 66 [])), (15, .t (rd k xs.length (xs.flatMap (GLeaf.ci k)))), (16, .t (pi xs.length)), (17, .t (pi i))], ofL []⟩) xs.length ?_ ?_
    · rintro Inv hI
      simp
      subst hI
      exact ⟨0, by omega, by simp, rfl⟩
    · rintro Inv hI n st ⟨i, hi, htk, rfl⟩
      refine ewr_sound (M := []) h0 ?_
      simp
      refine brn_app (fun h => ?_) (fun h => ?_)
      · simp at h
        have hib : i < ys.length := by omega
        rw [drop_step xs i h, drop_step ys i hib, List.cons.injEq] at htk
        have hd := fm_drop (GLeaf.ci k) 2 (fun _ => rfl) xs i h
        have hlen := fm_len (GLeaf.ci k) 2 (fun _ => rfl) xs
        have hlt : i * 2 < xs.length * 2 := by omega
        have hd' := fm_drop (GLeaf.ci k') 2 (fun _ => rfl) ys i hib
        have hlen' := fm_len (GLeaf.ci k') 2 (fun _ => rfl) ys
        have hlt' : i * 2 < ys.length * 2 := by omega
        simp [h, hd, hlen, hlt, hib, hd', hlen', hlt']
        refine Inv_intro (ok_sameConfig1 k k' xs[i] ys[i] (hxx _ (List.getElem_mem h)).1.1 (hyy _ (List.getElem_mem hib)).1.1) ?_
        simp
        refine brn_app (fun h2 => ?_) (fun h2 => ?_)
        · simp at h2
          simp
          intro he
          exact h2 (htk.2 he).1
        · simp at h2
          simp
          subst hI
          exact Less_mk (n - 1) (by omega) ⟨i + 1, by omega, ⟨fun h4 => htk.1 ⟨h2, h4⟩, fun h4 => (htk.2 h4).2⟩, by rw [wrNext i (by omega)]⟩
      · simp at h
        rw [List.drop_of_length_le (by omega), List.drop_of_length_le (by omega)] at htk
        simp
        exact htk.1 rfl
theorem ok_sameConfig (k k' : Nat) (xs ys : List GLeaf) (hx : confOK xs) (hy : confOK ys) : CallOK Tryz.prog 30 [.c (rd k xs.length (xs.flatMap (GLeaf.ci k))), .c (rd k' ys.length (ys.flatMap (GLeaf.ci k')))] (.c (pb (decide (xs = ys)))) [.c (rd k xs.length (xs.flatMap (GLeaf.ci k))), .c (rd k' ys.length (ys.flatMap (GLeaf.ci k')))] := by
  refine okS (fn := Tryz.f30) [] h0 Tryz.func30 (by kernel_rfl) rfl Tryz.ntmps30 Tryz.results30 (by simp) ?_
  simp
  refine Inv_intro (ok_EqualFunc_Leaf k k' xs ys hx hy) ?_
  simp
end Go.V
