/- What functions of the seat's program do, each proved of its code, under the bounds that its theorem names. -/
import Derived.Test.YtildjkidohpmbaaGreatTak
set_option linter.all false
namespace Go.V
open Go.Proofs
set_option maxHeartbeats 1000000
set_option maxRecDepth 10000
set_option linter.unusedSimpArgs false
set_option linter.unusedVariables false
def opD (o : GOp) : Prop := pathOK o.Path ∧ o.Value.size ≤ 9
theorem path_nil : pathOK [] := ⟨Nat.zero_le _, fun w hw => absurd hw (by simp)⟩
theorem ok_op (code : List Int) (hc : codeOK code) (a s : Int) (ha : 0 ≤ a) (ha2 : a ≤ 3999900) : ∃ o a' s', opD o ∧ (a ≤ a' ∧ a' ≤ a + 20) ∧ CallOK Tryz.prog 22 [.bp (curP code a s)] (.agg o.co) [.bp (curP code a' s')] := by
  obtain ⟨kd, a1, s1, hk, ha1, h1⟩ := ok_among 0 code hc [1, 1, 1, 2, 3, 4, 5, 6, 7, 8, 8, 8] (by decide) (by decide) a s ha (by omega)
  obtain ⟨o1, a2, s2, ho1, ha2', hph⟩ : ∃ (o1 : GOp) (a2 s2 : Int), opD o1 ∧ (a1 ≤ a2 ∧ a2 ≤ a1 + 8) ∧ ((kd = 1 ∧ ∃ p b t v, o1 = ⟨1, p, v, 0⟩ ∧ CallOK Tryz.prog 49 [.bp (curP code a1 s1)] (.c (.sl 0 9 p.length (p.map ps))) [.bp (curP code b t)] ∧ CallOK Tryz.prog 50 [.bp (curP code b t)] (.c (ps v)) [.bp (curP code a2 s2)]) ∨ (kd = 2 ∧ ∃ p, o1 = ⟨2, p, ⟨#[]⟩, 0⟩ ∧ CallOK Tryz.prog 49 [.bp (curP code a1 s1)] (.c (.sl 0 9 p.length (p.map ps))) [.bp (curP code a2 s2)]) ∨ (kd = 4 ∧ ∃ n, (0 ≤ n ∧ n ≤ 3) ∧ o1 = ⟨4, [], ⟨#[]⟩, 1 + n⟩ ∧ CallOK Tryz.prog 46 [.bp (curP code a1 s1), .c (pi 4)] (.c (pi n)) [.bp (curP code a2 s2), .c (pi 4)]) ∨ (kd = 6 ∧ ∃ n, (0 ≤ n ∧ n ≤ 3) ∧ o1 = ⟨6, [], ⟨#[]⟩, n⟩ ∧ CallOK Tryz.prog 46 [.bp (curP code a1 s1), .c (pi 4)] (.c (pi n)) [.bp (curP code a2 s2), .c (pi 4)]) ∨ (¬ kd = 1 ∧ ¬ kd = 2 ∧ ¬ kd = 4 ∧ ¬ kd = 6 ∧ o1 = ⟨kd, [], ⟨#[]⟩, 0⟩ ∧ a2 = a1 ∧ s2 = s1)) := by
    by_cases k1 : kd = 1
    · obtain ⟨p, b, t, hp, hb, h2⟩ := ok_configPath code hc a1 s1 (by omega) (by omega)
      obtain ⟨v, a2, s2, hv, hb2, h3⟩ := ok_configValue code hc b t (by omega) (by omega)
      exact ⟨_, a2, s2, ⟨hp, hv⟩, by omega, .inl ⟨k1, p, b, t, v, rfl, h2, h3⟩⟩
    · by_cases k2 : kd = 2
      · obtain ⟨p, b, t, hp, hb, h2⟩ := ok_configPath code hc a1 s1 (by omega) (by omega)
        exact ⟨_, b, t, ⟨hp, Nat.zero_le _⟩, by omega, .inr (.inl ⟨k2, p, rfl, h2⟩)⟩
      · by_cases k4 : kd = 4
        · obtain ⟨n, b, t, hn, hb, h2⟩ := ok_pick code hc 4 (by decide) (by decide) a1 s1 (by omega) (by omega)
          exact ⟨_, b, t, ⟨path_nil, Nat.zero_le _⟩, by omega, .inr (.inr (.inl ⟨k4, n, by omega, rfl, h2⟩))⟩
        · by_cases k6 : kd = 6
          · obtain ⟨n, b, t, hn, hb, h2⟩ := ok_pick code hc 4 (by decide) (by decide) a1 s1 (by omega) (by omega)
            exact ⟨_, b, t, ⟨path_nil, Nat.zero_le _⟩, by omega, .inr (.inr (.inr (.inl ⟨k6, n, by omega, rfl, h2⟩)))⟩
          · exact ⟨_, a1, s1, ⟨path_nil, Nat.zero_le _⟩, by omega, .inr (.inr (.inr (.inr ⟨k1, k2, k4, k6, rfl, rfl, rfl⟩)))⟩
  obtain ⟨b, a3, s3, ha3, h40⟩ := ok_one code hc 40 (by decide) (by decide) a2 s2 (by omega) (by omega)
  obtain ⟨o, a4, s4, ho, ha4, hfin⟩ : ∃ (o : GOp) (a4 s4 : Int), opD o ∧ (a3 ≤ a4 ∧ a4 ≤ a3 + 3) ∧ ((b = true ∧ ∃ n b1 t1 m b2 t2 v, o = ⟨n, [], v, m⟩ ∧ CallOK Tryz.prog 46 [.bp (curP code a3 s3), .c (pi 10)] (.c (pi n)) [.bp (curP code b1 t1), .c (pi 10)] ∧ CallOK Tryz.prog 47 [.bp (curP code b1 t1), .c (rd 0 5 ([(-1 : Int), 0, 10, 100, 101].map pi))] (.c (pi m)) [.bp (curP code b2 t2), .c (rd 0 5 ([(-1 : Int), 0, 10, 100, 101].map pi))] ∧ CallOK Tryz.prog 52 [.bp (curP code b2 t2), .c (rd 0 2 ([⟨#[]⟩, ⟨#[120]⟩].map ps))] (.c (ps v)) [.bp (curP code a4 s4), .c (rd 0 2 ([⟨#[]⟩, ⟨#[120]⟩].map ps))]) ∨ (b = false ∧ o = o1 ∧ a4 = a3 ∧ s4 = s3)) := by
    cases b with
    | true =>
      obtain ⟨n, b1, t1, hn, hb1, g1⟩ := ok_pick code hc 10 (by decide) (by decide) a3 s3 (by omega) (by omega)
      obtain ⟨m, b2, t2, hm', hb2, g2⟩ := ok_among 0 code hc [-1, 0, 10, 100, 101] (by decide) (by decide) b1 t1 (by omega) (by omega)
      obtain ⟨v, b3, t3, hv, hb3, g3⟩ := ok_of 0 code hc [⟨#[]⟩, ⟨#[120]⟩] (by decide) (by decide) b2 t2 (by omega) (by omega)
      refine ⟨_, b3, t3, ⟨path_nil, ?_⟩, by omega, .inl ⟨rfl, n, b1, t1, m, b2, t2, v, rfl, g1, g2, g3⟩⟩
      simp only [List.mem_cons, List.not_mem_nil, or_false] at hv
      rcases hv with rfl | rfl
      · show (⟨#[]⟩ : ByteArray).size ≤ 9; decide
      · show (⟨#[120]⟩ : ByteArray).size ≤ 9; decide
    | false => exact ⟨o1, a3, s3, ho1, by omega, .inr ⟨rfl, rfl, rfl, rfl⟩⟩
  refine ⟨o, a4, s4, ho, by omega, ?_⟩
  refine okS (fn := Tryz.f22) [(47, [1]), (49, [1]), (50, [1]), (46, [1]), (51, [1]), (52, [1])] h0 Tryz.func22 (by kernel_rfl) rfl Tryz.ntmps22 Tryz.results22 (by simp) ?_
  unfold curP at h1 hph h40 hfin ⊢
  have hr12 : ([0, 1, 2, 3, 4, 5, 6, 7, 8, 9, 10, 11] : List Nat) = List.range 12 := rfl
  simp [hr12]
  refine Inv_intro h1 ?_
  rcases hph with ⟨rfl, p, b', t', v, rfl, h2, h3⟩ | ⟨rfl, p, rfl, h2⟩ | ⟨rfl, n, hn, rfl, h2⟩ | ⟨rfl, n, hn, rfl, h2⟩ | ⟨k1, k2, k4, k6, rfl, rfl, rfl⟩
  · simp
    refine Inv_intro h2 ?_
    simp
    refine Inv_intro h3 ?_
    simp
    refine Inv_intro h40 ?_
    rcases hfin with ⟨rfl, n', b1, t1, m', b2, t2, v', rfl, g1, g2, g3⟩ | ⟨rfl, rfl, rfl, rfl⟩
    · simp
      refine Inv_intro g1 ?_
      simp
      refine Inv_intro g2 ?_
      simp
      refine Inv_intro g3 ?_
      simp
    · simp
  · simp
    refine Inv_intro h2 ?_
    simp
    refine Inv_intro h40 ?_
    rcases hfin with ⟨rfl, n', b1, t1, m', b2, t2, v', rfl, g1, g2, g3⟩ | ⟨rfl, rfl, rfl, rfl⟩
    · simp
      refine Inv_intro g1 ?_
      simp
      refine Inv_intro g2 ?_
      simp
      refine Inv_intro g3 ?_
      simp
    · simp
      all_goals rfl
  · have w1 : IntKind.i64.wrap (1 + n) = 1 + n := wrap64 (by omega) (by omega)
    simp
    refine Inv_intro h2 ?_
    simp [w1]
    refine Inv_intro h40 ?_
    rcases hfin with ⟨rfl, n', b1, t1, m', b2, t2, v', rfl, g1, g2, g3⟩ | ⟨rfl, rfl, rfl, rfl⟩
    · simp
      refine Inv_intro g1 ?_
      simp
      refine Inv_intro g2 ?_
      simp
      refine Inv_intro g3 ?_
      simp
    · simp
      all_goals rfl
  · simp
    refine Inv_intro h2 ?_
    simp
    refine Inv_intro h40 ?_
    rcases hfin with ⟨rfl, n', b1, t1, m', b2, t2, v', rfl, g1, g2, g3⟩ | ⟨rfl, rfl, rfl, rfl⟩
    · simp
      refine Inv_intro g1 ?_
      simp
      refine Inv_intro g2 ?_
      simp
      refine Inv_intro g3 ?_
      simp
    · simp
      all_goals rfl
  · simp [k1, k2, k4, k6]
    refine Inv_intro h40 ?_
    rcases hfin with ⟨rfl, n', b1, t1, m', b2, t2, v', rfl, g1, g2, g3⟩ | ⟨rfl, rfl, rfl, rfl⟩
    · simp
      refine Inv_intro g1 ?_
      simp
      refine Inv_intro g2 ?_
      simp
      refine Inv_intro g3 ?_
      simp
    · simp
      all_goals rfl
theorem ok_ops (code : List Int) (hc : codeOK code) (a s : Int) (ha : 0 ≤ a) (ha2 : a ≤ 1000) : ∃ (l : List GOp) (a' s' : Int), (l.length ≤ 61 ∧ ∀ o ∈ l, opD o) ∧ (a ≤ a' ∧ a' ≤ a + 1300) ∧ CallOK Tryz.prog 45 [.bp (curP code a s)] (.c (.sl 0 29 l.length (l.flatMap GOp.co))) [.bp (curP code a' s')] := by
  obtain ⟨n0, a1, s1, hn0, ha1, h1⟩ := ok_pick code hc 24 (by decide) (by decide) a s ha (by omega)
  obtain ⟨b, a2, s2, ha2', h2⟩ := ok_one code hc 20 (by decide) (by decide) a1 s1 (by omega) (by omega)
  obtain ⟨N, a3, s3, hN, ha3, hb⟩ : ∃ (N : Nat) (a3 s3 : Int), N ≤ 61 ∧ (a2 ≤ a3 ∧ a3 ≤ a2 + 1) ∧ ((b = true ∧ ∃ n, (0 ≤ n ∧ n ≤ 1) ∧ (N : Int) = 60 + n ∧ CallOK Tryz.prog 46 [.bp (curP code a2 s2), .c (pi 2)] (.c (pi n)) [.bp (curP code a3 s3), .c (pi 2)]) ∨ (b = false ∧ (N : Int) = n0 ∧ a3 = a2 ∧ s3 = s2)) := by
    cases b with
    | true =>
      obtain ⟨n, a3, s3, hn, ha3, h3⟩ := ok_pick code hc 2 (by decide) (by decide) a2 s2 (by omega) (by omega)
      exact ⟨(60 + n).toNat, a3, s3, by omega, ha3, .inl ⟨rfl, n, by omega, by omega, h3⟩⟩
    | false => exact ⟨n0.toNat, a2, s2, by omega, by omega, .inr ⟨rfl, by omega, rfl, rfl⟩⟩
  obtain ⟨run, run0, runI, runR⟩ := exists_run (α := List GOp × Int × Int) N ([], a3, s3) (fun i x => x.1.length = i ∧ (∀ o ∈ x.1, opD o) ∧ a3 ≤ x.2.1 ∧ x.2.1 ≤ a3 + 20 * i)
    (fun x y => ∃ o, y.1 = x.1 ++ [o] ∧ CallOK Tryz.prog 22 [.bp (curP code x.2.1 x.2.2)] (.agg o.co) [.bp (curP code y.2.1 y.2.2)])
    ⟨rfl, by simp, by simp, by simp⟩ (by
      rintro i ⟨p, b, t⟩ hi ⟨g1, g2, g3, g4⟩
      simp only at g1 g2 g3 g4
      obtain ⟨o, b', t', ho, hb', hcall⟩ := ok_op code hc b t (by omega) (by omega)
      refine ⟨(p ++ [o], b', t'), ⟨o, rfl, hcall⟩, by simp [g1], fun v hv => ?_, by simp only; omega, by simp only; omega⟩
      rcases List.mem_append.1 hv with hv | hv
      · exact g2 v hv
      · rw [List.mem_singleton.1 hv]; exact ho)
  obtain ⟨e1, e2, e3, e4⟩ := runI N (Nat.le_refl _)
  refine ⟨(run N).1, (run N).2.1, (run N).2.2, ⟨by omega, e2⟩, by omega, ?_⟩
  refine okS (fn := Tryz.f45) [(46, [1]), (51, [1]), (22, [1])] h0 Tryz.func45 (by kernel_rfl) rfl Tryz.ntmps45 Tryz.results45 (by simp) ?_
  unfold curP at h1 h2 hb runR ⊢
  have wN : IntKind.i64.wrap (N : Int) = (N : Int) := wrap64 (by omega) (by omega)
  simp
  refine Inv_intro h1 ?_
  simp
  refine Inv_intro h2 ?_
  rcases hb with ⟨rfl, n, hn, hNn, h3⟩ | ⟨rfl, rfl, rfl, rfl⟩
  · simp
    refine Inv_intro h3 ?_
    simp [← hNn, wN]
    refine ewp_nil 3 (.op 7 4 0) 29 (by decide) rfl rfl rfl ?_
    refine loopS [0, 3, 4] [.op 7 4 0, .arg 0 0] (fun m st => ∃ (i : Nat), i + m = N ∧ st = ⟨slOf 22 [(0, .ptr ⟨.arg 0 0, []⟩ 0), (3, .ref ⟨.op 7 4 0, []⟩ 0 i), (4, .t (pi m))], ofL [(.op 7 4 0, .sl 0 29 i ((run i).1.flatMap GOp.co)), (.arg 0 0, .sl 0 51 1 [rd 1 code.length (code.map pu), pi (run i).2.1, .raw (.int .u64 (run i).2.2)])]⟩) N ?_ ?_
    · rintro Inv hI
      simp
      subst hI
      exact ⟨0, by omega, by rw [run0]; rfl⟩
    · rintro Inv hI m st ⟨i, hi, rfl⟩
      refine ewr_sound (M := [(46, [1]), (51, [1]), (22, [1])]) h0 ?_
      by_cases c : 0 < m
      · obtain ⟨f1, _⟩ := runI i (by omega)
        obtain ⟨w, g1, hcall⟩ := runR i (by omega)
        have c' : (0 : Int) < (m : Int) := by omega
        have w2 : IntKind.i64.wrap ((m : Int) - 1) = ((m - 1 : Nat) : Int) := by rw [wrap64 (by omega) (by omega)]; omega
        have hb1 : (i + 1) * 56 ≤ 140737488355328 := by omega
        have hb2 : i ≤ 9223372036854775806 := by omega
        have hml : ((run i).1.flatMap GOp.co).length = i * 4 := by rw [fm_len GOp.co 4 (fun _ => rfl), f1]
        have hmt : List.take (i * 4) ((run i).1.flatMap GOp.co) = (run i).1.flatMap GOp.co := List.take_of_length_le (by omega)
        simp [c, c']
        refine Inv_intro hcall ?_
        simp [f1, hb1, hb2, hml, hmt, w2]
        subst hI
        refine Less_mk (m - 1) (by omega) ⟨i + 1, by omega, ?_⟩
        rw [g1]
        simp
      · have hm0 : m = 0 := by omega
        have hiN : i = N := by omega
        subst hm0
        subst hiN
        have hml : ((run i).1.flatMap GOp.co).length = i * 4 := by rw [fm_len GOp.co 4 (fun _ => rfl), e1]
        have hmt : List.take (i * 4) ((run i).1.flatMap GOp.co) = (run i).1.flatMap GOp.co := List.take_of_length_le (by omega)
        simp [e1, hml, hmt]

  · simp
    refine ewp_nil 3 (.op 7 4 0) 29 (by decide) rfl rfl rfl ?_
    refine loopS [0, 3, 4] [.op 7 4 0, .arg 0 0] (fun m st => ∃ (i : Nat), i + m = N ∧ st = ⟨slOf 22 [(0, .ptr ⟨.arg 0 0, []⟩ 0), (3, .ref ⟨.op 7 4 0, []⟩ 0 i), (4, .t (pi m))], ofL [(.op 7 4 0, .sl 0 29 i ((run i).1.flatMap GOp.co)), (.arg 0 0, .sl 0 51 1 [rd 1 code.length (code.map pu), pi (run i).2.1, .raw (.int .u64 (run i).2.2)])]⟩) N ?_ ?_
    · rintro Inv hI
      simp
      subst hI
      exact ⟨0, by omega, by rw [run0]; rfl⟩
    · rintro Inv hI m st ⟨i, hi, rfl⟩
      refine ewr_sound (M := [(46, [1]), (51, [1]), (22, [1])]) h0 ?_
      by_cases c : 0 < m
      · obtain ⟨f1, _⟩ := runI i (by omega)
        obtain ⟨w, g1, hcall⟩ := runR i (by omega)
        have c' : (0 : Int) < (m : Int) := by omega
        have w2 : IntKind.i64.wrap ((m : Int) - 1) = ((m - 1 : Nat) : Int) := by rw [wrap64 (by omega) (by omega)]; omega
        have hb1 : (i + 1) * 56 ≤ 140737488355328 := by omega
        have hb2 : i ≤ 9223372036854775806 := by omega
        have hml : ((run i).1.flatMap GOp.co).length = i * 4 := by rw [fm_len GOp.co 4 (fun _ => rfl), f1]
        have hmt : List.take (i * 4) ((run i).1.flatMap GOp.co) = (run i).1.flatMap GOp.co := List.take_of_length_le (by omega)
        simp [c, c']
        refine Inv_intro hcall ?_
        simp [f1, hb1, hb2, hml, hmt, w2]
        subst hI
        refine Less_mk (m - 1) (by omega) ⟨i + 1, by omega, ?_⟩
        rw [g1]
        simp
      · have hm0 : m = 0 := by omega
        have hiN : i = N := by omega
        subst hm0
        subst hiN
        have hml : ((run i).1.flatMap GOp.co).length = i * 4 := by rw [fm_len GOp.co 4 (fun _ => rfl), e1]
        have hmt : List.take (i * 4) ((run i).1.flatMap GOp.co) = (run i).1.flatMap GOp.co := List.take_of_length_le (by omega)
        simp [e1, hml, hmt]


theorem ok_sGoodStore (k : Nat) (s : GStore) (hs : storeOK s) : CallOK Tryz.prog 9 [.agg (GStore.ci k s)] (.c (pb (goodS s))) [.agg (GStore.ci k s)] := by
  obtain ⟨h1, h2, h3, h4⟩ := hs
  refine okS (fn := Tryz.f9) [] h0 Tryz.func9 (by kernel_rfl) rfl Tryz.ntmps9 Tryz.results9 (by simp) ?_
  simp
  refine loopS [1, 6, 7, 8] [.op 0 0 0] (fun n st => ∃ (i : Nat), i + n = s.History.length ∧ (s.History.drop i).all goodC = s.History.all goodC ∧ st = ⟨slOf 50 [(1, .ptr ⟨.op 0 0 0, []⟩ 0), (6, .t (rd k s.History.length (s.History.map (cLeafSi k)))), (7, .t (pi s.History.length)), (8, .t (pi i))], ofL [(.op 0 0 0, .sl 0 26 1 (GStore.ci k s))]⟩) s.History.length ?_ ?_
  · rintro Inv hI
    simp
    subst hI
    exact ⟨0, by omega, rfl, rfl⟩
  · rintro Inv hI n st ⟨i, hi, hall, rfl⟩
    refine ewr_sound (M := []) h0 ?_
    simp
    refine brn_app (fun a => ?_) (fun a => ?_)
    · simp at a
      rw [drop_step _ i a, List.all_cons] at hall
      simp [a]
      refine Inv_intro (ok_sGoodConfig k s.History[i] (h4 _ (List.getElem_mem a))) ?_
      simp
      refine brn_app (fun b => ?_) (fun b => ?_)
      · simp at b
        rw [b, Bool.false_and] at hall
        have eg : goodS s = false := by
          unfold goodS
          rw [← hall]
          simp
        simp [eg]
      · simp at b
        rw [b, Bool.true_and] at hall
        simp
        subst hI
        exact Less_mk (n - 1) (by omega) ⟨i + 1, by omega, hall, by rw [wrNext i (by omega)]; rfl⟩
    · simp at a
      rw [List.drop_of_length_le (by omega), List.all_nil] at hall
      simp
      refine Inv_intro (ok_sGoodConfig k s.Candidate h1) ?_
      simp
      cases c1 : goodC s.Candidate with
      | false => simp [goodS, c1]
      | true =>
        simp
        refine Inv_intro (ok_sGoodConfig k s.Running h2) ?_
        simp
        cases c2 : goodC s.Running with
        | false => simp [goodS, c2]
        | true =>
          simp
          refine Inv_intro (ok_l1In _ _ _) ?_
          simp
          by_cases c3 : (1 : Int) ≤ s.History.length ∧ (s.History.length : Int) ≤ 10
          · simp [c3.1, c3.2]
            refine Inv_intro (ok_l1In _ _ _) ?_
            simp
            by_cases c5 : 0 ≤ s.Left ∧ s.Left ≤ 100
            · obtain ⟨l, t, e⟩ : ∃ l t, s.History = l :: t := by
                cases hh : s.History with
                | nil => rw [hh] at c3; simp at c3
                | cons l t => exact ⟨l, t, rfl⟩
              have hl : confOK l := h4 l (by rw [e]; simp)
              have hc := head_cells k s.History l t e
              have hlen : 0 < s.History.length := by rw [e]; simp
              have eg : goodS s = (decide (s.Left = 0) == decide (s.Running = l)) := by
                unfold goodS
                rw [c1, c2, ← hall, decide_eq_true c3, decide_eq_true c5, e]
                simp
              simp [c5.1, c5.2]
              refine drawP (tabEnv [] _) [⟨[.op 0 0 0], allD 50, true⟩, ⟨[.op 0 0 0], allD 50, true⟩, ⟨[], allD 50, true⟩, ⟨[.op 0 0 0], allD 50, true⟩, ⟨[.op 0 0 0], allD 50, true⟩, ⟨[.op 0 0 0], allD 50, true⟩, ⟨[.op 0 0 0], allD 50, true⟩, ⟨[], allD 50, true⟩, ⟨[], allD 50, true⟩, ⟨[], allD 50, false⟩, ⟨[], allD 50, true⟩, ⟨[], allD 50, true⟩] h0 hm (tabEnv_ok (tab_cons (ok_l16Same k k s.Running l h2 hl) tab_nil)) (by kernel_rfl) (by kernel_rfl) ?_
              simp [hc, hlen, eg]
            · have eg : goodS s = false := by
                unfold goodS
                rw [decide_eq_false c5]
                simp
              have c5' : (decide (0 ≤ s.Left) && decide (s.Left ≤ 100)) = false := by simpa using c5
              have c5b : (!decide (0 ≤ s.Left) || !decide (s.Left ≤ 100)) = true := by rw [← Bool.not_and, c5']; rfl
              simp [c5', c5b, eg]
          · have eg : goodS s = false := by
              unfold goodS
              rw [decide_eq_false c3]
              simp
            have c3' : (decide ((1 : Int) ≤ s.History.length) && decide ((s.History.length : Int) ≤ 10)) = false := by simpa using c3
            have c3b : (!decide ((1 : Int) ≤ s.History.length) || !decide ((s.History.length : Int) ≤ 10)) = true := by rw [← Bool.not_and, c3']; rfl
            simp [c3', c3b, eg]
theorem store_ok {s : GStore} (h : GStore.wt s ≤ 1048576) : storeOK s := by
  unfold GStore.wt at h
  exact ⟨conf_ok (by omega), conf_ok (by omega), by have := len_wt_LeafSS s.History; omega, fun l hl => conf_ok (by have := mem_wt_LeafSS hl; omega)⟩
def rGoodStore (v0 : GStore) : Bool := goodS v0
theorem law_iGoodStore (v0 : GStore) (h0 : GStore.wt v0 ≤ 1048576) : CallOK Tryz.prog 8 [.agg (GStore.ci 0 v0)] (.c (pb (rGoodStore v0))) [.agg (GStore.ci 0 v0)] := ok_iGoodStore 0 v0 (store_ok h0)
theorem law_sGoodStore (v0 : GStore) (h0 : GStore.wt v0 ≤ 1048576) : CallOK Tryz.prog 9 [.agg (GStore.ci 0 v0)] (.c (pb (rGoodStore v0))) [.agg (GStore.ci 0 v0)] := ok_sGoodStore 0 v0 (store_ok h0)
theorem ok_l16Own (k : Nat) (s : GStore) (hs : storeB s) : CallOK Tryz.prog 25 [.agg (GStore.ci k s)] (.agg s.co) [.agg (GStore.ci k s)] := by
  obtain ⟨b1, b2, b3, b4⟩ := hs
  refine okS (fn := Tryz.f25) [] h0 Tryz.func25 (by kernel_rfl) rfl Tryz.ntmps25 Tryz.results25 (by simp) ?_
  simp
  have hE := f2_at2 (a1 := [PV.c (rd k s.Candidate.length (s.Candidate.flatMap (GLeaf.ci k)))]) (a2 := [PV.c (rd k s.Running.length (s.Running.flatMap (GLeaf.ci k)))]) (r1 := .c (.sl 0 58 s.Candidate.length (s.Candidate.flatMap GLeaf.co))) (r2 := .c (.sl 0 58 s.Running.length (s.Running.flatMap GLeaf.co))) (fun e => by
    simp only [List.cons.injEq, PV.c.injEq, rd, PT.sl.injEq, and_true, true_and] at e
    rw [ci_inj e.2])
  refine drawP (fnEnv 41 (f2 [PV.c (rd k s.Candidate.length (s.Candidate.flatMap (GLeaf.ci k)))] [PV.c (rd k s.Running.length (s.Running.flatMap (GLeaf.ci k)))] (.c (.sl 0 58 s.Candidate.length (s.Candidate.flatMap GLeaf.co))) (.c (.sl 0 58 s.Running.length (s.Running.flatMap GLeaf.co)))) (tabEnv [] [])) [⟨[.op 0 0 0], allD 31, true⟩, ⟨[.op 0 0 0], allD 31, true⟩, ⟨[], allD 31, false⟩, ⟨[.op 0 0 0], allD 31, true⟩, ⟨[.op 0 0 0], allD 31, true⟩, ⟨[], allD 31, false⟩, ⟨[.op 0 0 0], allD 31, true⟩, ⟨[.op 0 0 0], allD 31, true⟩, ⟨[.op 1 2 0, .op 1 5 0], allD 31, true⟩, ⟨[], allD 31, false⟩, ⟨[.op 1 9 0, .op 1 2 0, .op 1 5 0], [6, 7, 8, 9, 10, 11, 12, 13, 14, 3], false⟩] h0 hm (fnEnv_ok (tabEnv_ok tab_nil) (f2_ok (ok_l15Own k s.Candidate b1.1 (fun x hx => (b1.2 x hx).1)) (ok_l15Own k s.Running b2.1 (fun x hx => (b2.2 x hx).1)))) (by kernel_rfl) (by kernel_rfl) ?_
  simp [f2_at1, hE]
  refine loopS [2, 3, 16, 17, 18] [.op 1 9 0, .op 0 1 0] (fun m st => ∃ (i : Nat), i + m = s.History.length ∧ st = ⟨slOf 31 [(2, .ptr ⟨.op 0 1 0, []⟩ 0), (3, .ptr ⟨.op 1 9 0, []⟩ 0), (16, .t (rd k s.History.length (s.History.map (cLeafSi k)))), (17, .t (pi s.History.length)), (18, .t (pi i))], ofL [(.op 1 9 0, .sl 0 26 1 [.sl 0 58 s.Candidate.length (s.Candidate.flatMap GLeaf.co), .sl 0 58 s.Running.length (s.Running.flatMap GLeaf.co), (if i = 0 then .sl 0 nilE 0 [] else .sl 0 23 i ((s.History.take i).map cLeafSo)), pi s.Left]), (.op 0 1 0, .sl 0 26 1 [.sl 0 nilE 0 [], .sl 0 nilE 0 [], .sl 0 nilE 0 [], pi 0])]⟩) s.History.length ?_ ?_
  · rintro Inv hI
    simp
    subst hI
    exact ⟨0, by omega, rfl⟩
  · rintro Inv hI m st ⟨i, hi, rfl⟩
    have hts0 : ∀ a : i < s.History.length, (s.History.take (i + 1)).map cLeafSo = (s.History.take i).map cLeafSo ++ [cLeafSo s.History[i]] := fun a => by rw [take_step _ i a, List.map_append]; rfl
    have hln0 : i ≤ s.History.length → ((s.History.take i).map cLeafSo).length = i := fun h => by simp; omega
    have hfin : i = s.History.length → (s.History.take i).map cLeafSo = s.History.map cLeafSo := by rintro rfl; rw [List.take_length]
    have hA0 : i = 0 → (s.History.take i).map cLeafSo = [] := by rintro rfl; rfl
    generalize (s.History.take i).map cLeafSo = A at hts0 hln0 hfin hA0 ⊢
    refine ewr_sound (M := []) h0 ?_
    simp
    refine brn_app (fun a => ?_) (fun a => ?_)
    · simp at a
      have hts := hts0 a
      have hln := hln0 (by omega)
      have hb := b4 _ (List.getElem_mem a)
      have hb1 : (i + 1) * 24 ≤ 140737488355328 := by omega
      have hb2 : i + 1 ≤ 9223372036854775807 := by omega
      simp [a]
      by_cases hi0 : i = 0
      · subst hi0
        simp
        refine drawP (tabEnv [] _) [⟨[.op 1 9 0], allD 31, true⟩, ⟨[.op 1 9 0], allD 31, true⟩, ⟨[], allD 31, true⟩, ⟨[], allD 31, false⟩, ⟨[.op 5 3 0], [22, 23, 24, 25, 26, 27, 28], false⟩, ⟨[.op 1 9 0, .op 5 3 0, .op 5 4 0], [22, 23, 24, 25, 26, 27, 28], false⟩, ⟨[.op 1 9 0], allD 31, true⟩, ⟨[.op 1 9 0, .op 5 4 0, .op 5 5 0], [22, 23, 24, 25, 26, 27, 28], false⟩] h0 hm (tabEnv_ok (tab_cons (ok_l15Own k s.History[0] hb.1 (fun x hx => (hb.2 x hx).1)) tab_nil)) (by kernel_rfl) (by kernel_rfl) ?_
        simp
        subst hI
        refine Less_mk (m - 1) (by omega) ⟨0 + 1, by omega, ?_⟩
        rw [if_neg (by omega), hts, hA0 rfl]
        rfl
      · simp [hi0]
        refine drawP (tabEnv [] _) [⟨[.op 1 9 0], allD 31, true⟩, ⟨[.op 1 9 0], allD 31, true⟩, ⟨[], allD 31, true⟩, ⟨[], allD 31, false⟩, ⟨[.op 5 3 0], [22, 23, 24, 25, 26, 27, 28], false⟩, ⟨[.op 1 9 0, .op 5 3 0, .op 5 4 0, .op 5 5 0], [22, 23, 24, 25, 26, 27, 28], false⟩, ⟨[.op 1 9 0], allD 31, true⟩, ⟨[.op 1 9 0, .op 5 4 0, .op 5 5 0], [22, 23, 24, 25, 26, 27, 28], false⟩] h0 hm (tabEnv_ok (tab_cons (ok_l15Own k s.History[i] hb.1 (fun x hx => (hb.2 x hx).1)) tab_nil)) (by kernel_rfl) (by kernel_rfl) ?_
        have ht : A.take i = A := List.take_of_length_le (by omega)
        simp [hln, hb1, hb2, ht]
        subst hI
        refine Less_mk (m - 1) (by omega) ⟨i + 1, by omega, ?_⟩
        rw [if_neg (by omega), hts, wrNext i (by omega)]
    · simp at a
      have hin : i = s.History.length := by omega
      by_cases hi0 : i = 0
      · subst hi0
        have : s.History = [] := List.length_eq_zero_iff.1 hin.symm
        simp [this]
      · have hfin := hfin hin
        subst hin
        simp [hi0, hfin]
theorem ok_iStepStore (k k' : Nat) (v0 : GStore) (v1 : GOp) (hw0 : GStore.wt v0 ≤ 1048576) (hw1 : GOp.wt v1 ≤ 1048576) : CallOK Tryz.prog 5 [.agg (GStore.ci k v0), .agg (GOp.ci k' v1)] (.tup [.agg (rStepStore v0 v1).1.co, .c (pb (rStepStore v0 v1).2)]) [.agg (GStore.ci k v0), .agg (GOp.ci k' v1)] := by
  refine okS (fn := Tryz.f5) [] h0 Tryz.func5 (by kernel_rfl) rfl Tryz.ntmps5 Tryz.results5 (by simp) ?_
  simp
  refine Inv_intro (ok_iGoodStore k v0 (store_ok hw0)) ?_
  simp
  cases c1 : goodS v0 with
  | false => simp [rStepStore, c1, zeroS]
  | true =>
    obtain ⟨i1, i2, i3, i4, i5, i6⟩ := goodS_inv c1
    simp
    refine Inv_intro (ok_stepStore k k' v0 v1 (wt_storeB hw0) (fun e => by rw [e] at i3; simp at i3) i6 i4 (wt_opOK hw1)) ?_
    have er : rStepStore v0 v1 = if (stepI v0 v1).2 = true then ((stepI v0 v1).1, true) else (zeroS, false) := by simp [rStepStore, c1]
    rw [er]
    generalize stepI v0 v1 = S
    obtain ⟨S1, S2⟩ := S
    cases S2 with
    | false => simp [zeroS]
    | true => simp
theorem law_iStepStore (v0 : GStore) (v1 : GOp) (hw0 : GStore.wt v0 ≤ 1048576) (hw1 : GOp.wt v1 ≤ 1048576) : CallOK Tryz.prog 5 [.agg (GStore.ci 0 v0), .agg (GOp.ci 0 v1)] (.tup [.agg (rStepStore v0 v1).1.co, .c (pb (rStepStore v0 v1).2)]) [.agg (GStore.ci 0 v0), .agg (GOp.ci 0 v1)] := ok_iStepStore 0 0 v0 v1 hw0 hw1
theorem law_sStepStore (v0 : GStore) (v1 : GOp) (hw0 : GStore.wt v0 ≤ 1048576) (hw1 : GOp.wt v1 ≤ 1048576) : CallOK Tryz.prog 6 [.agg (GStore.ci 0 v0), .agg (GOp.ci 0 v1)] (.tup [.agg (rStepStore v0 v1).1.co, .c (pb (rStepStore v0 v1).2)]) [.agg (GStore.ci 0 v0), .agg (GOp.ci 0 v1)] := by
  refine okS (fn := Tryz.f6) [(24, [2,0])] h0 Tryz.func6 (by kernel_rfl) rfl Tryz.ntmps6 Tryz.results6 (by simp) ?_
  simp
  refine Inv_intro (ok_sGoodStore 0 v0 (store_ok hw0)) ?_
  simp
  cases c1 : goodS v0 with
  | false => simp [rStepStore, c1, zeroS]
  | true =>
    have hinv := goodS_inv c1
    obtain ⟨i1, i2, i3, i4, i5, i6⟩ := goodS_inv c1
    simp
    refine drawP (tabEnv [(24, [2, 0])] _) [⟨[.op 0 0 0], allD 24, true⟩, ⟨[], allD 24, false⟩, ⟨[.op 0 1 0], allD 24, true⟩, ⟨[.op 3 1 0, .op 3 1 1, .op 3 1 2], [13, 14, 15, 16, 12, 17, 18, 6, 7], false⟩, ⟨[.op 3 3 0, .op 3 3 1, .op 3 3 2], allD 24, true⟩, ⟨[.op 3 3 0, .op 3 3 1, .op 3 3 2], allD 24, true⟩, ⟨[], allD 24, true⟩, ⟨[], allD 24, false⟩, ⟨[.op 3 7 0, .op 3 3 0, .op 3 3 1, .op 3 3 2], [13, 14, 15, 16, 12, 17, 18, 6, 7], false⟩, ⟨[], allD 24, true⟩] h0 hm (tabEnv_ok (tab_cons (ok_l16Own 0 v0 (wt_storeB hw0)) (tab_cons (ok_l16Step 0 v0 v1 (wt_storeB hw0) (fun e => by rw [e] at i3; simp at i3) i6 i4 (wt_opOK hw1)) tab_nil))) (by kernel_rfl) (by kernel_rfl) ?_
    simp
    obtain ⟨a1, a2⟩ := step_agree v1 hinv
    have er : rStepStore v0 v1 = if (stepSp v0 v1).2 = true then ((stepSp v0 v1).1, true) else (zeroS, false) := by
      rw [a1]
      by_cases c : (stepI v0 v1).2 = true
      · simp [rStepStore, c1, c, a2 c]
      · simp [rStepStore, c1, c]
    have hgood : (stepSp v0 v1).2 = true → storeB (stepSp v0 v1).1 := fun h => by
      rw [a1] at h
      rw [a2 h]
      exact wt_storeB (invS_wt (step_inv hinv h))
    rw [er]
    generalize stepSp v0 v1 = S at hgood ⊢
    obtain ⟨S1, S2⟩ := S
    cases S2 with
    | false => simp [zeroS]
    | true =>
      simp
      refine Inv_intro (ok_l16Own 0 S1 (hgood rfl)) ?_
      simp
theorem beg_mid : ∀ a b c : List ByteArray, lessP a b = true → lessP b c = true → begP a c = true → begP a b = true
  | [], _, _, _, _, _ => rfl
  | _ :: _, [], _, h, _, _ => by simp [lessP] at h
  | _ :: _, _ :: _, [], _, _, h => by simp [begP] at h
  | x :: us, y :: vs, z :: ws, h1, h2, h3 => by
    simp only [begP, Bool.and_eq_true, decide_eq_true_eq] at h3 ⊢
    obtain ⟨rfl, h3⟩ := h3
    unfold lessP at h1 h2
    by_cases e : x = y
    · subst e
      rw [if_pos rfl] at h1 h2
      exact ⟨rfl, beg_mid us vs ws h1 h2 h3⟩
    · rw [if_neg e] at h1
      rw [if_neg (Ne.symm e)] at h2
      have := sLt_trans h1 h2
      rw [sl_irr] at this
      cases this
def apartP (a b : List ByteArray) : Prop := lessP a b = true ∧ begP a b = false
theorem goodG_pw : ∀ (l : List GLeaf) (q : Option GLeaf), goodG q l = true → l.Pairwise (fun x y => apartP x.Path y.Path) ∧ ∀ y, q = some y → ∀ x ∈ l, apartP y.Path x.Path
  | [], _, _ => by simp
  | x :: l, q, h => by
    simp only [goodG, Bool.and_eq_true] at h
    obtain ⟨⟨h1, h2⟩, h3⟩ := h
    obtain ⟨g1, g2⟩ := goodG_pw l (some x) h3
    have g3 := g2 x rfl
    refine ⟨List.pairwise_cons.2 ⟨g3, g1⟩, fun y hy z hz => ?_⟩
    subst hy
    simp only [adjC, Bool.and_eq_true, Bool.not_eq_true'] at h2
    rcases List.mem_cons.1 hz with rfl | hz
    · exact h2
    · obtain ⟨g4, g5⟩ := g3 z hz
      refine ⟨lessP_trans _ _ _ h2.1 g4, ?_⟩
      cases hb : begP y.Path z.Path with
      | false => rfl
      | true => rw [beg_mid _ _ _ h2.1 g4 hb] at h2; exact h2.2
theorem goodG_of : ∀ (l : List GLeaf) (q : Option GLeaf), (∀ x ∈ l, okLeaf x = true) → l.Pairwise (fun x y => apartP x.Path y.Path) → (∀ y, q = some y → ∀ x ∈ l, apartP y.Path x.Path) → goodG q l = true
  | [], _, _, _, _ => rfl
  | x :: l, q, ho, hp, hq => by
    obtain ⟨h1, h2⟩ := List.pairwise_cons.1 hp
    simp only [goodG, Bool.and_eq_true]
    refine ⟨⟨ho x (by simp), ?_⟩, goodG_of l (some x) (fun y hy => ho y (by simp [hy])) h2 fun y hy z hz => by cases hy; exact h1 z hz⟩
    cases q with
    | none => rfl
    | some y =>
      obtain ⟨g1, g2⟩ := hq y rfl x (by simp)
      simp [adjC, g1, g2]
theorem goodC_filter {l : List GLeaf} (h : goodC l = true) (f : GLeaf → Bool) : goodC (l.filter f) = true := by
  have ho := goodC_all h
  simp only [goodC, Bool.and_eq_true, decide_eq_true_eq] at h ⊢
  refine ⟨goodG_of _ none (fun x hx => ho x (List.mem_filter.1 hx).1) ((goodG_pw l none h.1).1.filter _) (fun y hy => by cases hy), ?_⟩
  exact Nat.le_trans (List.length_filter_le _ _) h.2
def firstC : List GLeaf := [⟨[⟨#[118, 101, 114, 115, 105, 111, 110]⟩], ⟨#[48]⟩⟩]
theorem ok_ifirst : CallOK Tryz.prog 42 [] (.c (.sl 0 58 1 (firstC.flatMap GLeaf.co))) [] := by
  refine okS (fn := Tryz.f42) [] h0 Tryz.func42 (by kernel_rfl) rfl Tryz.ntmps42 Tryz.results42 (by simp) ?_
  simp [firstC]
theorem ok_sfirst : CallOK Tryz.prog 43 [] (.c (.sl 0 58 1 (firstC.flatMap GLeaf.co))) [] := by
  refine okS (fn := Tryz.f43) [] h0 Tryz.func43 (by kernel_rfl) rfl Tryz.ntmps43 Tryz.results43 (by simp) ?_
  simp [firstC]
theorem firstC_len : firstC.length = 1 := rfl
theorem firstC_take : List.take 2 (firstC.flatMap GLeaf.co) = firstC.flatMap GLeaf.co := rfl
def rNewStore : GStore := ⟨firstC, firstC, [firstC], 0⟩
theorem ok_iNewStore : CallOK Tryz.prog 19 [] (.agg (GStore.co rNewStore)) [] := by
  refine okS (fn := Tryz.f19) [] h0 Tryz.func19 (by kernel_rfl) rfl Tryz.ntmps19 Tryz.results19 (by simp) ?_
  simp
  refine Inv_intro ok_ifirst ?_
  simp
  refine Inv_intro ok_ifirst ?_
  simp
  refine Inv_intro ok_ifirst ?_
  simp [firstC_len, firstC_take, rNewStore]
theorem ok_sNewStore : CallOK Tryz.prog 20 [] (.agg (GStore.co rNewStore)) [] := by
  refine okS (fn := Tryz.f20) [] h0 Tryz.func20 (by kernel_rfl) rfl Tryz.ntmps20 Tryz.results20 (by simp) ?_
  simp
  refine Inv_intro ok_sfirst ?_
  simp
  refine Inv_intro ok_sfirst ?_
  simp
  refine Inv_intro ok_sfirst ?_
  simp [firstC_len, firstC_take, rNewStore]
theorem law_iNewStore : CallOK Tryz.prog 19 [] (.agg (GStore.co rNewStore)) [] := ok_iNewStore
theorem law_sNewStore : CallOK Tryz.prog 20 [] (.agg (GStore.co rNewStore)) [] := ok_sNewStore
theorem firstC_ok : lens_LeafS firstC := lens_of_LeafS (by decide)
theorem rNewStore_ok : rNewStore.lens ∧ GStore.cnT rNewStore ≤ 1152921504606846976 := by
  refine ⟨lens_of_Store (by decide), ?_⟩
  exact Nat.le_trans (cn_le_Store rNewStore) (by decide)
end Go.V
