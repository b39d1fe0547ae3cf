/- What functions of the seat's program do, each proved of its code, under the bounds that its theorem names. -/
import Derived.Test.YtildjkidohpmbaaTah
set_option linter.all false
namespace Go.V
open Go.Proofs
set_option maxHeartbeats 1000000
set_option maxRecDepth 10000
set_option linter.unusedSimpArgs false
set_option linter.unusedVariables false
def leafD (x : GLeaf) : Prop := pathOK x.Path ∧ x.Value.size ≤ 9
def confD (l : List GLeaf) : Prop := l.length ≤ 30 ∧ ∀ x ∈ l, leafD x
theorem leafD_wt {x : GLeaf} (h : leafD x) : GLeaf.wt x ≤ 100 := by
  obtain ⟨⟨h1, h2⟩, h3⟩ := h
  have h4 : wtR ByteArray.size x.Path ≤ x.Path.length * (9 + 1) := wtR_leC ByteArray.size 9 x.Path h2
  unfold GLeaf.wt
  show wtR ByteArray.size x.Path + x.Value.size ≤ 100
  omega
theorem confD_wt {l : List GLeaf} (h : confD l) : wt_LeafS l ≤ 4000 := by
  have := wtR_leC GLeaf.wt 100 l fun x hx => leafD_wt (h.2 x hx)
  have h1 := h.1
  show wtR GLeaf.wt l ≤ 4000
  omega
theorem path_ok {p : List ByteArray} (h : pathOK p) : strsOK p := ⟨by have := h.1; omega, fun s hs => by have := h.2 s hs; omega⟩
theorem confD_set {l : List GLeaf} {p : List ByteArray} {v : ByteArray} (h : confD l) (hp : pathOK p) (hv : v.size ≤ 9) (hs : (rSetAt l p v).2 = true) : confD (rSetAt l p v).1 := by
  unfold rSetAt at hs ⊢
  split at hs
  · rename_i hg
    rw [if_pos hg]
    simp only [Bool.and_eq_true] at hg
    have hg2 := hg.2
    simp only [goodC, Bool.and_eq_true, decide_eq_true_eq] at hg2
    refine ⟨hg2.2, fun x hx => ?_⟩
    rcases putL_mem hx with rfl | hx
    · exact ⟨hp, hv⟩
    · exact h.2 x (List.mem_filter.1 hx).1
  · cases hs
def setL_ (l : List GLeaf) (p : List ByteArray) (v : ByteArray) : List GLeaf := if (rSetAt l p v).2 = true then (rSetAt l p v).1 else l
theorem fm_set2 (L : List GLeaf) (k : Nat) (hk : k < L.length) (y : GLeaf) : (L.set k y).flatMap GLeaf.co = (L.flatMap GLeaf.co).take (k * 2) ++ (GLeaf.co y ++ (L.flatMap GLeaf.co).drop (k * 2 + 2)) := by
  have e1 := fm_takeE GLeaf.co 2 (fun _ => rfl) L k (by omega)
  have e2 := fm_dropE GLeaf.co 2 (fun _ => rfl) L (k + 1) (by omega)
  have e3 : (k + 1) * 2 = k * 2 + 2 := by omega
  rw [e3] at e2
  rw [e1, e2, List.set_eq_take_append_cons_drop, if_pos hk, List.flatMap_append, List.flatMap_cons]
theorem fm_setV (L : List GLeaf) (k : Nat) (hk : k < L.length) (v : ByteArray) : (L.set k ⟨L[k].Path, v⟩).flatMap GLeaf.co = (L.flatMap GLeaf.co).take (k * 2 + 1) ++ ps v :: (L.flatMap GLeaf.co).drop (k * 2 + 1 + 1) := by
  rw [fm_set2 L k hk]
  have hd := fm_drop GLeaf.co 2 (fun _ => rfl) L k hk
  have e : (L.flatMap GLeaf.co).take (k * 2 + 1) = (L.flatMap GLeaf.co).take (k * 2) ++ [.sl 0 9 L[k].Path.length (L[k].Path.map ps)] := by
    rw [List.take_add, hd]
    rfl
  rw [e]
  simp [GLeaf.co]
theorem fm_setP (L : List GLeaf) (k : Nat) (hk : k < L.length) (p : List ByteArray) : (L.set k ⟨p, L[k].Value⟩).flatMap GLeaf.co = (L.flatMap GLeaf.co).take (k * 2) ++ .sl 0 9 p.length (p.map ps) :: (L.flatMap GLeaf.co).drop (k * 2 + 1) := by
  rw [fm_set2 L k hk]
  have hd := fm_drop GLeaf.co 2 (fun _ => rfl) L k hk
  have e : (L.flatMap GLeaf.co).drop (k * 2 + 1) = ps L[k].Value :: (L.flatMap GLeaf.co).drop (k * 2 + 2) := by
    rw [← List.drop_drop, hd]
    have e3 : (k + 1) * 2 = k * 2 + 2 := by omega
    rw [e3]
    rfl
  rw [e]
  simp [GLeaf.co]
theorem ok_config (code : List Int) (hc : codeOK code) (a s : Int) (ha : 0 ≤ a) (ha2 : a ≤ 100000) : ∃ (l : List GLeaf) (a' s' : Int), confD l ∧ (a ≤ a' ∧ a' ≤ a + 400) ∧ CallOK Try.prog 76 [.bp (curP code a s)] (.c (.sl 0 103 l.length (l.flatMap GLeaf.co))) [.bp (curP code a' s')] := by
  obtain ⟨n0, a1, s1, hn0, ha1, h1⟩ := ok_pick code hc 9 (by decide) (by decide) a s ha (by omega)
  obtain ⟨b, a2, s2, ha2', h2⟩ := ok_one code hc 12 (by decide) (by decide) a1 s1 (by omega) (by omega)
  obtain ⟨N, hN, hNn⟩ : ∃ N : Nat, N ≤ 40 ∧ (N : Int) = if b = true then 40 else n0 := by
    cases b with
    | true => exact ⟨40, by omega, rfl⟩
    | false => exact ⟨n0.toNat, by omega, by simp; omega⟩
  obtain ⟨run, run0, runI, runR⟩ := exists_run (α := List GLeaf × Int × Int) N ([], a2, s2) (fun i x => confD x.1 ∧ a2 ≤ x.2.1 ∧ x.2.1 ≤ a2 + 8 * i)
    (fun x y => ∃ p v b t, pathOK p ∧ v.size ≤ 9 ∧ y.1 = setL_ x.1 p v ∧ CallOK Try.prog 78 [.bp (curP code x.2.1 x.2.2)] (.c (.sl 0 9 p.length (p.map ps))) [.bp (curP code b t)] ∧ CallOK Try.prog 79 [.bp (curP code b t)] (.c (ps v)) [.bp (curP code y.2.1 y.2.2)])
    ⟨⟨Nat.zero_le _, by simp⟩, by simp, by simp⟩ (by
      rintro i ⟨l, b, t⟩ hi ⟨g1, g2, g3⟩
      simp only at g1 g2 g3
      obtain ⟨p, b1, t1, hp, hb1, c1⟩ := ok_configPath code hc b t (by omega) (by omega)
      obtain ⟨v, b2, t2, hv, hb2, c2⟩ := ok_configValue code hc b1 t1 (by omega) (by omega)
      refine ⟨(setL_ l p v, b2, t2), ⟨p, v, b1, t1, hp, hv, rfl, c1, c2⟩, ?_, by simp only; omega, by simp only; omega⟩
      simp only [setL_]
      split
      · rename_i hs; exact confD_set g1 hp hv hs
      · exact g1)
  obtain ⟨e1, e2, e3⟩ := runI N (Nat.le_refl _)
  obtain ⟨L, hL⟩ : ∃ L, L = (run N).1 := ⟨_, rfl⟩
  obtain ⟨a3, ha3⟩ : ∃ a3, a3 = (run N).2.1 := ⟨_, rfl⟩
  obtain ⟨s3, hs3⟩ : ∃ s3, s3 = (run N).2.2 := ⟨_, rfl⟩
  have dL : confD L := hL ▸ e1
  obtain ⟨L2, a4, s4, dL2, ha4, hfin⟩ : ∃ (L2 : List GLeaf) (a4 s4 : Int), confD L2 ∧ (a3 ≤ a4 ∧ a4 ≤ a3 + 10) ∧ ((L = [] ∧ L2 = [] ∧ a4 = a3 ∧ s4 = s3) ∨ (0 < L.length ∧ ∃ b1 a5 s5, CallOK Try.prog 60 [.bp (curP code a3 s3), .c (pi 20)] (.c (pb b1)) [.bp (curP code a5 s5), .c (pi 20)] ∧ ((b1 = false ∧ L2 = L ∧ a4 = a5 ∧ s4 = s5) ∨ (b1 = true ∧ ∃ (k : Nat) (hk : k < L.length) (a6 s6 : Int) (b2 : Bool) (a7 s7 : Int), CallOK Try.prog 63 [.bp (curP code a5 s5), .c (pi L.length)] (.c (pi k)) [.bp (curP code a6 s6), .c (pi L.length)] ∧ CallOK Try.prog 60 [.bp (curP code a6 s6), .c (pi 2)] (.c (pb b2)) [.bp (curP code a7 s7), .c (pi 2)] ∧ ((b2 = true ∧ ∃ v, L2 = L.set k ⟨L[k].Path, v⟩ ∧ CallOK Try.prog 79 [.bp (curP code a7 s7)] (.c (ps v)) [.bp (curP code a4 s4)]) ∨ (b2 = false ∧ ∃ p, L2 = L.set k ⟨p, L[k].Value⟩ ∧ CallOK Try.prog 78 [.bp (curP code a7 s7)] (.c (.sl 0 9 p.length (p.map ps))) [.bp (curP code a4 s4)])))))) := by
    by_cases hz : L = []
    · exact ⟨[], a3, s3, ⟨Nat.zero_le _, by simp⟩, by omega, .inl ⟨hz, rfl, rfl, rfl⟩⟩
    · have hpos : 0 < L.length := List.length_pos_iff.2 hz
      have h30 := dL.1
      obtain ⟨b1, a5, s5, ha5, q1⟩ := ok_one code hc 20 (by decide) (by decide) a3 s3 (by omega) (by omega)
      cases b1 with
      | false => exact ⟨L, a5, s5, dL, by omega, .inr ⟨hpos, false, a5, s5, q1, .inl ⟨rfl, rfl, rfl, rfl⟩⟩⟩
      | true =>
        obtain ⟨k, a6, s6, hk, ha6, q2⟩ := ok_pick code hc (L.length : Int) (by omega) (by omega) a5 s5 (by omega) (by omega)
        obtain ⟨kn, rfl⟩ : ∃ kn : Nat, k = (kn : Int) := ⟨k.toNat, by omega⟩
        have hkl : kn < L.length := by omega
        obtain ⟨b2, a7, s7, ha7, q3⟩ := ok_one code hc 2 (by decide) (by decide) a6 s6 (by omega) (by omega)
        have dk := dL.2 _ (List.getElem_mem hkl)
        have hset : ∀ y, leafD y → confD (L.set kn y) := by
          intro y hy
          refine ⟨by rw [List.length_set]; exact h30, fun x hx => ?_⟩
          rcases List.mem_or_eq_of_mem_set hx with h | h
          · exact dL.2 x h
          · rw [h]; exact hy
        cases b2 with
        | true =>
          obtain ⟨v, a8, s8, hv, ha8, q4⟩ := ok_configValue code hc a7 s7 (by omega) (by omega)
          exact ⟨_, a8, s8, hset ⟨L[kn].Path, v⟩ ⟨dk.1, hv⟩, by omega, .inr ⟨hpos, true, a5, s5, q1, .inr ⟨rfl, kn, hkl, a6, s6, true, a7, s7, q2, q3, .inl ⟨rfl, v, rfl, q4⟩⟩⟩⟩
        | false =>
          obtain ⟨p, a8, s8, hp, ha8, q4⟩ := ok_configPath code hc a7 s7 (by omega) (by omega)
          exact ⟨_, a8, s8, hset ⟨p, L[kn].Value⟩ ⟨hp, dk.2⟩, by omega, .inr ⟨hpos, true, a5, s5, q1, .inr ⟨rfl, kn, hkl, a6, s6, false, a7, s7, q2, q3, .inr ⟨rfl, p, rfl, q4⟩⟩⟩⟩
  refine ⟨L2, a4, s4, dL2, by omega, ?_⟩
  refine okE (fn := Try.f76) h0 Try.func76 (by kernel_rfl) rfl Try.ntmps76 Try.results76 (by simp) ?_
  unfold curP at h1 h2 runR hfin ⊢
  refine ewrN_cut (M := [(63, [1]), (60, [1]), (78, [1]), (79, [1])]) h0 4 [0, 3, 4] [] ⟨slOf 53 [(0, .ptr ⟨.arg 0 0, []⟩ 0), (3, .t (.sl 0 nilE 0 [])), (4, .t (pi N))], ofL [(.arg 0 0, .sl 0 77 1 [rd 1 code.length (code.map pu), pi a2, .raw (.int .u64 s2)])]⟩ ?_ ?_
  · refine ewr_sound (M := [(63, [1]), (60, [1]), (78, [1]), (79, [1])]) h0 ?_
    simp [Code.rest]
    refine ewp_nil 3 (.op 1 0 0) 103 (by decide) rfl rfl rfl ?_
    refine loopW [0, 3, 4] [.op 7 5 0, .op 1 0 0, .arg 0 0] [.op 1 0 0, .arg 0 0] (fun m st => ∃ (i : Nat), i + m = N ∧ st = ⟨slOf 53 [(0, .ptr ⟨.arg 0 0, []⟩ 0), (3, .ref ⟨.op 1 0 0, []⟩ 0 (run i).1.length), (4, .t (pi m))], ofL [(.op 1 0 0, .sl 0 103 (run i).1.length ((run i).1.flatMap GLeaf.co)), (.arg 0 0, .sl 0 77 1 [rd 1 code.length (code.map pu), pi (run i).2.1, .raw (.int .u64 (run i).2.2)])]⟩) N ?_ ?_
    · rintro Inv hI
      simp
      subst hI
      exact ⟨0, by omega, by rw [run0]; rfl⟩
    · rintro Inv hI m st ⟨i, hi, rfl⟩
      refine ewr_sound (M := [(63, [1]), (60, [1]), (78, [1]), (79, [1])]) h0 ?_
      by_cases c : 0 < m
      · obtain ⟨f1, f2, f3⟩ := runI i (by omega)
        obtain ⟨p, v, b', t, hp, hv, g1, c1, c2⟩ := runR i (by omega)
        have c' : (0 : Int) < (m : Int) := by omega
        have w2 : IntKind.i64.wrap ((m : Int) - 1) = ((m - 1 : Nat) : Int) := by rw [wrap64 (by omega) (by omega)]; omega
        have hw := confD_wt f1
        have hset := ok_sSetAt 0 0 (run i).1 p v (conf_len (by omega)).1 (conf_len (by omega)).2 (conf_ok (by omega)) (path_ok hp) (by have := hp.1; omega) (by omega)
        simp [c, c']
        refine Inv_intro c1 ?_
        simp
        refine Inv_intro c2 ?_
        simp
        refine Inv_intro hset ?_
        unfold setL_ at g1
        generalize rSetAt (run i).1 p v = R at g1 ⊢
        obtain ⟨R1, R2⟩ := R
        cases R2 with
        | true =>
          simp [w2]
          refine LessW_mk (m - 1) (.op 7 5 0) (.op 1 0 0) (by omega) rfl rfl ?_
          simp
          subst hI
          refine ⟨i + 1, by omega, ?_⟩
          rw [g1]
          simp
          exact ofL_mv 1 _ _ _ (by simp)
        | false =>
          simp [w2]
          refine LessW_mk (m - 1) (.op 1 0 0) (.op 1 0 0) (by omega) rfl rfl ?_
          simp
          subst hI
          refine ⟨i + 1, by omega, ?_⟩
          rw [g1]
          simp
      · have hm0 : m = 0 := by omega
        have hiN : i = N := by omega
        subst hm0
        subst hiN
        rw [← hL, ← ha3, ← hs3]
        clear runR runI run0 e1 e2 e3 hL ha3 hs3
        have hml : (L.flatMap GLeaf.co).length = L.length * 2 := fm_len GLeaf.co 2 (fun _ => rfl) L
        have hmt : List.take (L.length * 2) (L.flatMap GLeaf.co) = L.flatMap GLeaf.co := List.take_of_length_le (by omega)
        rcases hfin with ⟨rfl, rfl, rfl, rfl⟩ | ⟨hpos, b1, a5, s5, q1, hfin⟩
        · simp
        · simp [hpos]
          refine Inv_intro q1 ?_
          rcases hfin with ⟨rfl, rfl, rfl, rfl⟩ | ⟨rfl, k, hk, a6, s6, b2, a7, s7, q2, q3, hfin⟩
          · simp [hml, hmt]
          · have hk1 : k * 2 + 1 ≤ L.length * 2 := by omega
            have hk2 : k * 2 + 1 + 1 ≤ L.length * 2 := by omega
            simp [hpos]
            refine Inv_intro q2 ?_
            simp
            refine Inv_intro q3 ?_
            rcases hfin with ⟨rfl, v, rfl, q4⟩ | ⟨rfl, p, rfl, q4⟩
            · simp
              refine Inv_intro q4 ?_
              have f1 : L.length * 2 ≤ k * 2 + 1 + (L.length * 2 - (k * 2 + 1 + 1) + 1) := by omega
              have f3 := fm_setV L k hk v
              have f4 := fm_len GLeaf.co 2 (fun _ => rfl) (L.set k ⟨L[k].Path, v⟩)
              rw [List.length_set] at f4
              rw [f3] at f4
              have f5 := List.take_of_length_le (Nat.le_of_eq f4)
              simp [hk, hml, hk1, hk2, f1, f3, f5]
            · simp
              refine Inv_intro q4 ?_
              have f1 : L.length * 2 ≤ min k L.length * 2 + (L.length * 2 - (k * 2 + 1) + 1) := by omega
              have f3 := fm_setP L k hk p
              have f4 := fm_len GLeaf.co 2 (fun _ => rfl) (L.set k ⟨p, L[k].Value⟩)
              rw [List.length_set] at f4
              rw [f3] at f4
              have f5 := List.take_of_length_le (Nat.le_of_eq f4)
              simp [hk, hml, hk1, hk2, f1, f3, f5]
  · intro K hK
    simp
    refine Inv_intro h1 ?_
    simp
    refine Inv_intro h2 ?_
    cases b with
    | true =>
      simp at hNn
      simp
      refine hK _ ?_
      simp [hNn]
    | false =>
      simp at hNn
      simp
      refine hK _ ?_
      simp [hNn]
theorem confD_wt2 {l : List GLeaf} (h : confD l) : wt_LeafS l ≤ 1048576 := Nat.le_trans (confD_wt h) (by decide)
theorem ok_DrawDiffOf (code : List Int) (hc : codeOK code) : ∃ (l m : List GLeaf) (res : PV), (confD l ∧ confD m) ∧ (res = .tup [.c (.sl 0 103 l.length (l.flatMap GLeaf.co)), .c (.sl 0 103 m.length (m.flatMap GLeaf.co))] ∨ (m = l ∧ res = .dup (.sl 0 103 l.length (l.flatMap GLeaf.co)))) ∧ CallOK Try.prog 34 [.c (rd 1 code.length (code.map pu))] (res) [.c (rd 1 code.length (code.map pu))] := by
  obtain ⟨l, a1, s1, hl, ha1, h1⟩ := ok_config code hc 0 0 (by decide) (by decide)
  obtain ⟨n, a2, s2, hn, ha2, h2⟩ := ok_pick code hc 4 (by decide) (by decide) a1 s1 (by omega) (by omega)
  obtain ⟨N, rfl⟩ : ∃ N : Nat, n = (N : Int) := ⟨n.toNat, by omega⟩
  obtain ⟨run, run0, runI, runR⟩ := exists_run (α := List GLeaf × Bool × Int × Int) N (l, true, a2, s2) (fun i x => confD x.1 ∧ (x.2.1 = true → x.1 = l) ∧ a2 ≤ x.2.2.1 ∧ x.2.2.1 ≤ a2 + 8 * i)
    (fun x y => ∃ p v b t, pathOK p ∧ v.size ≤ 9 ∧ CallOK Try.prog 78 [.bp (curP code x.2.2.1 x.2.2.2)] (.c (.sl 0 9 p.length (p.map ps))) [.bp (curP code b t)] ∧ CallOK Try.prog 79 [.bp (curP code b t)] (.c (ps v)) [.bp (curP code y.2.2.1 y.2.2.2)] ∧
      y.1 = (if (rSetAt x.1 p v).2 = true then (rSetAt x.1 p v).1 else x.1) ∧ y.2.1 = (if (rSetAt x.1 p v).2 = true then false else x.2.1))
    ⟨hl, fun _ => rfl, by simp, by simp⟩ (by
      rintro i ⟨m, sh, b, t⟩ hi ⟨g1, g0, g2, g3⟩
      simp only at g1 g0 g2 g3
      obtain ⟨p, b1, t1, hp, hb1, c1⟩ := ok_configPath code hc b t (by omega) (by omega)
      obtain ⟨v, b2, t2, hv, hb2, c2⟩ := ok_configValue code hc b1 t1 (by omega) (by omega)
      refine ⟨(if (rSetAt m p v).2 = true then (rSetAt m p v).1 else m, if (rSetAt m p v).2 = true then false else sh, b2, t2), ⟨p, v, b1, t1, hp, hv, c1, c2, rfl, rfl⟩, ?_, ?_, by simp only; omega, by simp only; omega⟩
      · simp only
        split
        · rename_i hs; exact confD_set g1 hp hv hs
        · exact g1
      · simp only
        split
        · intro h; cases h
        · exact g0)
  obtain ⟨e1, e0, e2, e3⟩ := runI N (Nat.le_refl _)
  obtain ⟨z, a3, s3, ha3, h3⟩ := ok_one code hc 3 (by decide) (by decide) (run N).2.2.1 (run N).2.2.2 (by omega) (by omega)
  obtain ⟨m, res, hm', hres, hfin⟩ : ∃ (m : List GLeaf) (res : PV), confD m ∧ (res = .tup [.c (.sl 0 103 l.length (l.flatMap GLeaf.co)), .c (.sl 0 103 m.length (m.flatMap GLeaf.co))] ∨ (m = l ∧ res = .dup (.sl 0 103 l.length (l.flatMap GLeaf.co)))) ∧
      ((z = true ∧ (∃ a4 s4, CallOK Try.prog 76 [.bp (curP code a3 s3)] (.c (.sl 0 103 m.length (m.flatMap GLeaf.co))) [.bp (curP code a4 s4)]) ∧ res = .tup [.c (.sl 0 103 l.length (l.flatMap GLeaf.co)), .c (.sl 0 103 m.length (m.flatMap GLeaf.co))]) ∨
       (z = false ∧ (run N).2.1 = true ∧ res = .dup (.sl 0 103 l.length (l.flatMap GLeaf.co))) ∨
       (z = false ∧ (run N).2.1 = false ∧ m = (run N).1 ∧ res = .tup [.c (.sl 0 103 l.length (l.flatMap GLeaf.co)), .c (.sl 0 103 m.length (m.flatMap GLeaf.co))])) := by
    cases z with
    | true =>
      obtain ⟨m, a4, s4, hm', ha4, h4⟩ := ok_config code hc a3 s3 (by omega) (by omega)
      exact ⟨m, _, hm', .inl rfl, .inl ⟨rfl, ⟨a4, s4, h4⟩, rfl⟩⟩
    | false =>
      cases hs : (run N).2.1 with
      | true => exact ⟨l, _, hl, .inr ⟨rfl, rfl⟩, .inr (.inl ⟨rfl, rfl, rfl⟩)⟩
      | false => exact ⟨_, _, e1, .inl rfl, .inr (.inr ⟨rfl, rfl, rfl, rfl⟩)⟩
  refine ⟨l, m, res, ⟨hl, hm'⟩, hres, ?_⟩
  refine okX (fn := Try.f34) h0 Try.func34 (by kernel_rfl) rfl Try.ntmps34 Try.results34 (by simp) ?_
  unfold curP at h1 h2 runR h3 hfin
  have hml : (l.flatMap GLeaf.co).length = l.length * 2 := fm_len GLeaf.co 2 (fun _ => rfl) l
  have hmt : List.take (l.length * 2) (l.flatMap GLeaf.co) = l.flatMap GLeaf.co := List.take_of_length_le (by omega)
  refine ewr_sound (M := [(63, [1]), (60, [1]), (76, [1]), (78, [1]), (79, [1])]) h0 ?_
  simp
  refine Inv_intro h1 ?_
  simp
  refine Inv_intro h2 ?_
  simp
  refine loopW [4, 5, 6, 7] [.op 7 5 0, .op 9 0 0, .op 2 1 0, .op 1 2 0] [.op 9 0 0, .op 2 1 0, .op 1 2 0] (fun q st => ∃ (i : Nat), i + q = N ∧ (((run i).2.1 = true ∧ st = ⟨slOf 39 [(4, .ptr ⟨.op 1 2 0, []⟩ 0), (5, .ref ⟨.op 2 1 0, []⟩ 0 l.length), (6, .ref ⟨.op 2 1 0, []⟩ 0 l.length), (7, .t (pi q))], ofL [(.op 1 2 0, .sl 0 77 1 [rd 1 code.length (code.map pu), pi (run i).2.2.1, .raw (.int .u64 (run i).2.2.2)]), (.op 2 1 0, .sl 0 103 l.length (l.flatMap GLeaf.co))]⟩) ∨
      ((run i).2.1 = false ∧ st = ⟨slOf 39 [(4, .ptr ⟨.op 1 2 0, []⟩ 0), (5, .ref ⟨.op 2 1 0, []⟩ 0 l.length), (6, .ref ⟨.op 9 0 0, []⟩ 0 (run i).1.length), (7, .t (pi q))], ofL [(.op 1 2 0, .sl 0 77 1 [rd 1 code.length (code.map pu), pi (run i).2.2.1, .raw (.int .u64 (run i).2.2.2)]), (.op 2 1 0, .sl 0 103 l.length (l.flatMap GLeaf.co)), (.op 9 0 0, .sl 0 103 (run i).1.length ((run i).1.flatMap GLeaf.co))]⟩))) N ?_ ?_
  · rintro Inv hI
    simp
    subst hI
    refine ⟨0, by omega, .inl ⟨by rw [run0], ?_⟩⟩
    rw [run0]
  · rintro Inv hI q st ⟨i, hi, hst⟩
    refine ewr_sound (M := [(63, [1]), (60, [1]), (76, [1]), (78, [1]), (79, [1])]) h0 ?_
    by_cases c : 0 < q
    · obtain ⟨f1, f0, f2, f3⟩ := runI i (by omega)
      obtain ⟨p, v, b', t, hp, hv, c1, c2, g1, g2⟩ := runR i (by omega)
      generalize hx : run i = x at *
      generalize hy : run (i + 1) = y at *
      obtain ⟨xm, xs, xa, xt⟩ := x
      obtain ⟨ym, ys, ya, yt⟩ := y
      simp only at f1 f0 f2 f3 c1 c2 g1 g2 hst
      have c' : (0 : Int) < (q : Int) := by omega
      have w2 : IntKind.i64.wrap ((q : Int) - 1) = ((q - 1 : Nat) : Int) := by rw [wrap64 (by omega) (by omega)]; omega
      have hw := confD_wt f1
      have hset := ok_sSetAt 0 0 xm p v (conf_len (by omega)).1 (conf_len (by omega)).2 (conf_ok (by omega)) (path_ok hp) (by have := hp.1; omega) (by omega)
      generalize rSetAt xm p v = R at *
      obtain ⟨R1, R2⟩ := R
      rcases hst with ⟨rfl, rfl⟩ | ⟨rfl, rfl⟩
      · have := f0 rfl
        subst this
        simp [c, c']
        refine Inv_intro c1 ?_
        simp
        refine Inv_intro c2 ?_
        simp
        refine Inv_intro hset ?_
        cases R2 with
        | true =>
          simp at g1 g2
          subst g1
          subst g2
          simp [w2]
          refine LessW_mk (q - 1) (.op 7 5 0) (.op 9 0 0) (by omega) rfl rfl ?_
          simp
          subst hI
          refine ⟨i + 1, by omega, .inr ⟨by rw [hy], ?_⟩⟩
          rw [hy]
        | false =>
          simp at g1 g2
          subst g1
          subst g2
          simp [w2]
          refine LessW_mk (q - 1) (.op 1 2 0) (.op 1 2 0) (by omega) rfl rfl ?_
          simp
          subst hI
          refine ⟨i + 1, by omega, .inl ⟨by rw [hy], ?_⟩⟩
          rw [hy]
      · simp [c, c']
        refine Inv_intro c1 ?_
        simp
        refine Inv_intro c2 ?_
        simp
        refine Inv_intro hset ?_
        cases R2 with
        | true =>
          simp at g1 g2
          subst g1
          subst g2
          simp [w2]
          refine LessW_mk (q - 1) (.op 7 5 0) (.op 9 0 0) (by omega) rfl rfl ?_
          simp
          subst hI
          refine ⟨i + 1, by omega, .inr ⟨by rw [hy], ?_⟩⟩
          rw [hy]
        | false =>
          simp at g1 g2
          subst g1
          subst g2
          simp [w2]
          refine LessW_mk (q - 1) (.op 1 2 0) (.op 1 2 0) (by omega) rfl rfl ?_
          simp
          subst hI
          refine ⟨i + 1, by omega, .inr ⟨by rw [hy], ?_⟩⟩
          rw [hy]
    · have hm0 : q = 0 := by omega
      have hiN : i = N := by omega
      subst hm0
      subst hiN
      rcases hst with ⟨hs, rfl⟩ | ⟨hs, rfl⟩
      · simp
        refine Inv_intro h3 ?_
        rcases hfin with ⟨rfl, ⟨a4, s4, h4⟩, rfl⟩ | ⟨rfl, hs', rfl⟩ | ⟨rfl, hs', rfl, rfl⟩
        · simp
          refine Inv_intro h4 ?_
          simp [hml, hmt]
        · simp [Id.isOp]
        · rw [hs] at hs'; cases hs'
      · simp
        refine Inv_intro h3 ?_
        rcases hfin with ⟨rfl, ⟨a4, s4, h4⟩, rfl⟩ | ⟨rfl, hs', rfl⟩ | ⟨rfl, hs', rfl, rfl⟩
        · simp
          refine Inv_intro h4 ?_
          simp [hml, hmt]
        · rw [hs] at hs'; cases hs'
        · simp [hml, hmt]
def cmdsD (l : List GCommand) : Prop := wt_CommandS l ≤ 10000
theorem cmds_wt {l : List GCommand} (hl : l.length ≤ 3) (h : ∀ c ∈ l, cmdD c) : cmdsD l := by
  have : wtR GCommand.wt l ≤ l.length * (100 + 1) := wtR_leC GCommand.wt 100 l (fun c hc => by
    obtain ⟨⟨h1, h2⟩, h3⟩ := h c hc
    have h4 : wtR ByteArray.size c.Path ≤ c.Path.length * (9 + 1) := wtR_leC ByteArray.size 9 c.Path h2
    unfold GCommand.wt
    show wtR ByteArray.size c.Path + c.Value.size ≤ 100
    omega)
  unfold cmdsD
  show wtR GCommand.wt l ≤ 10000
  omega
theorem ok_DrawDoCommands (code : List Int) (hc : codeOK code) : ∃ (l : List GLeaf) (cs : List GCommand), (confD l ∧ cmdsD cs) ∧ CallOK Try.prog 39 [.c (rd 1 code.length (code.map pu))] (.tup [.c (.sl 0 103 l.length (l.flatMap GLeaf.co)), .c (.sl 0 65 cs.length (cs.flatMap GCommand.co))]) [.c (rd 1 code.length (code.map pu))] := by
  obtain ⟨l, a1, s1, hl, ha1, h1⟩ := ok_config code hc 0 0 (by decide) (by decide)
  obtain ⟨z, a2, s2, ha2, h2⟩ := ok_one code hc 2 (by decide) (by decide) a1 s1 (by omega) (by omega)
  have hlw := confD_wt hl
  have hml : (l.flatMap GLeaf.co).length = l.length * 2 := fm_len GLeaf.co 2 (fun _ => rfl) l
  have hmt : List.take (l.length * 2) (l.flatMap GLeaf.co) = l.flatMap GLeaf.co := List.take_of_length_le (by omega)
  by_cases hearly : z = true ∧ ∃ m a3 s3, confD m ∧ (rDiffOf l m).2 = true ∧ CallOK Try.prog 76 [.bp (curP code a2 s2)] (.c (.sl 0 103 m.length (m.flatMap GLeaf.co))) [.bp (curP code a3 s3)]
  · obtain ⟨rfl, m, a3, s3, hm', hd, h3⟩ := hearly
    have hmw := confD_wt hm'
    have hdw : wt_CommandS (rDiffOf l m).1 ≤ 8000 := by
      unfold rDiffOf
      split
      · exact Nat.le_trans (diffL_wt l m) (by omega)
      · exact Nat.zero_le _
    have h4 := law_sDiffOf l m (by omega) (by omega)
    refine ⟨l, (rDiffOf l m).1, ⟨hl, by unfold cmdsD; omega⟩, ?_⟩
    refine okS (fn := Try.f39) [(76, [1]), (60, [1])] h0 Try.func39 (by kernel_rfl) rfl Try.ntmps39 Try.results39 (by simp) ?_
    unfold curP at h1 h2 h3
    generalize rDiffOf l m = R at *
    obtain ⟨R1, R2⟩ := R
    simp only at hd
    subst hd
    have hcl : (R1.flatMap GCommand.co).length = R1.length * 3 := fm_len GCommand.co 3 (fun _ => rfl) R1
    have hct : List.take (R1.length * 3) (R1.flatMap GCommand.co) = R1.flatMap GCommand.co := List.take_of_length_le (by omega)
    simp
    refine Inv_intro h1 ?_
    simp
    refine Inv_intro h2 ?_
    simp
    refine Inv_intro h3 ?_
    simp
    refine Inv_intro h4 ?_
    simp [hml, hmt, hcl, hct]
  · obtain ⟨a3, s3, ha3, h3⟩ : ∃ a3 s3, (a2 ≤ a3 ∧ a3 ≤ a2 + 400) ∧ ((z = true ∧ ∃ m, confD m ∧ (rDiffOf l m).2 = false ∧ CallOK Try.prog 76 [.bp (curP code a2 s2)] (.c (.sl 0 103 m.length (m.flatMap GLeaf.co))) [.bp (curP code a3 s3)]) ∨ (z = false ∧ a3 = a2 ∧ s3 = s2)) := by
      cases z with
      | true =>
        obtain ⟨m, a3, s3, hm', ha3, h3⟩ := ok_config code hc a2 s2 (by omega) (by omega)
        refine ⟨a3, s3, by omega, .inl ⟨rfl, m, hm', ?_, h3⟩⟩
        cases hd : (rDiffOf l m).2 with
        | false => rfl
        | true => exact absurd ⟨rfl, m, a3, s3, hm', hd, h3⟩ hearly
      | false => exact ⟨a2, s2, by omega, .inr ⟨rfl, rfl, rfl⟩⟩
    clear hearly
    obtain ⟨n, a4, s4, hn, ha4, h4⟩ := ok_pick code hc 4 (by decide) (by decide) a3 s3 (by omega) (by omega)
    obtain ⟨N, rfl⟩ : ∃ N : Nat, n = (N : Int) := ⟨n.toNat, by omega⟩
    obtain ⟨run, run0, runI, runR⟩ := exists_run (α := List GCommand × Int × Int) N ([], a4, s4) (fun i x => x.1.length = i ∧ (∀ o ∈ x.1, cmdD o) ∧ a4 ≤ x.2.1 ∧ x.2.1 ≤ a4 + 10 * i)
      (fun x y => ∃ o, y.1 = x.1 ++ [o] ∧ CallOK Try.prog 86 [.bp (curP code x.2.1 x.2.2)] (.agg o.co) [.bp (curP code y.2.1 y.2.2)])
      ⟨rfl, by simp, by simp, by simp⟩ (by
        rintro i ⟨p, b, t⟩ hi ⟨g1, g2, g3, g4⟩
        simp only at g1 g2 g3 g4
        obtain ⟨o, b', t', ho, hb', hcall⟩ := ok_command code hc b t (by omega) (by omega)
        refine ⟨(p ++ [o], b', t'), ⟨o, rfl, hcall⟩, by simp [g1], fun v hv => ?_, by simp only; omega, by simp only; omega⟩
        rcases List.mem_append.1 hv with hv | hv
        · exact g2 v hv
        · rw [List.mem_singleton.1 hv]; exact ho)
    obtain ⟨e1, e2, e3, e4⟩ := runI N (Nat.le_refl _)
    refine ⟨l, (run N).1, ⟨hl, cmds_wt (by omega) e2⟩, ?_⟩
    refine okE (fn := Try.f39) h0 Try.func39 (by kernel_rfl) rfl Try.ntmps39 Try.results39 (by simp) ?_
    unfold curP at h1 h2 h3 h4 runR
    refine ewrN_cut (M := [(76, [1]), (60, [1])]) h0 4 [4, 5] [.op 1 2 0, .op 2 1 0] ⟨slOf 40 [(4, .ptr ⟨.op 1 2 0, []⟩ 0), (5, .ref ⟨.op 2 1 0, []⟩ 0 l.length)], ofL [(.op 1 2 0, .sl 0 77 1 [rd 1 code.length (code.map pu), pi a3, .raw (.int .u64 s3)]), (.op 2 1 0, .sl 0 103 l.length (l.flatMap GLeaf.co))]⟩ ?_ ?_
    · refine ewr_sound (M := [(63, [1]), (86, [1])]) h0 ?_
      simp [Code.rest]
      refine Inv_intro h4 ?_
      simp
      refine ewp_nil 8 (.op 11 4 0) 65 (by decide) rfl rfl rfl ?_
      refine loopS [4, 5, 8, 9] [.op 11 4 0, .op 1 2 0, .op 2 1 0] (fun m st => ∃ (i : Nat), i + m = N ∧ st = ⟨slOf 40 [(4, .ptr ⟨.op 1 2 0, []⟩ 0), (5, .ref ⟨.op 2 1 0, []⟩ 0 l.length), (8, .ref ⟨.op 11 4 0, []⟩ 0 i), (9, .t (pi m))], ofL [(.op 11 4 0, .sl 0 65 i ((run i).1.flatMap GCommand.co)), (.op 1 2 0, .sl 0 77 1 [rd 1 code.length (code.map pu), pi (run i).2.1, .raw (.int .u64 (run i).2.2)]), (.op 2 1 0, .sl 0 103 l.length (l.flatMap GLeaf.co))]⟩) N ?_ ?_
      · rintro Inv hI
        simp
        subst hI
        exact ⟨0, by omega, by rw [run0]; rfl⟩
      · rintro Inv hI m st ⟨i, hi, rfl⟩
        refine ewr_sound (M := [(63, [1]), (86, [1])]) h0 ?_
        by_cases c : 0 < m
        · obtain ⟨f1, _⟩ := runI i (by omega)
          obtain ⟨w, g1, hcall⟩ := runR i (by omega)
          have c' : (0 : Int) < (m : Int) := by omega
          have w2 : IntKind.i64.wrap ((m : Int) - 1) = ((m - 1 : Nat) : Int) := by rw [wrap64 (by omega) (by omega)]; omega
          have hb1 : (i + 1) * 48 ≤ 140737488355328 := by omega
          have hb2 : i ≤ 9223372036854775806 := by omega
          have hml : ((run i).1.flatMap GCommand.co).length = i * 3 := by rw [fm_len GCommand.co 3 (fun _ => rfl), f1]
          have hmt : List.take (i * 3) ((run i).1.flatMap GCommand.co) = (run i).1.flatMap GCommand.co := List.take_of_length_le (by omega)
          simp [c, c']
          refine Inv_intro hcall ?_
          simp [f1, hb1, hb2, hml, hmt, w2]
          subst hI
          refine Less_mk (m - 1) (by omega) ⟨i + 1, by omega, ?_⟩
          rw [g1]
          simp
        · have hm0 : m = 0 := by omega
          have hiN : i = N := by omega
          subst hm0
          subst hiN
          have hcl : ((run i).1.flatMap GCommand.co).length = i * 3 := by rw [fm_len GCommand.co 3 (fun _ => rfl), e1]
          have hct : List.take (i * 3) ((run i).1.flatMap GCommand.co) = (run i).1.flatMap GCommand.co := List.take_of_length_le (by omega)
          simp [e1, hml, hmt, hcl, hct]
    · intro K hK
      simp
      refine Inv_intro h1 ?_
      simp
      refine Inv_intro h2 ?_
      rcases h3 with ⟨rfl, m, hm', hd, h3⟩ | ⟨rfl, rfl, rfl⟩
      · have hmw := confD_wt hm'
        have h5 := law_sDiffOf l m (by omega) (by omega)
        generalize rDiffOf l m = R at *
        obtain ⟨R1, R2⟩ := R
        simp only at hd
        subst hd
        simp
        refine Inv_intro h3 ?_
        simp
        refine Inv_intro h5 ?_
        simp
        refine hK _ ?_
        simp
      · simp
        refine hK _ ?_
        simp
theorem beg_mid : ∀ a b c : List ByteArray, lessP a b = true → lessP b c = true → begP a c = true → begP a b = true
  | [], _, _, _, _, _ => rfl
  | _ :: _, [], _, h, _, _ => by simp [lessP] at h
  | _ :: _, _ :: _, [], _, _, h => by simp [begP] at h
  | x :: us, y :: vs, z :: ws, h1, h2, h3 => by
    simp only [begP, Bool.and_eq_true, decide_eq_true_eq] at h3 ⊢
    obtain ⟨rfl, h3⟩ := h3
    unfold lessP at h1 h2
    by_cases e : x = y
    · subst e
      rw [if_pos rfl] at h1 h2
      exact ⟨rfl, beg_mid us vs ws h1 h2 h3⟩
    · rw [if_neg e] at h1
      rw [if_neg (Ne.symm e)] at h2
      have := sLt_trans h1 h2
      rw [sl_irr] at this
      cases this
def apartP (a b : List ByteArray) : Prop := lessP a b = true ∧ begP a b = false
theorem goodG_pw : ∀ (l : List GLeaf) (q : Option GLeaf), goodG q l = true → l.Pairwise (fun x y => apartP x.Path y.Path) ∧ ∀ y, q = some y → ∀ x ∈ l, apartP y.Path x.Path
  | [], _, _ => by simp
  | x :: l, q, h => by
    simp only [goodG, Bool.and_eq_true] at h
    obtain ⟨⟨h1, h2⟩, h3⟩ := h
    obtain ⟨g1, g2⟩ := goodG_pw l (some x) h3
    have g3 := g2 x rfl
    refine ⟨List.pairwise_cons.2 ⟨g3, g1⟩, fun y hy z hz => ?_⟩
    subst hy
    simp only [adjC, Bool.and_eq_true, Bool.not_eq_true'] at h2
    rcases List.mem_cons.1 hz with rfl | hz
    · exact h2
    · obtain ⟨g4, g5⟩ := g3 z hz
      refine ⟨lessP_trans _ _ _ h2.1 g4, ?_⟩
      cases hb : begP y.Path z.Path with
      | false => rfl
      | true => rw [beg_mid _ _ _ h2.1 g4 hb] at h2; exact h2.2
theorem goodG_of : ∀ (l : List GLeaf) (q : Option GLeaf), (∀ x ∈ l, okLeaf x = true) → l.Pairwise (fun x y => apartP x.Path y.Path) → (∀ y, q = some y → ∀ x ∈ l, apartP y.Path x.Path) → goodG q l = true
  | [], _, _, _, _ => rfl
  | x :: l, q, ho, hp, hq => by
    obtain ⟨h1, h2⟩ := List.pairwise_cons.1 hp
    simp only [goodG, Bool.and_eq_true]
    refine ⟨⟨ho x (by simp), ?_⟩, goodG_of l (some x) (fun y hy => ho y (by simp [hy])) h2 fun y hy z hz => by cases hy; exact h1 z hz⟩
    cases q with
    | none => rfl
    | some y =>
      obtain ⟨g1, g2⟩ := hq y rfl x (by simp)
      simp [adjC, g1, g2]
theorem goodC_filter {l : List GLeaf} (h : goodC l = true) (f : GLeaf → Bool) : goodC (l.filter f) = true := by
  have ho := goodC_all h
  simp only [goodC, Bool.and_eq_true, decide_eq_true_eq] at h ⊢
  refine ⟨goodG_of _ none (fun x hx => ho x (List.mem_filter.1 hx).1) ((goodG_pw l none h.1).1.filter _) (fun y hy => by cases hy), ?_⟩
  exact Nat.le_trans (List.length_filter_le _ _) h.2
end Go.V
