/- What functions of the seat's program do, each proved of its code, under the bounds that its theorem names. -/
import Derived.Test.YtildjkidohpmbaaGreatTai
import Derived.Deep.AppendSrc
import Derived.Laws.Externs
import Derived.Lib.AppendZerosOnto
import Derived.Lib.Overlaps
set_option linter.all false
namespace Go.V
open Go.Proofs
set_option maxHeartbeats 1000000
set_option maxRecDepth 10000
set_option linter.unusedSimpArgs false
set_option linter.unusedVariables false
theorem ins_worldLeafS (b vb n c i vc : Nat) (w : World) (arr va : Array Value) (cv vv : List Value) (hba : w.heap[b]? = some (.cells arr 23 (0, 0))) (hvb : w.heap[vb]? = some (.cells va 23 (0, 0))) (hne : vb ≠ b)
    (hcl : cv.length = n * 1) (hvl : vv.length = 1) (hca : c * 1 ≤ arr.size) (hva : 1 ≤ va.size) (hnc : n ≤ c) (hi : i ≤ n)
    (hcv : ∀ (j : Nat) u, cv[j]? = some u → arr[j]? = some u) (hvv : ∀ (j : Nat) u, vv[j]? = some u → va[j]? = some u) (h1c : ∀ v ∈ cv, v.oneCell' = true) (h1v : ∀ v ∈ vv, v.oneCell' = true)
    (hbig : (n + 1) * 24 ≤ 140737488355328) :
    ∃ (b' c' : Nat) (arr' : Array Value) (w' : World), Calls Tryz.prog 80 #[.slice (some ⟨b, 0, none⟩) n c, .int .i64 i, .slice (some ⟨vb, 0, none⟩) 1 vc] w (fun e w'' => e = .returned (.slice (some ⟨b', 0, none⟩) (n + 1) c') ∧ w'' = w') ∧
      w'.heap[b']? = some (.cells arr' 23 (0, 0)) ∧ c' * 1 ≤ arr'.size ∧ n + 1 ≤ c' ∧ (∀ (j : Nat) u, (insV 1 i cv vv)[j]? = some u → arr'[j]? = some u) ∧ (b' = b ∨ w.heap.size ≤ b') ∧ Kp [b] w w' := by
  have tS : Tryz.prog.underlying 24 = some (.slice 23) := by kernel_rfl
  have t3 : Tryz.prog.underlying 3 = some (.int .i64) := by kernel_rfl
  have zE : ∀ w, (Go.sizeOf 23).run Tryz.prog w = .ok 1 w := fun w => by kernel_rfl
  obtain ⟨inf, hinf⟩ := tsz_info (P := Tryz.prog) (t := 23) (by simp)
  have hsz : inf.size = 1 := by
    have h1 : tsz Tryz.prog 23 = inf.size := by simp only [tsz, hinf]
    have h2 : tsz Tryz.prog 23 = 1 := by kernel_rfl
    omega
  have hby : inf.bytes = 24 := by
    have h1 : tby Tryz.prog 23 = inf.bytes := by simp only [tby, hinf]
    have h2 : tby Tryz.prog 23 = 24 := by kernel_rfl
    omega
  have hszs : (Tryz.prog.info? 23).map (·.size) = some 1 := by rw [hinf, Option.map_some, hsz]
  obtain ⟨z, hz⟩ : ∃ z, inf.zero = some z := by
    have h2 : (tzero Tryz.prog 23).isSome = true := by kernel_rfl
    have h1 : tzero Tryz.prog 23 = inf.zero := by simp only [tzero, hinf]
    rw [h1] at h2
    exact Option.isSome_iff_exists.1 h2
  have hzs : z.cells.size = 1 := by
    have h2 : (tzero Tryz.prog 23).map (fun z => z.cells.size) = some 1 := by kernel_rfl
    have h1 : tzero Tryz.prog 23 = inf.zero := by simp only [tzero, hinf]
    rw [h1, hz] at h2
    simpa using h2
  have hcellb : ∀ (k : Nat) u, cv[k]? = some u → w.cell? ⟨b, k, none⟩ = some u := fun k u h => by rw [cell_at hba]; exact hcv k u h
  have hcellv : ∀ (k : Nat) u, vv[k]? = some u → w.cell? ⟨vb, k, none⟩ = some u := fun k u h => by rw [cell_at hvb]; exact hvv k u h
  have hvlt : vb < w.heap.size := (Array.getElem?_eq_some_iff.1 hvb).1
  have hblt : b < w.heap.size := (Array.getElem?_eq_some_iff.1 hba).1
  by_cases hin : i = n
  · subst hin
    have hins : insV 1 i cv vv = cv ++ vv := by
      unfold insV
      rw [List.take_of_length_le (by omega), List.drop_of_length_le (by omega), List.append_nil]
    rw [hins]
    by_cases hroom : i + 1 ≤ c
    · have hr : ∀ ty, (Builtin.append_ #[24, 24] ty #[.slice (some ⟨b, 0, none⟩) i c, .slice (some ⟨vb, 0, none⟩) 1 vc]).run Tryz.prog w = .ok (.slice (some ⟨b, 0, none⟩) (i + 1) c) (w.setCells b (i * 1) vv) := fun ty => by
        have h := run_append_room_cells (P := Tryz.prog) w 24 ty 23 inf tS hinf b 0 i c ⟨vb, 0, none⟩ 1 vc vv (by rw [hsz, hvl]) (fun j u hj => by rw [Addr.add_lit, Nat.zero_add]; exact hcellv j u hj) h1v hroom
          (fun j hj => by rw [cell_at hba, hsz, Array.getElem?_eq_getElem (by omega)]; rfl) (fun j hj => by simp [World.frozen?, hba])
        rw [hsz, Nat.zero_add] at h
        exact h
      obtain ⟨arr', r1, r2, r3⟩ := setCells_heap vv (i * 1) w arr hba
      refine ⟨b, c, arr', _, ins_endLeafS (some ⟨b, 0, none⟩) vb i c vc w _ _ hnc hr, r1, by omega, hroom, ?_, .inl rfl, setCells_kp b vv _ w⟩
      intro j u hj
      rw [r3]
      rw [List.getElem?_append] at hj
      split at hj
      · rw [if_neg (by omega)]
        exact hcv j u hj
      · have := getv hj
        rw [if_pos (by omega), ← hcl]
        exact hj
    · have hr : ∀ ty, (Builtin.append_ #[24, 24] ty #[.slice (some ⟨b, 0, none⟩) i c, .slice (some ⟨vb, 0, none⟩) 1 vc]).run Tryz.prog w = .ok (.slice (some ⟨w.heap.size, 0, none⟩) (i + 1) (grownCap w (i + 1) c 23)) (w.drew.alloc (.cells (cv.toArray ++ vv.toArray ++ Builtin.zeroCells z.cells (grownCap w (i + 1) c 23 - (i + 1))) 23)) := fun ty =>
        run_append_grow (P := Tryz.prog) w 24 ty 23 inf z tS hinf hz ⟨b, 0, none⟩ i c cv (by rw [hsz, hcl]) (fun j u hj => by rw [Addr.add_lit, Nat.zero_add]; exact hcellb j u hj) ⟨vb, 0, none⟩ 1 vc vv (by rw [hsz, hvl]) (fun j u hj => by rw [Addr.add_lit, Nat.zero_add]; exact hcellv j u hj) (by omega) (by omega) (growslice_fits (by omega) (by rw [hby]; exact hbig))
      have hge := grownCap_ge w (i + 1) c 23
      refine ⟨w.heap.size, _, _, _, ins_endLeafS (some ⟨b, 0, none⟩) vb i c vc w _ _ hnc hr, alloc_at w.drew _, ?_, hge, ?_, .inr (Nat.le_refl _), (Kp.of_below (drew_below w)).trans (alloc_kp [] w.drew _) (by simp)⟩
      · simp only [Array.size_append, List.size_toArray, size_zeroCells, hzs, hcl, hvl]
        omega
      · intro j u hj
        have hjl := getv hj
        rw [List.length_append] at hjl
        rw [Array.getElem?_append_left (by simpa using hjl)]
        simpa using hj
  · have hin' : i < n := by omega
    have hdl : (cv.drop (i * 1)).length = (n - i) * 1 := by rw [List.length_drop, hcl]; omega
    have hdat : ∀ (j : Nat) u, (cv.drop (i * 1))[j]? = some u → cv[i * 1 + j]? = some u := fun j u h => by rwa [List.getElem?_drop] at h
    by_cases hroom : n + 1 ≤ c
    · obtain ⟨arr1, p1, p2, p3⟩ := setCells_heap (cv.drop (i * 1)) ((i + 1) * 1) w.drew arr hba
      have hk1 := setCells_kp b (cv.drop (i * 1)) ((i + 1) * 1) w.drew
      have hc1 : ∀ ty dc sc, (Builtin.copy_ #[24, 24] ty #[.slice (some ⟨b, (i + 1) * 1, none⟩) (n - i) dc, .slice (some ⟨b, i * 1, none⟩) (n + 1 - i) sc]).run Tryz.prog w.drew = .ok (goInt (Nat.min (n + 1 - i) (n - i))) (w.drew.setCells b ((i + 1) * 1) (cv.drop (i * 1))) := fun ty dc sc =>
        run_copy_n w.drew _ _ ty 23 b ((i + 1) * 1) (n - i) dc ⟨b, i * 1, none⟩ (n + 1 - i) sc 1 (cv.drop (i * 1)) tS hszs (by rw [hdl, show Nat.min (n + 1 - i) (n - i) = n - i from Nat.min_eq_right (by omega)])
          (fun j v hj => by rw [Addr.add_lit]; exact hcellb _ v (hdat j v hj))
          (fun j hj => by
            show (w.cell? ⟨b, _, none⟩).isSome = true
            rw [cell_at hba, Array.getElem?_eq_getElem (by omega)]; rfl)
          (fun j hj => by
            show w.frozen? ⟨b, _, none⟩ = false
            simp [World.frozen?, hba]) (fun v hv => h1c v (List.mem_of_mem_drop hv))
      generalize w.drew.setCells b ((i + 1) * 1) (cv.drop (i * 1)) = W1 at p1 hk1 hc1
      obtain ⟨arr2, q1, q2, q3⟩ := setCells_heap vv (i * 1) W1 arr1 p1
      have hk2 := setCells_kp b vv (i * 1) W1
      have hvW : W1.heap[vb]? = some (.cells va 23 (0, 0)) := (hk1.block vb hvlt (by simpa using hne)).trans hvb
      have hc2 : ∀ ty dc, (Builtin.copy_ #[24, 24] ty #[.slice (some ⟨b, i * 1, none⟩) (n + 1 - i) dc, .slice (some ⟨vb, 0, none⟩) 1 vc]).run Tryz.prog W1 = .ok (goInt (Nat.min 1 (n + 1 - i))) (W1.setCells b (i * 1) vv) := fun ty dc =>
        run_copy_n W1 _ _ ty 23 b (i * 1) (n + 1 - i) dc ⟨vb, 0, none⟩ 1 vc 1 vv tS hszs (by rw [hvl, show Nat.min 1 (n + 1 - i) = 1 from Nat.min_eq_left (by omega)])
          (fun j v hj => by rw [Addr.add_lit, Nat.zero_add, cell_at hvW]; exact hvv j v hj)
          (fun j hj => by rw [cell_at p1, Array.getElem?_eq_getElem (by omega)]; rfl)
          (fun j hj => by simp [World.frozen?, p1]) h1v
      have hov : ∀ lb cb, (callFunc 93 #[.slice (some ⟨vb, 0, none⟩) 1 vc, .slice (some ⟨b, (i + 1) * 1, none⟩) lb cb]).run Tryz.prog w = .ok (.value (.bool false)) w := fun lb cb => by
        rw [run_callFunc_extern (f := 93) Tryz.func93 (by kernel_rfl) (by kernel_rfl) (by kernel_rfl) (e := Extern.SlicesOverlaps.overlaps #[24, 24] #[4]) (by kernel_rfl),
          Lib.run_overlaps_apart w 24 4 23 tS 1 zE ⟨vb, 0, none⟩ ⟨b, (i + 1) * 1, none⟩ 1 vc lb cb hne 23 23 va.size arr.size (by simp [World.shape?, hvb]) (by simp [World.shape?, hba]) (by omega) (by simp [World.frozen?, hvb]) (by simp [World.frozen?, hvb])]
        rfl
      refine ⟨b, c, arr2, _, ins_shiftLeafS b vb n c i vc w W1 _ _ _ hin' (by omega) hroom (by simpa using hov) (by simpa using hc1) (by simpa using hc2), q1, by omega, hroom, ?_, .inl rfl, ((Kp.of_below (drew_below w)).trans hk1 (by intro y hy; exact .inl hy)).trans hk2 (by intro y hy; exact .inl hy)⟩
      intro j u hj
      rw [insV_at _ _ _ _ hvl (by omega)] at hj
      rw [q3]
      split at hj
      · have := getv hj
        rw [if_neg (by omega), p3, if_neg (by omega)]
        exact hcv j u hj
      · split at hj
        · rw [if_pos (by omega)]
          exact hj
        · have := getv hj
          rw [if_neg (by omega), p3, if_pos (by omega), List.getElem?_drop]
          have e : i * 1 + (j - (i + 1) * 1) = j - 1 := by omega
          rw [e]
          exact hj
    · have hold : (Builtin.firstCells inf.size i (.slice (some ⟨b, 0, none⟩) i c)).run Tryz.prog w.drew = .ok (cv.take (i * 1)).toArray w.drew :=
        run_firstCells_some w.drew inf.size i ⟨b, 0, none⟩ i c (cv.take (i * 1)) (by rw [List.length_take, hsz]; omega) (fun j v hj => by
          rw [Addr.add_lit, Nat.zero_add]
          rw [List.getElem?_take] at hj
          split at hj
          · exact hcellb j v hj
          · cases hj)
      obtain ⟨G, hG⟩ : ∃ G, G = grownCap w (n + 1) c 23 := ⟨_, rfl⟩
      have hge := grownCap_ge w (n + 1) c 23
      rw [← hG] at hge
      obtain ⟨ROW, hROW⟩ : ∃ ROW : Array Value, ROW = (cv.take (i * 1)).toArray ++ Builtin.zeroCells z.cells (n + 1 - i) ++ Builtin.zeroCells z.cells (G - (n + 1)) := ⟨_, rfl⟩
      have hRs : ROW.size = G * 1 := by
        rw [hROW]
        simp only [Array.size_append, List.size_toArray, size_zeroCells, hzs, List.length_take, hcl]
        omega
      have hRa : ∀ (j : Nat), j < i * 1 → ROW[j]? = cv[j]? := by
        intro j hj
        have h1 : j < (cv.take (i * 1)).toArray.size := by simp only [List.size_toArray, List.length_take]; omega
        rw [hROW, Array.append_assoc, Array.getElem?_append_left h1]
        simp only [List.getElem?_toArray, List.getElem?_take, if_pos hj]
      have hr : ∀ ty, (Builtin.append_ #[24, 3] ty #[.slice (some ⟨b, 0, none⟩) i c, .int .i64 ((n : Int) + 1 - (i : Int))]).run Tryz.prog w = .ok (.slice (some ⟨w.heap.size, 0, none⟩) (n + 1) G) (w.drew.alloc (.cells ROW 23)) := fun ty => by
        have hik : i + (n + 1 - i) = n + 1 := by omega
        have hkk : (n : Int) + 1 - (i : Int) = ((n + 1 - i : Nat) : Int) := by omega
        have h := Lib.run_append_grow_zeros w 24 3 ty 23 inf z .i64 .i64 tS t3 hinf hz (some ⟨b, 0, none⟩) i c (cv.take (i * 1)) hold (n + 1 - i) (by omega) (by omega) (by omega) (by omega) (by rw [hby]; omega) (by rw [hby, hik]; exact growslice_fits (by omega) hbig)
        rw [hik, ← hG, ← hROW] at h
        rw [hkk]
        exact h
      obtain ⟨N, hN⟩ : ∃ N, N = w.heap.size := ⟨_, rfl⟩
      have hN0 : (w.drew.alloc (.cells ROW 23)).heap[N]? = some (.cells ROW 23 (0, 0)) := by rw [hN]; exact alloc_at w.drew _
      have hk0 : Kp [] w (w.drew.alloc (.cells ROW 23)) := (Kp.of_below (drew_below w)).trans (alloc_kp [] w.drew _) (by simp)
      rw [← hN] at hr
      generalize w.drew.alloc (.cells ROW 23) = W0 at hr hN0 hk0
      obtain ⟨arr1, p1, p2, p3⟩ := setCells_heap vv (i * 1) W0 ROW hN0
      have hk1 := setCells_kp N vv (i * 1) W0
      have hv0 : W0.heap[vb]? = some (.cells va 23 (0, 0)) := (hk0.block vb hvlt (by simp)).trans hvb
      have hb0 : W0.heap[b]? = some (.cells arr 23 (0, 0)) := (hk0.block b hblt (by simp)).trans hba
      have hc1 : ∀ ty dc, (Builtin.copy_ #[24, 24] ty #[.slice (some ⟨N, i * 1, none⟩) (n + 1 - i) dc, .slice (some ⟨vb, 0, none⟩) 1 vc]).run Tryz.prog W0 = .ok (goInt (Nat.min 1 (n + 1 - i))) (W0.setCells N (i * 1) vv) := fun ty dc =>
        run_copy_n W0 _ _ ty 23 N (i * 1) (n + 1 - i) dc ⟨vb, 0, none⟩ 1 vc 1 vv tS hszs (by rw [hvl, show Nat.min 1 (n + 1 - i) = 1 from Nat.min_eq_left (by omega)])
          (fun j v hj => by rw [Addr.add_lit, Nat.zero_add, cell_at hv0]; exact hvv j v hj)
          (fun j hj => by rw [cell_at hN0, Array.getElem?_eq_getElem (by omega)]; rfl)
          (fun j hj => by simp [World.frozen?, hN0]) h1v
      have hb1 : (W0.setCells N (i * 1) vv).heap[b]? = some (.cells arr 23 (0, 0)) := by
        rw [hk1.block b (Nat.lt_of_lt_of_le hblt hk0.size) (by simp; omega)]
        exact hb0
      generalize W0.setCells N (i * 1) vv = W1 at p1 hk1 hc1 hb1
      have p1d : W1.drew.heap[N]? = some (.cells arr1 23 (0, 0)) := p1
      obtain ⟨arr2, q1, q2, q3⟩ := setCells_heap (cv.drop (i * 1)) ((i + 1) * 1) W1.drew arr1 p1d
      have hk2 := setCells_kp N (cv.drop (i * 1)) ((i + 1) * 1) W1.drew
      have hc2 : ∀ ty dc sc, (Builtin.copy_ #[24, 24] ty #[.slice (some ⟨N, (i + 1) * 1, none⟩) (n - i) dc, .slice (some ⟨b, i * 1, none⟩) (n - i) sc]).run Tryz.prog W1.drew = .ok (goInt (Nat.min (n - i) (n - i))) (W1.drew.setCells N ((i + 1) * 1) (cv.drop (i * 1))) := fun ty dc sc =>
        run_copy_n W1.drew _ _ ty 23 N ((i + 1) * 1) (n - i) dc ⟨b, i * 1, none⟩ (n - i) sc 1 (cv.drop (i * 1)) tS hszs (by rw [hdl, show Nat.min (n - i) (n - i) = n - i from Nat.min_self _])
          (fun j v hj => by
            rw [Addr.add_lit]
            show W1.cell? ⟨b, _, none⟩ = some v
            rw [cell_at hb1]
            exact hcv _ v (hdat j v hj))
          (fun j hj => by
            show (W1.cell? ⟨N, _, none⟩).isSome = true
            rw [cell_at p1, Array.getElem?_eq_getElem (by omega)]; rfl)
          (fun j hj => by
            show W1.frozen? ⟨N, _, none⟩ = false
            simp [World.frozen?, p1]) (fun v hv => h1c v (List.mem_of_mem_drop hv))
      refine ⟨N, G, arr2, _, ins_growLeafS b vb n c i vc N G w W0 W1 _ _ _ hin' (by omega) hnc (by omega) hge (by simpa using hr) (by simpa using hc1) (by simpa using hc2), q1, by omega, hge, ?_, .inr (by omega), ?_⟩
      · intro j u hj
        rw [insV_at _ _ _ _ hvl (by omega)] at hj
        rw [q3]
        split at hj
        · have := getv hj
          rw [if_neg (by omega), p3, if_neg (by omega), hRa j (by omega)]
          exact hj
        · split at hj
          · have := getv hj
            rw [if_neg (by omega), p3, if_pos (by omega)]
            exact hj
          · have := getv hj
            rw [if_pos (by omega), List.getElem?_drop]
            have e : i * 1 + (j - (i + 1) * 1) = j - 1 := by omega
            rw [e]
            exact hj
      · have hk1' : Kp [] w W1 := hk0.trans hk1 (by simp; omega)
        have hk2' : Kp [] w (W1.drew.setCells N ((i + 1) * 1) (cv.drop (i * 1))) := (hk1'.trans (Kp.of_below (bs := []) (drew_below W1)) (by simp)).trans hk2 (by simp; omega)
        exact Kp.of_below hk2'.below
theorem ins_nilLeafS (ad : Option Addr) (vb vc : Nat) (w : World) (va : Array Value) (vv : List Value) (hvb : w.heap[vb]? = some (.cells va 23 (0, 0))) (hvl : vv.length = 1) (hvv : ∀ (j : Nat) u, vv[j]? = some u → va[j]? = some u) :
    ∃ (c' : Nat) (arr' : Array Value) (w' : World), Calls Tryz.prog 80 #[.slice ad 0 0, .int .i64 (0 : Nat), .slice (some ⟨vb, 0, none⟩) 1 vc] w (fun e w'' => e = .returned (.slice (some ⟨w.heap.size, 0, none⟩) (0 + 1) c') ∧ w'' = w') ∧
      w'.heap[w.heap.size]? = some (.cells arr' 23 (0, 0)) ∧ c' * 1 ≤ arr'.size ∧ 0 + 1 ≤ c' ∧ (∀ (j : Nat) u, (insV 1 0 [] vv)[j]? = some u → arr'[j]? = some u) ∧ Kp [] w w' := by
  have tS : Tryz.prog.underlying 24 = some (.slice 23) := by kernel_rfl
  obtain ⟨inf, hinf⟩ := tsz_info (P := Tryz.prog) (t := 23) (by simp)
  have hsz : inf.size = 1 := by
    have h1 : tsz Tryz.prog 23 = inf.size := by simp only [tsz, hinf]
    have h2 : tsz Tryz.prog 23 = 1 := by kernel_rfl
    omega
  have hby : inf.bytes = 24 := by
    have h1 : tby Tryz.prog 23 = inf.bytes := by simp only [tby, hinf]
    have h2 : tby Tryz.prog 23 = 24 := by kernel_rfl
    omega
  obtain ⟨z, hz⟩ : ∃ z, inf.zero = some z := by
    have h2 : (tzero Tryz.prog 23).isSome = true := by kernel_rfl
    have h1 : tzero Tryz.prog 23 = inf.zero := by simp only [tzero, hinf]
    rw [h1] at h2
    exact Option.isSome_iff_exists.1 h2
  have hzs : z.cells.size = 1 := by
    have h2 : (tzero Tryz.prog 23).map (fun z => z.cells.size) = some 1 := by kernel_rfl
    have h1 : tzero Tryz.prog 23 = inf.zero := by simp only [tzero, hinf]
    rw [h1, hz] at h2
    simpa using h2
  have hcellv : ∀ (k : Nat) u, vv[k]? = some u → w.cell? ⟨vb, k, none⟩ = some u := fun k u h => by rw [cell_at hvb]; exact hvv k u h
  have hge := grownCap_ge w 1 0 23
  have hins : insV 1 0 [] vv = vv := by simp [insV]
  rw [hins]
  have hr : ∀ ty, (Builtin.append_ #[24, 24] ty #[.slice ad 0 0, .slice (some ⟨vb, 0, none⟩) 1 vc]).run Tryz.prog w = .ok (.slice (some ⟨w.heap.size, 0, none⟩) (0 + 1) (grownCap w 1 0 23)) (w.drew.alloc (.cells (vv.toArray ++ Builtin.zeroCells z.cells (grownCap w 1 0 23 - 1)) 23)) := fun ty => by
    cases ad with
    | none => exact run_append_nil (P := Tryz.prog) w 24 ty 23 inf z tS hinf hz ⟨vb, 0, none⟩ 1 vc vv (by rw [hsz, hvl]) (fun j u hj => by rw [Addr.add_lit, Nat.zero_add]; exact hcellv j u hj) (by omega) (by omega) (by rw [hby]; omega)
    | some x =>
      have h := run_append_grow (P := Tryz.prog) w 24 ty 23 inf z tS hinf hz x 0 0 [] (by simp) (by simp) ⟨vb, 0, none⟩ 1 vc vv (by rw [hsz, hvl]) (fun j u hj => by rw [Addr.add_lit, Nat.zero_add]; exact hcellv j u hj) (by omega) (by omega) (growslice_fits (by omega) (by rw [hby]; omega))
      simpa using h
  refine ⟨_, _, _, ins_endLeafS ad vb 0 0 vc w _ _ (Nat.le_refl _) hr, alloc_at w.drew _, ?_, hge, ?_, (Kp.of_below (drew_below w)).trans (alloc_kp [] w.drew _) (by simp)⟩
  · simp only [Array.size_append, List.size_toArray, size_zeroCells, hzs, hvl]
    omega
  · intro j u hj
    have hjl := getv hj
    rw [Array.getElem?_append_left (by simpa using hjl)]
    simpa using hj
theorem ok_Insert_LeafS (n i : Nat) (cs vs : List PT) (hcl : cs.length = n * 1) (hvl : vs.length = 1) (hi : i ≤ n) (hbig : (n + 1) * 24 ≤ 140737488355328) :
    CallOK Tryz.prog 80 [.c (.sl 0 23 n cs), .c (pi i), .c (.sl 0 23 1 vs)] (.c (.sl 0 23 (n + 1) (cs.take (i * 1) ++ vs ++ cs.drop (i * 1)))) [.c .hole, .c (pi i), .c .hole] := by
  intro I w las he hh hnd hI
  obtain ⟨ts, rfl, hts⟩ := erase_cs las [.sl 0 23 n cs, pi i, .sl 0 23 1 vs] he
  obtain ⟨t0, t1, t2, rfl⟩ : ∃ t0 t1 t2, ts = [t0, t1, t2] := by
    have hl : ts.length = 3 := by simpa using congrArg List.length hts
    match ts, hl with
    | [a, b, c], _ => exact ⟨a, b, c, rfl⟩
  simp only [List.map_cons, List.map_nil, List.cons.injEq, and_true] at hts
  obtain ⟨e0, e1, e2⟩ := hts
  have hs2 : tsz Tryz.prog 23 = 1 := by kernel_rfl
  have k0 : t0.holds (tsz Tryz.prog) w I := by simpa [LV.holds] using hh (.c t0) (by simp)
  have k1 : t1.holds (tsz Tryz.prog) w I := by simpa [LV.holds] using hh (.c t1) (by simp)
  have k2 : t2.holds (tsz Tryz.prog) w I := by simpa [LV.holds] using hh (.c t2) (by simp)
  have hv1 : t1.val = .int .i64 i := by
    cases t1 with
    | leaf v p =>
      simp only [LT.erase] at e1
      subst e1
      simp only [LT.holds, Im, pi] at k1
      exact k1.1
    | own b cap e m cs => simp [LT.erase, pi] at e1
  have hb1 : t1.blocks = [] := by
    cases t1 with
    | leaf v p => simp [LT.blocks]
    | own b cap e m cs => simp [LT.erase, pi] at e1
  simp only [List.map_cons, List.map_nil] at hh hnd hI ⊢
  cases t2 with
  | leaf v p =>
    simp only [LT.erase] at e2
    subst e2
    simp only [LT.holds, Im] at k2
    have := k2.1.1
    omega
  | own vb vcap ve vn lv =>
    simp only [LT.erase, PT.sl.injEq, true_and] at e2
    obtain ⟨rfl, rfl, rfl⟩ := e2
    have k2' := k2
    simp only [LT.holds] at k2'
    obtain ⟨⟨va, g1, g2, g3⟩, g4, g5, g6, g7⟩ := k2'
    rw [hs2] at g2 g4 g6
    have hlvl : lv.length = 1 := by omega
    have hvv : ∀ (j : Nat) u, (lv.map LT.val)[j]? = some u → va[j]? = some u := by
      intro j u hj
      rw [List.getElem?_map, Option.map_eq_some_iff] at hj
      obtain ⟨d, hd, rfl⟩ := hj
      exact g3 j d hd
    have hone : ∀ {l : List LT}, (∀ c ∈ l, c.holds (tsz Tryz.prog) w I) → ∀ v ∈ l.map LT.val, v.oneCell' = true := by
      intro l hl v hv
      obtain ⟨d, hd, rfl⟩ := List.mem_map.1 hv
      rw [one_oneCell]
      exact LT.holds_one (hl d hd)
    cases t0 with
    | leaf v p =>
      simp only [LT.erase] at e0
      subst e0
      simp only [LT.holds, Im] at k0
      obtain ⟨⟨rfl, rfl, ad, rfl⟩, _⟩ := k0
      have hi0 : i = 0 := by omega
      subst hi0
      obtain ⟨c', arr', w', hc, p1, p2, p3, p4, p5⟩ := ins_nilLeafS ad vb vcap w va (lv.map LT.val) g1 (by rw [List.length_map, hlvl]) hvv
      have hlas : ([LV.c (.leaf (.slice ad 0 0) (.sl 0 23 0 [])), .c t1, .c (.own vb vcap 23 1 lv)].flatMap LV.blocks) = vb :: lv.flatMap LT.blocks := by simp [LV.blocks, LT.blocks, hb1]
      have hargs : [LV.val (.c (.leaf (.slice ad 0 0) (.sl 0 23 0 []))), LV.val (.c t1), LV.val (.c (.own vb vcap 23 1 lv))].toArray = #[.slice ad 0 0, .int .i64 (0 : Nat), .slice (some ⟨vb, 0, none⟩) 1 vcap] := by
        simp only [LV.val, LT.val] at hv1 ⊢
        rw [hv1]
      rw [hargs]
      refine (CallsF.of_calls Tryz.func80 (by kernel_rfl) rfl hc).mono ?_
      rintro e w'' ⟨rfl, rfl⟩
      have hnd2 : (vb :: lv.flatMap LT.blocks).Nodup := by rw [← hlas]; exact hnd
      exact ins_fin (P := Tryz.prog) (I := I) (w := w) (w' := w'') (ls := []) (lv := lv) (b := w.heap.size) (b' := w.heap.size) (c' := c') (S := 1) (e := 23) (n := 0) (i := 0) (arr' := arr') (v0 := .slice ad 0 0) (v1 := t1.val) (v2 := (LT.own vb vcap 23 1 lv).val)
        (by omega) hs2 (by simp) hlvl (Nat.le_refl _) (by simpa using g7) (by
          rw [List.nil_append]
          refine List.nodup_cons.2 ⟨fun hx => ?_, (List.nodup_cons.1 hnd2).2⟩
          obtain ⟨c, hc, hx⟩ := List.mem_flatMap.1 hx
          have := LT.blocks_lt c (g7 c hc) _ hx
          omega) (by rw [hlas]; intro x hx; exact List.mem_cons_of_mem _ (by simpa using hx)) (.inr (Nat.le_refl _)) hI (by simp [LV.full, LV.trees, LT.val]) ⟨rfl, hv1, rfl⟩ p1 p2 p3 p4 (.inl rfl) (Kp.of_below p5.below)
    | own b cap e m ls =>
      simp only [LT.erase, PT.sl.injEq, true_and] at e0
      obtain ⟨rfl, rfl, rfl⟩ := e0
      have k0' := k0
      simp only [LT.holds] at k0'
      obtain ⟨⟨arr, q1, q2, q3⟩, q4, q5, q6, q7⟩ := k0'
      rw [hs2] at q2 q4 q6
      have hcv : ∀ (j : Nat) u, (ls.map LT.val)[j]? = some u → arr[j]? = some u := by
        intro j u hj
        rw [List.getElem?_map, Option.map_eq_some_iff] at hj
        obtain ⟨d, hd, rfl⟩ := hj
        exact q3 j d hd
      have hlas : ([LV.c (.own b cap 23 m ls), .c t1, .c (.own vb vcap 23 1 lv)].flatMap LV.blocks) = (b :: ls.flatMap LT.blocks) ++ (vb :: lv.flatMap LT.blocks) := by simp [LV.blocks, LT.blocks, hb1]
      have hnd2 : ((b :: ls.flatMap LT.blocks) ++ (vb :: lv.flatMap LT.blocks)).Nodup := by rw [← hlas]; exact hnd
      have hnd3 := List.nodup_append.1 hnd2
      have hne : vb ≠ b := fun e => hnd3.2.2 b (by simp) vb (by simp) e.symm
      obtain ⟨b', c', arr', w', hc, p1, p2, p3, p4, p5, p6⟩ := ins_worldLeafS b vb m cap i vcap w arr va (ls.map LT.val) (lv.map LT.val) q1 g1 hne (by rw [List.length_map, q4]) (by rw [List.length_map, hlvl]) q2 (by omega) q5 hi hcv hvv (hone q7) (hone g7) hbig
      have hargs : [LV.val (.c (.own b cap 23 m ls)), LV.val (.c t1), LV.val (.c (.own vb vcap 23 1 lv))].toArray = #[.slice (some ⟨b, 0, none⟩) m cap, .int .i64 i, .slice (some ⟨vb, 0, none⟩) 1 vcap] := by
        simp only [LV.val, LT.val] at hv1 ⊢
        rw [hv1]
      rw [hargs]
      refine (CallsF.of_calls Tryz.func80 (by kernel_rfl) rfl hc).mono ?_
      rintro e w'' ⟨rfl, rfl⟩
      have hmm : (ls ++ lv).flatMap LT.blocks = ls.flatMap LT.blocks ++ lv.flatMap LT.blocks := List.flatMap_append
      exact ins_fin (P := Tryz.prog) (I := I) (w := w) (w' := w'') (ls := ls) (lv := lv) (b := b) (b' := b') (c' := c') (S := 1) (e := 23) (n := m) (i := i) (arr' := arr') (v0 := (LT.own b cap 23 m ls).val) (v1 := t1.val) (v2 := (LT.own vb vcap 23 1 lv).val)
        (by omega) hs2 q4 hlvl hi (fun c hc => (List.mem_append.1 hc).elim (q7 c) (g7 c)) (by
          rw [hmm]
          rw [List.cons_append] at hnd2
          have h1 := List.nodup_cons.1 hnd2
          refine List.nodup_cons.2 ⟨fun hx => h1.1 ?_, ?_⟩
          · rcases List.mem_append.1 hx with hx | hx
            · exact List.mem_append_left _ hx
            · exact List.mem_append_right _ (List.mem_cons_of_mem _ hx)
          · exact h1.2.sublist (List.Sublist.append_left (List.sublist_cons_self ..) _)) (by
          rw [hlas, hmm]
          intro x hx
          rcases List.mem_append.1 hx with hx | hx
          · exact List.mem_append_left _ (List.mem_cons_of_mem _ hx)
          · exact List.mem_append_right _ (List.mem_cons_of_mem _ hx)) (.inl (by rw [hlas]; simp)) hI (by simp [LV.full, LV.trees, LT.val]) ⟨rfl, hv1, rfl⟩ p1 p2 p3 p4 p5 p6
theorem ins_b24 (n : Nat) (h : n + 1 ≤ 1048576) : (n + 1 + 1) * 24 ≤ 140737488355328 := by omega
theorem ok_confirm (s : GStore) (hs : storeB s) (hh : s.History ≠ []) : CallOK Tryz.prog 55 [.bp (.sl 0 26 1 s.co)] (.tup []) [.bp (.sl 0 26 1 (confirmS s).co)] := by
  obtain ⟨b1, b2, b3, b4⟩ := hs
  obtain ⟨C, R, H, F⟩ := s
  simp only at b1 b2 b3 b4 hh
  obtain ⟨h0', H', rfl⟩ : ∃ x H', H = x :: H' := by
    cases H with
    | nil => exact absurd rfl hh
    | cons x H' => exact ⟨x, H', rfl⟩
  have hb := b4 h0' (List.mem_cons_self ..)
  simp only [List.length_cons] at b3
  refine okS (fn := Tryz.f55) [(80, [2,0,2])] h0 Tryz.func55 (by kernel_rfl) rfl Tryz.ntmps55 Tryz.results55 (by simp) ?_
  simp
  refine drawP (tabEnv [] _) [⟨[.arg 0 0], allD 45, true⟩, ⟨[.arg 0 0], allD 45, true⟩, ⟨[.arg 0 0], allD 45, true⟩, ⟨[.arg 0 0], allD 45, true⟩, ⟨[.arg 0 0], allD 45, true⟩, ⟨[.arg 0 0], allD 45, true⟩, ⟨[.arg 0 0], allD 45, true⟩, ⟨[.arg 0 0], allD 45, true⟩, ⟨[.arg 0 0], allD 45, true⟩, ⟨[.arg 0 0], allD 45, true⟩, ⟨[.arg 0 0], [2, 3, 4, 5, 6, 7, 8, 9, 10, 11, 12, 13], false⟩, ⟨[], allD 45, true⟩] h0 hm (tabEnv_ok (tab_cons (ok_sameConfig 0 0 R h0' (boundC_conf b2) (boundC_conf hb)) tab_nil)) (by kernel_rfl) (by kernel_rfl) ?_
  simp
  refine brn_app (fun a => ?_) (fun a => ?_)
  · simp at a
    have ha : ¬ h0' = R := fun e => a e.symm
    have e : confirmS ⟨C, R, h0' :: H', F⟩ = ⟨C, R, (R :: h0' :: H').take 10, 0⟩ := by simp [confirmS, ha]
    rw [e]
    simp
    have b5 : (1 + (H'.length + 1)) * 24 ≤ 140737488355328 := by omega
    have b6 : 1 + (H'.length + 1) ≤ 9223372036854775807 := by omega
    have b7 : (H'.length + 1 + 1) * 24 ≤ 140737488355328 := ins_b24 _ b3
    have b8 : (cLeafSo h0' :: H'.map cLeafSo).length = (H'.length + 1) * 1 := by rw [List.length_cons, List.length_map, Nat.mul_one]
    have hIns := ok_Insert_LeafS (H'.length + 1) 0 (cLeafSo h0' :: H'.map cLeafSo) [cLeafSo R] b8 (by rfl) (Nat.zero_le _) b7
    simp only [Nat.zero_mul, List.take_zero, List.drop_zero, List.nil_append, List.cons_append] at hIns
    refine drawM 1 (tabEnv [(80, [2, 0, 2])] _) [⟨[.arg 0 0], allD 45, true⟩, ⟨[.arg 0 0], allD 45, true⟩, ⟨[.arg 0 0], allD 45, true⟩, ⟨[.arg 0 0], allD 45, true⟩, ⟨[.arg 0 0], allD 45, true⟩, ⟨[.arg 0 0], allD 45, true⟩, ⟨[.arg 0 0], allD 45, true⟩, ⟨[.arg 0 0], allD 45, true⟩, ⟨[.arg 0 0], allD 45, true⟩, ⟨[.arg 0 0], allD 45, true⟩, ⟨[.op 1 9 0], [15, 16, 17, 18, 19, 20, 21, 22, 23, 24, 25, 26, 27], false⟩, ⟨[.arg 0 0, .op 1 10 0], [15, 16, 17, 18, 19, 20, 21, 22, 23, 24, 25, 26, 27], false⟩, ⟨[.arg 0 0], allD 45, true⟩, ⟨[.arg 0 0], allD 45, true⟩, ⟨[.arg 0 0, .op 1 11 0], [15, 16, 17, 18, 19, 20, 21, 22, 23, 24, 25, 26, 27], false⟩] h0 hm (tabEnv_ok (tab_cons (ok_ownConfig 0 R b2.1 (fun x hx => (b2.2 x hx).1)) (tab_cons hIns tab_nil))) (by kernel_rfl) (by kernel_rfl) ?_
    simp [b5, b6]
    rcases Nat.lt_or_ge 8 H'.length with c | c
    · have c1 : (10 : Int) < ↑(H'.length + 1 + 1) := by omega
      have c1' : (10 : Int) < (H'.length : Int) + 1 + 1 := by omega
      have c2 : min 8 H'.length = 8 := by omega
      have c3 : 8 ≤ H'.length := by omega
      have c4 : 10 ≤ H'.length + 1 + 1 := by omega
      have hbnd : bnd none (some (some (Value.int IntKind.i64 10))) (H'.length + 1 + 1) = some (0, 10) := bnd_ns (by decide) (by omega)
      have hT : ∀ X : List PT, List.take 8 (List.take 8 X) = List.take 8 X := fun X => by rw [List.take_take]; rfl
      refine drawM 1 (tabEnv [] []) [⟨[.arg 0 0], allD 45, true⟩, ⟨[.arg 0 0], allD 45, true⟩, ⟨[.arg 0 0], allD 45, true⟩, ⟨[.arg 0 0], allD 45, true⟩, ⟨[.arg 0 0], allD 45, true⟩, ⟨[.arg 0 0], allD 45, true⟩, ⟨[.arg 0 0], allD 45, true⟩, ⟨[.arg 0 0], allD 45, true⟩, ⟨[.arg 0 0], allD 45, true⟩, ⟨[.arg 0 0], allD 45, true⟩, ⟨[.arg 0 0], allD 45, true⟩, ⟨[.arg 0 0], allD 45, true⟩, ⟨[.arg 0 0], allD 45, true⟩, ⟨[.arg 0 0], allD 45, true⟩, ⟨[.arg 0 0], [29, 30, 31, 32, 33, 34, 35, 36, 37, 38, 39, 40, 41], false⟩] h0 hm (tabEnv_ok tab_nil) (by kernel_rfl) (by kernel_rfl) ?_
      simp [c1, c1', c2, c3, c4, hbnd, hT]
    · have c1 : ¬ (10 : Int) < ↑(H'.length + 1 + 1) := by omega
      have c1' : ¬ (10 : Int) < (H'.length : Int) + 1 + 1 := by omega
      have c2 : min 8 H'.length = H'.length := by omega
      have c3 : List.take 8 (H'.map cLeafSo) = H'.map cLeafSo := List.take_of_length_le (by rw [List.length_map]; omega)
      have c5 : ∀ a b : PT, List.take (H'.length + 1 + 1) (a :: b :: H'.map cLeafSo) = a :: b :: H'.map cLeafSo := fun a b => List.take_of_length_le (by simp)
      have hbnd : bnd none (some (some (Value.int IntKind.i64 ((H'.length : Int) + 1 + 1)))) (H'.length + 1 + 1) = some (0, H'.length + 1 + 1) := bnd_ns (by omega) (by omega)
      refine drawM 1 (tabEnv [] []) [⟨[.arg 0 0], allD 45, true⟩, ⟨[.arg 0 0], allD 45, true⟩, ⟨[.arg 0 0], allD 45, true⟩, ⟨[.arg 0 0], allD 45, true⟩, ⟨[.arg 0 0], allD 45, true⟩, ⟨[.arg 0 0], allD 45, true⟩, ⟨[.arg 0 0], allD 45, true⟩, ⟨[.arg 0 0], allD 45, true⟩, ⟨[.arg 0 0], allD 45, true⟩, ⟨[.arg 0 0], allD 45, true⟩, ⟨[.arg 0 0], allD 45, true⟩, ⟨[.arg 0 0], allD 45, true⟩, ⟨[.arg 0 0], allD 45, true⟩, ⟨[.arg 0 0], allD 45, true⟩, ⟨[.arg 0 0], [29, 30, 31, 32, 33, 34, 35, 36, 37, 38, 39, 40, 41], false⟩] h0 hm (tabEnv_ok tab_nil) (by kernel_rfl) (by kernel_rfl) ?_
      simp [c1, c1', c2, c3, c5, hbnd]
  · simp at a
    have e : confirmS ⟨C, R, h0' :: H', F⟩ = ⟨C, R, h0' :: H', 0⟩ := by simp [confirmS, a]
    rw [e]
    simp
end Go.V
