/- What functions of the seat's program do, each proved of its code, under the bounds that its theorem names. -/
import Derived.Test.YtnmfcpgelajolaaTaf
set_option linter.all false
namespace Go.V
open Go.Proofs
set_option maxHeartbeats 1000000
set_option maxRecDepth 10000
set_option linter.unusedSimpArgs false
set_option linter.unusedVariables false
theorem ins_nilLeafS (ad : Option Addr) (vb vc : Nat) (w : World) (va : Array Value) (vv : List Value) (hvb : w.heap[vb]? = some (.cells va 25 (0, 0))) (hvl : vv.length = 1) (hvv : ∀ (j : Nat) u, vv[j]? = some u → va[j]? = some u) :
    ∃ (c' : Nat) (arr' : Array Value) (w' : World), Calls Try.prog 60 #[.slice ad 0 0, .int .i64 (0 : Nat), .slice (some ⟨vb, 0, none⟩) 1 vc] w (fun e w'' => e = .returned (.slice (some ⟨w.heap.size, 0, none⟩) (0 + 1) c') ∧ w'' = w') ∧
      w'.heap[w.heap.size]? = some (.cells arr' 25 (0, 0)) ∧ c' * 1 ≤ arr'.size ∧ 0 + 1 ≤ c' ∧ (∀ (j : Nat) u, (insV 1 0 [] vv)[j]? = some u → arr'[j]? = some u) ∧ Kp [] w w' := by
  have tS : Try.prog.underlying 26 = some (.slice 25) := by kernel_rfl
  obtain ⟨inf, hinf⟩ := tsz_info (P := Try.prog) (t := 25) (by simp)
  have hsz : inf.size = 1 := by
    have h1 : tsz Try.prog 25 = inf.size := by simp only [tsz, hinf]
    have h2 : tsz Try.prog 25 = 1 := by kernel_rfl
    omega
  have hby : inf.bytes = 24 := by
    have h1 : tby Try.prog 25 = inf.bytes := by simp only [tby, hinf]
    have h2 : tby Try.prog 25 = 24 := by kernel_rfl
    omega
  obtain ⟨z, hz⟩ : ∃ z, inf.zero = some z := by
    have h2 : (tzero Try.prog 25).isSome = true := by kernel_rfl
    have h1 : tzero Try.prog 25 = inf.zero := by simp only [tzero, hinf]
    rw [h1] at h2
    exact Option.isSome_iff_exists.1 h2
  have hzs : z.cells.size = 1 := by
    have h2 : (tzero Try.prog 25).map (fun z => z.cells.size) = some 1 := by kernel_rfl
    have h1 : tzero Try.prog 25 = inf.zero := by simp only [tzero, hinf]
    rw [h1, hz] at h2
    simpa using h2
  have hcellv : ∀ (k : Nat) u, vv[k]? = some u → w.cell? ⟨vb, k, none⟩ = some u := fun k u h => by rw [cell_at hvb]; exact hvv k u h
  have hge := grownCap_ge w 1 0 25
  have hins : insV 1 0 [] vv = vv := by simp [insV]
  rw [hins]
  have hr : ∀ ty, (Builtin.append_ #[26, 26] ty #[.slice ad 0 0, .slice (some ⟨vb, 0, none⟩) 1 vc]).run Try.prog w = .ok (.slice (some ⟨w.heap.size, 0, none⟩) (0 + 1) (grownCap w 1 0 25)) (w.drew.alloc (.cells (vv.toArray ++ Builtin.zeroCells z.cells (grownCap w 1 0 25 - 1)) 25)) := fun ty => by
    cases ad with
    | none => exact run_append_nil (P := Try.prog) w 26 ty 25 inf z tS hinf hz ⟨vb, 0, none⟩ 1 vc vv (by rw [hsz, hvl]) (fun j u hj => by rw [Addr.add_lit, Nat.zero_add]; exact hcellv j u hj) (by omega) (by omega) (by rw [hby]; omega)
    | some x =>
      have h := run_append_grow (P := Try.prog) w 26 ty 25 inf z tS hinf hz x 0 0 [] (by simp) (by simp) ⟨vb, 0, none⟩ 1 vc vv (by rw [hsz, hvl]) (fun j u hj => by rw [Addr.add_lit, Nat.zero_add]; exact hcellv j u hj) (by omega) (by omega) (growslice_fits (by omega) (by rw [hby]; omega))
      simpa using h
  refine ⟨_, _, _, ins_endLeafS ad vb 0 0 vc w _ _ (Nat.le_refl _) hr, alloc_at w.drew _, ?_, hge, ?_, (Kp.of_below (drew_below w)).trans (alloc_kp [] w.drew _) (by simp)⟩
  · simp only [Array.size_append, List.size_toArray, size_zeroCells, hzs, hvl]
    omega
  · intro j u hj
    have hjl := getv hj
    rw [Array.getElem?_append_left (by simpa using hjl)]
    simpa using hj
theorem ok_Insert_LeafS (n i : Nat) (cs vs : List PT) (hcl : cs.length = n * 1) (hvl : vs.length = 1) (hi : i ≤ n) (hbig : (n + 1) * 24 ≤ 140737488355328) :
    CallOK Try.prog 60 [.c (.sl 0 25 n cs), .c (pi i), .c (.sl 0 25 1 vs)] (.c (.sl 0 25 (n + 1) (cs.take (i * 1) ++ vs ++ cs.drop (i * 1)))) [.c .hole, .c (pi i), .c .hole] := by
  intro I w las he hh hnd hI
  obtain ⟨ts, rfl, hts⟩ := erase_cs las [.sl 0 25 n cs, pi i, .sl 0 25 1 vs] he
  obtain ⟨t0, t1, t2, rfl⟩ : ∃ t0 t1 t2, ts = [t0, t1, t2] := by
    have hl : ts.length = 3 := by simpa using congrArg List.length hts
    match ts, hl with
    | [a, b, c], _ => exact ⟨a, b, c, rfl⟩
  simp only [List.map_cons, List.map_nil, List.cons.injEq, and_true] at hts
  obtain ⟨e0, e1, e2⟩ := hts
  have hs2 : tsz Try.prog 25 = 1 := by kernel_rfl
  have k0 : t0.holds (tsz Try.prog) w I := by simpa [LV.holds] using hh (.c t0) (by simp)
  have k1 : t1.holds (tsz Try.prog) w I := by simpa [LV.holds] using hh (.c t1) (by simp)
  have k2 : t2.holds (tsz Try.prog) w I := by simpa [LV.holds] using hh (.c t2) (by simp)
  have hv1 : t1.val = .int .i64 i := by
    cases t1 with
    | leaf v p =>
      simp only [LT.erase] at e1
      subst e1
      simp only [LT.holds, Im, pi] at k1
      exact k1.1
    | own b cap e m cs => simp [LT.erase, pi] at e1
  have hb1 : t1.blocks = [] := by
    cases t1 with
    | leaf v p => simp [LT.blocks]
    | own b cap e m cs => simp [LT.erase, pi] at e1
  simp only [List.map_cons, List.map_nil] at hh hnd hI ⊢
  cases t2 with
  | leaf v p =>
    simp only [LT.erase] at e2
    subst e2
    simp only [LT.holds, Im] at k2
    have := k2.1.1
    omega
  | own vb vcap ve vn lv =>
    simp only [LT.erase, PT.sl.injEq, true_and] at e2
    obtain ⟨rfl, rfl, rfl⟩ := e2
    have k2' := k2
    simp only [LT.holds] at k2'
    obtain ⟨⟨va, g1, g2, g3⟩, g4, g5, g6, g7⟩ := k2'
    rw [hs2] at g2 g4 g6
    have hlvl : lv.length = 1 := by omega
    have hvv : ∀ (j : Nat) u, (lv.map LT.val)[j]? = some u → va[j]? = some u := by
      intro j u hj
      rw [List.getElem?_map, Option.map_eq_some_iff] at hj
      obtain ⟨d, hd, rfl⟩ := hj
      exact g3 j d hd
    have hone : ∀ {l : List LT}, (∀ c ∈ l, c.holds (tsz Try.prog) w I) → ∀ v ∈ l.map LT.val, v.oneCell' = true := by
      intro l hl v hv
      obtain ⟨d, hd, rfl⟩ := List.mem_map.1 hv
      rw [one_oneCell]
      exact LT.holds_one (hl d hd)
    cases t0 with
    | leaf v p =>
      simp only [LT.erase] at e0
      subst e0
      simp only [LT.holds, Im] at k0
      obtain ⟨⟨rfl, rfl, ad, rfl⟩, _⟩ := k0
      have hi0 : i = 0 := by omega
      subst hi0
      obtain ⟨c', arr', w', hc, p1, p2, p3, p4, p5⟩ := ins_nilLeafS ad vb vcap w va (lv.map LT.val) g1 (by rw [List.length_map, hlvl]) hvv
      have hlas : ([LV.c (.leaf (.slice ad 0 0) (.sl 0 25 0 [])), .c t1, .c (.own vb vcap 25 1 lv)].flatMap LV.blocks) = vb :: lv.flatMap LT.blocks := by simp [LV.blocks, LT.blocks, hb1]
      have hargs : [LV.val (.c (.leaf (.slice ad 0 0) (.sl 0 25 0 []))), LV.val (.c t1), LV.val (.c (.own vb vcap 25 1 lv))].toArray = #[.slice ad 0 0, .int .i64 (0 : Nat), .slice (some ⟨vb, 0, none⟩) 1 vcap] := by
        simp only [LV.val, LT.val] at hv1 ⊢
        rw [hv1]
      rw [hargs]
      refine (CallsF.of_calls Try.func60 (by kernel_rfl) rfl hc).mono ?_
      rintro e w'' ⟨rfl, rfl⟩
      have hnd2 : (vb :: lv.flatMap LT.blocks).Nodup := by rw [← hlas]; exact hnd
      exact ins_fin (P := Try.prog) (I := I) (w := w) (w' := w'') (ls := []) (lv := lv) (b := w.heap.size) (b' := w.heap.size) (c' := c') (S := 1) (e := 25) (n := 0) (i := 0) (arr' := arr') (v0 := .slice ad 0 0) (v1 := t1.val) (v2 := (LT.own vb vcap 25 1 lv).val)
        (by omega) hs2 (by simp) hlvl (Nat.le_refl _) (by simpa using g7) (by
          rw [List.nil_append]
          refine List.nodup_cons.2 ⟨fun hx => ?_, (List.nodup_cons.1 hnd2).2⟩
          obtain ⟨c, hc, hx⟩ := List.mem_flatMap.1 hx
          have := LT.blocks_lt c (g7 c hc) _ hx
          omega) (by rw [hlas]; intro x hx; exact List.mem_cons_of_mem _ (by simpa using hx)) (.inr (Nat.le_refl _)) hI (by simp [LV.full, LV.trees, LT.val]) ⟨rfl, hv1, rfl⟩ p1 p2 p3 p4 (.inl rfl) (Kp.of_below p5.below)
    | own b cap e m ls =>
      simp only [LT.erase, PT.sl.injEq, true_and] at e0
      obtain ⟨rfl, rfl, rfl⟩ := e0
      have k0' := k0
      simp only [LT.holds] at k0'
      obtain ⟨⟨arr, q1, q2, q3⟩, q4, q5, q6, q7⟩ := k0'
      rw [hs2] at q2 q4 q6
      have hcv : ∀ (j : Nat) u, (ls.map LT.val)[j]? = some u → arr[j]? = some u := by
        intro j u hj
        rw [List.getElem?_map, Option.map_eq_some_iff] at hj
        obtain ⟨d, hd, rfl⟩ := hj
        exact q3 j d hd
      have hlas : ([LV.c (.own b cap 25 m ls), .c t1, .c (.own vb vcap 25 1 lv)].flatMap LV.blocks) = (b :: ls.flatMap LT.blocks) ++ (vb :: lv.flatMap LT.blocks) := by simp [LV.blocks, LT.blocks, hb1]
      have hnd2 : ((b :: ls.flatMap LT.blocks) ++ (vb :: lv.flatMap LT.blocks)).Nodup := by rw [← hlas]; exact hnd
      have hnd3 := List.nodup_append.1 hnd2
      have hne : vb ≠ b := fun e => hnd3.2.2 b (by simp) vb (by simp) e.symm
      obtain ⟨b', c', arr', w', hc, p1, p2, p3, p4, p5, p6⟩ := ins_worldLeafS b vb m cap i vcap w arr va (ls.map LT.val) (lv.map LT.val) q1 g1 hne (by rw [List.length_map, q4]) (by rw [List.length_map, hlvl]) q2 (by omega) q5 hi hcv hvv (hone q7) (hone g7) hbig
      have hargs : [LV.val (.c (.own b cap 25 m ls)), LV.val (.c t1), LV.val (.c (.own vb vcap 25 1 lv))].toArray = #[.slice (some ⟨b, 0, none⟩) m cap, .int .i64 i, .slice (some ⟨vb, 0, none⟩) 1 vcap] := by
        simp only [LV.val, LT.val] at hv1 ⊢
        rw [hv1]
      rw [hargs]
      refine (CallsF.of_calls Try.func60 (by kernel_rfl) rfl hc).mono ?_
      rintro e w'' ⟨rfl, rfl⟩
      have hmm : (ls ++ lv).flatMap LT.blocks = ls.flatMap LT.blocks ++ lv.flatMap LT.blocks := List.flatMap_append
      exact ins_fin (P := Try.prog) (I := I) (w := w) (w' := w'') (ls := ls) (lv := lv) (b := b) (b' := b') (c' := c') (S := 1) (e := 25) (n := m) (i := i) (arr' := arr') (v0 := (LT.own b cap 25 m ls).val) (v1 := t1.val) (v2 := (LT.own vb vcap 25 1 lv).val)
        (by omega) hs2 q4 hlvl hi (fun c hc => (List.mem_append.1 hc).elim (q7 c) (g7 c)) (by
          rw [hmm]
          rw [List.cons_append] at hnd2
          have h1 := List.nodup_cons.1 hnd2
          refine List.nodup_cons.2 ⟨fun hx => h1.1 ?_, ?_⟩
          · rcases List.mem_append.1 hx with hx | hx
            · exact List.mem_append_left _ hx
            · exact List.mem_append_right _ (List.mem_cons_of_mem _ hx)
          · exact h1.2.sublist (List.Sublist.append_left (List.sublist_cons_self ..) _)) (by
          rw [hlas, hmm]
          intro x hx
          rcases List.mem_append.1 hx with hx | hx
          · exact List.mem_append_left _ (List.mem_cons_of_mem _ hx)
          · exact List.mem_append_right _ (List.mem_cons_of_mem _ hx)) (.inl (by rw [hlas]; simp)) hI (by simp [LV.full, LV.trees, LT.val]) ⟨rfl, hv1, rfl⟩ p1 p2 p3 p4 p5 p6
theorem ci_inj : ∀ {a b : List GLeaf} {k : Nat}, a.flatMap (GLeaf.ci k) = b.flatMap (GLeaf.ci k) → a = b
  | [], [], _, _ => rfl
  | [], y :: b, k, h => by simp at h
  | x :: a, [], k, h => by simp at h
  | x :: a, y :: b, k, h => by
    simp only [List.flatMap_cons, GLeaf.ci, List.cons_append, List.nil_append, List.cons.injEq] at h
    obtain ⟨h1, h2, h3⟩ := h
    have e1 : x.Path = y.Path := by
      simp only [rd, PT.sl.injEq] at h1
      have h4 := h1.2.2.2
      exact List.map_inj_right (fun u v huv => by simpa [ps] using huv) |>.1 h4
    have e2 : x.Value = y.Value := by simpa [ps] using h2
    rw [ci_inj h3]
    cases x; cases y
    simp only at e1 e2
    rw [e1, e2]
def storeB (s : GStore) : Prop := boundC s.Candidate ∧ boundC s.Running ∧ s.History.length ≤ 1048576 ∧ ∀ h ∈ s.History, boundC h
theorem ok_ownStore (k : Nat) (s : GStore) (hs : storeB s) : CallOK Try.prog 32 [.agg (GStore.ci k s)] (.agg s.co) [.agg (GStore.ci k s)] := by
  obtain ⟨b1, b2, b3, b4⟩ := hs
  refine okS (fn := Try.f32) [] h0 Try.func32 (by kernel_rfl) rfl Try.ntmps32 Try.results32 (by simp) ?_
  simp
  have hE := f2_at2 (a1 := [PV.c (rd k s.Candidate.length (s.Candidate.flatMap (GLeaf.ci k)))]) (a2 := [PV.c (rd k s.Running.length (s.Running.flatMap (GLeaf.ci k)))]) (r1 := .c (.sl 0 58 s.Candidate.length (s.Candidate.flatMap GLeaf.co))) (r2 := .c (.sl 0 58 s.Running.length (s.Running.flatMap GLeaf.co))) (fun e => by
    simp only [List.cons.injEq, PV.c.injEq, rd, PT.sl.injEq, and_true, true_and] at e
    rw [ci_inj e.2])
  refine drawP (fnEnv 20 (f2 [PV.c (rd k s.Candidate.length (s.Candidate.flatMap (GLeaf.ci k)))] [PV.c (rd k s.Running.length (s.Running.flatMap (GLeaf.ci k)))] (.c (.sl 0 58 s.Candidate.length (s.Candidate.flatMap GLeaf.co))) (.c (.sl 0 58 s.Running.length (s.Running.flatMap GLeaf.co)))) (tabEnv [] [])) [⟨[.op 0 0 0], allD 31, true⟩, ⟨[.op 0 0 0], allD 31, true⟩, ⟨[], allD 31, false⟩, ⟨[.op 0 0 0], allD 31, true⟩, ⟨[.op 0 0 0], allD 31, true⟩, ⟨[], allD 31, false⟩, ⟨[.op 0 0 0], allD 31, true⟩, ⟨[.op 0 0 0], allD 31, true⟩, ⟨[.op 1 2 0, .op 1 5 0], allD 31, true⟩, ⟨[], allD 31, false⟩, ⟨[.op 1 9 0, .op 1 2 0, .op 1 5 0], [6, 7, 8, 9, 10, 11, 12, 13, 14, 3], false⟩] h0 hm (fnEnv_ok (tabEnv_ok tab_nil) (f2_ok (ok_ownConfig k s.Candidate b1.1 (fun x hx => (b1.2 x hx).1)) (ok_ownConfig k s.Running b2.1 (fun x hx => (b2.2 x hx).1)))) (by kernel_rfl) (by kernel_rfl) ?_
  simp [f2_at1, hE]
  refine loopS [2, 3, 16, 17, 18] [.op 1 9 0, .op 0 1 0] (fun m st => ∃ (i : Nat), i + m = s.History.length ∧ st = ⟨slOf 31 [(2, .ptr ⟨.op 0 1 0, []⟩ 0), (3, .ptr ⟨.op 1 9 0, []⟩ 0), (16, .t (rd k s.History.length (s.History.map (cLeafSi k)))), (17, .t (pi s.History.length)), (18, .t (pi i))], ofL [(.op 1 9 0, .sl 0 28 1 [.sl 0 58 s.Candidate.length (s.Candidate.flatMap GLeaf.co), .sl 0 58 s.Running.length (s.Running.flatMap GLeaf.co), (if i = 0 then .sl 0 nilE 0 [] else .sl 0 25 i ((s.History.take i).map cLeafSo)), pi s.Left]), (.op 0 1 0, .sl 0 28 1 [.sl 0 nilE 0 [], .sl 0 nilE 0 [], .sl 0 nilE 0 [], pi 0])]⟩) s.History.length ?_ ?_
  · rintro Inv hI
    simp
    subst hI
    exact ⟨0, by omega, rfl⟩
  · rintro Inv hI m st ⟨i, hi, rfl⟩
    have hts0 : ∀ a : i < s.History.length, (s.History.take (i + 1)).map cLeafSo = (s.History.take i).map cLeafSo ++ [cLeafSo s.History[i]] := fun a => by rw [take_step _ i a, List.map_append]; rfl
    have hln0 : i ≤ s.History.length → ((s.History.take i).map cLeafSo).length = i := fun h => by simp; omega
    have hfin : i = s.History.length → (s.History.take i).map cLeafSo = s.History.map cLeafSo := by rintro rfl; rw [List.take_length]
    have hA0 : i = 0 → (s.History.take i).map cLeafSo = [] := by rintro rfl; rfl
    generalize (s.History.take i).map cLeafSo = A at hts0 hln0 hfin hA0 ⊢
    refine ewr_sound (M := []) h0 ?_
    simp
    refine brn_app (fun a => ?_) (fun a => ?_)
    · simp at a
      have hts := hts0 a
      have hln := hln0 (by omega)
      have hb := b4 _ (List.getElem_mem a)
      have hb1 : (i + 1) * 24 ≤ 140737488355328 := by omega
      have hb2 : i + 1 ≤ 9223372036854775807 := by omega
      simp [a]
      by_cases hi0 : i = 0
      · subst hi0
        simp
        refine drawP (tabEnv [] _) [⟨[.op 1 9 0], allD 31, true⟩, ⟨[.op 1 9 0], allD 31, true⟩, ⟨[], allD 31, true⟩, ⟨[], allD 31, false⟩, ⟨[.op 5 3 0], [22, 23, 24, 25, 26, 27, 28], false⟩, ⟨[.op 1 9 0, .op 5 3 0, .op 5 4 0], [22, 23, 24, 25, 26, 27, 28], false⟩, ⟨[.op 1 9 0], allD 31, true⟩, ⟨[.op 1 9 0, .op 5 4 0, .op 5 5 0], [22, 23, 24, 25, 26, 27, 28], false⟩] h0 hm (tabEnv_ok (tab_cons (ok_ownConfig k s.History[0] hb.1 (fun x hx => (hb.2 x hx).1)) tab_nil)) (by kernel_rfl) (by kernel_rfl) ?_
        simp
        subst hI
        refine Less_mk (m - 1) (by omega) ⟨0 + 1, by omega, ?_⟩
        rw [if_neg (by omega), hts, hA0 rfl]
        rfl
      · simp [hi0]
        refine drawP (tabEnv [] _) [⟨[.op 1 9 0], allD 31, true⟩, ⟨[.op 1 9 0], allD 31, true⟩, ⟨[], allD 31, true⟩, ⟨[], allD 31, false⟩, ⟨[.op 5 3 0], [22, 23, 24, 25, 26, 27, 28], false⟩, ⟨[.op 1 9 0, .op 5 3 0, .op 5 4 0, .op 5 5 0], [22, 23, 24, 25, 26, 27, 28], false⟩, ⟨[.op 1 9 0], allD 31, true⟩, ⟨[.op 1 9 0, .op 5 4 0, .op 5 5 0], [22, 23, 24, 25, 26, 27, 28], false⟩] h0 hm (tabEnv_ok (tab_cons (ok_ownConfig k s.History[i] hb.1 (fun x hx => (hb.2 x hx).1)) tab_nil)) (by kernel_rfl) (by kernel_rfl) ?_
        have ht : A.take i = A := List.take_of_length_le (by omega)
        simp [hln, hb1, hb2, ht]
        subst hI
        refine Less_mk (m - 1) (by omega) ⟨i + 1, by omega, ?_⟩
        rw [if_neg (by omega), hts, wrNext i (by omega)]
    · simp at a
      have hin : i = s.History.length := by omega
      by_cases hi0 : i = 0
      · subst hi0
        have : s.History = [] := List.length_eq_zero_iff.1 hin.symm
        simp [this]
      · have hfin := hfin hin
        subst hin
        simp [hi0, hfin]
theorem ok_l15Own (k : Nat) (l : List GLeaf) (hl : l.length ≤ 1048576) (hx : ∀ x ∈ l, x.Path.length ≤ 1048576) : CallOK Try.prog 40 [.c (rd k l.length (l.flatMap (GLeaf.ci k)))] (.c (.sl 0 58 l.length (l.flatMap GLeaf.co))) [.c (rd k l.length (l.flatMap (GLeaf.ci k)))] := by
  refine okS (fn := Try.f40) [] h0 Try.func40 (by kernel_rfl) rfl Try.ntmps40 Try.results40 (by simp) ?_
  simp
  refine ewp_nil 3 (.op 5 9 0) 58 (by decide) rfl rfl rfl ?_
  refine loopS [3, 6, 7, 8] [.op 5 9 0] (fun n st => ∃ (i : Nat), i + n = l.length ∧ st = ⟨slOf 24 [(3, .ref ⟨.op 5 9 0, []⟩ 0 i), (6, .t (rd k l.length (l.flatMap (GLeaf.ci k)))), (7, .t (pi l.length)), (8, .t (pi i))], ofL [(.op 5 9 0, .sl 0 58 i ((l.take i).flatMap GLeaf.co))]⟩) l.length ?_ ?_
  · rintro Inv hI
    simp
    subst hI
    exact ⟨0, by omega, by simp⟩
  · rintro Inv hI n st ⟨i, hi, rfl⟩
    have hA := fm_take_len GLeaf.co 2 (fun _ => rfl) l i (by omega)
    generalize hAe : ((l.take i).flatMap GLeaf.co) = A at hA ⊢
    refine ewr_sound (M := []) h0 ?_
    simp
    refine brn_app (fun a => ?_) (fun a => ?_)
    · simp at a
      have hd := fm_drop (GLeaf.ci k) 2 (fun _ => rfl) l i a
      have hlen := fm_len (GLeaf.ci k) 2 (fun _ => rfl) l
      have hlt : i * 2 < l.length * 2 := by omega
      have hb1 : (i + 1) * 40 ≤ 140737488355328 := by omega
      have hb2 : i ≤ 9223372036854775806 := by omega
      have hp := hx _ (List.getElem_mem a)
      have hp1 : l[i].Path.length * 16 ≤ 140737488355328 := by omega
      have hp2 : l[i].Path.length ≤ 9223372036854775807 := by omega
      have ht : A.take (i * 2) = A := List.take_of_length_le (by omega)
      have e3 : ((l.take (i + 1)).flatMap GLeaf.co) = A ++ GLeaf.co l[i] := by rw [take_step l i a, List.flatMap_append, hAe, List.flatMap_cons, List.flatMap_nil, List.append_nil]
      simp [a, hd, hlen, hlt]
      by_cases hpe : l[i].Path = []
      · refine drawP (tabEnv [] _) [⟨[.op 5 9 0], allD 24, true⟩, ⟨[], allD 24, false⟩, ⟨[.op 4 2 0], allD 24, true⟩, ⟨[.op 4 2 0], allD 24, true⟩, ⟨[.op 5 1 0], [12, 13, 14, 15, 16, 17, 18, 19, 20, 21, 3], false⟩, ⟨[.op 4 2 0], allD 24, true⟩, ⟨[.op 4 2 0], allD 24, true⟩, ⟨[.op 5 1 0], allD 24, true⟩, ⟨[.op 5 1 0, .op 5 7 0], [12, 13, 14, 15, 16, 17, 18, 19, 20, 21, 3], false⟩, ⟨[.op 5 9 0, .op 5 8 0], [12, 13, 14, 15, 16, 17, 18, 19, 20, 21, 3], false⟩, ⟨[.op 5 9 0], allD 24, true⟩] h0 hm (tabEnv_ok tab_nil) (by kernel_rfl) (by kernel_rfl) ?_
        simp [hA, hb1, hb2, ht, hpe]
        subst hI
        refine Less_mk (n - 1) (by omega) ⟨i + 1, by omega, ?_⟩
        rw [wrNext i (by omega), e3]
        all_goals simp [hpe]
      · refine drawP (tabEnv [] _) [⟨[.op 5 9 0], allD 24, true⟩, ⟨[], allD 24, false⟩, ⟨[.op 4 2 0], allD 24, true⟩, ⟨[.op 4 2 0], allD 24, true⟩, ⟨[.op 5 1 0], [12, 13, 14, 15, 16, 17, 18, 19, 20, 21, 3], false⟩, ⟨[.op 4 2 0], allD 24, true⟩, ⟨[.op 4 2 0], allD 24, true⟩, ⟨[.op 5 4 0], allD 24, true⟩, ⟨[.op 5 4 0, .op 5 7 0], [12, 13, 14, 15, 16, 17, 18, 19, 20, 21, 3], false⟩, ⟨[.op 5 9 0, .op 5 8 0], [12, 13, 14, 15, 16, 17, 18, 19, 20, 21, 3], false⟩, ⟨[.op 5 9 0], allD 24, true⟩] h0 hm (tabEnv_ok tab_nil) (by kernel_rfl) (by kernel_rfl) ?_
        simp [hA, hb1, hb2, ht, hpe, hp1, hp2]
        subst hI
        refine Less_mk (n - 1) (by omega) ⟨i + 1, by omega, ?_⟩
        rw [wrNext i (by omega), e3]
        all_goals simp
    · simp at a
      have hn : n = 0 := by omega
      subst hn
      have ht : List.take i l = l := List.take_of_length_le (by omega)
      have hil : i = l.length := by omega
      rw [← hAe, ht, hil]
      simp
theorem begP_len : ∀ a b : List ByteArray, (begP a b && decide (a.length = b.length)) = decide (a = b)
  | [], [] => rfl
  | [], _ :: _ => rfl
  | _ :: _, [] => rfl
  | a :: us, b :: vs => by
    have := begP_len us vs
    simp only [begP, List.length_cons, Nat.add_right_cancel_iff, List.cons.injEq, Bool.and_assoc, this]
    simp
theorem ok_l15SamePath (k k' : Nat) (xs ys : List ByteArray) (ha : xs.length ≤ 140737488351232) (hb : ys.length ≤ 140737488351232) : CallOK Try.prog 67 [.c (rd k xs.length (xs.map ps)), .c (rd k' ys.length (ys.map ps))] (.c (pb (decide (xs = ys)))) [.c (rd k xs.length (xs.map ps)), .c (rd k' ys.length (ys.map ps))] := by
  refine okS (fn := Try.f67) [] h0 Try.func67 (by kernel_rfl) rfl Try.ntmps67 Try.results67 (by simp) ?_
  simp
  refine Inv_intro (ok_l15Begins k k' xs ys ha hb) ?_
  simp
  rw [← begP_len]
  cases begP xs ys with
  | false => simp
  | true =>
    simp
    omega
theorem ok_l16Same (k k' : Nat) (xs ys : List GLeaf) (hx : confOK xs) (hy : confOK ys) : CallOK Try.prog 42 [.c (rd k xs.length (xs.flatMap (GLeaf.ci k))), .c (rd k' ys.length (ys.flatMap (GLeaf.ci k')))] (.c (pb (decide (xs = ys)))) [.c (rd k xs.length (xs.flatMap (GLeaf.ci k))), .c (rd k' ys.length (ys.flatMap (GLeaf.ci k')))] := by
  obtain ⟨hxl, hxx⟩ := hx
  obtain ⟨hyl, hyy⟩ := hy
  refine okS (fn := Try.f42) [] h0 Try.func42 (by kernel_rfl) rfl Try.ntmps42 Try.results42 (by simp) ?_
  simp
  refine brn_app (fun h => ?_) (fun h => ?_)
  · simp at h
    simp
    rintro rfl
    exact h rfl
  · simp at h
    have hl : ys.length = xs.length := by omega
    simp
    refine loopS [0, 1, 12, 13] [] (fun n st => ∃ (i : Nat), i + n = xs.length ∧ (xs.drop i = ys.drop i ↔ xs = ys) ∧ st = ⟨slOf 42 [(0, .t (rd k xs.length (xs.flatMap (GLeaf.ci k)))), (1, .t (rd k' ys.length (ys.flatMap (GLeaf.ci k')))), (12, .t (pi xs.length)), (13, .t (pi i))], ofL []⟩) xs.length ?_ ?_
    · rintro Inv hI
      simp
      subst hI
      exact ⟨0, by omega, by simp, rfl⟩
    · rintro Inv hI n st ⟨i, hi, htk, rfl⟩
      refine ewr_sound (M := []) h0 ?_
      simp
      refine brn_app (fun h => ?_) (fun h => ?_)
      · simp at h
        have hib : i < ys.length := by omega
        rw [drop_step xs i h, drop_step ys i hib, List.cons.injEq] at htk
        have hd := fm_drop (GLeaf.ci k) 2 (fun _ => rfl) xs i h
        have hlen := fm_len (GLeaf.ci k) 2 (fun _ => rfl) xs
        have hlt : i * 2 < xs.length * 2 := by omega
        have hd' := fm_drop (GLeaf.ci k') 2 (fun _ => rfl) ys i hib
        have hlen' := fm_len (GLeaf.ci k') 2 (fun _ => rfl) ys
        have hlt' : i * 2 < ys.length * 2 := by omega
        have e : (xs[i] = ys[i]) = (xs[i].Value = ys[i].Value ∧ xs[i].Path = ys[i].Path) := by
          cases xs[i]
          cases ys[i]
          simp [And.comm]
        simp
        refine drawP (tabEnv [] _) [⟨[], allD 42, true⟩, ⟨[], allD 42, true⟩, ⟨[], allD 42, true⟩, ⟨[], allD 42, true⟩, ⟨[], allD 42, true⟩, ⟨[], allD 42, true⟩, ⟨[], allD 42, true⟩, ⟨[], allD 42, true⟩, ⟨[], allD 42, true⟩, ⟨[], allD 42, true⟩, ⟨[], allD 42, true⟩, ⟨[], allD 42, true⟩, ⟨[], allD 42, true⟩, ⟨[], allD 42, true⟩, ⟨[], allD 42, true⟩, ⟨[], allD 42, true⟩, ⟨[], allD 42, true⟩, ⟨[], allD 42, true⟩, ⟨[], allD 42, true⟩, ⟨[], allD 42, true⟩, ⟨[], allD 42, true⟩, ⟨[], allD 42, true⟩, ⟨[], allD 42, false⟩, ⟨[], allD 42, true⟩, ⟨[], allD 42, true⟩] h0 hm (tabEnv_ok (tab_cons (ok_l15SamePath k k' xs[i].Path ys[i].Path (hxx _ (List.getElem_mem h)).1.1 (hyy _ (List.getElem_mem hib)).1.1) tab_nil)) (by kernel_rfl) (by kernel_rfl) ?_
        by_cases c1 : xs[i].Value = ys[i].Value
        · by_cases c2 : xs[i].Path = ys[i].Path
          · have c3 : xs[i] = ys[i] := e ▸ ⟨c1, c2⟩
            simp [h, hd, hlen, hlt, hib, hd', hlen', hlt', c1, c2]
            subst hI
            exact Less_mk (n - 1) (by omega) ⟨i + 1, by omega, ⟨fun h4 => htk.1 ⟨c3, h4⟩, fun h4 => (htk.2 h4).2⟩, by rw [wrNext i (by omega)]⟩
          · have c3 : ¬ xs = ys := fun he => c2 (by rw [(htk.2 he).1])
            simp [h, hd, hlen, hlt, hib, hd', hlen', hlt', c1, c2, c3]
        · have c3 : ¬ xs = ys := fun he => c1 (by rw [(htk.2 he).1])
          simp [h, hd, hlen, hlt, hib, hd', hlen', hlt', c1, c3]
      · simp at h
        rw [List.drop_of_length_le (by omega), List.drop_of_length_le (by omega)] at htk
        simp
        exact htk.1 rfl
def confirmS (s : GStore) : GStore := if s.History.head? = some s.Running then { s with Left := 0 } else { s with Left := 0, History := (s.Running :: s.History).take 10 }
theorem ok_l16Confirm (s : GStore) (hs : storeB s) (hh : s.History ≠ []) : CallOK Try.prog 41 [.agg s.co] (.agg (confirmS s).co) [.agg [.hole, .hole, .hole, pi s.Left]] := by
  obtain ⟨b1, b2, b3, b4⟩ := hs
  obtain ⟨C, R, H, F⟩ := s
  simp only at b1 b2 b3 b4 hh
  obtain ⟨h0', H', rfl⟩ : ∃ x H', H = x :: H' := by
    cases H with
    | nil => exact absurd rfl hh
    | cons x H' => exact ⟨x, H', rfl⟩
  have hb := b4 h0' (List.mem_cons_self ..)
  simp only [List.length_cons] at b3
  refine okS (fn := Try.f41) [] h0 Try.func41 (by kernel_rfl) rfl Try.ntmps41 Try.results41 (by simp) ?_
  simp
  refine drawP (tabEnv [] _) [⟨[.op 0 0 0], allD 29, true⟩, ⟨[.op 0 0 0], allD 29, true⟩, ⟨[.op 0 0 0], allD 29, true⟩, ⟨[.op 0 0 0], allD 29, true⟩, ⟨[.op 0 0 0], allD 29, true⟩, ⟨[.op 0 0 0], allD 29, true⟩, ⟨[.op 0 0 0], [5, 6, 7, 8, 9, 10, 11], false⟩] h0 hm (tabEnv_ok (tab_cons (ok_l16Same 0 0 R h0' (boundC_conf b2) (boundC_conf hb)) tab_nil)) (by kernel_rfl) (by kernel_rfl) ?_
  simp
  refine brn_app (fun a => ?_) (fun a => ?_)
  · simp at a
    have e : confirmS ⟨C, R, h0' :: H', F⟩ = ⟨C, R, h0' :: H', 0⟩ := by simp [confirmS, a]
    rw [e]
    simp
  · simp at a
    have ha : ¬ h0' = R := fun e => a e.symm
    have e : confirmS ⟨C, R, h0' :: H', F⟩ = ⟨C, R, (R :: h0' :: H').take 10, 0⟩ := by simp [confirmS, ha]
    rw [e]
    simp
    refine Inv_intro (ok_l15Own 0 R b2.1 (fun x hx => (b2.2 x hx).1)) ?_
    have b5 : (1 + (H'.length + 1)) * 24 ≤ 140737488355328 := by omega
    have b6 : 1 + (H'.length + 1) ≤ 9223372036854775807 := by omega
    simp [b5, b6]
    refine brn_app (fun c => ?_) (fun c => ?_)
    · simp at c
      have c1 : 10 ≤ 1 + (H'.length + 1) := by omega
      have c2 : min 8 H'.length = 8 := by omega
      have c3 : 8 ≤ H'.length := by omega
      have hbnd : bnd none (some (some (Value.int IntKind.i64 10))) (1 + (H'.length + 1)) = some (0, 10) := bnd_ns (by decide) (by omega)
      have hT : ∀ X : List PT, List.take 8 (List.take 8 X) = List.take 8 X := fun X => by rw [List.take_take]; rfl
      simp [c1, c2, c3, hbnd, hT]
    · simp at c
      have c2 : min 8 H'.length = H'.length := by omega
      have c3 : List.take 8 (H'.map cLeafSo) = H'.map cLeafSo := List.take_of_length_le (by rw [List.length_map]; omega)
      have c4 : 1 + (H'.length + 1) = H'.length + 1 + 1 := by omega
      have c5 : ∀ a b : PT, List.take (H'.length + 1 + 1) (a :: b :: H'.map cLeafSo) = a :: b :: H'.map cLeafSo := fun a b => List.take_of_length_le (by simp)
      simp [c2, c3, c4, c5]
theorem ins_b24 (n : Nat) (h : n + 1 ≤ 1048576) : (n + 1 + 1) * 24 ≤ 140737488355328 := by omega
theorem ok_confirm (s : GStore) (hs : storeB s) (hh : s.History ≠ []) : CallOK Try.prog 35 [.bp (.sl 0 28 1 s.co)] (.tup []) [.bp (.sl 0 28 1 (confirmS s).co)] := by
  obtain ⟨b1, b2, b3, b4⟩ := hs
  obtain ⟨C, R, H, F⟩ := s
  simp only at b1 b2 b3 b4 hh
  obtain ⟨h0', H', rfl⟩ : ∃ x H', H = x :: H' := by
    cases H with
    | nil => exact absurd rfl hh
    | cons x H' => exact ⟨x, H', rfl⟩
  have hb := b4 h0' (List.mem_cons_self ..)
  simp only [List.length_cons] at b3
  refine okS (fn := Try.f35) [(60, [2,0,2])] h0 Try.func35 (by kernel_rfl) rfl Try.ntmps35 Try.results35 (by simp) ?_
  simp
  refine drawP (tabEnv [] _) [⟨[.arg 0 0], allD 45, true⟩, ⟨[.arg 0 0], allD 45, true⟩, ⟨[.arg 0 0], allD 45, true⟩, ⟨[.arg 0 0], allD 45, true⟩, ⟨[.arg 0 0], allD 45, true⟩, ⟨[.arg 0 0], allD 45, true⟩, ⟨[.arg 0 0], allD 45, true⟩, ⟨[.arg 0 0], allD 45, true⟩, ⟨[.arg 0 0], allD 45, true⟩, ⟨[.arg 0 0], allD 45, true⟩, ⟨[.arg 0 0], [2, 3, 4, 5, 6, 7, 8, 9, 10, 11, 12, 13], false⟩, ⟨[], allD 45, true⟩] h0 hm (tabEnv_ok (tab_cons (ok_sameConfig 0 0 R h0' (boundC_conf b2) (boundC_conf hb)) tab_nil)) (by kernel_rfl) (by kernel_rfl) ?_
  simp
  refine brn_app (fun a => ?_) (fun a => ?_)
  · simp at a
    have ha : ¬ h0' = R := fun e => a e.symm
    have e : confirmS ⟨C, R, h0' :: H', F⟩ = ⟨C, R, (R :: h0' :: H').take 10, 0⟩ := by simp [confirmS, ha]
    rw [e]
    simp
    have b5 : (1 + (H'.length + 1)) * 24 ≤ 140737488355328 := by omega
    have b6 : 1 + (H'.length + 1) ≤ 9223372036854775807 := by omega
    have b7 : (H'.length + 1 + 1) * 24 ≤ 140737488355328 := ins_b24 _ b3
    have b8 : (cLeafSo h0' :: H'.map cLeafSo).length = (H'.length + 1) * 1 := by rw [List.length_cons, List.length_map, Nat.mul_one]
    have hIns := ok_Insert_LeafS (H'.length + 1) 0 (cLeafSo h0' :: H'.map cLeafSo) [cLeafSo R] b8 (by rfl) (Nat.zero_le _) b7
    simp only [Nat.zero_mul, List.take_zero, List.drop_zero, List.nil_append, List.cons_append] at hIns
    refine drawM 1 (tabEnv [(60, [2, 0, 2])] _) [⟨[.arg 0 0], allD 45, true⟩, ⟨[.arg 0 0], allD 45, true⟩, ⟨[.arg 0 0], allD 45, true⟩, ⟨[.arg 0 0], allD 45, true⟩, ⟨[.arg 0 0], allD 45, true⟩, ⟨[.arg 0 0], allD 45, true⟩, ⟨[.arg 0 0], allD 45, true⟩, ⟨[.arg 0 0], allD 45, true⟩, ⟨[.arg 0 0], allD 45, true⟩, ⟨[.arg 0 0], allD 45, true⟩, ⟨[.op 1 9 0], [15, 16, 17, 18, 19, 20, 21, 22, 23, 24, 25, 26, 27], false⟩, ⟨[.arg 0 0, .op 1 10 0], [15, 16, 17, 18, 19, 20, 21, 22, 23, 24, 25, 26, 27], false⟩, ⟨[.arg 0 0], allD 45, true⟩, ⟨[.arg 0 0], allD 45, true⟩, ⟨[.arg 0 0, .op 1 11 0], [15, 16, 17, 18, 19, 20, 21, 22, 23, 24, 25, 26, 27], false⟩] h0 hm (tabEnv_ok (tab_cons (ok_ownConfig 0 R b2.1 (fun x hx => (b2.2 x hx).1)) (tab_cons hIns tab_nil))) (by kernel_rfl) (by kernel_rfl) ?_
    simp [b5, b6]
    rcases Nat.lt_or_ge 8 H'.length with c | c
    · have c1 : (10 : Int) < ↑(H'.length + 1 + 1) := by omega
      have c1' : (10 : Int) < (H'.length : Int) + 1 + 1 := by omega
      have c2 : min 8 H'.length = 8 := by omega
      have c3 : 8 ≤ H'.length := by omega
      have c4 : 10 ≤ H'.length + 1 + 1 := by omega
      have hbnd : bnd none (some (some (Value.int IntKind.i64 10))) (H'.length + 1 + 1) = some (0, 10) := bnd_ns (by decide) (by omega)
      have hT : ∀ X : List PT, List.take 8 (List.take 8 X) = List.take 8 X := fun X => by rw [List.take_take]; rfl
      refine drawM 1 (tabEnv [] []) [⟨[.arg 0 0], allD 45, true⟩, ⟨[.arg 0 0], allD 45, true⟩, ⟨[.arg 0 0], allD 45, true⟩, ⟨[.arg 0 0], allD 45, true⟩, ⟨[.arg 0 0], allD 45, true⟩, ⟨[.arg 0 0], allD 45, true⟩, ⟨[.arg 0 0], allD 45, true⟩, ⟨[.arg 0 0], allD 45, true⟩, ⟨[.arg 0 0], allD 45, true⟩, ⟨[.arg 0 0], allD 45, true⟩, ⟨[.arg 0 0], allD 45, true⟩, ⟨[.arg 0 0], allD 45, true⟩, ⟨[.arg 0 0], allD 45, true⟩, ⟨[.arg 0 0], allD 45, true⟩, ⟨[.arg 0 0], [29, 30, 31, 32, 33, 34, 35, 36, 37, 38, 39, 40, 41], false⟩] h0 hm (tabEnv_ok tab_nil) (by kernel_rfl) (by kernel_rfl) ?_
      simp [c1, c1', c2, c3, c4, hbnd, hT]
    · have c1 : ¬ (10 : Int) < ↑(H'.length + 1 + 1) := by omega
      have c1' : ¬ (10 : Int) < (H'.length : Int) + 1 + 1 := by omega
      have c2 : min 8 H'.length = H'.length := by omega
      have c3 : List.take 8 (H'.map cLeafSo) = H'.map cLeafSo := List.take_of_length_le (by rw [List.length_map]; omega)
      have c5 : ∀ a b : PT, List.take (H'.length + 1 + 1) (a :: b :: H'.map cLeafSo) = a :: b :: H'.map cLeafSo := fun a b => List.take_of_length_le (by simp)
      have hbnd : bnd none (some (some (Value.int IntKind.i64 ((H'.length : Int) + 1 + 1)))) (H'.length + 1 + 1) = some (0, H'.length + 1 + 1) := bnd_ns (by omega) (by omega)
      refine drawM 1 (tabEnv [] []) [⟨[.arg 0 0], allD 45, true⟩, ⟨[.arg 0 0], allD 45, true⟩, ⟨[.arg 0 0], allD 45, true⟩, ⟨[.arg 0 0], allD 45, true⟩, ⟨[.arg 0 0], allD 45, true⟩, ⟨[.arg 0 0], allD 45, true⟩, ⟨[.arg 0 0], allD 45, true⟩, ⟨[.arg 0 0], allD 45, true⟩, ⟨[.arg 0 0], allD 45, true⟩, ⟨[.arg 0 0], allD 45, true⟩, ⟨[.arg 0 0], allD 45, true⟩, ⟨[.arg 0 0], allD 45, true⟩, ⟨[.arg 0 0], allD 45, true⟩, ⟨[.arg 0 0], allD 45, true⟩, ⟨[.arg 0 0], [29, 30, 31, 32, 33, 34, 35, 36, 37, 38, 39, 40, 41], false⟩] h0 hm (tabEnv_ok tab_nil) (by kernel_rfl) (by kernel_rfl) ?_
      simp [c1, c1', c2, c3, c5, hbnd]
  · simp at a
    have e : confirmS ⟨C, R, h0' :: H', F⟩ = ⟨C, R, h0' :: H', 0⟩ := by simp [confirmS, a]
    rw [e]
    simp
end Go.V
