/- What functions of the seat's program do, each proved of its code, under the bounds that its theorem names. -/
import Derived.Test.YtildjkidohpmbaaTaj
set_option linter.all false
namespace Go.V
open Go.Proofs
set_option maxHeartbeats 1000000
set_option maxRecDepth 10000
set_option linter.unusedSimpArgs false
set_option linter.unusedVariables false
/-- What an insertion gives, in trees. -/
theorem ins_fin {P : Program} {I : Nat → Nat → Prop} {w w' : World} {las : List LV} {ls lv : List LT} {b b' c' S e n i : Nat} {arr' : Array Value} {v0 v1 v2 : Value}
    (hS : 0 < S) (hsz : tsz P e = S) (hll : ls.length = n * S) (hvl : lv.length = S) (hi : i ≤ n)
    (hh : ∀ c ∈ ls ++ lv, c.holds (tsz P) w I) (hnd : (b :: (ls ++ lv).flatMap LT.blocks).Nodup) (hin : ∀ x ∈ (ls ++ lv).flatMap LT.blocks, x ∈ las.flatMap LV.blocks) (hb : b ∈ las.flatMap LV.blocks ∨ w.heap.size ≤ b)
    (hI : ∀ k x, I k x → x < w.heap.size ∧ x ∉ las.flatMap LV.blocks)
    (hfull : las.map LV.full = [[v0], [v1], [v2]]) (h1 : one v0 = true ∧ v1 = .int .i64 i ∧ one v2 = true)
    (ha : w'.heap[b']? = some (.cells arr' e (0, 0))) (hca : c' * S ≤ arr'.size) (hnc : n + 1 ≤ c') (har : ∀ (j : Nat) u, (insV S i (ls.map LT.val) (lv.map LT.val))[j]? = some u → arr'[j]? = some u) (hb' : b' = b ∨ w.heap.size ≤ b') (hk : Kp [b] w w') :
    ∃ (lr : LV) (los : List LV), Ending.returned (.slice (some ⟨b', 0, none⟩) (n + 1) c') = .returned lr.val ∧ lr.erase = .c (.sl 0 e (n + 1) ((ls.map LT.erase).take (i * S) ++ lv.map LT.erase ++ (ls.map LT.erase).drop (i * S))) ∧ los.map LV.erase = [.c .hole, .c (pi i), .c .hole] ∧ los.map LV.full = las.map LV.full ∧
      lr.holds (tsz P) w' I ∧ (∀ l ∈ los, l.holds (tsz P) w' I) ∧ (lr.blocks ++ los.flatMap LV.blocks).Nodup ∧ (∀ x ∈ lr.blocks ++ los.flatMap LV.blocks, x ∈ las.flatMap LV.blocks ∨ w.heap.size ≤ x) ∧ Kp (las.flatMap LV.blocks) w w' := by
  obtain ⟨h10, rfl, h12⟩ := h1
  have hnd1 := List.nodup_cons.1 hnd
  have hperm : ((ls.take (i * S) ++ lv ++ ls.drop (i * S)).flatMap LT.blocks).Perm ((ls ++ lv).flatMap LT.blocks) := by
    rw [List.flatMap_append, List.flatMap_append, List.flatMap_append, List.append_assoc]
    have e : ls.flatMap LT.blocks = (ls.take (i * S)).flatMap LT.blocks ++ (ls.drop (i * S)).flatMap LT.blocks := by rw [← List.flatMap_append, List.take_append_drop]
    rw [e, List.append_assoc]
    exact List.Perm.append_left _ List.perm_append_comm
  have hmem : ∀ c ∈ ls.take (i * S) ++ lv ++ ls.drop (i * S), c ∈ ls ++ lv := by
    intro c hc
    rcases List.mem_append.1 hc with hc | hc
    · rcases List.mem_append.1 hc with hc | hc
      · exact List.mem_append_left _ (List.mem_of_mem_take hc)
      · exact List.mem_append_right _ hc
    · exact List.mem_append_left _ (List.mem_of_mem_drop hc)
  have hbk : ∀ c ∈ ls ++ lv, ∀ x ∈ c.blocks, x ∈ (ls ++ lv).flatMap LT.blocks := fun c hc x hx => List.mem_flatMap.2 ⟨c, hc, hx⟩
  have hlt : ∀ x ∈ (ls ++ lv).flatMap LT.blocks, x < w.heap.size := by
    intro x hx
    obtain ⟨c, hc, hx⟩ := List.mem_flatMap.1 hx
    exact LT.blocks_lt c (hh c hc) x hx
  have hIw : ∀ k x, I k x → w'.heap[x]? = w.heap[x]? := fun k x hx => hk.block x (hI k x hx).1 (by
    rw [List.mem_singleton]
    rintro rfl
    rcases hb with h | h
    · exact (hI k x hx).2 h
    · have := (hI k x hx).1
      omega)
  have hhold : ∀ c ∈ ls ++ lv, c.holds (tsz P) w' I := fun c hc => LT.holds_frame (fun _ _ h => h) hIw c (hh c hc) fun x hx => hk.block x (hlt x (hbk c hc x hx)) (by
    rw [List.mem_singleton]
    rintro rfl
    exact hnd1.1 (hbk c hc x hx))
  have hval : (ls.take (i * S) ++ lv ++ ls.drop (i * S)).map LT.val = insV S i (ls.map LT.val) (lv.map LT.val) := by
    simp only [insV, List.map_append, List.map_take, List.map_drop]
  refine ⟨.c (.own b' c' e (n + 1) (ls.take (i * S) ++ lv ++ ls.drop (i * S))), [.c (.leaf v0 .hole), .c (.leaf (.int .i64 i) (pi i)), .c (.leaf v2 .hole)], by simp [LV.val, LT.val], by simp [LV.erase, LT.erase], by simp [LV.erase, LT.erase], ?_, ?_, ?_, ?_, ?_, ?_⟩
  · rw [hfull]
    rfl
  · simp only [LV.holds, LT.holds]
    refine ⟨⟨arr', ha, by rw [hsz]; exact hca, fun j c hj => har j _ (by rw [← hval, List.getElem?_map, hj]; rfl)⟩, ?_, hnc, ⟨by rw [hsz]; exact hS, by omega⟩, fun c hc => hhold c (hmem c hc)⟩
    have h1 : i * S ≤ n * S := Nat.mul_le_mul_right S hi
    have h2 : (n + 1) * S = n * S + S := by rw [Nat.add_mul, Nat.one_mul]
    rw [List.length_append, List.length_append, List.length_take, List.length_drop, hsz, hll, hvl, h2]
    omega
  · intro l hl
    simp only [List.mem_cons, List.not_mem_nil, or_false] at hl
    rcases hl with rfl | rfl | rfl
    · simp only [LV.holds, LT.holds, Im]; exact ⟨trivial, h10⟩
    · simp only [LV.holds, LT.holds, Im, pi]; exact ⟨trivial, rfl⟩
    · simp only [LV.holds, LT.holds, Im]; exact ⟨trivial, h12⟩
  · simp only [LV.blocks, LT.blocks, List.flatMap_cons, List.flatMap_nil, List.append_nil]
    refine List.nodup_cons.2 ⟨?_, hperm.nodup_iff.2 hnd1.2⟩
    intro hx
    have hx := hperm.mem_iff.1 hx
    rcases hb' with rfl | h
    · exact hnd1.1 hx
    · have := hlt _ hx
      omega
  · intro x hx
    simp only [LV.blocks, LT.blocks, List.flatMap_cons, List.flatMap_nil, List.append_nil, List.mem_cons] at hx
    rcases hx with rfl | hx
    · rcases hb' with rfl | h
      · exact hb
      · exact .inr h
    · exact .inl (hin x (hperm.mem_iff.1 hx))
  · exact (Kp.refl _ w).trans hk (by
      intro x hx
      rw [List.mem_singleton] at hx
      subst hx
      exact hb)
theorem ins_nil (ad : Option Addr) (vb vc : Nat) (w : World) (va : Array Value) (vv : List Value) (hvb : w.heap[vb]? = some (.cells va 103 (0, 0))) (hvl : vv.length = 2) (hvv : ∀ (j : Nat) u, vv[j]? = some u → va[j]? = some u) :
    ∃ (c' : Nat) (arr' : Array Value) (w' : World), Calls Try.prog 135 #[.slice ad 0 0, .int .i64 (0 : Nat), .slice (some ⟨vb, 0, none⟩) 1 vc] w (fun e w'' => e = .returned (.slice (some ⟨w.heap.size, 0, none⟩) (0 + 1) c') ∧ w'' = w') ∧
      w'.heap[w.heap.size]? = some (.cells arr' 103 (0, 0)) ∧ c' * 2 ≤ arr'.size ∧ 0 + 1 ≤ c' ∧ (∀ (j : Nat) u, (insV 2 0 [] vv)[j]? = some u → arr'[j]? = some u) ∧ Kp [] w w' := by
  have tS : Try.prog.underlying 58 = some (.slice 103) := by kernel_rfl
  obtain ⟨inf, hinf⟩ := tsz_info (P := Try.prog) (t := 103) (by simp)
  have hsz : inf.size = 2 := by
    have h1 : tsz Try.prog 103 = inf.size := by simp only [tsz, hinf]
    have h2 : tsz Try.prog 103 = 2 := by kernel_rfl
    omega
  have hby : inf.bytes = 40 := by
    have h1 : tby Try.prog 103 = inf.bytes := by simp only [tby, hinf]
    have h2 : tby Try.prog 103 = 40 := by kernel_rfl
    omega
  obtain ⟨z, hz⟩ : ∃ z, inf.zero = some z := by
    have h2 : (tzero Try.prog 103).isSome = true := by kernel_rfl
    have h1 : tzero Try.prog 103 = inf.zero := by simp only [tzero, hinf]
    rw [h1] at h2
    exact Option.isSome_iff_exists.1 h2
  have hzs : z.cells.size = 2 := by
    have h2 : (tzero Try.prog 103).map (fun z => z.cells.size) = some 2 := by kernel_rfl
    have h1 : tzero Try.prog 103 = inf.zero := by simp only [tzero, hinf]
    rw [h1, hz] at h2
    simpa using h2
  have hcellv : ∀ (k : Nat) u, vv[k]? = some u → w.cell? ⟨vb, k, none⟩ = some u := fun k u h => by rw [cell_at hvb]; exact hvv k u h
  have hge := grownCap_ge w 1 0 103
  have hins : insV 2 0 [] vv = vv := by simp [insV]
  rw [hins]
  have hr : ∀ ty, (Builtin.append_ #[58, 58] ty #[.slice ad 0 0, .slice (some ⟨vb, 0, none⟩) 1 vc]).run Try.prog w = .ok (.slice (some ⟨w.heap.size, 0, none⟩) (0 + 1) (grownCap w 1 0 103)) (w.drew.alloc (.cells (vv.toArray ++ Builtin.zeroCells z.cells (grownCap w 1 0 103 - 1)) 103)) := fun ty => by
    cases ad with
    | none => exact run_append_nil (P := Try.prog) w 58 ty 103 inf z tS hinf hz ⟨vb, 0, none⟩ 1 vc vv (by rw [hsz, hvl]) (fun j u hj => by rw [Addr.add_lit, Nat.zero_add]; exact hcellv j u hj) (by omega) (by omega) (by rw [hby]; omega)
    | some x =>
      have h := run_append_grow (P := Try.prog) w 58 ty 103 inf z tS hinf hz x 0 0 [] (by simp) (by simp) ⟨vb, 0, none⟩ 1 vc vv (by rw [hsz, hvl]) (fun j u hj => by rw [Addr.add_lit, Nat.zero_add]; exact hcellv j u hj) (by omega) (by omega) (growslice_fits (by omega) (by rw [hby]; omega))
      simpa using h
  refine ⟨_, _, _, ins_end ad vb 0 0 vc w _ _ (Nat.le_refl _) hr, alloc_at w.drew _, ?_, hge, ?_, (Kp.of_below (drew_below w)).trans (alloc_kp [] w.drew _) (by simp)⟩
  · simp only [Array.size_append, List.size_toArray, size_zeroCells, hzs, hvl]
    omega
  · intro j u hj
    have hjl := getv hj
    rw [Array.getElem?_append_left (by simpa using hjl)]
    simpa using hj
theorem ok_Insert_Leaf (n i : Nat) (cs vs : List PT) (hcl : cs.length = n * 2) (hvl : vs.length = 2) (hi : i ≤ n) (hbig : (n + 1) * 40 ≤ 140737488355328) :
    CallOK Try.prog 135 [.c (.sl 0 103 n cs), .c (pi i), .c (.sl 0 103 1 vs)] (.c (.sl 0 103 (n + 1) (cs.take (i * 2) ++ vs ++ cs.drop (i * 2)))) [.c .hole, .c (pi i), .c .hole] := by
  intro I w las he hh hnd hI
  obtain ⟨ts, rfl, hts⟩ := erase_cs las [.sl 0 103 n cs, pi i, .sl 0 103 1 vs] he
  obtain ⟨t0, t1, t2, rfl⟩ : ∃ t0 t1 t2, ts = [t0, t1, t2] := by
    have hl : ts.length = 3 := by simpa using congrArg List.length hts
    match ts, hl with
    | [a, b, c], _ => exact ⟨a, b, c, rfl⟩
  simp only [List.map_cons, List.map_nil, List.cons.injEq, and_true] at hts
  obtain ⟨e0, e1, e2⟩ := hts
  have hs2 : tsz Try.prog 103 = 2 := by kernel_rfl
  have k0 : t0.holds (tsz Try.prog) w I := by simpa [LV.holds] using hh (.c t0) (by simp)
  have k1 : t1.holds (tsz Try.prog) w I := by simpa [LV.holds] using hh (.c t1) (by simp)
  have k2 : t2.holds (tsz Try.prog) w I := by simpa [LV.holds] using hh (.c t2) (by simp)
  have hv1 : t1.val = .int .i64 i := by
    cases t1 with
    | leaf v p =>
      simp only [LT.erase] at e1
      subst e1
      simp only [LT.holds, Im, pi] at k1
      exact k1.1
    | own b cap e m cs => simp [LT.erase, pi] at e1
  have hb1 : t1.blocks = [] := by
    cases t1 with
    | leaf v p => simp [LT.blocks]
    | own b cap e m cs => simp [LT.erase, pi] at e1
  simp only [List.map_cons, List.map_nil] at hh hnd hI ⊢
  cases t2 with
  | leaf v p =>
    simp only [LT.erase] at e2
    subst e2
    simp only [LT.holds, Im] at k2
    have := k2.1.1
    omega
  | own vb vcap ve vn lv =>
    simp only [LT.erase, PT.sl.injEq, true_and] at e2
    obtain ⟨rfl, rfl, rfl⟩ := e2
    have k2' := k2
    simp only [LT.holds] at k2'
    obtain ⟨⟨va, g1, g2, g3⟩, g4, g5, g6, g7⟩ := k2'
    rw [hs2] at g2 g4 g6
    have hlvl : lv.length = 2 := by omega
    have hvv : ∀ (j : Nat) u, (lv.map LT.val)[j]? = some u → va[j]? = some u := by
      intro j u hj
      rw [List.getElem?_map, Option.map_eq_some_iff] at hj
      obtain ⟨d, hd, rfl⟩ := hj
      exact g3 j d hd
    have hone : ∀ {l : List LT}, (∀ c ∈ l, c.holds (tsz Try.prog) w I) → ∀ v ∈ l.map LT.val, v.oneCell' = true := by
      intro l hl v hv
      obtain ⟨d, hd, rfl⟩ := List.mem_map.1 hv
      rw [one_oneCell]
      exact LT.holds_one (hl d hd)
    cases t0 with
    | leaf v p =>
      simp only [LT.erase] at e0
      subst e0
      simp only [LT.holds, Im] at k0
      obtain ⟨⟨rfl, rfl, ad, rfl⟩, _⟩ := k0
      have hi0 : i = 0 := by omega
      subst hi0
      obtain ⟨c', arr', w', hc, p1, p2, p3, p4, p5⟩ := ins_nil ad vb vcap w va (lv.map LT.val) g1 (by rw [List.length_map, hlvl]) hvv
      have hlas : ([LV.c (.leaf (.slice ad 0 0) (.sl 0 103 0 [])), .c t1, .c (.own vb vcap 103 1 lv)].flatMap LV.blocks) = vb :: lv.flatMap LT.blocks := by simp [LV.blocks, LT.blocks, hb1]
      have hargs : [LV.val (.c (.leaf (.slice ad 0 0) (.sl 0 103 0 []))), LV.val (.c t1), LV.val (.c (.own vb vcap 103 1 lv))].toArray = #[.slice ad 0 0, .int .i64 (0 : Nat), .slice (some ⟨vb, 0, none⟩) 1 vcap] := by
        simp only [LV.val, LT.val] at hv1 ⊢
        rw [hv1]
      rw [hargs]
      refine (CallsF.of_calls Try.func135 (by kernel_rfl) rfl hc).mono ?_
      rintro e w'' ⟨rfl, rfl⟩
      have hnd2 : (vb :: lv.flatMap LT.blocks).Nodup := by rw [← hlas]; exact hnd
      exact ins_fin (P := Try.prog) (I := I) (w := w) (w' := w'') (ls := []) (lv := lv) (b := w.heap.size) (b' := w.heap.size) (c' := c') (S := 2) (e := 103) (n := 0) (i := 0) (arr' := arr') (v0 := .slice ad 0 0) (v1 := t1.val) (v2 := (LT.own vb vcap 103 1 lv).val)
        (by omega) hs2 (by simp) hlvl (Nat.le_refl _) (by simpa using g7) (by
          rw [List.nil_append]
          refine List.nodup_cons.2 ⟨fun hx => ?_, (List.nodup_cons.1 hnd2).2⟩
          obtain ⟨c, hc, hx⟩ := List.mem_flatMap.1 hx
          have := LT.blocks_lt c (g7 c hc) _ hx
          omega) (by rw [hlas]; intro x hx; exact List.mem_cons_of_mem _ (by simpa using hx)) (.inr (Nat.le_refl _)) hI (by simp [LV.full, LV.trees, LT.val]) ⟨rfl, hv1, rfl⟩ p1 p2 p3 p4 (.inl rfl) (Kp.of_below p5.below)
    | own b cap e m ls =>
      simp only [LT.erase, PT.sl.injEq, true_and] at e0
      obtain ⟨rfl, rfl, rfl⟩ := e0
      have k0' := k0
      simp only [LT.holds] at k0'
      obtain ⟨⟨arr, q1, q2, q3⟩, q4, q5, q6, q7⟩ := k0'
      rw [hs2] at q2 q4 q6
      have hcv : ∀ (j : Nat) u, (ls.map LT.val)[j]? = some u → arr[j]? = some u := by
        intro j u hj
        rw [List.getElem?_map, Option.map_eq_some_iff] at hj
        obtain ⟨d, hd, rfl⟩ := hj
        exact q3 j d hd
      have hlas : ([LV.c (.own b cap 103 m ls), .c t1, .c (.own vb vcap 103 1 lv)].flatMap LV.blocks) = (b :: ls.flatMap LT.blocks) ++ (vb :: lv.flatMap LT.blocks) := by simp [LV.blocks, LT.blocks, hb1]
      have hnd2 : ((b :: ls.flatMap LT.blocks) ++ (vb :: lv.flatMap LT.blocks)).Nodup := by rw [← hlas]; exact hnd
      have hnd3 := List.nodup_append.1 hnd2
      have hne : vb ≠ b := fun e => hnd3.2.2 b (by simp) vb (by simp) e.symm
      obtain ⟨b', c', arr', w', hc, p1, p2, p3, p4, p5, p6⟩ := ins_world b vb m cap i vcap w arr va (ls.map LT.val) (lv.map LT.val) q1 g1 hne (by rw [List.length_map, q4]) (by rw [List.length_map, hlvl]) q2 (by omega) q5 hi hcv hvv (hone q7) (hone g7) hbig
      have hargs : [LV.val (.c (.own b cap 103 m ls)), LV.val (.c t1), LV.val (.c (.own vb vcap 103 1 lv))].toArray = #[.slice (some ⟨b, 0, none⟩) m cap, .int .i64 i, .slice (some ⟨vb, 0, none⟩) 1 vcap] := by
        simp only [LV.val, LT.val] at hv1 ⊢
        rw [hv1]
      rw [hargs]
      refine (CallsF.of_calls Try.func135 (by kernel_rfl) rfl hc).mono ?_
      rintro e w'' ⟨rfl, rfl⟩
      have hmm : (ls ++ lv).flatMap LT.blocks = ls.flatMap LT.blocks ++ lv.flatMap LT.blocks := List.flatMap_append
      exact ins_fin (P := Try.prog) (I := I) (w := w) (w' := w'') (ls := ls) (lv := lv) (b := b) (b' := b') (c' := c') (S := 2) (e := 103) (n := m) (i := i) (arr' := arr') (v0 := (LT.own b cap 103 m ls).val) (v1 := t1.val) (v2 := (LT.own vb vcap 103 1 lv).val)
        (by omega) hs2 q4 hlvl hi (fun c hc => (List.mem_append.1 hc).elim (q7 c) (g7 c)) (by
          rw [hmm]
          rw [List.cons_append] at hnd2
          have h1 := List.nodup_cons.1 hnd2
          refine List.nodup_cons.2 ⟨fun hx => h1.1 ?_, ?_⟩
          · rcases List.mem_append.1 hx with hx | hx
            · exact List.mem_append_left _ hx
            · exact List.mem_append_right _ (List.mem_cons_of_mem _ hx)
          · exact h1.2.sublist (List.Sublist.append_left (List.sublist_cons_self ..) _)) (by
          rw [hlas, hmm]
          intro x hx
          rcases List.mem_append.1 hx with hx | hx
          · exact List.mem_append_left _ (List.mem_cons_of_mem _ hx)
          · exact List.mem_append_right _ (List.mem_cons_of_mem _ hx)) (.inl (by rw [hlas]; simp)) hI (by simp [LV.full, LV.trees, LT.val]) ⟨rfl, hv1, rfl⟩ p1 p2 p3 p4 p5 p6
theorem fm_takeE {α β : Type} (f : α → List β) (c : Nat) (hf : ∀ x, (f x).length = c) (l : List α) (i : Nat) (hi : i ≤ l.length) : (l.flatMap f).take (i * c) = (l.take i).flatMap f := by
  have e := congrArg (List.flatMap f) (List.take_append_drop i l)
  rw [List.flatMap_append] at e
  have hl : ((l.take i).flatMap f).length = i * c := by
    rw [List.length_flatMap]
    have : (List.map (fun a => (f a).length) (l.take i)) = List.replicate (l.take i).length c := by
      rw [List.eq_replicate_iff]
      refine ⟨by simp, ?_⟩
      intro b hb
      obtain ⟨a, _, rfl⟩ := List.mem_map.1 hb
      exact hf a
    rw [this, List.sum_replicate_nat, List.length_take, Nat.min_eq_left hi]
  rw [← e, List.take_left' hl]
theorem fm_dropE {α β : Type} (f : α → List β) (c : Nat) (hf : ∀ x, (f x).length = c) (l : List α) (i : Nat) (hi : i ≤ l.length) : (l.flatMap f).drop (i * c) = (l.drop i).flatMap f := by
  have e := congrArg (List.flatMap f) (List.take_append_drop i l)
  rw [List.flatMap_append] at e
  have h := fm_takeE f c hf l i hi
  have hl : ((l.take i).flatMap f).length = i * c := by
    rw [← h, List.length_take, ← e, List.length_append]
    rw [List.length_flatMap]
    have : (List.map (fun a => (f a).length) (l.take i)) = List.replicate (l.take i).length c := by
      rw [List.eq_replicate_iff]
      refine ⟨by simp, ?_⟩
      intro b hb
      obtain ⟨a, _, rfl⟩ := List.mem_map.1 hb
      exact hf a
    rw [this, List.sum_replicate_nat, List.length_take, Nat.min_eq_left hi]
    omega
  rw [← e, List.drop_left' hl]
def keptL (p : List ByteArray) (l : List GLeaf) : List GLeaf := l.filter fun x => !clashB p x
def atI (p : List ByteArray) (m : List GLeaf) : Nat := bsI (fun x : GLeaf => cmpP x.Path p) m
def putL (p : List ByteArray) (v : ByteArray) (m : List GLeaf) : List GLeaf := m.take (atI p m) ++ [⟨p, v⟩] ++ m.drop (atI p m)
theorem atI_le (p : List ByteArray) (m : List GLeaf) : atI p m ≤ m.length := (List.takeWhile_sublist _).length_le
theorem putL_len (p : List ByteArray) (v : ByteArray) (m : List GLeaf) : (putL p v m).length = m.length + 1 := by
  have := atI_le p m
  unfold putL
  simp only [List.length_append, List.length_take, List.length_drop, List.length_cons, List.length_nil]
  omega
theorem putL_mem {p : List ByteArray} {v : ByteArray} {m : List GLeaf} {x : GLeaf} (h : x ∈ putL p v m) : x = ⟨p, v⟩ ∨ x ∈ m := by
  unfold putL at h
  rcases List.mem_append.1 h with h | h
  · rcases List.mem_append.1 h with h | h
    · exact .inr (List.mem_of_mem_take h)
    · exact .inl (List.mem_singleton.1 h)
  · exact .inr (List.mem_of_mem_drop h)
theorem putL_co (p : List ByteArray) (v : ByteArray) (m : List GLeaf) : (putL p v m).flatMap GLeaf.co = (m.flatMap GLeaf.co).take (atI p m * 2) ++ GLeaf.co ⟨p, v⟩ ++ (m.flatMap GLeaf.co).drop (atI p m * 2) := by
  rw [fm_takeE GLeaf.co 2 (fun _ => rfl) m _ (atI_le p m), fm_dropE GLeaf.co 2 (fun _ => rfl) m _ (atI_le p m)]
  unfold putL
  rw [List.flatMap_append, List.flatMap_append, List.flatMap_cons, List.flatMap_nil, List.append_nil]
def setC (p : List ByteArray) (v : ByteArray) (l : List GLeaf) : List GLeaf := putL p v (keptL p l)
theorem kept_conf {p : List ByteArray} {l : List GLeaf} (h : confOK l) : confOK (keptL p l) := ⟨Nat.le_trans (List.length_filter_le _ _) h.1, fun x hx => h.2 x (List.mem_filter.1 hx).1⟩
theorem set_conf {p : List ByteArray} {v : ByteArray} {l : List GLeaf} (h : confOK l) (hl : l.length ≤ 1048576) (hp : strsOK p) (hv : v.size ≤ 140737488355328) : confOK (setC p v l) := by
  refine ⟨?_, fun x hx => ?_⟩
  · have h2 : (keptL p l).length ≤ l.length := List.length_filter_le _ _
    unfold setC
    rw [putL_len]
    omega
  · rcases putL_mem hx with rfl | hx
    · exact ⟨hp, hv⟩
    · exact (kept_conf h).2 x hx
theorem ok_isetAt (k k' : Nat) (l : List GLeaf) (p : List ByteArray) (v : ByteArray) (hl : l.length ≤ 1048576) (hx : ∀ x ∈ l, x.Path.length ≤ 1048576) (hlo : confOK l) (hp : strsOK p) (hp1 : p.length ≤ 1048576) (hv : v.size ≤ 140737488355328) (hg : goodC l = true) : CallOK Try.prog 113 [.c (rd k l.length (l.flatMap (GLeaf.ci k))), .c (rd k' p.length (p.map ps)), .c (ps v)] (.tup [.c (.sl 0 103 (setC p v l).length ((setC p v l).flatMap GLeaf.co)), .c (pb (goodC (setC p v l)))]) [.c (rd k l.length (l.flatMap (GLeaf.ci k))), .c (rd k' p.length (p.map ps)), .c (ps v)] := by
  refine okS (fn := Try.f113) [(114, [2]), (135, [2,0,2])] h0 Try.func113 (by kernel_rfl) rfl Try.ntmps113 Try.results113 (by simp) ?_
  simp
  refine Inv_intro (ok_ownConfig k l hl hx) ?_
  simp
  refine Inv_intro (ok_DeleteFunc_Leaf 1 132 [[rd 0 p.length (p.map ps)]] (clashB p) l hlo.1 (fun x hx => ok_setAt1 1 0 0 x p (hlo.2 x hx).1.1 hp.1)) ?_
  have hkl : l.filter (fun x => !clashB p x) = keptL p l := rfl
  have hkn : (keptL p l).length ≤ l.length := List.length_filter_le _ _
  have hko := kept_conf (p := p) hlo
  have hso := set_conf (p := p) (v := v) hlo hl hp hv
  have hsort : (keptL p l).Pairwise (fun x y => lessP x.Path y.Path = true) := (goodC_pair hg).filter _
  have hsl : setC p v l = putL p v (keptL p l) := rfl
  rw [hkl]
  generalize keptL p l = m at *
  rw [hsl] at hso ⊢
  simp
  refine Inv_intro (ok_BS_Leaf 0 k' m p hko hp.1 (pair_mono hsort p)) ?_
  have hat : bsI (fun o : GLeaf => cmpP o.Path p) m = atI p m := rfl
  have hle := atI_le p m
  have hcl := fm_len GLeaf.co 2 (fun _ => rfl) m
  have hpc := putL_co p v m
  have hpl := putL_len p v m
  rw [hat]
  simp
  refine Inv_intro (ok_Clone_String k' p hp1) ?_
  simp
  refine Inv_intro (ok_Insert_Leaf m.length (atI p m) (m.flatMap GLeaf.co) (GLeaf.co ⟨p, v⟩) hcl rfl hle (by omega)) ?_
  rw [← hpc, ← hpl]
  simp
  refine Inv_intro (ok_iGoodConfig 0 (putL p v m) hso) ?_
  simp
def rSetAt (l : List GLeaf) (p : List ByteArray) (v : ByteArray) : List GLeaf × Bool := if (goodC l && isP p && isW v && goodC (setC p v l)) = true then (setC p v l, true) else ([], false)
theorem ok_iSetAt (k k' : Nat) (l : List GLeaf) (p : List ByteArray) (v : ByteArray) (hl : l.length ≤ 1048576) (hx : ∀ x ∈ l, x.Path.length ≤ 1048576) (hlo : confOK l) (hp : strsOK p) (hp1 : p.length ≤ 1048576) (hv : v.size ≤ 140737488355328) : CallOK Try.prog 84 [.c (rd k l.length (l.flatMap (GLeaf.ci k))), .c (rd k' p.length (p.map ps)), .c (ps v)] (.tup [.c (.sl 0 103 (rSetAt l p v).1.length ((rSetAt l p v).1.flatMap GLeaf.co)), .c (pb (rSetAt l p v).2)]) [.c (rd k l.length (l.flatMap (GLeaf.ci k))), .c (rd k' p.length (p.map ps)), .c (ps v)] := by
  refine okS (fn := Try.f84) [] h0 Try.func84 (by kernel_rfl) rfl Try.ntmps84 Try.results84 (by simp) ?_
  simp
  refine Inv_intro (ok_iGoodConfig k l hlo) ?_
  simp
  cases c1 : goodC l with
  | false => simp [rSetAt, c1]
  | true =>
    simp
    refine Inv_intro (ok_areWords k' p hp.1 hp.2) ?_
    simp
    cases c2 : isP p with
    | false => simp [rSetAt, c2]
    | true =>
      simp
      refine Inv_intro (ok_isWord v hv) ?_
      simp
      cases c3 : isW v with
      | false => simp [rSetAt, c3]
      | true =>
        simp
        refine Inv_intro (ok_isetAt k k' l p v hl hx hlo hp hp1 hv c1) ?_
        simp
        cases c4 : goodC (setC p v l) with
        | false => simp [rSetAt, c4]
        | true =>
          have er : rSetAt l p v = (setC p v l, true) := by simp [rSetAt, c1, c2, c3, c4]
          rw [er]
          simp
structure GCommand where
  Set : Bool
  Path : (List ByteArray)
  Value : ByteArray
  deriving DecidableEq
def GCommand.co (x : GCommand) : List PT := [pb x.Set, .sl 0 9 x.Path.length (x.Path.map ps), ps x.Value]
def GCommand.ci (k : Nat) (x : GCommand) : List PT := [pb x.Set, rd k x.Path.length (x.Path.map ps), ps x.Value]
attribute [simp] GCommand.co GCommand.ci
theorem GCommand.len_o (x : GCommand) : x.co.length = 3 := rfl
theorem GCommand.len_i (k : Nat) (x : GCommand) : (x.ci k).length = 3 := rfl
theorem GCommand.un1 (x : GCommand) : PT.unownL x.co = x.ci 0 := by simp [rd]
theorem GCommand.uni1 (k : Nat) (x : GCommand) : PT.unownL (x.ci k) = x.ci 0 := by simp [rd]
theorem GCommand.un (xs : List GCommand) : PT.unownL (xs.flatMap GCommand.co) = xs.flatMap (GCommand.ci 0) := by
  rw [unownL_fm]
  congr 1
  funext x
  exact GCommand.un1 x
theorem GCommand.uni (k : Nat) (xs : List GCommand) : PT.unownL (xs.flatMap (GCommand.ci k)) = xs.flatMap (GCommand.ci 0) := by
  rw [unownL_fm]
  congr 1
  funext x
  exact GCommand.uni1 k x
theorem GCommand.nt (xs : List GCommand) : PT.noTmpL (xs.flatMap GCommand.co) = true := noTmpL_fm _ xs fun x => by simp
theorem GCommand.nti (k : Nat) (xs : List GCommand) : PT.noTmpL (xs.flatMap (GCommand.ci (k + 1))) = true := noTmpL_fm _ xs fun x => by simp [rd]
attribute [simp] GCommand.un GCommand.uni GCommand.nt GCommand.nti
theorem GCommand.lenR (xs : List GCommand) : (xs.flatMap GCommand.co).length = xs.length * 3 := fm_len _ 3 (fun _ => rfl) xs
theorem GCommand.lenRi (k : Nat) (xs : List GCommand) : (xs.flatMap (GCommand.ci k)).length = xs.length * 3 := fm_len _ 3 (fun _ => rfl) xs
theorem GCommand.tkR (xs : List GCommand) : (xs.flatMap GCommand.co).take (xs.length * 3) = xs.flatMap GCommand.co := List.take_of_length_le (by rw [GCommand.lenR]; exact Nat.le_refl _)
theorem GCommand.tkRi (k : Nat) (xs : List GCommand) : (xs.flatMap (GCommand.ci k)).take (xs.length * 3) = xs.flatMap (GCommand.ci k) := List.take_of_length_le (by rw [GCommand.lenRi]; exact Nat.le_refl _)
attribute [simp high] GCommand.lenR GCommand.tkR GCommand.lenRi GCommand.tkRi
def GCommand.wt (x : GCommand) : Nat := wt_StringS x.Path + x.Value.size
def GCommand.fits (x : GCommand) : Prop := fits_StringS x.Path ∧ x.Value.size ≤ 140737488351232
def GCommand.lens (x : GCommand) : Prop := lens_StringS x.Path
def GCommand.mark (x : GCommand) (k : Int) : GCommand × Int := (⟨decide (Int.tmod k 3 = 0), (mk_StringS x.Path (k + 1)).1, mtext (mk_StringS x.Path (k + 1)).2⟩, ((mk_StringS x.Path (k + 1)).2 + 1))
def GCommand.cn (x : GCommand) : Nat := 1 + cn_StringS x.Path + 1
theorem GCommand.mark_snd (x : GCommand) (k : Int) : (GCommand.mark x k).2 = k + GCommand.cn x := by
  simp only [GCommand.mark, GCommand.cn, mk_StringS_snd] <;> omega
def GCommand.markT (x : GCommand) (k : Int) : GCommand × Int := (⟨x.Set, (mk_StringS x.Path k).1, x.Value⟩, (mk_StringS x.Path k).2)
def GCommand.cnT (x : GCommand) : Nat := cn_StringS x.Path
theorem GCommand.markT_snd (x : GCommand) (k : Int) : (GCommand.markT x k).2 = k + GCommand.cnT x := by
  simp only [GCommand.markT, GCommand.cnT, mk_StringS_snd] <;> omega
theorem lens_of_Command {x : GCommand} (h : GCommand.wt x ≤ 1048576) : GCommand.lens x := by
  unfold GCommand.wt at h
  exact lens_of_StringS (by omega)
theorem cn_le_Command (x : GCommand) : GCommand.cnT x ≤ 32 * GCommand.wt x := by
  unfold GCommand.cnT GCommand.wt
  have := cn_le_StringS x.Path
  omega
theorem cnE_le_Command (x : GCommand) : GCommand.cn x ≤ 32 * GCommand.wt x + 16 := by
  unfold GCommand.cn GCommand.wt
  have := cn_le_StringS x.Path
  omega
def boundC (l : List GLeaf) : Prop := l.length ≤ 1048576 ∧ ∀ x ∈ l, x.Path.length ≤ 1048576 ∧ leafOK x
theorem boundC_conf {l : List GLeaf} (h : boundC l) : confOK l := ⟨by have := h.1; omega, fun x hx => (h.2 x hx).2⟩
def cmdOK (c : GCommand) : Prop := c.Path.length ≤ 1048576 ∧ strsOK c.Path ∧ c.Value.size ≤ 140737488355328
def doStep (out : List GLeaf) (c : GCommand) : List GLeaf × Bool := if c.Set = true then rSetAt out c.Path c.Value else if c.Value = ⟨#[]⟩ then rDeleteAt out c.Path else ([], false)
theorem bound_step {out : List GLeaf} {c : GCommand} (h : boundC out) (hc : cmdOK c) : boundC (doStep out c).1 := by
  have hnil : boundC [] := ⟨Nat.zero_le _, fun x hx => absurd hx (by simp)⟩
  unfold doStep
  split
  · unfold rSetAt
    split
    · rename_i hg
      simp only [Bool.and_eq_true] at hg
      have hg2 := hg.2
      simp only [goodC, Bool.and_eq_true, decide_eq_true_eq] at hg2
      refine ⟨by have := hg2.2; show (setC c.Path c.Value out).length ≤ _; omega, fun x hx => ?_⟩
      rcases putL_mem hx with rfl | hx
      · exact ⟨hc.1, hc.2.1, hc.2.2⟩
      · exact h.2 x (List.mem_filter.1 hx).1
    · exact hnil
  · split
    · unfold rDeleteAt
      split
      · exact ⟨Nat.le_trans (delL_len _ _) h.1, fun x hx => h.2 x (List.mem_filter.1 hx).1⟩
      · exact hnil
    · exact hnil
def doI (l : List GLeaf) (cs : List GCommand) : Nat → Option (List GLeaf)
  | 0 => some l
  | i + 1 => match doI l cs i with
    | none => none
    | some o => match cs[i]? with
      | none => none
      | some c => if (doStep o c).2 = true then some (doStep o c).1 else none
theorem doI_none (l : List GLeaf) (cs : List GCommand) {i : Nat} (h : doI l cs i = none) : ∀ n, i ≤ n → doI l cs n = none
  | n, hn => by
    induction hn with
    | refl => exact h
    | step _ ih => simp only [doI, ih]
theorem doI_bound {l : List GLeaf} {cs : List GCommand} (hl : boundC l) (hc : ∀ c ∈ cs, cmdOK c) : ∀ (i : Nat) (o : List GLeaf), doI l cs i = some o → boundC o
  | 0, o, h => by cases h; exact hl
  | i + 1, o, h => by
    unfold doI at h
    split at h
    · cases h
    · rename_i o' ho'
      split at h
      · cases h
      · rename_i c hcs
        split at h
        · cases h
          exact bound_step (doI_bound hl hc i o' ho') (hc c (List.mem_of_getElem? hcs))
        · cases h
def rDoCommands (l : List GLeaf) (cs : List GCommand) : List GLeaf × Bool := if goodC l = true ∧ cs.length ≤ 80 then match doI l cs cs.length with
    | some o => (o, true)
    | none => ([], false)
  else ([], false)
theorem ok_sGoodConfig (k : Nat) (l : List GLeaf) (hl : confOK l) : CallOK Try.prog 81 [.c (rd k l.length (l.flatMap (GLeaf.ci k)))] (.c (pb (goodC l))) [.c (rd k l.length (l.flatMap (GLeaf.ci k)))] := by
  obtain ⟨hll, hlx⟩ := hl
  refine okS (fn := Try.f81) [] h0 Try.func81 (by kernel_rfl) rfl Try.ntmps81 Try.results81 (by simp) ?_
  simp
  refine loopS [0, 5, 6, 7] [] (fun n st => ∃ (i : Nat), i + n = l.length ∧ goodG (prevC l i) (l.drop i) = goodG none l ∧ st = ⟨slOf 51 [(0, .t (rd k l.length (l.flatMap (GLeaf.ci k)))), (5, .t (rd k l.length (l.flatMap (GLeaf.ci k)))), (6, .t (pi l.length)), (7, .t (pi i))], ofL []⟩) l.length ?_ ?_
  · rintro Inv hI
    simp
    subst hI
    exact ⟨0, by omega, rfl, rfl⟩
  · rintro Inv hI n st ⟨i, hi, hg, rfl⟩
    refine ewr_sound (M := []) h0 ?_
    simp
    refine brn_app (fun a => ?_) (fun a => ?_)
    · simp at a
      have hx := hlx l[i] (List.getElem_mem a)
      obtain ⟨⟨hx1, hx2⟩, hx3⟩ := hx
      rw [drop_step _ i a, goodG] at hg
      have hd := fm_drop (GLeaf.ci k) 2 (fun _ => rfl) l i a
      have hlen := fm_len (GLeaf.ci k) 2 (fun _ => rfl) l
      have hlt : i * 2 < l.length * 2 := by omega
      have en : prevC l (i + 1) = some l[i] := prevC_next l i a
      simp [a, hd, hlen, hlt]
      refine Inv_intro (ok_l15Path k l[i].Path hx1 hx2) ?_
      simp
      cases c1 : isP l[i].Path with
      | false =>
        have hk : okLeaf l[i] = false := by simp [okLeaf, c1]
        rw [hk, Bool.false_and, Bool.false_and] at hg
        simp [goodC, ← hg]
      | true =>
        simp
        refine Inv_intro (ok_l15Word l[i].Value hx3) ?_
        simp
        cases c2 : isW l[i].Value with
        | false =>
          have hk : okLeaf l[i] = false := by simp [okLeaf, c2]
          rw [hk, Bool.false_and, Bool.false_and] at hg
          simp [goodC, ← hg]
        | true =>
          have hk : okLeaf l[i] = true := by simp [okLeaf, c1, c2]
          rw [hk, Bool.true_and] at hg
          simp
          by_cases c0 : i = 0
          · have e0 : ¬ 0 < i := by omega
            have ep : prevC l i = none := by simp [prevC, c0]
            rw [ep, adjC, Bool.true_and] at hg
            refine drawP (tabEnv [] _) [⟨[], allD 51, true⟩, ⟨[], allD 51, true⟩, ⟨[], allD 51, true⟩, ⟨[], allD 51, true⟩, ⟨[], allD 51, true⟩, ⟨[], allD 51, true⟩, ⟨[], allD 51, true⟩, ⟨[], allD 51, true⟩, ⟨[], allD 51, true⟩, ⟨[.op 3 3 0], allD 51, true⟩, ⟨[.op 3 3 0], allD 51, true⟩, ⟨[], allD 51, false⟩, ⟨[], allD 51, true⟩, ⟨[], allD 51, true⟩, ⟨[], allD 51, true⟩, ⟨[], allD 51, true⟩, ⟨[], allD 51, true⟩, ⟨[], allD 51, true⟩, ⟨[], allD 51, true⟩, ⟨[], allD 51, true⟩, ⟨[.op 3 3 0], allD 51, true⟩, ⟨[.op 3 3 0], allD 51, true⟩, ⟨[], allD 51, false⟩, ⟨[], allD 51, true⟩, ⟨[], allD 51, true⟩] h0 hm (tabEnv_ok tab_nil) (by kernel_rfl) (by kernel_rfl) ?_
            simp [e0]
            subst hI
            exact Less_mk (n - 1) (by omega) ⟨i + 1, by omega, by rw [en]; exact hg, by rw [wrNext i (by omega)]⟩
          · obtain ⟨j, hj⟩ : ∃ j, i = j + 1 := ⟨i - 1, by omega⟩
            have aj : j < l.length := by omega
            have ep : prevC l i = some l[j] := by subst hj; exact prevC_next l j aj
            obtain ⟨⟨hy1, hy2⟩, hy3⟩ := hlx l[j] (List.getElem_mem aj)
            have hdj := fm_drop (GLeaf.ci k) 2 (fun _ => rfl) l j aj
            have hltj : j * 2 < l.length * 2 := by omega
            have hw : IntKind.wrap .i64 ((i : Int) - 1) = j := (wrap64 (by omega) (by omega)).trans (by omega)
            have e0 : 0 < i := by omega
            rw [ep, adjC] at hg
            refine drawP (tabEnv [] _) [⟨[], allD 51, true⟩, ⟨[], allD 51, true⟩, ⟨[], allD 51, true⟩, ⟨[], allD 51, true⟩, ⟨[], allD 51, true⟩, ⟨[], allD 51, true⟩, ⟨[], allD 51, true⟩, ⟨[], allD 51, true⟩, ⟨[], allD 51, true⟩, ⟨[.op 3 3 0], allD 51, true⟩, ⟨[.op 3 3 0], allD 51, true⟩, ⟨[], allD 51, false⟩, ⟨[], allD 51, true⟩, ⟨[], allD 51, true⟩, ⟨[], allD 51, true⟩, ⟨[], allD 51, true⟩, ⟨[], allD 51, true⟩, ⟨[], allD 51, true⟩, ⟨[], allD 51, true⟩, ⟨[], allD 51, true⟩, ⟨[.op 3 3 0], allD 51, true⟩, ⟨[.op 3 3 0], allD 51, true⟩, ⟨[], allD 51, false⟩, ⟨[], allD 51, true⟩, ⟨[], allD 51, true⟩] h0 hm (tabEnv_ok (tab_cons (ok_l15Less k k l[j].Path l[i].Path hy1 hx1) (tab_cons (ok_l15Begins k k l[j].Path l[i].Path hy1 hx1) tab_nil))) (by kernel_rfl) (by kernel_rfl) ?_
            cases c3 : lessP l[j].Path l[i].Path with
            | false =>
              rw [c3, Bool.false_and, Bool.false_and] at hg
              simp [c3, e0, hw, aj, hdj, hlen, hltj, goodC, ← hg]
            | true =>
              cases c4 : begP l[j].Path l[i].Path with
              | true =>
                rw [c3, c4] at hg
                have hg' : false = goodG none l := hg
                simp [c3, c4, e0, hw, aj, hdj, hlen, hltj, goodC, ← hg']
              | false =>
                rw [c3, c4] at hg
                have hg' : goodG (some l[i]) (l.drop (i + 1)) = goodG none l := hg
                simp [c3, c4, e0, hw, aj, hdj, hlen, hltj]
                subst hI
                exact Less_mk (n - 1) (by omega) ⟨i + 1, by omega, by rw [en]; exact hg', by rw [wrNext i (by omega)]⟩
    · simp at a
      rw [List.drop_of_length_le (by omega)] at hg
      have hg' : true = goodG none l := by rw [← hg]; cases prevC l i <;> rfl
      simp [goodC, ← hg']
      omega
end Go.V
