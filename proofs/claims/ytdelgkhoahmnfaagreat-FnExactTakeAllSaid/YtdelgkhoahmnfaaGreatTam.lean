/- What functions of the seat's program do, each proved of its code, under the bounds that its theorem names. -/
import Derived.Test.YtdelgkhoahmnfaaGreatTal
import Derived.Deep.AppendSrc
import Derived.Lib.AppendZeros
import Derived.Shelf.Spec.SlicesInsert
import Derived.WalkKit
set_option linter.all false
namespace Go.V
open Go.Proofs
set_option maxHeartbeats 1000000
set_option maxRecDepth 10000
set_option linter.unusedSimpArgs false
set_option linter.unusedVariables false
theorem ok_Delete_Offer (n i j : Nat) (cs : List PT) (hcl : cs.length = n * 7) (hij : i < j) (hj : j ≤ n) :
    CallOK Tryz.prog 126 [.c (.sl 0 81 n cs), .c (pi i), .c (pi j)] (.c (.sl 0 81 (i + (n - j)) (cs.take (i * 7) ++ cs.drop (j * 7)))) [.c .hole, .c (pi i), .c (pi j)] := by
  intro I w las he hh hnd hI
  obtain ⟨ts, rfl, hts⟩ := erase_cs las [.sl 0 81 n cs, pi i, pi j] he
  obtain ⟨t0, t1, t2, rfl⟩ : ∃ t0 t1 t2, ts = [t0, t1, t2] := by
    have hl : ts.length = 3 := by simpa using congrArg List.length hts
    match ts, hl with
    | [a, b, c], _ => exact ⟨a, b, c, rfl⟩
  simp only [List.map_cons, List.map_nil, List.cons.injEq, and_true] at hts
  obtain ⟨e0, e1, e2⟩ := hts
  have hs2 : tsz Tryz.prog 81 = 7 := by kernel_rfl
  have k0 : t0.holds (tsz Tryz.prog) w I := by simpa [LV.holds] using hh (.c t0) (by simp)
  have k1 : t1.holds (tsz Tryz.prog) w I := by simpa [LV.holds] using hh (.c t1) (by simp)
  have k2 : t2.holds (tsz Tryz.prog) w I := by simpa [LV.holds] using hh (.c t2) (by simp)
  have leafI : ∀ (t : LT) (m : Nat), t.erase = pi m → t.holds (tsz Tryz.prog) w I → t.val = .int .i64 m ∧ t.blocks = [] := by
    intro t m e k
    cases t with
    | leaf v p =>
      simp only [LT.erase] at e
      subst e
      simp only [LT.holds, Im, pi] at k
      exact ⟨k.1, by simp [LT.blocks]⟩
    | own b cap e m cs => simp [LT.erase, pi] at e
  obtain ⟨hv1, hb1⟩ := leafI t1 i e1 k1
  obtain ⟨hv2, hb2⟩ := leafI t2 j e2 k2
  simp only [List.map_cons, List.map_nil] at hh hnd hI ⊢
  cases t0 with
  | leaf v p =>
    simp only [LT.erase] at e0
    subst e0
    simp only [LT.holds, Im] at k0
    have := k0.1.1
    omega
  | own b cap e m ls =>
    simp only [LT.erase, PT.sl.injEq, true_and] at e0
    obtain ⟨rfl, rfl, rfl⟩ := e0
    have k0' := k0
    simp only [LT.holds] at k0'
    obtain ⟨⟨arr, q1, q2, q3⟩, q4, q5, q6, q7⟩ := k0'
    rw [hs2] at q2 q4 q6
    have hcv : ∀ (j : Nat) u, (ls.map LT.val)[j]? = some u → arr[j]? = some u := by
      intro j u hj
      rw [List.getElem?_map, Option.map_eq_some_iff] at hj
      obtain ⟨d, hd, rfl⟩ := hj
      exact q3 j d hd
    have hlas : ([LV.c (.own b cap 81 m ls), .c t1, .c t2].flatMap LV.blocks) = b :: ls.flatMap LT.blocks := by simp [LV.blocks, LT.blocks, hb1, hb2]
    obtain ⟨arr', w', hcall, p1, p2, p3, p4⟩ := del_worldOffer b m cap i j w arr (ls.map LT.val) q1 (by rw [List.length_map, q4]) q2 q5 hij hj hcv (by
      intro v hv
      obtain ⟨d, hd, rfl⟩ := List.mem_map.1 hv
      rw [one_oneCell]
      exact LT.holds_one (q7 d hd))
    have hargs : [LV.val (.c (.own b cap 81 m ls)), LV.val (.c t1), LV.val (.c t2)].toArray = #[.slice (some ⟨b, 0, none⟩) m cap, .int .i64 i, .int .i64 j] := by
      simp only [LV.val, LT.val] at hv1 hv2 ⊢
      rw [hv1, hv2]
    rw [hargs]
    refine (CallsF.of_calls Tryz.func126 (by kernel_rfl) rfl hcall).mono ?_
    rintro e w'' ⟨rfl, rfl⟩
    rw [hlas] at hnd hI ⊢
    have hnd1 := List.nodup_cons.1 hnd
    have hbI : ∀ k x, I k x → w''.heap[x]? = w.heap[x]? := fun k x hx => p4.block x (hI k x hx).1 (by
      rw [List.mem_singleton]
      rintro rfl
      exact (hI k x hx).2 (by simp))
    have hsub : (ls.take (i * 7) ++ ls.drop (j * 7)).Sublist ls := by
      have h1 : (ls.drop (j * 7)).Sublist (ls.drop (i * 7)) := by
        have e : j * 7 = i * 7 + (j * 7 - i * 7) := by omega
        rw [e, ← List.drop_drop]
        exact List.drop_sublist _ _
      have h2 := List.Sublist.append_left h1 (ls.take (i * 7))
      rwa [List.take_append_drop] at h2
    have hbs : ((ls.take (i * 7) ++ ls.drop (j * 7)).flatMap LT.blocks).Sublist (ls.flatMap LT.blocks) := flat_sub _ hsub
    have hhold : ∀ c ∈ ls, c.holds (tsz Tryz.prog) w'' I := fun c hc => LT.holds_frame (fun _ _ h => h) hbI c (q7 c hc) fun x hx => p4.block x (LT.blocks_lt c (q7 c hc) x hx) (by
      rw [List.mem_singleton]
      rintro rfl
      exact hnd1.1 (List.mem_flatMap.2 ⟨c, hc, hx⟩))
    refine ⟨.c (.own b cap 81 (i + (m - j)) (ls.take (i * 7) ++ ls.drop (j * 7))), [.c (.leaf (.slice (some ⟨b, 0, none⟩) m cap) .hole), .c t1, .c t2], by simp [LV.val, LT.val], by simp [LV.erase, LT.erase], by simp [LV.erase, LT.erase, e1, e2], ?_, ?_, ?_, ?_, ?_, ?_⟩
    · simp [LV.full, LV.trees, LT.val]
    · simp only [LV.holds, LT.holds]
      refine ⟨⟨arr', p1, by rw [hs2]; exact p2, fun t c hc => p3 t _ (by rw [← List.map_take, ← List.map_drop, ← List.map_append, List.getElem?_map, hc]; rfl)⟩, ?_, by omega, ⟨by rw [hs2]; omega, by omega⟩, fun c hc => hhold c (hsub.subset hc)⟩
      rw [List.length_append, List.length_take, List.length_drop, hs2, q4]
      omega
    · intro l hl
      simp only [List.mem_cons, List.not_mem_nil, or_false] at hl
      rcases hl with rfl | rfl | rfl
      · simp only [LV.holds, LT.holds, Im]; exact ⟨trivial, rfl⟩
      · simp only [LV.holds]; exact LT.holds_frame (fun _ _ h => h) hbI t1 k1 (by rw [hb1]; simp)
      · simp only [LV.holds]; exact LT.holds_frame (fun _ _ h => h) hbI t2 k2 (by rw [hb2]; simp)
    · simp only [LV.blocks, LT.blocks, List.flatMap_cons, List.flatMap_nil, List.append_nil, hb1, hb2, List.nil_append]
      exact List.nodup_cons.2 ⟨fun hx => hnd1.1 (hbs.subset hx), hnd1.2.sublist hbs⟩
    · intro x hx
      simp only [LV.blocks, LT.blocks, List.flatMap_cons, List.flatMap_nil, List.append_nil, hb1, hb2, List.nil_append, List.mem_cons] at hx
      rcases hx with rfl | hx
      · exact .inl (by simp)
      · exact .inl (List.mem_cons_of_mem _ (hbs.subset hx))
    · exact (Kp.refl _ w).trans p4 (by
        intro x hx
        rw [List.mem_singleton] at hx
        subst hx
        exact .inl (by simp))
theorem del_walkRow (b n c i j q : Nat) (A : Addr) (w w1 w2 : World) (x2 : Value) (hij : i < j) (hj : j ≤ n) (hnc : n ≤ c) (hq : q < n)
    (hA : (if c = j then some (⟨b, 0, none⟩ : Addr) else some ⟨b, j * 3, none⟩) = some A)
    (hr : ∀ ty, (Builtin.append_ #[30, 30] ty #[.slice (some ⟨b, 0, none⟩) i c, .slice (some A) (n - j) (c - j)]).run Tryz.prog w.drew = .ok (.slice (some ⟨b, 0, none⟩) q c) w1)
    (hc : ∀ ty, (Builtin.clear_ #[30] ty #[.slice (some ⟨b, q * 3, none⟩) (n - q) (c - q)]).run Tryz.prog w1 = .ok x2 w2) :
    Calls Tryz.prog 127 #[.slice (some ⟨b, 0, none⟩) n c, .int .i64 i, .int .i64 j] w fun e w' => e = .returned (.slice (some ⟨b, 0, none⟩) q c) ∧ w' = w2 := by
  have mixed : Tryz.prog.follows .mixedOrders = true := by kernel_rfl
  have tS : Tryz.prog.underlying 30 = some (.slice 79) := by kernel_rfl
  have uS := run_underlying tS
  have zE : ∀ w, (Go.sizeOf 79).run Tryz.prog w = .ok 3 w := fun w => by kernel_rfl
  have zS : ∀ w, (Go.sizeOf 30).run Tryz.prog w = .ok 1 w := fun w => by kernel_rfl
  have aS : ∀ w, (isAgg 30).run Tryz.prog w = .ok false w := fun w => by kernel_rfl
  have t3 : Tryz.prog.underlying 3 = some (.int .i64) := by kernel_rfl
  have u3 := run_underlying t3
  have a3 : ∀ w, (isAgg 3).run Tryz.prog w = .ok false w := fun w => by kernel_rfl
  have z3 : ∀ w, (Go.sizeOf 3).run Tryz.prog w = .ok 1 w := fun w => by kernel_rfl
  have hne : ¬ ((i : Int) = (j : Int)) := by omega
  have hic : i ≤ c := by omega
  have hjc : j ≤ c := by omega
  have hij' : i ≤ j := by omega
  have hqn : q ≤ n := by omega
  have hqc : q ≤ c := by omega
  have hcq : ¬ (c = q) := by omega
  go_enter Tryz.func127, Tryz.ntmps127
  go_wp2_with fail
  go_region_law_o (refine step_app_run rfl _ _ 30 30 rfl (.slice (some ⟨b, 0, none⟩) i c) (.slice (some A) (n - j) (c - j)) (by simp [Act.eval, Act.put]) (by simp [Act.eval, Act.put]) (hr _) ?_)
  go_wp2_with (at_builtin; refine wpList_clear_run _ rfl _ 30 rfl _ rfl (hc _) ?_)
  go_ret
  exact ⟨rfl, rfl⟩
theorem del_worldRow (b n c i j : Nat) (w : World) (arr : Array Value) (cv : List Value) (hba : w.heap[b]? = some (.cells arr 79 (0, 0)))
    (hcl : cv.length = n * 3) (hca : c * 3 ≤ arr.size) (hnc : n ≤ c) (hij : i < j) (hj : j ≤ n)
    (hcv : ∀ (t : Nat) u, cv[t]? = some u → arr[t]? = some u) (h1c : ∀ v ∈ cv, v.oneCell' = true) :
    ∃ (arr' : Array Value) (w' : World), Calls Tryz.prog 127 #[.slice (some ⟨b, 0, none⟩) n c, .int .i64 i, .int .i64 j] w (fun e w'' => e = .returned (.slice (some ⟨b, 0, none⟩) (i + (n - j)) c) ∧ w'' = w') ∧
      w'.heap[b]? = some (.cells arr' 79 (0, 0)) ∧ c * 3 ≤ arr'.size ∧ (∀ (t : Nat) u, (cv.take (i * 3) ++ cv.drop (j * 3))[t]? = some u → arr'[t]? = some u) ∧ Kp [b] w w' := by
  have tS : Tryz.prog.underlying 30 = some (.slice 79) := by kernel_rfl
  obtain ⟨inf, hinf⟩ := tsz_info (P := Tryz.prog) (t := 79) (by simp)
  have hsz : inf.size = 3 := by
    have h1 : tsz Tryz.prog 79 = inf.size := by simp only [tsz, hinf]
    have h2 : tsz Tryz.prog 79 = 3 := by kernel_rfl
    omega
  have hzz : tzero Tryz.prog 79 = inf.zero := by simp only [tzero, hinf]
  obtain ⟨z, hz⟩ : ∃ z, inf.zero = some z := by
    have h2 : (tzero Tryz.prog 79).isSome = true := by kernel_rfl
    rw [hzz] at h2
    exact Option.isSome_iff_exists.1 h2
  have hzs : z.cells.size = 3 := by
    have h2 : (tzero Tryz.prog 79).map (fun z => z.cells.size) = some 3 := by kernel_rfl
    rw [hzz, hz] at h2
    simpa using h2
  have hz1 : ∀ v ∈ z.cells.toList, v.oneCell' = true := by
    have h2 : (tzero Tryz.prog 79).map (fun z => z.cells.toList.all Value.oneCell') = some true := by kernel_rfl
    rw [hzz, hz] at h2
    have h3 : z.cells.toList.all Value.oneCell' = true := by simpa using h2
    exact List.all_eq_true.1 h3
  have hcellb : ∀ (k : Nat) u, cv[k]? = some u → w.cell? ⟨b, k, none⟩ = some u := fun k u h => by rw [cell_at hba]; exact hcv k u h
  obtain ⟨news, hnews⟩ : ∃ news, news = cv.drop (j * 3) := ⟨_, rfl⟩
  have hnl : news.length = (n - j) * 3 := by rw [hnews, List.length_drop, hcl]; omega
  have hnat : ∀ (t : Nat) u, news[t]? = some u → cv[j * 3 + t]? = some u := fun t u h => by rw [hnews] at h; rwa [List.getElem?_drop] at h
  obtain ⟨A, hA, hsrc⟩ : ∃ A : Addr, (if c = j then some (⟨b, 0, none⟩ : Addr) else some ⟨b, j * 3, none⟩) = some A ∧ ∀ (t : Nat) u, news[t]? = some u → w.drew.cell? (A.add t) = some u := by
    by_cases h : c = j
    · refine ⟨⟨b, 0, none⟩, by simp [h], fun t u hu => ?_⟩
      have := (List.getElem?_eq_some_iff.1 hu).1
      omega
    · refine ⟨⟨b, j * 3, none⟩, by simp [h], fun t u hu => ?_⟩
      rw [Addr.add_lit]
      exact hcellb _ u (hnat t u hu)
  have hr : ∀ ty, (Builtin.append_ #[30, 30] ty #[.slice (some ⟨b, 0, none⟩) i c, .slice (some A) (n - j) (c - j)]).run Tryz.prog w.drew = .ok (.slice (some ⟨b, 0, none⟩) (i + (n - j)) c) (w.drew.setCells b (i * 3) news) := fun ty => by
    have h := run_append_room_cells (P := Tryz.prog) w.drew 30 ty 79 inf tS hinf b 0 i c A (n - j) (c - j) news (by rw [hsz, hnl]) hsrc (by intro u hu; rw [hnews] at hu; exact h1c u (List.mem_of_mem_drop hu)) (by omega)
      (fun t ht => by
        show (w.cell? ⟨b, _, none⟩).isSome = true
        rw [cell_at hba, hsz, Array.getElem?_eq_getElem (by omega)]; rfl) (fun t ht => by
        show w.frozen? ⟨b, _, none⟩ = false
        simp [World.frozen?, hba])
    rw [hsz, Nat.zero_add] at h
    exact h
  obtain ⟨arr1, p1, p2, p3⟩ := setCells_heap news (i * 3) w.drew arr hba
  have hk1 := setCells_kp b news (i * 3) w.drew
  generalize w.drew.setCells b (i * 3) news = W1 at hr p1 hk1
  obtain ⟨k, hk⟩ : ∃ k, n - (i + (n - j)) = k + 1 := ⟨n - (i + (n - j)) - 1, by omega⟩
  have hc : ∀ ty, (Builtin.clear_ #[30] ty #[.slice (some ⟨b, (i + (n - j)) * 3, none⟩) (n - (i + (n - j))) (c - (i + (n - j)))]).run Tryz.prog W1 = .ok (.tuple #[]) (W1.setCells b ((i + (n - j)) * 3) ((List.replicate (k + 1) z.cells.toList).flatten)) := fun ty => by
    rw [hk]
    exact run_clear_n W1 30 ty 79 b ((i + (n - j)) * 3) k _ inf z tS hinf hz (fun t ht => by rw [cell_at p1, Array.getElem?_eq_getElem (by rw [hzs] at ht; omega)]; rfl) (fun t ht => by simp [World.frozen?, p1]) hz1
  obtain ⟨arr2, q1, q2, q3⟩ := setCells_heap ((List.replicate (k + 1) z.cells.toList).flatten) ((i + (n - j)) * 3) W1 arr1 p1
  have hk2 := setCells_kp b ((List.replicate (k + 1) z.cells.toList).flatten) ((i + (n - j)) * 3) W1
  refine ⟨arr2, _, del_walkRow b n c i j (i + (n - j)) A w W1 _ _ hij hj hnc (by omega) hA hr hc, q1, by omega, ?_, ((Kp.of_below (drew_below w) (Nat.le_succ _)).trans hk1 (by intro y hy; exact .inl hy)).trans hk2 (by intro y hy; exact .inl hy)⟩
  intro t u ht
  have htl := (List.getElem?_eq_some_iff.1 ht).1
  rw [List.length_append, List.length_take, List.length_drop] at htl
  rw [q3, if_neg (by omega), p3]
  rw [List.getElem?_append, List.length_take] at ht
  split at ht
  · rw [List.getElem?_take] at ht
    rw [if_neg (by omega)]
    split at ht
    · exact hcv t u ht
    · cases ht
  · rw [if_pos (by omega), hnews]
    have e : t - i * 3 = t - min (i * 3) cv.length := by omega
    rw [e]
    exact ht
theorem ok_Delete_Row (n i j : Nat) (cs : List PT) (hcl : cs.length = n * 3) (hij : i < j) (hj : j ≤ n) :
    CallOK Tryz.prog 127 [.c (.sl 0 79 n cs), .c (pi i), .c (pi j)] (.c (.sl 0 79 (i + (n - j)) (cs.take (i * 3) ++ cs.drop (j * 3)))) [.c .hole, .c (pi i), .c (pi j)] := by
  intro I w las he hh hnd hI
  obtain ⟨ts, rfl, hts⟩ := erase_cs las [.sl 0 79 n cs, pi i, pi j] he
  obtain ⟨t0, t1, t2, rfl⟩ : ∃ t0 t1 t2, ts = [t0, t1, t2] := by
    have hl : ts.length = 3 := by simpa using congrArg List.length hts
    match ts, hl with
    | [a, b, c], _ => exact ⟨a, b, c, rfl⟩
  simp only [List.map_cons, List.map_nil, List.cons.injEq, and_true] at hts
  obtain ⟨e0, e1, e2⟩ := hts
  have hs2 : tsz Tryz.prog 79 = 3 := by kernel_rfl
  have k0 : t0.holds (tsz Tryz.prog) w I := by simpa [LV.holds] using hh (.c t0) (by simp)
  have k1 : t1.holds (tsz Tryz.prog) w I := by simpa [LV.holds] using hh (.c t1) (by simp)
  have k2 : t2.holds (tsz Tryz.prog) w I := by simpa [LV.holds] using hh (.c t2) (by simp)
  have leafI : ∀ (t : LT) (m : Nat), t.erase = pi m → t.holds (tsz Tryz.prog) w I → t.val = .int .i64 m ∧ t.blocks = [] := by
    intro t m e k
    cases t with
    | leaf v p =>
      simp only [LT.erase] at e
      subst e
      simp only [LT.holds, Im, pi] at k
      exact ⟨k.1, by simp [LT.blocks]⟩
    | own b cap e m cs => simp [LT.erase, pi] at e
  obtain ⟨hv1, hb1⟩ := leafI t1 i e1 k1
  obtain ⟨hv2, hb2⟩ := leafI t2 j e2 k2
  simp only [List.map_cons, List.map_nil] at hh hnd hI ⊢
  cases t0 with
  | leaf v p =>
    simp only [LT.erase] at e0
    subst e0
    simp only [LT.holds, Im] at k0
    have := k0.1.1
    omega
  | own b cap e m ls =>
    simp only [LT.erase, PT.sl.injEq, true_and] at e0
    obtain ⟨rfl, rfl, rfl⟩ := e0
    have k0' := k0
    simp only [LT.holds] at k0'
    obtain ⟨⟨arr, q1, q2, q3⟩, q4, q5, q6, q7⟩ := k0'
    rw [hs2] at q2 q4 q6
    have hcv : ∀ (j : Nat) u, (ls.map LT.val)[j]? = some u → arr[j]? = some u := by
      intro j u hj
      rw [List.getElem?_map, Option.map_eq_some_iff] at hj
      obtain ⟨d, hd, rfl⟩ := hj
      exact q3 j d hd
    have hlas : ([LV.c (.own b cap 79 m ls), .c t1, .c t2].flatMap LV.blocks) = b :: ls.flatMap LT.blocks := by simp [LV.blocks, LT.blocks, hb1, hb2]
    obtain ⟨arr', w', hcall, p1, p2, p3, p4⟩ := del_worldRow b m cap i j w arr (ls.map LT.val) q1 (by rw [List.length_map, q4]) q2 q5 hij hj hcv (by
      intro v hv
      obtain ⟨d, hd, rfl⟩ := List.mem_map.1 hv
      rw [one_oneCell]
      exact LT.holds_one (q7 d hd))
    have hargs : [LV.val (.c (.own b cap 79 m ls)), LV.val (.c t1), LV.val (.c t2)].toArray = #[.slice (some ⟨b, 0, none⟩) m cap, .int .i64 i, .int .i64 j] := by
      simp only [LV.val, LT.val] at hv1 hv2 ⊢
      rw [hv1, hv2]
    rw [hargs]
    refine (CallsF.of_calls Tryz.func127 (by kernel_rfl) rfl hcall).mono ?_
    rintro e w'' ⟨rfl, rfl⟩
    rw [hlas] at hnd hI ⊢
    have hnd1 := List.nodup_cons.1 hnd
    have hbI : ∀ k x, I k x → w''.heap[x]? = w.heap[x]? := fun k x hx => p4.block x (hI k x hx).1 (by
      rw [List.mem_singleton]
      rintro rfl
      exact (hI k x hx).2 (by simp))
    have hsub : (ls.take (i * 3) ++ ls.drop (j * 3)).Sublist ls := by
      have h1 : (ls.drop (j * 3)).Sublist (ls.drop (i * 3)) := by
        have e : j * 3 = i * 3 + (j * 3 - i * 3) := by omega
        rw [e, ← List.drop_drop]
        exact List.drop_sublist _ _
      have h2 := List.Sublist.append_left h1 (ls.take (i * 3))
      rwa [List.take_append_drop] at h2
    have hbs : ((ls.take (i * 3) ++ ls.drop (j * 3)).flatMap LT.blocks).Sublist (ls.flatMap LT.blocks) := flat_sub _ hsub
    have hhold : ∀ c ∈ ls, c.holds (tsz Tryz.prog) w'' I := fun c hc => LT.holds_frame (fun _ _ h => h) hbI c (q7 c hc) fun x hx => p4.block x (LT.blocks_lt c (q7 c hc) x hx) (by
      rw [List.mem_singleton]
      rintro rfl
      exact hnd1.1 (List.mem_flatMap.2 ⟨c, hc, hx⟩))
    refine ⟨.c (.own b cap 79 (i + (m - j)) (ls.take (i * 3) ++ ls.drop (j * 3))), [.c (.leaf (.slice (some ⟨b, 0, none⟩) m cap) .hole), .c t1, .c t2], by simp [LV.val, LT.val], by simp [LV.erase, LT.erase], by simp [LV.erase, LT.erase, e1, e2], ?_, ?_, ?_, ?_, ?_, ?_⟩
    · simp [LV.full, LV.trees, LT.val]
    · simp only [LV.holds, LT.holds]
      refine ⟨⟨arr', p1, by rw [hs2]; exact p2, fun t c hc => p3 t _ (by rw [← List.map_take, ← List.map_drop, ← List.map_append, List.getElem?_map, hc]; rfl)⟩, ?_, by omega, ⟨by rw [hs2]; omega, by omega⟩, fun c hc => hhold c (hsub.subset hc)⟩
      rw [List.length_append, List.length_take, List.length_drop, hs2, q4]
      omega
    · intro l hl
      simp only [List.mem_cons, List.not_mem_nil, or_false] at hl
      rcases hl with rfl | rfl | rfl
      · simp only [LV.holds, LT.holds, Im]; exact ⟨trivial, rfl⟩
      · simp only [LV.holds]; exact LT.holds_frame (fun _ _ h => h) hbI t1 k1 (by rw [hb1]; simp)
      · simp only [LV.holds]; exact LT.holds_frame (fun _ _ h => h) hbI t2 k2 (by rw [hb2]; simp)
    · simp only [LV.blocks, LT.blocks, List.flatMap_cons, List.flatMap_nil, List.append_nil, hb1, hb2, List.nil_append]
      exact List.nodup_cons.2 ⟨fun hx => hnd1.1 (hbs.subset hx), hnd1.2.sublist hbs⟩
    · intro x hx
      simp only [LV.blocks, LT.blocks, List.flatMap_cons, List.flatMap_nil, List.append_nil, hb1, hb2, List.nil_append, List.mem_cons] at hx
      rcases hx with rfl | hx
      · exact .inl (by simp)
      · exact .inl (List.mem_cons_of_mem _ (hbs.subset hx))
    · exact (Kp.refl _ w).trans p4 (by
        intro x hx
        rw [List.mem_singleton] at hx
        subst hx
        exact .inl (by simp))
/-! ### a drawn region with one pair that does not change places: both orders are reckoned -/
section
open Go Go.RowKit
variable {P : Program} {ops : Array Oper} {Q : Exit → Act → World → Prop} {E : Env} {r : Nat}
def rdyE (a b : Nat) (ops : Array Oper) (listed : Array Bool) : List Nat := (Region.ready .any ops listed).filter fun k => !(k == b) || listed.getD a false
def anyE (a b : Nat) (E : Env) (P : Program) (r : Nat) (ops : Array Oper) (xs : List OI) (K : St → Prop) : Nat → Array Bool → St → Prop
  | 0, listed, st => rdyE a b ops listed = [] ∧ K st
  | f + 1, listed, st => (rdyE a b ops listed = [] → K st) ∧ ∀ i ∈ rdyE a b ops listed, ∃ st', stMi E P r ops xs i st = some st' ∧ anyE a b E P r ops xs K f (listed.setIfInBounds i true) st'
theorem mem_rdyE {a b k : Nat} {listed : Array Bool} : k ∈ rdyE a b ops listed ↔ k ∈ Region.ready .any ops listed ∧ (k = b → listed.getD a false = true) := by
  unfold rdyE
  rw [List.mem_filter]
  by_cases h : k = b
  · subst h; simp
  · simp [h]
theorem rdyE_mono {a b i j : Nat} {listed : Array Bool} (hj : j ∈ rdyE a b ops listed) (hne : j ≠ i) : j ∈ rdyE a b ops (listed.setIfInBounds i true) := by
  rw [mem_rdyE] at *
  exact ⟨ready_mono hj.1 hne, fun h => getD_set_true (hj.2 h)⟩
theorem anyE_any {a b : Nat} {xs : List OI} {K : St → Prop} : ∀ (f : Nat) (listed : Array Bool) (st : St), listed.getD a false = true → anyE a b E P r ops xs K f listed st → anyV E P r ops xs K f listed st
  | 0, listed, st, hl, h => by
    have e : rdyE a b ops listed = Region.ready .any ops listed := by
      unfold rdyE
      rw [hl]
      simp
    unfold anyE at h
    rw [e] at h
    exact h
  | f + 1, listed, st, hl, h => by
    have e : rdyE a b ops listed = Region.ready .any ops listed := by
      unfold rdyE
      rw [hl]
      simp
    unfold anyE at h
    rw [e] at h
    refine ⟨h.1, fun i hi => ?_⟩
    obtain ⟨st', h1, h2⟩ := h.2 i hi
    exact ⟨st', h1, anyE_any f _ st' (getD_set_true hl) h2⟩
theorem any_two {a b : Nat} {xs : List OI} {K : St → Prop} (hab : a ≠ b) : ∀ (f : Nat) (listed : Array Bool) (st : St), listed.getD a false = false → listed.getD b false = false → anyE a b E P r ops xs K f listed st → anyE b a E P r ops xs K f listed st → anyV E P r ops xs K f listed st
  | 0, listed, st, ha, hb, h1, h2 => by
    refine ⟨?_, h1.2⟩
    rw [List.eq_nil_iff_forall_not_mem]
    intro k hk
    have g1 : k ∉ rdyE a b ops listed := by rw [h1.1]; simp
    have g2 : k ∉ rdyE b a ops listed := by rw [h2.1]; simp
    rw [mem_rdyE] at g1 g2
    have e1 : k = b := Classical.byContradiction fun h => g1 ⟨hk, fun e => absurd e h⟩
    have e2 : k = a := Classical.byContradiction fun h => g2 ⟨hk, fun e => absurd e h⟩
    exact hab (e2.symm.trans e1)
  | f + 1, listed, st, ha, hb, h1, h2 => by
    refine ⟨fun hr => h1.1 (by unfold rdyE; rw [hr]; rfl), fun i hi => ?_⟩
    by_cases hia : i = a
    · subst hia
      obtain ⟨st', g1, g2⟩ := h1.2 i (mem_rdyE.2 ⟨hi, fun e => absurd e hab⟩)
      refine ⟨st', g1, anyE_any f _ st' ?_ g2⟩
      have hlt : i < listed.size := by
        rcases Nat.lt_or_ge i listed.size with h' | h'
        · exact h'
        · have := (mem_ready.1 hi).1
          simp [Array.getElem?_eq_none h'] at this
      simp [hlt]
    · by_cases hib : i = b
      · subst hib
        obtain ⟨st', g1, g2⟩ := h2.2 i (mem_rdyE.2 ⟨hi, fun e => absurd e.symm hab⟩)
        refine ⟨st', g1, anyE_any f _ st' ?_ g2⟩
        have hlt : i < listed.size := by
          rcases Nat.lt_or_ge i listed.size with h' | h'
          · exact h'
          · have := (mem_ready.1 hi).1
            simp [Array.getElem?_eq_none h'] at this
        simp [hlt]
      · obtain ⟨st1, g1, g2⟩ := h1.2 i (mem_rdyE.2 ⟨hi, fun e => absurd e hib⟩)
        obtain ⟨st2, g3, g4⟩ := h2.2 i (mem_rdyE.2 ⟨hi, fun e => absurd e hia⟩)
        rw [g1] at g3
        cases g3
        exact ⟨st1, g1, any_two hab f _ st1 (by rw [getD_set_ne false hia]; exact ha) (by rw [getD_set_ne false hib]; exact hb) g2 g4⟩
theorem anyE_first {a b : Nat} {xs : List OI} {K : St → Prop} {i n : Nat} : ∀ (f : Nat) (listed : Array Bool) (st st1 : St),
    (∀ j, j ≠ i → listed.getD j true = false → waitsFor ops n i j = false → ¬ (i = a ∧ j = b) → ¬ (i = b ∧ j = a) → ∀ st st1 st2, stMi E P r ops xs i st = some st1 → stMi E P r ops xs j st1 = some st2 → ∃ st', stMi E P r ops xs j st = some st' ∧ stMi E P r ops xs i st' = some st2) →
    Closed ops listed → i ∈ rdyE a b ops listed → stMi E P r ops xs i st = some st1 → anyE a b E P r ops xs K f (listed.setIfInBounds i true) st1 → anyE a b E P r ops xs K (f + 1) listed st := by
  intro f
  induction f with
  | zero =>
    intro listed st st1 hcomm hc hr hm H
    refine ⟨fun h => (by rw [h] at hr; cases hr), fun j hj => ?_⟩
    by_cases hji : j = i
    · subst hji; exact ⟨st1, hm, H⟩
    · have := rdyE_mono hj hji
      rw [H.1] at this
      cases this
  | succ f ih =>
    intro listed st st1 hcomm hc hr hm H
    refine ⟨fun h => (by rw [h] at hr; cases hr), fun j hj => ?_⟩
    by_cases hji : j = i
    · subst hji; exact ⟨st1, hm, H⟩
    · obtain ⟨st2, h2, H2⟩ := H.2 j (rdyE_mono hj hji)
      have hr0 := mem_rdyE.1 hr
      have hj0 := mem_rdyE.1 hj
      have hi0 := getD_tf (mem_ready.1 hr0.1).1
      have hjf := getD_tf (mem_ready.1 hj0.1).1
      obtain ⟨st', h3, h4⟩ := hcomm j hji (mem_ready.1 hj0.1).1 (ready_waits hc hi0 hj0.1 n) (by
        rintro ⟨rfl, rfl⟩
        rw [hj0.2 rfl] at hi0
        cases hi0) (by
        rintro ⟨rfl, rfl⟩
        rw [hr0.2 rfl] at hjf
        cases hjf) st st1 st2 hm h2
      refine ⟨st', h3, ih (listed.setIfInBounds j true) st' st2 (fun k hki hun hw => ?_) (hc.add hj0.1) (rdyE_mono hr (Ne.symm hji)) h4 ?_⟩
      · refine hcomm k hki ?_ hw
        by_cases hjk : j = k
        · subst hjk; exact (mem_ready.1 hj0.1).1
        · rw [getD_set_ne true hjk] at hun; exact hun
      · rw [Array.setIfInBounds_comm _ _ hji]
        exact H2
def runI (E : Env) (P : Program) (r : Nat) (ops : Array Oper) (xs : List OI) : List Nat → St → Option St
  | [], st => some st
  | k :: l, st => nxt (stMi E P r ops xs k st) (runI E P r ops xs l)
def ordE (a b : Nat) (ops : Array Oper) : List Nat → Array Bool → Bool
  | [], listed => (rdyE a b ops listed).isEmpty
  | k :: l, listed => (rdyE a b ops listed).contains k && ordE a b ops l (listed.setIfInBounds k true)
theorem anyE_run {ms : List Nat} {a b : Nat} {xs : List OI} {K : St → Prop} {n : Nat} {st' : St} (hK : K st')
    (hcomm : ∀ i j, ms.contains i = false → ms.contains j = false → i ≠ j → waitsFor ops n i j = false → waitsFor ops n j i = false → ¬ (i = a ∧ j = b) → ¬ (i = b ∧ j = a) → ∀ st st1 st2, stMi E P r ops xs i st = some st1 → stMi E P r ops xs j st1 = some st2 → ∃ st', stMi E P r ops xs j st = some st' ∧ stMi E P r ops xs i st' = some st2) :
    ∀ (l : List Nat) (listed : Array Bool) (st : St), (∀ j, ms.contains j = true → listed.getD j true = true) → ordE a b ops l listed = true → Closed ops listed → runI E P r ops xs l st = some st' → anyE a b E P r ops xs K l.length listed st
  | [], listed, st, _, hB, _, hl => by
    simp only [runI, Option.some.injEq] at hl
    subst hl
    exact ⟨by simpa [ordE] using hB, hK⟩
  | k :: l, listed, st, hL, hB, hc, hl => by
    simp only [ordE, Bool.and_eq_true] at hB
    obtain ⟨hr, hB'⟩ := hB
    have hr' : k ∈ rdyE a b ops listed := by simpa using hr
    have hr0 := mem_rdyE.1 hr'
    have hun : listed.getD k true = false := (mem_ready.1 hr0.1).1
    have hmk : ms.contains k = false := by
      cases hj : ms.contains k with
      | false => rfl
      | true => rw [hL k hj] at hun; cases hun
    simp only [runI] at hl
    unfold nxt at hl
    split at hl
    · rename_i st1 hm
      refine anyE_first (n := n) l.length listed st st1 (fun j hj hunj hw => hcomm k j hmk ?_ (Ne.symm hj) hw (ready_waits hc (getD_tf hunj) hr0.1 n)) hc hr' hm ?_
      · cases hj : ms.contains j with
        | false => rfl
        | true => rw [hL j hj] at hunj; cases hunj
      · refine anyE_run hK hcomm l _ st1 (fun j hj => ?_) hB' (hc.add hr0.1) hl
        rw [getD_set_ne true (by rintro rfl; rw [hj] at hmk; cases hmk)]
        exact hL j hj
    · simp at hl
/-! plain moves, checks for nil and fields' addresses, taken ahead of all else -/
def preA (P : Program) (ms : List Nat) : Nat → List Oper → St → Option St
  | _, [], st => some st
  | k, o :: l, st => if ms.contains k = true then (match o.op, o.guard with
      | .move x, none => match opv st x with
        | some s => preA P ms (k + 1) l (st.set o.dst s)
        | none => none
      | .nilCheck x, none => match opv st x with
        | some (.ptr pl off) => preA P ms (k + 1) l (st.set o.dst (.ptr pl off))
        | _ => none
      | .fieldAddr t x j, none => match opv st x, tfield P t j with
        | some (.ptr pl off), some (fo, ft) => if 0 < tsz P ft then preA P ms (k + 1) l (st.set o.dst (.ptr pl (off + fo))) else none
        | _, _ => none
      | _, _ => none) else preA P ms (k + 1) l st
theorem wpAny_movesA {ms : List Nat} {I : Nat → Nat → Prop} {bs : List Nat} {A : Nat → Nat → Option Value} {w0 : World} {f : Nat} {listed1 : Array Bool} (hsel : Region.noSelect ops = true) (hQ : ∀ c a w, ¬ Q (.panic c) a w) :
    ∀ (l : List Oper) (k : Nat) (listed : Array Bool) (st st1 : St) (a : Act) (w : World) (L : Loc), (∀ j, l[j]? = ops[k + j]?) → movesK ms ops l.length k listed = some listed1 → Closed ops listed → preA P ms k l st = some st1 → Sim (tsz P) I bs A w0 st a w L [] →
      (∀ a' L', Sim (tsz P) I bs A w0 st1 a' w L' [] → Closed ops listed1 → wpAny P .any ops Q f listed1 a' w) → wpAny P .any ops Q (f + cntK ms l.length k) listed a w
  | [], k, listed, st, st1, a, w, L, hl, hB, hc, hp, hs, h => by
    simp only [preA, Option.some.injEq, List.length_nil, movesK] at hp hB
    subst hp
    subst hB
    exact h a L hs hc
  | o :: l, k, listed, st, st1, a, w, L, hl, hB, hc, hp, hs, h => by
    have ho : ops[k]? = some o := by simpa using (hl 0).symm
    have hl' : ∀ j, l[j]? = ops[k + 1 + j]? := fun j => by have := hl (j + 1); simpa [Nat.add_assoc, Nat.add_comm 1 j] using this
    simp only [List.length_cons, movesK, cntK, preA] at hB hp ⊢
    by_cases hmk : ms.contains k = true
    · rw [if_pos hmk] at hB hp ⊢
      split at hB
      · rename_i hrf
        simp only [Bool.and_eq_true] at hrf
        have hr' : k ∈ Region.ready .any ops listed := by simpa using hrf.1
        have go : ∀ (v : Value) (s : SV), o.guard = none → (∀ w, (execOp a.eval o).run P w = .ok (.value v) w) → SVR (tsz P) L w I v s → preA P ms (k + 1) l (st.set o.dst s) = some st1 → wpAny P .any ops Q (f + (cntK ms l.length (k + 1) + 1)) listed a w := by
          intro v s hg hv hsv hp2
          have hw : Region.wanted o (yielded ops a.tmps) = true := by simp [Region.wanted, hg]
          refine wpAny_first ho (Region.noSelect_spec hsel) (fun c a w h => absurd h (hQ _ _ _)) (f + cntK ms l.length (k + 1)) listed a w (Region.free_spec ho hrf.2) hr' (.inl ⟨hw, hv⟩) ?_
          have hs' : Sim (tsz P) I bs A w0 (st.set o.dst s) (a.put o.dst v) w L [] := hs.setS _ hsv
          exact wpAny_movesA hsel hQ l (k + 1) _ _ st1 _ w L hl' hB (hc.add hr') hp2 hs' h
        split at hp
        · rename_i x hop hg
          split at hp
          · rename_i s hx
            refine go _ s hg (fun w => ?_) (opv_sound hs hx) hp
            unfold execOp
            rw [hop]
            simp [Sem.run_pure]
          · simp at hp
        · rename_i x hop hg
          split at hp
          · rename_i pl off hx
            have hv := opv_sound hs hx
            have hv' := hv
            simp only [SVR] at hv'
            obtain ⟨b, c0, e, n, cs, _, hv'⟩ := hv'
            refine go (a.eval x) _ hg (fun w => ?_) hv hp
            unfold execOp
            rw [hop]
            simp [hv']
          · simp at hp
        · rename_i t x j hop hg
          split at hp
          · rename_i pl off fo ft hx hf
            split at hp
            · rename_i hsz
              obtain ⟨fs, f', hu, hk, rfl, rfl⟩ := tfield_und hf
              have hv := opv_sound hs hx
              simp only [SVR] at hv
              obtain ⟨b, cap0, e, n, cs, hl, hv⟩ := hv
              refine go (.pointer (some ⟨b, off + f'.offset, none⟩)) _ hg (fun w => ?_) (by simp only [SVR]; exact ⟨b, cap0, e, n, cs, hl, rfl⟩) hp
              unfold execOp
              rw [hop]
              refine run_v ?_
              have hne : ¬ tsz P f'.type = 0 := by omega
              simp only [Instr.fieldAt, hv, Sem.run_bind, run_underlying hu, Result.andThen_ok, hk, Instr.sureAddr, Sem.run_pure, fieldPlace, run_tsz (tsz_info hsz), hne, if_false, add_own]
            · simp at hp
          · simp at hp
        · simp at hp
      · simp at hB
    · rw [if_neg hmk] at hB hp ⊢
      exact wpAny_movesA hsel hQ l (k + 1) _ _ st1 _ w L hl' hB hc hp hs h
/-! the two orders told as runs through the list -/
def idxA (ms : List Nat) : Nat → Nat → List Nat
  | 0, _ => []
  | f + 1, k => if ms.contains k = true then idxA ms f (k + 1) else k :: idxA ms f (k + 1)
def idxB (ms : List Nat) (a b : Nat) : Nat → Nat → List Nat
  | 0, _ => []
  | f + 1, k => if ms.contains k = true then idxB ms a b f (k + 1) else if k = a then idxB ms a b f (k + 1) else if k = b then b :: a :: idxB ms a b f (k + 1) else k :: idxB ms a b f (k + 1)
def lexRunB (ms : List Nat) (a b : Nat) (E : Env) (P : Program) (r : Nat) (ops : Array Oper) : Option (OI × Oper) → List OI → List Oper → Nat → St → Option St
  | _, _, [], _, st => some st
  | _, [], _ :: _, _, _ => none
  | pd, x :: xs, o :: rest, k, st => if ms.contains k = true then lexRunB ms a b E P r ops pd xs rest (k + 1) st else if k = a then lexRunB ms a b E P r ops (some (x, o)) xs rest (k + 1) st else if k = b then (match pd with
      | some (y, q) => nxt (stM E P r ops x b o st) fun st1 => nxt (stM E P r ops y a q st1) (lexRunB ms a b E P r ops none xs rest (k + 1))
      | none => none) else nxt (stM E P r ops x k o st) (lexRunB ms a b E P r ops pd xs rest (k + 1))
theorem lexRunB_nil {ms : List Nat} {a b : Nat} {pd : Option (OI × Oper)} {xs : List OI} {k : Nat} {st : St} : lexRunB ms a b E P r ops pd xs [] k st = some st := by cases xs <;> rfl
theorem lexRunB_skip {ms : List Nat} {a b : Nat} {pd : Option (OI × Oper)} {x : OI} {xs : List OI} {o : Oper} {rest : List Oper} {k : Nat} {st : St} (h : ms.contains k = true) : lexRunB ms a b E P r ops pd (x :: xs) (o :: rest) k st = lexRunB ms a b E P r ops pd xs rest (k + 1) st := by
  simp only [lexRunB]
  rw [if_pos h]
theorem lexRunB_hold {ms : List Nat} {a b : Nat} {pd : Option (OI × Oper)} {x : OI} {xs : List OI} {o : Oper} {rest : List Oper} {st : St} (h : ms.contains a = false) : lexRunB ms a b E P r ops pd (x :: xs) (o :: rest) a st = lexRunB ms a b E P r ops (some (x, o)) xs rest (a + 1) st := by
  simp only [lexRunB, h, Bool.false_eq_true, if_false, if_true]
theorem lexRunB_give {ms : List Nat} {a b : Nat} {x y : OI} {xs : List OI} {o q : Oper} {rest : List Oper} {st : St} (h : ms.contains b = false) (hab : decide (b = a) = false) : lexRunB ms a b E P r ops (some (y, q)) (x :: xs) (o :: rest) b st = nxt (stM E P r ops x b o st) fun st1 => nxt (stM E P r ops y a q st1) (lexRunB ms a b E P r ops none xs rest (b + 1)) := by
  have hab' : ¬ b = a := by simpa using hab
  simp only [lexRunB, h, hab', Bool.false_eq_true, if_false, if_true]
theorem lexRunB_take {ms : List Nat} {a b : Nat} {pd : Option (OI × Oper)} {x : OI} {xs : List OI} {o : Oper} {rest : List Oper} {k : Nat} {st : St} (h : (ms.contains k || (decide (k = a) || decide (k = b))) = false) : lexRunB ms a b E P r ops pd (x :: xs) (o :: rest) k st = nxt (stM E P r ops x k o st) (lexRunB ms a b E P r ops pd xs rest (k + 1)) := by
  simp only [Bool.or_eq_false_iff, decide_eq_false_iff_not] at h
  simp only [lexRunB]
  rw [if_neg (by simp only [h.1, Bool.false_eq_true, not_false_eq_true]), if_neg h.2.1, if_neg h.2.2]
theorem lexRunX_run {ms : List Nat} {xs : List OI} {st' : St} : ∀ (l : List Oper) (k : Nat) (st : St), (∀ j, l[j]? = ops[k + j]?) → lexRunX ms E P r ops xs k l st = some st' → runI E P r ops xs (idxA ms l.length k) st = some st'
  | [], k, st, _, h => by simpa [lexRunX, runI, idxA] using h
  | o :: l, k, st, hl, h => by
    have ho : ops[k]? = some o := by simpa using (hl 0).symm
    have hl' : ∀ j, l[j]? = ops[k + 1 + j]? := fun j => by have := hl (j + 1); simpa [Nat.add_assoc, Nat.add_comm 1 j] using this
    simp only [lexRunX, List.length_cons, idxA] at h ⊢
    by_cases hm : ms.contains k = true
    · rw [if_pos hm] at h ⊢
      exact lexRunX_run l (k + 1) st hl' h
    · rw [if_neg hm] at h ⊢
      split at h
      · rename_i x hx
        unfold nxt at h
        split at h
        · rename_i st1 hs
          have hmi : stMi E P r ops xs k st = some st1 := by unfold stMi; rw [ho, hx]; exact hs
          simp only [runI, hmi, nxt]
          exact lexRunX_run l (k + 1) st1 hl' h
        · simp at h
      · simp at h
theorem lexRunB_run {ms : List Nat} {a b : Nat} {ys : List OI} {st' : St} : ∀ (l : List Oper) (k : Nat) (pd : Option (OI × Oper)) (xs : List OI) (st : St), (∀ j, l[j]? = ops[k + j]?) → (∀ j, xs[j]? = ys[k + j]?) → (∀ x o, pd = some (x, o) → ys[a]? = some x ∧ ops[a]? = some o) → lexRunB ms a b E P r ops pd xs l k st = some st' → runI E P r ops ys (idxB ms a b l.length k) st = some st'
  | [], k, pd, xs, st, _, _, _, h => by
    rw [lexRunB_nil] at h
    simpa [runI, idxB] using h
  | o :: l, k, pd, [], st, _, _, _, h => by simp [lexRunB] at h
  | o :: l, k, pd, x :: xs, st, hl, hx, hpd, h => by
    have ho : ops[k]? = some o := by simpa using (hl 0).symm
    have hl' : ∀ j, l[j]? = ops[k + 1 + j]? := fun j => by have := hl (j + 1); simpa [Nat.add_assoc, Nat.add_comm 1 j] using this
    have h0 : ys[k]? = some x := by simpa using (hx 0).symm
    have hx' : ∀ j, xs[j]? = ys[k + 1 + j]? := fun j => by have := hx (j + 1); rwa [List.getElem?_cons_succ, show k + (j + 1) = k + 1 + j by omega] at this
    simp only [lexRunB, List.length_cons, idxB] at h ⊢
    by_cases hm : ms.contains k = true
    · rw [if_pos hm] at h ⊢
      exact lexRunB_run l (k + 1) pd xs st hl' hx' hpd h
    · rw [if_neg hm] at h ⊢
      by_cases hka : k = a
      · rw [if_pos hka] at h ⊢
        refine lexRunB_run l (k + 1) (some (x, o)) xs st hl' hx' (fun y q he => ?_) h
        cases he
        subst hka
        exact ⟨h0, ho⟩
      · rw [if_neg hka] at h ⊢
        by_cases hkb : k = b
        · rw [if_pos hkb] at h ⊢
          subst hkb
          cases pd with
          | some yq =>
            obtain ⟨y, q⟩ := yq
            simp only at h
            obtain ⟨g1, g2⟩ := hpd y q rfl
            unfold nxt at h
            split at h
            · rename_i st1 hs1
              dsimp only at h
              split at h
              · rename_i st2 hs2
                have e1 : stMi E P r ops ys k st = some st1 := by unfold stMi; rw [ho, h0]; exact hs1
                have e2 : stMi E P r ops ys a st1 = some st2 := by unfold stMi; rw [g1, g2]; exact hs2
                simp only [runI, e1, e2, nxt]
                exact lexRunB_run l (k + 1) none xs st2 hl' hx' (fun _ _ he => by cases he) h
              · simp at h
            · simp at h
          | none => simp at h
        · rw [if_neg hkb] at h ⊢
          unfold nxt at h
          split at h
          · rename_i st1 hs1
            have e1 : stMi E P r ops ys k st = some st1 := by unfold stMi; rw [ho, h0]; exact hs1
            simp only [runI, e1, nxt]
            exact lexRunB_run l (k + 1) pd xs st1 hl' hx' hpd h
          · simp at h
def regE (ms : List Nat) (a b : Nat) (ops : Array Oper) : Bool := Region.noSelect ops && ((idxA ms ops.size 0).length + cntK ms ops.size 0 == ops.size && ((idxB ms a b ops.size 0).length == (idxA ms ops.size 0).length && (a != b && match movesK ms ops ops.size 0 (Array.replicate ops.size false) with
  | some l => ordE a b ops (idxA ms ops.size 0) l && (ordE b a ops (idxB ms a b ops.size 0) l && (ms.all (fun j => l.getD j true) && (!l.getD a false && !l.getD b false)))
  | none => false)))
def pairsE (a b : Nat) (r : Nat) (ops : Array Oper) (xs : List OI) (ms : List Nat) : Bool := (List.range ops.size).all fun j => (List.range j).all fun i => (i == a && j == b || (i == b && j == a)) || ((ms.contains i || (ms.contains j || pairAt r ops xs i j)) || waitB ops i j)
theorem drawE {id : Nat} {Q : Exit → St → Prop} {st : St} (ms : List Nat) (a b : Nat) (E : Env) (xs : List OI) (h0 : tsz P nilE = 0) (hm : P.follows .mixedOrders = true) (hE : EnvOK P E) (hB : regE ms a b ops = true) (hp : pairsE a b id ops xs ms = true)
    (h : onSome (preA P ms 0 ops.toList st) fun st1 => onSome (lexRunS ms E P id ops xs ops.toList 0 st1) fun st2 => Q .normal st2 ∧ onSome (lexRunB ms a b E P id ops none xs ops.toList 0 st1) fun st3 => st3 = st2) : ewp P (.region id ops true) Q st := by
  unfold onSome at h
  split at h
  · rename_i st1 hpre
    split at h
    · rename_i st2 hr1
      obtain ⟨hQ2, h⟩ := h
      split at h
      · rename_i st3 hr2
        subst h
        have hrx : lexRunX ms E P id ops xs 0 ops.toList st1 = some st3 := by
          rcases lexRunS_eq (ms := ms) (E := E) (P := P) (r := id) (ops := ops) xs ops.toList 0 xs st1 (fun j => by rw [Nat.zero_add]) with h2 | h2
          · rw [← h2]; exact hr1
          · rw [h2] at hr1; cases hr1
        have ra := lexRunX_run (ops := ops) ops.toList 0 st1 (fun j => by simp) hrx
        have rb := lexRunB_run (ops := ops) (ys := xs) ops.toList 0 none xs st1 (fun j => by simp) (fun j => by rw [Nat.zero_add]) (fun _ _ he => by cases he) hr2
        have esz : ops.toList.length = ops.size := by simp
        rw [esz] at ra rb
        intro I bs A w0 ac w L hs
        simp only [regE, Bool.and_eq_true, beq_iff_eq, bne_iff_ne, ne_eq] at hB
        obtain ⟨hsel, hfu, hln, hab, hB⟩ := hB
        split at hB
        · rename_i listed1 hmv
          simp only [Bool.and_eq_true, Bool.not_eq_true'] at hB
          obtain ⟨ho1, ho2, hall, hna, hnb⟩ := hB
          refine wp_region_any hm ?_
          have hd : Below w.heap.size w { w with drawn := w.drawn + 1 } := drew_below w
          have hs' := hs.grow hd (Nat.le_succ _)
          let Q0 : Exit → Act → World → Prop := fun e a w => e = .normal ∧ ∃ st' L', Sim (tsz P) I bs A w0 st' a w L' [] ∧ Q .normal st'
          refine wpAny_monoQ (Q := Q0) (fun e a w hh => by obtain ⟨rfl, hh⟩ := hh; exact hh) _ _ _ _ ?_
          have hcl : Closed ops (Array.replicate ops.size false) := by
            intro m hm
            exfalso
            rcases Nat.lt_or_ge m ops.size with h' | h' <;> simp [h'] at hm
          have hcomm : ∀ i j, ms.contains i = false → ms.contains j = false → i ≠ j → waitsFor ops 60 i j = false → waitsFor ops 60 j i = false → ¬ (i = a ∧ j = b) → ¬ (i = b ∧ j = a) → ∀ st st1 st2, stMi E P id ops xs i st = some st1 → stMi E P id ops xs j st1 = some st2 → ∃ st', stMi E P id ops xs j st = some st' ∧ stMi E P id ops xs i st' = some st2 := by
            intro i j hmi hmj hij hw1 hw2 hx1 hx2 st st1 st2 h1 h2
            unfold stMi at h1 h2
            split at h1
            · rename_i oi xi hoi hxi
              split at h2
              · rename_i oj xj hoj hxj
                have hi := (Array.getElem?_eq_some_iff.1 hoi).1
                have hj := (Array.getElem?_eq_some_iff.1 hoj).1
                have hsep : Sep id ops i j oi oj xi xj := by
                  rcases Nat.lt_or_ge i j with hlt | hge
                  · have hb := List.all_eq_true.1 (List.all_eq_true.1 hp j (by simpa using hj)) i (by simpa using hlt)
                    simp only [Bool.or_eq_true, Bool.and_eq_true, beq_iff_eq, pairAt, hoi, hoj, hxi, hxj, hmi, hmj, Bool.false_eq_true, false_or] at hb
                    rcases hb with (hb | hb) | (hb | hb)
                    · exact absurd hb hx1
                    · exact absurd hb hx2
                    · exact sepB_sound hij hb
                    · rw [waitB_sound hb] at hw1; cases hw1
                  · have hlt : j < i := by omega
                    have hb := List.all_eq_true.1 (List.all_eq_true.1 hp i (by simpa using hi)) j (by simpa using hlt)
                    simp only [Bool.or_eq_true, Bool.and_eq_true, beq_iff_eq, pairAt, hoi, hoj, hxi, hxj, hmi, hmj, Bool.false_eq_true, false_or] at hb
                    rcases hb with (hb | hb) | (hb | hb)
                    · exact absurd ⟨hb.2, hb.1⟩ hx2
                    · exact absurd ⟨hb.2, hb.1⟩ hx1
                    · exact (sepB_sound (Ne.symm hij) hb).symm
                    · rw [waitB_sound hb] at hw2; cases hw2
                obtain ⟨st', h3, h4⟩ := stM_comm hsep h1 h2
                exact ⟨st', by unfold stMi; rw [hoj, hxj]; exact h3, by unfold stMi; rw [hoi, hxi]; exact h4⟩
              · simp at h2
            · simp at h1
          have := wpAny_movesA (Q := Q0) (f := (idxA ms ops.size 0).length) hsel (fun c a w hh => by obtain ⟨hh, _⟩ := hh; cases hh) ops.toList 0 (Array.replicate ops.size false) st st1 ac { w with drawn := w.drawn + 1 } L (fun j => by simp) (by simpa using hmv) hcl hpre hs' (by
            intro a' L' g1 g3
            refine anyV_sound (r := id) (xs := xs) (K := Q .normal) h0 hE (fun st a w L h1 h2 => ⟨rfl, st, L, h1, h2⟩) _ _ st1 a' _ L' g1 ?_
            have hL : ∀ j, ms.contains j = true → listed1.getD j true = true := fun j hj => List.all_eq_true.1 hall j (by simpa using hj)
            have k1 := anyE_run (ms := ms) (a := a) (b := b) (E := E) (P := P) (r := id) (ops := ops) (xs := xs) (K := Q .normal) (n := 60) hQ2 hcomm _ listed1 st1 hL ho1 g3 ra
            have k2 := anyE_run (ms := ms) (a := b) (b := a) (E := E) (P := P) (r := id) (ops := ops) (xs := xs) (K := Q .normal) (n := 60) hQ2 (fun i j x1 x2 x3 x4 x5 x6 x7 => hcomm i j x1 x2 x3 x4 x5 x7 x6) _ listed1 st1 hL ho2 g3 rb
            rw [hln] at k2
            exact any_two hab _ listed1 st1 hna hnb k1 k2)
          rw [show (idxA ms ops.size 0).length + cntK ms ops.toList.length 0 = ops.size by simpa using hfu] at this
          exact this
        · cases hB
      · exact h.elim
    · exact h.elim
  · exact h.elim
end
attribute [simp] preA lexRunB_nil lexRunB_skip lexRunB_hold lexRunB_give lexRunB_take
end Go.V
