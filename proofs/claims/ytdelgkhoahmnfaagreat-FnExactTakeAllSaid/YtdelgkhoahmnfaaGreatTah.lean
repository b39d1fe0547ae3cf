/- What functions of the seat's program do, each proved of its code, under the bounds that its theorem names. -/
import Derived.Test.YtdelgkhoahmnfaaGreatTag
set_option linter.all false
namespace Go.V
open Go.Proofs
set_option maxHeartbeats 1000000
set_option maxRecDepth 10000
set_option linter.unusedSimpArgs false
set_option linter.unusedVariables false
def bxO (k' : Nat) (xs : List GOffer) (i : Nat) : PT := if i = 0 then .sl 0 nilE 0 [] else .sl 0 81 i ((xs.take i).flatMap (GOffer.ci k'))
theorem bxO_zero (k' : Nat) (xs : List GOffer) : bxO k' xs 0 = .sl 0 nilE 0 [] := rfl
theorem bxO_pos (k' : Nat) (xs : List GOffer) {i : Nat} (h : i ≠ 0) : bxO k' xs i = .sl 0 81 i ((xs.take i).flatMap (GOffer.ci k')) := if_neg h
theorem bxO_step (k' : Nat) (xs : List GOffer) (i : Nat) (hi : i < xs.length) : bxO k' xs (i + 1) = .sl 0 81 (i + 1) ((xs.take i).flatMap (GOffer.ci k') ++ GOffer.ci k' xs[i]) := by
  rw [bxO_pos k' xs (by omega), List.take_succ_eq_append_getElem hi, List.flatMap_append]
  simp
theorem ok_AppendSeq0 (q k' : Nat) (xs : List GOffer) (hn : xs.length ≤ 1000000) :
    CallOK Tryz.prog 222 [.c (.sl 0 nilE 0 []), .c (.fn q 219 [[rd k' xs.length (xs.flatMap (GOffer.ci k'))]])] (.c (bxO k' xs xs.length)) [.c .hole, .c (.fn q 219 [[rd k' xs.length (xs.flatMap (GOffer.ci k'))]])] := by
  intro I w las he hh hnd hI
  show CallsF Tryz.prog _ _ w (CallPost Tryz.prog I w las _ _)
  generalize hR : CallPost Tryz.prog I w las _ _ = R
  refine CallsF.of_calls Tryz.func222 (by kernel_rfl) rfl (callsIn_toR (l := none) (n := 2) ?_)
  refine callsIn_of_wp_marks Tryz.func222 rfl trivial ?_ rfl
  have hs := Sim.entry las hh hnd hI Tryz.f222.ntmps
  rw [he] at hs
  have hse := Sim.entL (show 2 ≤ 13 by decide) hs
  obtain ⟨v0, v1, rfl⟩ : ∃ v0 v1, las = [.c (.leaf v0 (.sl 0 nilE 0 [])), .c (.leaf v1 (.fn q 219 [[rd k' xs.length (xs.flatMap (GOffer.ci k'))]]))] := by
    obtain ⟨l0, r, rfl⟩ : ∃ l0 r, las = l0 :: r := by cases las with
      | nil => simp at he
      | cons l0 r => exact ⟨l0, r, rfl⟩
    obtain ⟨l1, r, rfl⟩ : ∃ l1 r', r = l1 :: r' := by cases r with
      | nil => simp at he
      | cons l0 r => exact ⟨l0, r, rfl⟩
    simp only [List.map_cons, List.cons.injEq, List.map_eq_nil_iff] at he
    obtain ⟨e0, e1, rfl⟩ := he
    obtain ⟨t0, rfl, e0'⟩ := LV.c_of_erase e0
    obtain ⟨t1, rfl, e1'⟩ := LV.c_of_erase e1
    obtain ⟨v0, rfl⟩ := nil_leaf h0 (hh (.c t0) (by simp)) e0'
    obtain ⟨v1, rfl⟩ := leaf_of_erase e1' rfl
    exact ⟨v0, v1, rfl⟩
  have hlb : ([.c (.leaf v0 (.sl 0 nilE 0 [])), .c (.leaf v1 (.fn q 219 [[rd k' xs.length (xs.flatMap (GOffer.ci k'))]]))] : List LV).flatMap LV.blocks = [] := by simp [LV.blocks, LT.blocks]
  rw [hlb] at hse
  simp only [LV.val, LT.val, List.map_cons, List.map_nil] at hse ⊢
  simp at hse
  refine wpIn_seq ?_
  refine regT [] [2, 1] [.op 0 0 0] ⟨slOf 13 [(2, .ptr ⟨.op 0 0 0, []⟩ 0), (1, .t (.fn q 219 [[rd k' xs.length (xs.flatMap (GOffer.ci k'))]]))], ofL [(.arg 0 0, .hole), (.op 0 0 0, .sl 0 26 1 [.sl 0 nilE 0 []])]⟩ h0 hse (by kernel_rfl) (by
    intro K hK
    simp
    refine hK _ ?_
    simp) ?_
  intro a1 w1 L1 hs1
  refine wpIn_seq (wpIn_seq ?_)
  refine regT [] [2, 6] [.op 0 0 0] ⟨slOf 13 [(2, .ptr ⟨.op 0 0 0, []⟩ 0), (6, .t (.fn q 219 [[rd k' xs.length (xs.flatMap (GOffer.ci k'))]]))], ofL [(.arg 0 0, .hole), (.op 0 0 0, .sl 0 26 1 [.sl 0 nilE 0 []])]⟩ h0 hs1 (by kernel_rfl) (by
    intro K hK
    simp
    refine hK _ ?_
    simp) ?_
  intro a2 w2 L2 hs2
  refine wpIn_block ?_
  refine boxLoop (e := 26) (m := xs.length) (B := bxO k' xs) (sv := fun i => .agg ((xs[i]?.map (GOffer.ci k')).getD [] |>.map SV.t)) (st1 := fun i => slOf 13 [(5, .ptr ⟨.op 2 0 0, []⟩ 0), (2, .ptr ⟨.arg 9 0, []⟩ 0)]) (l1 := fun i => [(.arg 9 0, .sl 0 26 1 [bxO k' xs i]), (.op 2 0 0, .sl 0 81 1 ((xs[i]?.map (GOffer.ci k')).getD []))]) (sl2 := fun i => slOf 13 [(2, .ptr ⟨.arg 9 0, []⟩ 0)]) hs2 (by simp [ofL, bxO]) (by decide) (by decide) (by decide) ?_ ?_ ?_ ?_ ?_
  · intro args w
    have h1 : Tryz.f219.name ≠ "runtime.NumGoroutine" := by
      have : (Tryz.f219.name == "runtime.NumGoroutine") = false := by kernel_rfl
      simpa using this
    simp only [callFunc, Tryz.func219]
    simp [h1]
    intro hb
    cases hb
  · intro l vs J W hvs hIW hJb hJg hY hJ0
    simp only [ImC] at hvs
    obtain ⟨x, vs', rfl, hx, rfl⟩ := hvs
    refine values1_in xs q k' l 0 x I J W hn hx hIW hJb hJg ?_ hJ0
    intro i hi W1 vs hJi hsv hone
    refine hY i hi W1 (.agg vs.toArray) hJi ?_
    intro L
    simp only [SVR, List.getElem?_eq_getElem hi, Option.map_some, Option.getD_some]
    exact ⟨vs, rfl, svrl_any hsv, hone⟩
  · intro l i hi bs A w0 a w L Q hs hQ
    refine regT (l := some l) [] [5, 2] [.arg 9 0, .op 2 0 0] _ h0 hs (by kernel_rfl) (by
      intro K hK
      simp [List.getElem?_eq_getElem hi]
      refine hK _ ?_
      simp [List.getElem?_eq_getElem hi]) hQ
  · intro l i hi bs A w0 a w L Q hs hQ
    refine wpIn_block ?_
    refine regT (l := some l) [] [2] [.arg 9 0] ⟨slOf 13 [(2, .ptr ⟨.arg 9 0, []⟩ 0)], ofL [(.arg 9 0, .sl 0 26 1 [bxO k' xs (i + 1)])]⟩ h0 hs (by kernel_rfl) (by
      intro K hK
      have hlen := fm_len (GOffer.ci k') 7 (fun _ => rfl) (xs.take i)
      rw [List.length_take, Nat.min_eq_left (by omega)] at hlen
      rw [bxO_step k' xs i hi] at hK
      by_cases hi0 : i = 0
      · subst hi0
        simp [List.getElem?_eq_getElem hi, bxO_zero]
        refine hK _ ?_
        simp
      · rw [bxO_pos _ _ hi0]
        generalize (xs.take i).flatMap (GOffer.ci k') = A at hlen hK ⊢
        have ht : A.take (i * 7) = A := List.take_of_length_le (by omega)
        have hb1 : (i + 1) * 88 ≤ 140737488355328 := by omega
        have hb2 : i ≤ 9223372036854775806 := by omega
        simp [List.getElem?_eq_getElem hi, hlen, ht, hb1, hb2]
        refine hK _ ?_
        simp [List.getElem?_eq_getElem hi]) hQ
  · intro D b cap w' L' hs hsb hK hD
    simp only [Exit.inBlock, Exit.then]
    rw [← hR]
    refine boxFin (fn := Tryz.f222) (d := 12) (d2 := 4) (las := [.c (.leaf v0 (.sl 0 nilE 0 [])), .c (.leaf v1 (.fn q 219 [[rd k' xs.length (xs.flatMap (GOffer.ci k'))]]))]) (los := [.c (.leaf v0 .hole), .c (.leaf v1 (.fn q 219 [[rd k' xs.length (xs.flatMap (GOffer.ci k'))]]))]) hs hsb hK hD ?_ ?_ ?_ ?_ ?_ ?_ (t := 26) (by kernel_rfl) (by decide) (by decide) ?_ (by simp [LV.erase, LT.erase]) (by simp [LV.blocks, LT.blocks]) (by simp [LV.blocks, LT.blocks]) rfl ?_
    all_goals first | rfl | skip
    intro w' hk l hl
    simp only [List.mem_cons, List.not_mem_nil, or_false] at hl
    have hh0 := hh (.c (.leaf v0 (.sl 0 nilE 0 []))) (by simp)
    have hh1 := hh (.c (.leaf v1 (.fn q 219 [[rd k' xs.length (xs.flatMap (GOffer.ci k'))]]))) (by simp)
    simp only [LV.holds, LT.holds] at hh0 hh1
    rcases hl with rfl | rfl
    · simp only [LV.holds, LT.holds]
      exact ⟨by simp only [Im], hh0.2⟩
    · simp only [LV.holds, LT.holds]
      exact ⟨(Im.all (fun _ _ hb => hb) (fun k b hb => hk.block b (hI k b hb).1 (by simp))).1 _ _ hh1.1, hh1.2⟩
theorem ok_AppendSeq (q k' : Nat) (xs : List GOffer) (hn : xs.length ≤ 1000000) :
    CallOK Tryz.prog 222 [.c (.sl 0 nilE 0 []), .c (.fn q 219 [[rd k' xs.length (xs.flatMap (GOffer.ci k'))]])] (.c (.sl 0 81 xs.length (xs.flatMap (GOffer.ci k')))) [.c .hole, .c (.fn q 219 [[rd k' xs.length (xs.flatMap (GOffer.ci k'))]])] := by
  refine CallOK.nle h0 (ok_AppendSeq0 q k' xs hn) ?_
  by_cases h : xs = []
  · subst h
    simp [bxO, PV.nle]
  · rw [bxO_pos _ _ (by simpa using h), List.take_length]
    simp
theorem ok_Values (k : Nat) (xs : List GOffer) : CallOK Tryz.prog 207 [.c (rd k xs.length (xs.flatMap (GOffer.ci k)))] (.clo 219 (.sl 0 26 1 [rd k xs.length (xs.flatMap (GOffer.ci k))])) [.c (rd k xs.length (xs.flatMap (GOffer.ci k)))] := by
  refine okC (fn := Tryz.f207) 219 h0 Tryz.func207 (by kernel_rfl) rfl Tryz.ntmps207 Tryz.results207 (by simp) ?_
  refine ewr_sound (M := []) h0 ?_
  simp
  rfl
theorem ok_Collect (q k' : Nat) (xs : List GOffer) (hn : xs.length ≤ 1000000) :
    CallOK Tryz.prog 217 [.c (.fn q 219 [[rd k' xs.length (xs.flatMap (GOffer.ci k'))]])] (.c (.sl 0 81 xs.length (xs.flatMap (GOffer.ci k')))) [.c (.fn q 219 [[rd k' xs.length (xs.flatMap (GOffer.ci k'))]])] := by
  refine okS (fn := Tryz.f217) [(222, [2,0])] h0 Tryz.func217 (by kernel_rfl) rfl Tryz.ntmps217 Tryz.results217 (by simp) ?_
  simp
  refine Inv_intro (ok_AppendSeq q k' xs hn) ?_
  simp
def lenT (n : Nat) : Int := ([0, 1, 2, 2, 3, 3, 3, 3, 4, 4, 4, 4, 4] : List Int).getD n 0
theorem ok_Len64 (n : Nat) (hn : n ≤ 12) : CallOK Tryz.prog 200 [.c (.raw (.int .u64 n))] (.c (pi (lenT n))) [.c (.raw (.int .u64 n))] := by
  have hc : n = 0 ∨ n = 1 ∨ n = 2 ∨ n = 3 ∨ n = 4 ∨ n = 5 ∨ n = 6 ∨ n = 7 ∨ n = 8 ∨ n = 9 ∨ n = 10 ∨ n = 11 ∨ n = 12 := by omega
  refine okS (fn := Tryz.f200) [] h0 Tryz.func200 (by kernel_rfl) rfl Tryz.ntmps200 Tryz.results200 (by simp) ?_
  rcases hc with rfl | rfl | rfl | rfl | rfl | rfl | rfl | rfl | rfl | rfl | rfl | rfl | rfl
  all_goals
    simp
    rw [pr_index]
    rotate_left
    · kernel_rfl
    · decide
    · decide
    generalize hbv : byteAt _ _ = bv
    simp
    subst hbv
    kernel_rfl
theorem ok_Len (n : Nat) (hn : n ≤ 12) : CallOK Tryz.prog 173 [.c (.raw (.int .u64 n))] (.c (pi (lenT n))) [.c (.raw (.int .u64 n))] := by
  refine okS (fn := Tryz.f173) [] h0 Tryz.func173 (by kernel_rfl) rfl Tryz.ntmps173 Tryz.results173 (by simp) ?_
  simp
  refine Inv_intro (ok_Len64 n hn) ?_
  simp
theorem ok_pdq (k : Nat) (xs : List GOffer) (l : Int) (hn : xs.length ≤ 12) :
    CallOK Tryz.prog 223 [.c (.sl 0 81 xs.length (xs.flatMap (GOffer.ci k))), .c (pi 0), .c (pi xs.length), .c (pi l), .c (.fn 0 208 [])] (.tup []) [.c (.sl 0 81 xs.length ((sortRv xs).reverse.flatMap (GOffer.ci k))), .c (pi 0), .c (pi xs.length), .c (pi l), .c (.fn 0 208 [])] := by
  refine okS (fn := Tryz.f223) [(224, [1,0,0,0])] h0 Tryz.func223 (by kernel_rfl) rfl Tryz.ntmps223 Tryz.results223 (by simp) ?_
  simp
  refine loopS [0, 1, 2, 3, 4, 10, 11] [.arg 0 0] (fun m st => st = ⟨slOf 148 [(0, .ref ⟨.arg 0 0, []⟩ 0 xs.length), (1, .t (pi 0)), (2, .t (pi xs.length)), (3, .t (pi l)), (4, .t (.fn 0 208 [])), (10, .t (pb true)), (11, .t (pb true))], ofL [(.arg 0 0, .sl 0 81 xs.length (xs.flatMap (GOffer.ci k)))]⟩) 0 ?_ ?_
  · rintro Inv hI
    simp
    subst hI
    rfl
  · rintro Inv hI m st rfl
    refine ewr_sound (M := [(224, [1, 0, 0, 0])]) h0 ?_
    have hw : IntKind.wrap .i64 (xs.length : Int) = xs.length := wrap64 (by omega) (by omega)
    have hle : (xs.length : Int) ≤ 12 := by omega
    simp [hw, hle, hn]
    refine Inv_intro (ok_isort k xs (by omega)) ?_
    simp
theorem ok_SortFunc (k : Nat) (xs : List GOffer) (hn : xs.length ≤ 12) :
    CallOK Tryz.prog 218 [.c (.sl 0 81 xs.length (xs.flatMap (GOffer.ci k))), .c (.fn 0 208 [])] (.tup []) [.c (.sl 0 81 xs.length ((sortRv xs).reverse.flatMap (GOffer.ci k))), .c (.fn 0 208 [])] := by
  refine okS (fn := Tryz.f218) [(223, [1,0,0,0,0])] h0 Tryz.func218 (by kernel_rfl) rfl Tryz.ntmps218 Tryz.results218 (by simp) ?_
  have hw : IntKind.wrap .u64 (xs.length : Int) = xs.length := by
    show (xs.length : Int) % 18446744073709551616 = _
    omega
  simp [hw]
  refine Inv_intro (ok_Len xs.length hn) ?_
  simp
  refine Inv_intro (ok_pdq k xs _ hn) ?_
  simp
theorem ok_SortedFunc (q k : Nat) (xs : List GOffer) (hn : xs.length ≤ 12) :
    CallOK Tryz.prog 206 [.c (.fn q 219 [[rd k xs.length (xs.flatMap (GOffer.ci k))]]), .c (.fn 0 208 [])] (.c (.sl 0 81 xs.length ((sortRv xs).reverse.flatMap (GOffer.ci k)))) [.c (.fn q 219 [[rd k xs.length (xs.flatMap (GOffer.ci k))]]), .c (.fn 0 208 [])] := by
  refine okS (fn := Tryz.f206) [(218, [1,0])] h0 Tryz.func206 (by kernel_rfl) rfl Tryz.ntmps206 Tryz.results206 (by simp) ?_
  simp
  refine Inv_intro (ok_Collect q k xs (by omega)) ?_
  simp
  refine Inv_intro (ok_SortFunc k xs hn) ?_
  have hl := sortRv_len' xs
  have hT : List.take (xs.length * 7) ((sortRv xs).reverse.flatMap (GOffer.ci k)) = (sortRv xs).reverse.flatMap (GOffer.ci k) := List.take_of_length_le (by rw [fm_len (GOffer.ci k) 7 (fun _ => rfl), List.length_reverse, hl]; omega)
  simp [hl, hT]
theorem ok_ranked1 (k : Nat) (xs : List GOffer) (hn : xs.length ≤ 12) : CallOK Tryz.prog 188 [.c (rd (k + 1) xs.length (xs.flatMap (GOffer.ci (k + 1))))] (.c (.sl 0 3 xs.length ((sortRv xs).reverse.map fun o => pi o.Peer))) [.c (rd (k + 1) xs.length (xs.flatMap (GOffer.ci (k + 1))))] := by
  obtain ⟨D, hD⟩ : ∃ D, D = (sortRv xs).reverse := ⟨_, rfl⟩
  have hDl : D.length = xs.length := by rw [hD, List.length_reverse, sortRv_len']
  have hsf := ok_SortedFunc 1 (k + 1) xs hn
  rw [← hD] at hsf ⊢
  refine okS (fn := Tryz.f188) [] h0 Tryz.func188 (by kernel_rfl) rfl Tryz.ntmps188 Tryz.results188 (by simp) ?_
  simp
  refine Inv_intro (ok_Values (k + 1) xs) ?_
  simp
  refine Inv_intro hsf ?_
  simp
  refine ewp_sw (.op 1 0 0) (.op 5 4 0) rfl rfl ?_
  simp
  refine loopS [3, 9, 10, 11] [.op 5 4 0, .op 2 2 0] (fun m st => ∃ (i : Nat), i + m = xs.length ∧ st = ⟨slOf 22 [(3, .ref ⟨.op 5 4 0, []⟩ 0 i), (9, .ref ⟨.op 2 2 0, []⟩ 0 xs.length), (10, .t (pi xs.length)), (11, .t (pi i))], ofL [(.op 5 4 0, .sl 0 3 i ((D.take i).map fun o => pi o.Peer)), (.op 2 2 0, .sl 0 81 xs.length (D.flatMap (GOffer.ci (k + 1))))]⟩) xs.length ?_ ?_
  · rintro Inv hI
    simp
    subst hI
    refine ⟨0, by omega, ?_⟩
    simp
  · rintro Inv hI m st ⟨i, hi, rfl⟩
    have hA : ((D.take i).map fun o => pi o.Peer).length = i := by rw [List.length_map, List.length_take]; omega
    generalize hAe : ((D.take i).map fun o => pi o.Peer) = A at hA ⊢
    refine ewr_sound (M := []) h0 ?_
    simp
    refine brn_app (fun a => ?_) (fun a => ?_)
    · simp at a
      have aD : i < D.length := by omega
      have hd := fm_drop (GOffer.ci (k + 1)) 7 (fun _ => rfl) D i aD
      have hlen : (D.flatMap (GOffer.ci (k + 1))).length = xs.length * 7 := by rw [fm_len (GOffer.ci (k + 1)) 7 (fun _ => rfl) D, hDl]
      have hlt : i * 7 < xs.length * 7 := by omega
      have hb1 : (i + 1) * 8 ≤ 140737488355328 := by omega
      have hb2 : i ≤ 9223372036854775806 := by omega
      have ht : A.take i = A := List.take_of_length_le (by omega)
      have hlt7 : i * 7 + 7 ≤ xs.length * 7 := by omega
      have e3 : ((D.take (i + 1)).map fun o => pi o.Peer) = A ++ [pi D[i].Peer] := by rw [take_step D i aD, List.map_append, hAe]; rfl
      simp [a, hd, hDl, hlt, hlt7, hA, hb1, hb2, ht]
      subst hI
      refine Less_mk (m - 1) (by omega) ⟨i + 1, by omega, ?_⟩
      rw [wrNext i (by omega), e3]
      all_goals simp
    · simp at a
      have hm : m = 0 := by omega
      subst hm
      have ht : List.take i D = D := List.take_of_length_le (by omega)
      have hil : i = xs.length := by omega
      rw [← hAe, ht, hil]
      have hT : List.take xs.length (D.map fun o => pi o.Peer) = D.map fun o => pi o.Peer := List.take_of_length_le (by rw [List.length_map]; omega)
      simp [hDl, hT]
theorem ok_ranked (k : Nat) (xs : List GOffer) (hn : xs.length ≤ 12) : CallOK Tryz.prog 188 [.c (rd k xs.length (xs.flatMap (GOffer.ci k)))] (.c (.sl 0 3 xs.length ((sortRv xs).reverse.map fun o => pi o.Peer))) [.c (rd k xs.length (xs.flatMap (GOffer.ci k)))] := by
  have h := ok_ranked1 0 xs hn
  refine CallOK.relabel ?_ rfl ?_
  · have e : PV.up (.c (rd k xs.length (xs.flatMap (GOffer.ci k)))) = .c (rd 1 xs.length (xs.flatMap (GOffer.ci 1))) := by
      simp only [PV.up, PT.up, PT.upL_eq, List.map_flatMap]
      congr 3
      funext o
      simp [PT.up, PT.upL_eq, Function.comp_def]
    simpa only [List.map_cons, List.map_nil, e] using h
  · intro w I I' lr he hh
    refine free_c ?_ he hh
    simp only [PT.free]
    rw [PT.freeL_iff]
    intro c hc
    obtain ⟨o, _, rfl⟩ := List.mem_map.1 hc
    rfl
theorem ok_BestOffer (k : Nat) (l : List GOffer) (hl : offersOK l) : CallOK Tryz.prog 166 [.c (rd k l.length (l.flatMap (GOffer.ci k)))] (.tup [.c (pi (peerOf (bstO l))), .c (pb (bstO l).isSome)]) [.c (rd k l.length (l.flatMap (GOffer.ci k)))] := by
  refine okS (fn := Tryz.f166) [] h0 Tryz.func166 (by kernel_rfl) rfl Tryz.ntmps166 Tryz.results166 (by simp) ?_
  simp
  refine Inv_intro (ok_iGoodOffers k l hl) ?_
  cases hg : goodOs l with
  | false => simp [bstO, hg, peerOf]
  | true =>
    by_cases h0 : l = []
    · subst h0
      simp [bstO, bestO, peerOf, hg]
    · have h6 := goodOs_len hg
      have hlen : ¬ l.length = 0 := fun e => h0 (List.length_eq_zero_iff.1 e)
      obtain ⟨o, hb, _⟩ := bestO_mem h0
      have hs := best_sort (goodOs_dist hg)
      rw [hb, ← List.head?_reverse] at hs
      have hR := ok_ranked k l (by omega)
      have hDl : (sortRv l).reverse.length = l.length := by rw [List.length_reverse, sortRv_len']
      obtain ⟨t, ht⟩ : ∃ t, (sortRv l).reverse = o :: t := by
        generalize (sortRv l).reverse = D at hs
        cases D with
        | nil => simp at hs
        | cons x t => simp at hs; exact ⟨t, by rw [hs]⟩
      rw [ht] at hR hDl
      have h1 : 0 < l.length := by omega
      simp [hlen, h0]
      refine Inv_intro hR ?_
      have hb' : bstO l = some o := by rw [bstO, if_pos hg, hb]
      simp [h1, hb', peerOf]
theorem ok_BestBy1 (k q : Nat) (o : GOffer) (asn : Int) (ho : attrOK o.Attrs) : CallOK Tryz.prog 169 [.agg (GOffer.ci k o), .ip q [pi asn]] (.c (pb (hasI o.Attrs.Path asn))) [.agg (GOffer.ci k o), .ip q [pi asn]] := by
  refine okS (fn := Tryz.f169) [] h0 Tryz.func169 (by kernel_rfl) rfl Tryz.ntmps169 Tryz.results169 (by simp) ?_
  simp
  refine Inv_intro (ok_Contains_Int k o.Attrs.Path asn ho.1) ?_
  simp
theorem offersOK_filter {l : List GOffer} (p : GOffer → Bool) (h : offersOK l) : offersOK (l.filter p) :=
  ⟨Nat.le_trans (List.length_filter_le _ _) h.1, fun o ho => h.2 o (List.mem_filter.1 ho).1⟩
theorem ok_BestBy2 (k : Nat) (l : List GOffer) (asn : Int) (hl : offersOK l) (hlen : l.length ≤ 1048576) : CallOK Tryz.prog 118 [.c (rd (k + 1) l.length (l.flatMap (GOffer.ci (k + 1)))), .c (pi asn)] (.tup [.c (pi (peerOf (bstBy asn l))), .c (pb (bstBy asn l).isSome)]) [.c (rd (k + 1) l.length (l.flatMap (GOffer.ci (k + 1)))), .c (pi asn)] := by
  refine okS (fn := Tryz.f118) [(167, [2,0])] h0 Tryz.func118 (by kernel_rfl) rfl Tryz.ntmps118 Tryz.results118 (by simp) ?_
  simp
  refine Inv_intro (ok_iGoodOffers (k + 1) l hl) ?_
  cases hg : goodOs l with
  | false => simp [bstBy, hg, peerOf]
  | true =>
    simp
    refine Inv_intro (ok_isAsn asn) ?_
    cases ha : isAsnB asn with
    | false => simp [bstBy, ha, peerOf]
    | true =>
      simp
      refine Inv_intro (ok_Clone_Offer (k + 1) l hlen) ?_
      simp
      refine Inv_intro (ok_DeleteFunc_Offer (k + 1) 1 169 [[pi asn]] (fun o => hasI o.Attrs.Path asn) l hl.1 (fun k x hx => ok_BestBy1 k 1 x asn (hl.2 x hx))) ?_
      simp
      have hB := ok_BestOffer 0 (restO asn l) (offersOK_filter _ hl)
      unfold restO at hB
      refine Inv_intro hB ?_
      have e : bstBy asn l = bstO (l.filter fun o => !hasI o.Attrs.Path asn) := by
        rw [bstBy, if_pos ⟨hg, ha⟩, bstO, if_pos (goodOs_filter _ hg)]
        rfl
      simp [e]
theorem offers_up (k : Nat) (l : List GOffer) : PV.up (.c (rd k l.length (l.flatMap (GOffer.ci k)))) = .c (rd 1 l.length (l.flatMap (GOffer.ci 1))) := by
  simp only [PV.up, PT.up, PT.upL_eq, List.map_flatMap]
  congr 3
  funext o
  simp [PT.up, PT.upL_eq, Function.comp_def]
theorem ok_BestBy (k : Nat) (l : List GOffer) (asn : Int) (hl : offersOK l) (hlen : l.length ≤ 1048576) : CallOK Tryz.prog 118 [.c (rd k l.length (l.flatMap (GOffer.ci k))), .c (pi asn)] (.tup [.c (pi (peerOf (bstBy asn l))), .c (pb (bstBy asn l).isSome)]) [.c (rd k l.length (l.flatMap (GOffer.ci k))), .c (pi asn)] := by
  have h := ok_BestBy2 0 l asn hl hlen
  refine CallOK.relabel ?_ rfl ?_
  · have e2 : PV.up (.c (pi asn)) = .c (pi asn) := by simp [PV.up, PT.up]
    simpa only [List.map_cons, List.map_nil, offers_up, e2] using h
  · intro w I I' lr he hh
    exact free_cc rfl rfl he hh
theorem ok_findRow (k : Nat) (r : GRib) (p : GPrefix) (hl : r.Rows.length ≤ 140737488351232) (hs : srtW r.Rows) : CallOK Tryz.prog 117 [.agg (GRib.ci k r), .agg p.c] (.tup [.c (pi (rowAt p r.Rows)), .c (pb (rowIs p r.Rows))]) [.agg (GRib.ci k r), .agg p.c] := by
  refine okS (fn := Tryz.f117) [] h0 Tryz.func117 (by kernel_rfl) rfl Tryz.ntmps117 Tryz.results117 (by simp) ?_
  simp
  refine Inv_intro (ok_BS_Row k r.Rows p hl (srtW_mono hs)) ?_
  simp [rowAt, rowIs]
theorem ok_findOfferB (k : Nat) (l : List GOffer) (n : Int) (hl : l.length ≤ 140737488351232) (hs : l.Pairwise (fun a b => a.Peer < b.Peer)) : CallOK Tryz.prog 105 [.c (rd k l.length (l.flatMap (GOffer.ci k))), .c (pi n)] (.tup [.c (pi (bsI (fun o : GOffer => cmpI o.Peer n) l)), .c (pb (bsF (fun o : GOffer => cmpI o.Peer n) l))]) [.c (rd k l.length (l.flatMap (GOffer.ci k))), .c (pi n)] := by
  refine okS (fn := Tryz.f105) [] h0 Tryz.func105 (by kernel_rfl) rfl Tryz.ntmps105 Tryz.results105 (by simp) ?_
  simp
  refine Inv_intro (ok_BS_Offer k l n hl (peer_mono hs)) ?_
  simp
def outO (k : Nat) : Option GOffer → List PT
  | some o => GOffer.ci k o
  | none => [pi 0, pi 0, .sl 0 nilE 0 [], pi 0, pi 0, pi 0, .sl 0 nilE 0 []]
theorem goodRib_all {r : GRib} (h : goodRib r = true) : isAsnB r.Own = true ∧ r.Rows.length ≤ 20 ∧ srtW r.Rows ∧ ∀ x ∈ r.Rows, goodRow x = true := by
  simp only [goodRib, Bool.and_eq_true, decide_eq_true_eq] at h
  obtain ⟨h1, h2, h3⟩ := h
  obtain ⟨_, g2, g3⟩ := rows_pw _ none h3
  exact ⟨h1, h2, g2, g3⟩
theorem bstBy_mem {asn : Int} {l : List GOffer} {o : GOffer} (h : bstBy asn l = some o) : goodOs l = true ∧ o ∈ l := by
  unfold bstBy at h
  split at h
  · rename_i hc
    refine ⟨hc.1, ?_⟩
    by_cases he : restO asn l = []
    · rw [he] at h; cases h
    · obtain ⟨o', h1, h2⟩ := bestO_mem he
      rw [h1] at h
      cases h
      exact (List.mem_filter.1 h2).1
  · cases h
theorem ok_bestAt (k : Nat) (r : GRib) (p : GPrefix) (hr : ribOK r) (hg : goodRib r = true) : CallOK Tryz.prog 66 [.agg (GRib.ci (k + 1) r), .agg p.c] (.tup [.agg (outO (k + 1) (bestR r p)), .c (pb (bestR r p).isSome)]) [.agg (GRib.ci (k + 1) r), .agg p.c] := by
  obtain ⟨_, h20, hs, hrows⟩ := goodRib_all hg
  refine okS (fn := Tryz.f66) [] h0 Tryz.func66 (by kernel_rfl) rfl Tryz.ntmps66 Tryz.results66 (by simp) ?_
  simp
  refine Inv_intro (ok_findRow (k + 1) r p hr.1 hs) ?_
  by_cases hi : rowIs p r.Rows = true
  · obtain ⟨hl, he⟩ := rowIs_lt hi
    have hbr : bestR r p = bstBy r.Own r.Rows[rowAt p r.Rows].Offers := by
      unfold bestR
      rw [if_pos hi, List.getElem?_eq_getElem hl]
    rw [hbr]
    have hx := hr.2 _ (List.getElem_mem hl)
    have hgx := hrows _ (List.getElem_mem hl)
    generalize rowAt p r.Rows = i at *
    have hd := fm_drop (GRow.ci (k + 1)) 3 (fun _ => rfl) r.Rows i hl
    have hlen := fm_len (GRow.ci (k + 1)) 3 (fun _ => rfl) r.Rows
    have hlt : i * 3 < r.Rows.length * 3 := by omega
    have hlt2 : i * 3 + 2 < r.Rows.length * 3 := by omega
    have hgo : goodOs r.Rows[i].Offers = true := by
      simp only [goodRow, Bool.and_eq_true] at hgx
      exact hgx.2.2
    have h6 := goodOs_len hgo
    simp [hi]
    refine drawP (tabEnv [] _) [⟨[.op 0 0 0], allD 55, true⟩, ⟨[.op 0 0 0], allD 55, true⟩, ⟨[], allD 55, true⟩, ⟨[], allD 55, true⟩, ⟨[], allD 55, true⟩, ⟨[], allD 55, true⟩, ⟨[.op 0 0 0], allD 55, true⟩, ⟨[.op 0 0 0], allD 55, true⟩, ⟨[], allD 55, false⟩, ⟨[], allD 55, true⟩, ⟨[], allD 55, true⟩, ⟨[], allD 55, true⟩, ⟨[], allD 55, true⟩, ⟨[], allD 55, true⟩] h0 hm (tabEnv_ok (tab_cons (ok_BestBy (k + 1) r.Rows[i].Offers r.Own hx (by omega)) tab_nil)) (by kernel_rfl) (by kernel_rfl) ?_
    simp [hl, hd, hlen, hlt, hlt2]
    cases hb : bstBy r.Own r.Rows[i].Offers with
    | none => simp [peerOf, outO]
    | some o =>
      obtain ⟨_, ho⟩ := bstBy_mem hb
      obtain ⟨j, hj, hoj⟩ := List.mem_iff_getElem.1 ho
      obtain ⟨_, hpw, _⟩ := offers_pw _ none hgo
      have hfo := ok_findOfferB (k + 1) r.Rows[i].Offers o.Peer hx.1 hpw
      have hbj : bsI (fun x : GOffer => cmpI x.Peer o.Peer) r.Rows[i].Offers = j := by
        rw [← hoj]
        exact bsI_peer hpw j hj
      rw [hbj] at hfo
      have hdq := fm_drop (GOffer.ci (k + 1)) 7 (fun _ => rfl) r.Rows[i].Offers j hj
      have hlenq := fm_len (GOffer.ci (k + 1)) 7 (fun _ => rfl) r.Rows[i].Offers
      have hltq : j * 7 < r.Rows[i].Offers.length * 7 := by omega
      rw [hoj] at hdq
      simp [hb, peerOf, hl, hd, hlen, hlt, hlt2]
      refine Inv_intro hfo ?_
      simp [hl, hd, hlen, hlt, hlt2, hj, hdq, hlenq, hltq, outO]
  · have hi' : rowIs p r.Rows = false := by simpa using hi
    simp [bestR, hi', outO]
theorem ok_iGoodRib (k : Nat) (r : GRib) (hl : ribOK r) : CallOK Tryz.prog 42 [.agg (GRib.ci k r)] (.c (pb (goodRib r))) [.agg (GRib.ci k r)] := by
  obtain ⟨hll, hlx⟩ := hl
  refine okS (fn := Tryz.f42) [] h0 Tryz.func42 (by kernel_rfl) rfl Tryz.ntmps42 Tryz.results42 (by simp) ?_
  simp
  refine Inv_intro (ok_isAsn r.Own) ?_
  cases d1 : isAsnB r.Own with
  | false => simp [goodRib, d1]
  | true =>
    simp
    refine brn_app (fun b => ?_) (fun b => ?_)
    · simp at b
      have d2 : ¬ r.Rows.length ≤ 20 := by omega
      simp [goodRib, d2]
    · simp at b
      have d2 : r.Rows.length ≤ 20 := by omega
      simp
      refine loopS [1, 16, 17, 18] [.op 0 0 0] (fun n st => ∃ (i : Nat), i + n = r.Rows.length ∧ rowsG (prevW r.Rows i) (r.Rows.drop i) = rowsG none r.Rows ∧ st = ⟨slOf 57 [(1, .ptr ⟨.op 0 0 0, []⟩ 0), (16, .t (rd k r.Rows.length (r.Rows.flatMap (GRow.ci k)))), (17, .t (pi r.Rows.length)), (18, .t (pi i))], ofL [(.op 0 0 0, .sl 0 32 1 [pi r.Own, rd k r.Rows.length (r.Rows.flatMap (GRow.ci k))])]⟩) r.Rows.length ?_ ?_
      · rintro Inv hI
        simp
        subst hI
        exact ⟨0, by omega, rfl, rfl⟩
      · rintro Inv hI n st ⟨i, hi, hg, rfl⟩
        refine ewr_sound (M := []) h0 ?_
        simp
        refine brn_app (fun a => ?_) (fun a => ?_)
        · simp at a
          have hx := hlx r.Rows[i] (List.getElem_mem a)
          rw [drop_step _ i a, rowsG] at hg
          have hd := fm_drop (GRow.ci k) 3 (fun _ => rfl) r.Rows i a
          have hlen := fm_len (GRow.ci k) 3 (fun _ => rfl) r.Rows
          have hlt : i * 3 < r.Rows.length * 3 := by omega
          have en : prevW r.Rows (i + 1) = some r.Rows[i] := prevW_next r.Rows i a
          simp [a, hd, hlen, hlt]
          have hP := ok_iGoodPrefix r.Rows[i].Prefix
          have hO := ok_iGoodOffers k r.Rows[i].Offers hx
          by_cases c0 : i = 0
          · have e0 : ¬ 0 < i := by omega
            have ep : prevW r.Rows i = none := by simp [prevW, c0]
            rw [ep, adjW, Bool.and_true] at hg
            refine drawP (tabEnv [] _) [⟨[.op 5 3 0], allD 57, true⟩, ⟨[.op 5 3 0], allD 57, true⟩, ⟨[], allD 57, false⟩, ⟨[], allD 57, true⟩, ⟨[], allD 57, true⟩, ⟨[], allD 57, true⟩, ⟨[], allD 57, true⟩, ⟨[], allD 57, true⟩, ⟨[.op 0 0 0], allD 57, true⟩, ⟨[.op 0 0 0], allD 57, true⟩, ⟨[], allD 57, true⟩, ⟨[], allD 57, true⟩, ⟨[], allD 57, true⟩, ⟨[], allD 57, true⟩, ⟨[], allD 57, true⟩, ⟨[.op 5 3 0], allD 57, true⟩, ⟨[.op 5 3 0], allD 57, true⟩, ⟨[], allD 57, false⟩, ⟨[], allD 57, true⟩, ⟨[], allD 57, true⟩, ⟨[], allD 57, true⟩, ⟨[], allD 57, true⟩, ⟨[.op 5 3 0], allD 57, true⟩, ⟨[.op 5 3 0], allD 57, true⟩, ⟨[], allD 57, true⟩, ⟨[], allD 57, true⟩, ⟨[], allD 57, true⟩, ⟨[], allD 57, true⟩, ⟨[.op 5 3 0], allD 57, true⟩, ⟨[.op 5 3 0], allD 57, true⟩, ⟨[], allD 57, false⟩, ⟨[], allD 57, true⟩, ⟨[], allD 57, true⟩] h0 hm (tabEnv_ok (tab_cons hP (tab_cons hO tab_nil))) (by kernel_rfl) (by kernel_rfl) ?_
            cases c1 : goodPx r.Rows[i].Prefix with
            | false =>
              have hk : goodRow r.Rows[i] = false := by simp [goodRow, c1]
              rw [hk, Bool.false_and] at hg
              simp [c1, goodRib, ← hg]
            | true =>
              by_cases c2 : r.Rows[i].Offers.length = 0
              · have hk : goodRow r.Rows[i] = false := by simp [goodRow, c2]
                have c2' : r.Rows[i].Offers = [] := List.length_eq_zero_iff.1 c2
                rw [hk, Bool.false_and] at hg
                simp [c1, e0, c2', goodRib, ← hg]
              · have c2' : ¬ r.Rows[i].Offers = [] := fun e => c2 (by rw [e]; rfl)
                cases c3 : goodOs r.Rows[i].Offers with
                | false =>
                  have hk : goodRow r.Rows[i] = false := by simp [goodRow, c3]
                  rw [hk, Bool.false_and] at hg
                  simp [c1, e0, c2', c3, goodRib, ← hg]
                | true =>
                  have hk : goodRow r.Rows[i] = true := by simp [goodRow, c1, c2', c3]
                  rw [hk, Bool.true_and] at hg
                  simp [c1, e0, c2', c3]
                  subst hI
                  exact Less_mk (n - 1) (by omega) ⟨i + 1, by omega, by rw [en]; exact hg, by rw [wrNext i (by omega)]⟩
          · obtain ⟨j, hj⟩ : ∃ j, i = j + 1 := ⟨i - 1, by omega⟩
            have aj : j < r.Rows.length := by omega
            have ep : prevW r.Rows i = some r.Rows[j] := by subst hj; exact prevW_next r.Rows j aj
            have hdj := fm_drop (GRow.ci k) 3 (fun _ => rfl) r.Rows j aj
            have hltj : j * 3 < r.Rows.length * 3 := by omega
            have hw : IntKind.wrap .i64 ((i : Int) - 1) = j := (wrap64 (by omega) (by omega)).trans (by omega)
            have e0 : 0 < i := by omega
            rw [ep, adjW] at hg
            refine drawP (tabEnv [] _) [⟨[.op 5 3 0], allD 57, true⟩, ⟨[.op 5 3 0], allD 57, true⟩, ⟨[], allD 57, false⟩, ⟨[], allD 57, true⟩, ⟨[], allD 57, true⟩, ⟨[], allD 57, true⟩, ⟨[], allD 57, true⟩, ⟨[], allD 57, true⟩, ⟨[.op 0 0 0], allD 57, true⟩, ⟨[.op 0 0 0], allD 57, true⟩, ⟨[], allD 57, true⟩, ⟨[], allD 57, true⟩, ⟨[], allD 57, true⟩, ⟨[], allD 57, true⟩, ⟨[], allD 57, true⟩, ⟨[.op 5 3 0], allD 57, true⟩, ⟨[.op 5 3 0], allD 57, true⟩, ⟨[], allD 57, false⟩, ⟨[], allD 57, true⟩, ⟨[], allD 57, true⟩, ⟨[], allD 57, true⟩, ⟨[], allD 57, true⟩, ⟨[.op 5 3 0], allD 57, true⟩, ⟨[.op 5 3 0], allD 57, true⟩, ⟨[], allD 57, true⟩, ⟨[], allD 57, true⟩, ⟨[], allD 57, true⟩, ⟨[], allD 57, true⟩, ⟨[.op 5 3 0], allD 57, true⟩, ⟨[.op 5 3 0], allD 57, true⟩, ⟨[], allD 57, false⟩, ⟨[], allD 57, true⟩, ⟨[], allD 57, true⟩] h0 hm (tabEnv_ok (tab_cons hP (tab_cons hO (tab_cons (ok_compare r.Rows[j].Prefix r.Rows[i].Prefix) tab_nil)))) (by kernel_rfl) (by kernel_rfl) ?_
            cases c1 : goodPx r.Rows[i].Prefix with
            | false =>
              have hk : goodRow r.Rows[i] = false := by simp [goodRow, c1]
              rw [hk, Bool.false_and, Bool.false_and] at hg
              simp [c1, goodRib, ← hg]
            | true =>
              by_cases c4 : cmpPx r.Rows[j].Prefix r.Rows[i].Prefix < 0
              · have c5 : ¬ 0 ≤ cmpPx r.Rows[j].Prefix r.Rows[i].Prefix := by omega
                rw [decide_eq_true c4, Bool.and_true] at hg
                by_cases c2 : r.Rows[i].Offers.length = 0
                · have hk : goodRow r.Rows[i] = false := by simp [goodRow, c2]
                  have c2' : r.Rows[i].Offers = [] := List.length_eq_zero_iff.1 c2
                  rw [hk, Bool.false_and] at hg
                  simp [c1, e0, hw, aj, hdj, hlen, hltj, c5, c2', goodRib, ← hg]
                · have c2' : ¬ r.Rows[i].Offers = [] := fun e => c2 (by rw [e]; rfl)
                  cases c3 : goodOs r.Rows[i].Offers with
                  | false =>
                    have hk : goodRow r.Rows[i] = false := by simp [goodRow, c3]
                    rw [hk, Bool.false_and] at hg
                    simp [c1, e0, hw, aj, hdj, hlen, hltj, c5, c2', c3, goodRib, ← hg]
                  | true =>
                    have hk : goodRow r.Rows[i] = true := by simp [goodRow, c1, c2', c3]
                    rw [hk, Bool.true_and] at hg
                    simp [c1, e0, hw, aj, hdj, hlen, hltj, c5, c2', c3]
                    subst hI
                    exact Less_mk (n - 1) (by omega) ⟨i + 1, by omega, by rw [en]; exact hg, by rw [wrNext i (by omega)]⟩
              · have c5 : 0 ≤ cmpPx r.Rows[j].Prefix r.Rows[i].Prefix := by omega
                rw [decide_eq_false c4, Bool.and_false, Bool.false_and] at hg
                by_cases c2' : r.Rows[i].Offers = []
                · simp [c1, e0, hw, aj, hdj, hlen, hltj, c5, c2', goodRib, ← hg]
                · cases c3 : goodOs r.Rows[i].Offers <;> simp [c1, e0, hw, aj, hdj, hlen, hltj, c5, c2', c3, goodRib, ← hg]
        · simp at a
          rw [List.drop_of_length_le (by omega), rowsG] at hg
          simp
          simp [goodRib, d1, d2, ← hg]
end Go.V
