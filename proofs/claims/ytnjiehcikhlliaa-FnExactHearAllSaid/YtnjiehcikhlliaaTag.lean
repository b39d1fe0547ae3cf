/- What functions of the seat's program do, each proved of its code, under the bounds that its theorem names. -/
import Derived.Test.YtnjiehcikhlliaaTaf
import Derived.Deep.AppendSrc
import Derived.Laws.Externs
import Derived.Laws.IdiomCopy
import Derived.Lib.AppendZeros
import Derived.Lib.AppendZerosOnto
import Derived.Lib.JoinLaws
import Derived.Lib.Overlaps
import Derived.Lib.SliceRun
import Derived.Lib.Walk
import Derived.Shelf.Spec.SlicesInsert
import Derived.WalkKit
set_option linter.all false
namespace Go.V
open Go.Proofs
set_option maxHeartbeats 1000000
set_option maxRecDepth 10000
set_option linter.unusedSimpArgs false
set_option linter.unusedVariables false
theorem wtR_leR {α : Type} (f : α → Nat) (b : Nat) : ∀ l : List α, (∀ x ∈ l, f x ≤ b) → wtR f l ≤ l.length * (b + 1)
  | [], _ => by simp [wtR]
  | x :: l, h => by
    have ih := wtR_leR f b l fun y hy => h y (by simp [hy])
    have h1 := h x (by simp)
    simp only [wtR, List.map_cons, List.length_cons, List.sum_cons, Nat.add_mul] at ih ⊢
    omega
def rB (r : GRoute) : Prop := r.Attrs.Path.length ≤ 1048576 ∧ r.Attrs.Comms.length ≤ 1048576
theorem hear_b {l : List GRoute} {u : GUpdate} (h : ∀ r ∈ l, rB r) (hu : updB u) : ∀ r ∈ hearL l u, rB r := by
  intro r hr
  rw [← comeL_all] at hr
  rcases mem_come u _ (Nat.le_refl _) hr with hr | ⟨h1, _⟩
  · exact h r hr
  · unfold rB; rw [h1]; exact ⟨hu.2.2.1, hu.2.2.2⟩
theorem hear_srt {l : List GRoute} (h : srt l) (u : GUpdate) : srt (hearL l u) := by
  rw [← comeL_all]; exact srt_come h u _ (Nat.le_refl _)
theorem hear_len {l : List GRoute} (h : srt l) (u : GUpdate) : (hearL l u).length ≤ l.length + u.Come.length := by
  rw [← comeL_all]; exact len_come h u _ (Nat.le_refl _)
def zeroU : GUpdate := ⟨[], zeroA, []⟩
theorem hear_zero (l : List GRoute) : hearL l zeroU = l := by
  unfold hearL zeroU
  simp
theorem attr_len {a : GAttrs} (h : GAttrs.wt a ≤ 1048576) : a.Path.length ≤ 1048576 ∧ a.Comms.length ≤ 1048576 := by
  unfold GAttrs.wt at h
  have h1 := len_wt_IntS a.Path
  have h2 := len_wt_IntS a.Comms
  exact ⟨by omega, by omega⟩
theorem wt_updB {u : GUpdate} (h : GUpdate.wt u ≤ 1048576) : updB u := by
  unfold GUpdate.wt at h
  have h1 := len_wt_PrefixS u.Gone
  have h2 := len_wt_PrefixS u.Come
  have h3 := attr_len (a := u.Attrs) (by omega)
  exact ⟨by omega, by omega, h3.1, h3.2⟩
theorem updB_ok {u : GUpdate} (h : updB u) : updOK u := by
  obtain ⟨h1, h2, h3, h4⟩ := h
  exact ⟨by omega, by omega, by omega, by omega⟩
theorem wt_rB {l : List GRoute} (h : wt_RouteS l ≤ 1048576) : ∀ r ∈ l, rB r := fun r hr => attr_len (a := r.Attrs) (by have := mem_wt_RouteS hr; unfold GRoute.wt at this; omega)
theorem wt_upds {l : List GUpdate} (h : wt_UpdateS l ≤ 1048576) : ∀ u ∈ l, updB u := fun u hu => wt_updB (by have := mem_wt_UpdateS hu; omega)
def hrB (o : List GRoute) : Prop := srt o ∧ o.length ≤ 20 ∧ ∀ r ∈ o, rB r
theorem hrI_B {l : List GRoute} {us : List GUpdate} (h : hrB l) (hu : ∀ u ∈ us, updB u) : ∀ (i : Nat) (o : List GRoute), hrI l us i = some o → hrB o
  | 0, o, e => by cases e; exact h
  | i + 1, o, e => by
    unfold hrI at e
    split at e
    · cases e
    · rename_i o' ho'
      split at e
      · cases e
      · rename_i u hus
        split at e
        · rename_i hl
          cases e
          obtain ⟨h1, h2, h3⟩ := hrI_B h hu i o' ho'
          exact ⟨hear_srt h1 u, hl, hear_b h3 (hu u (List.mem_of_getElem? hus))⟩
        · cases e
theorem rHear_bad {l : List GRoute} {us : List GUpdate} {i : Nat} (hi : i < us.length) (h : goodU us[i] = false) : rHearAll l us = ([], false) := by
  unfold rHearAll
  rw [if_neg]
  rintro ⟨_, _, h3⟩
  rw [List.all_eq_true.1 h3 _ (List.getElem_mem hi)] at h
  cases h
theorem rHear_none {l : List GRoute} {us : List GUpdate} {i : Nat} (hi : i ≤ us.length) (h : hrI l us i = none) : rHearAll l us = ([], false) := by
  unfold rHearAll
  rw [hrI_none l us h us.length hi]
  split <;> rfl
theorem hrI_next {l : List GRoute} {us : List GUpdate} {i : Nat} {o : List GRoute} (hi : i < us.length) (h : hrI l us i = some o) : hrI l us (i + 1) = if (hearL o us[i]).length ≤ 20 then some (hearL o us[i]) else none := by
  simp only [hrI, h, List.getElem?_eq_getElem hi]
theorem law_sHearAll (v0 : List GRoute) (v1 : List GUpdate) (hw0 : wt_RouteS v0 ≤ 1048576) (hw1 : wt_UpdateS v1 ≤ 1048576) : CallOK Try.prog 6 [.c (rd 0 v0.length (v0.flatMap (GRoute.ci 0))), .c (rd 0 v1.length (v1.flatMap (GUpdate.ci 0)))] (.tup [.c (.sl 0 58 (rHearAll v0 v1).1.length ((rHearAll v0 v1).1.flatMap GRoute.co)), .c (pb (rHearAll v0 v1).2)]) [.c (rd 0 v0.length (v0.flatMap (GRoute.ci 0))), .c (rd 0 v1.length (v1.flatMap (GUpdate.ci 0)))] := by
  have hl1 := len_wt_UpdateS v1
  refine okS (fn := Try.f6) [] h0 Try.func6 (by kernel_rfl) rfl Try.ntmps6 Try.results6 (by simp) ?_
  simp
  refine Inv_intro (ok_sGoodRoutes 0 v0 (routes_ok hw0)) ?_
  simp
  cases c1 : goodRs v0 with
  | false => simp [rHearAll, c1]
  | true =>
    simp
    refine brn_app (fun a => ?_) (fun a => ?_)
    · simp at a
      have h : ¬ v1.length ≤ 60 := by omega
      simp [rHearAll, h]
    · simp at a
      have h60 : v1.length ≤ 60 := by omega
      obtain ⟨hg, h20⟩ := goodRs_L c1
      have hb0 : hrB v0 := ⟨hg.1, h20, wt_rB hw0⟩
      have hus := wt_upds hw1
      have hz := ok_l14Hear 0 1 v0 zeroU hg.1 ⟨by omega, wt_rB hw0⟩ ⟨by decide, by decide, by decide, by decide⟩ (by decide)
      rw [hear_zero] at hz
      simp
      refine Inv_intro hz ?_
      simp
      refine loopW [6, 20, 21, 22] [.op 9 2 0, .op 3 2 0] [.op 3 2 0] (fun m st => ∃ (i : Nat) (o : List GRoute), i + m = v1.length ∧ hrI v0 v1 i = some o ∧ (∀ (j : Nat) (hj : j < i) (hl : j < v1.length), goodU v1[j] = true) ∧ st = ⟨slOf 37 [(6, .ref ⟨.op 3 2 0, []⟩ 0 o.length), (20, .t (rd 0 v1.length (v1.flatMap (GUpdate.ci 0)))), (21, .t (pi v1.length)), (22, .t (pi i))], ofL [(.op 3 2 0, .sl 0 58 o.length (o.flatMap GRoute.co))]⟩) v1.length ?_ ?_
      · rintro Inv hI
        simp
        subst hI
        exact ⟨0, v0, by omega, rfl, fun j hj => absurd hj (by omega), rfl⟩
      · rintro Inv hI m st ⟨i, o, hi, ho, hgs, rfl⟩
        obtain ⟨b1, b2, b3⟩ := hrI_B hb0 hus i o ho
        have ht : (o.flatMap GRoute.co).take (o.length * 8) = o.flatMap GRoute.co := List.take_of_length_le (by rw [fm_len GRoute.co 8 (fun _ => rfl)]; exact Nat.le_refl _)
        refine ewr_sound (M := []) h0 ?_
        simp
        refine brn_app (fun b => ?_) (fun b => ?_)
        · simp at b
          have hd := fm_drop (GUpdate.ci 0) 8 (fun _ => rfl) v1 i b
          have hlen := fm_len (GUpdate.ci 0) 8 (fun _ => rfl) v1
          have hlt : i * 8 < v1.length * 8 := by omega
          have hub := hus _ (List.getElem_mem b)
          have hnext := hrI_next b ho
          have hbad := rHear_bad (l := v0) b
          simp [b, hd, hlen, hlt]
          refine Inv_intro (ok_sGoodUpdate 0 v1[i] (updB_ok hub)) ?_
          cases c2 : goodU v1[i] with
          | false =>
            have := hbad c2
            rw [this]
            simp
          | true =>
            have hcl := (goodU_spec c2).2.1
            have hhl := hear_len b1 v1[i]
            simp
            refine Inv_intro (ok_l14Hear 0 0 o v1[i] b1 ⟨by omega, b3⟩ hub (by omega)) ?_
            generalize hearL o v1[i] = O at hnext hhl ⊢
            simp
            by_cases c3 : O.length ≤ 20
            · rw [if_pos c3] at hnext
              have d3 : ¬ (20 : Int) < (O.length : Int) := by omega
              simp [d3]
              refine LessW_mk (m - 1) (.op 9 2 0) (.op 3 2 0) (by omega) rfl rfl ?_
              simp
              subst hI
              refine ⟨i + 1, O, by omega, hnext, fun j hj hl => ?_, ?_⟩
              · rcases Nat.lt_or_ge j i with h | h
                · exact hgs j h hl
                · have : j = i := by omega
                  subst this
                  exact c2
              · rw [wrNext i (by omega)]
            · rw [if_neg c3] at hnext
              have d3 : (20 : Int) < (O.length : Int) := by omega
              have := rHear_none (i := i + 1) (by omega) hnext
              rw [this]
              simp [d3]
        · simp at b
          have hin : i = v1.length := by omega
          subst hin
          have er : rHearAll v0 v1 = (o, true) := by
            unfold rHearAll
            rw [if_pos ⟨c1, h60, List.all_eq_true.2 fun x hx => by obtain ⟨j, hj, rfl⟩ := List.getElem_of_mem hx; exact hgs j hj hj⟩, ho]
          rw [er]
          simp [ht]
theorem rHearAll_ok (v0 : List GRoute) (v1 : List GUpdate) (hw0 : wt_RouteS v0 ≤ 1048576) (hw1 : wt_UpdateS v1 ≤ 1048576) : lens_RouteS (rHearAll v0 v1).1 ∧ cn_RouteS (rHearAll v0 v1).1 ≤ 1152921504606846976 := by
  have key : wt_RouteS (rHearAll v0 v1).1 ≤ 1048576 := by
    unfold rHearAll
    split
    · rename_i h
      split
      · rename_i o ho
        obtain ⟨g1, g2⟩ := hrI_good (goodRs_L h.1) (fun u hu => List.all_eq_true.1 h.2.2 u hu) v1.length o ho
        have hx : ∀ x ∈ o, GRoute.wt x ≤ 20 := by
          intro x hx
          have h1 := g1.2 x hx
          simp only [goodR, goodA, goodPa, goodCm, Bool.and_eq_true, decide_eq_true_eq] at h1
          unfold GRoute.wt GAttrs.wt
          have e1 : wt_IntS x.Attrs.Path = x.Attrs.Path.length := rfl
          have e2 : wt_IntS x.Attrs.Comms = x.Attrs.Comms.length := rfl
          omega
        have := wtR_leR GRoute.wt 20 o hx
        show wtR GRoute.wt o ≤ 1048576
        omega
      · exact Nat.zero_le _
    · exact Nat.zero_le _
  exact ⟨lens_of_RouteS key, by have := cn_le_RouteS (rHearAll v0 v1).1; omega⟩
theorem ok_IndexFunc_Update (k q g : Nat) (caps : List (List PT)) (p : GUpdate → Bool) (xs : List GUpdate) (ha : xs.length ≤ 140737488351232)
    (hg : ∀ x ∈ xs, CallOK Try.prog g (.agg (GUpdate.ci k x) :: caps.map (PV.ip q)) (.c (pb (p x))) (.agg (GUpdate.ci k x) :: caps.map (PV.ip q))) :
    CallOK Try.prog 52 [.c (rd k xs.length (xs.flatMap (GUpdate.ci k))), .c (.fn q g caps)] (.c (pi (idxOf p xs))) [.c (rd k xs.length (xs.flatMap (GUpdate.ci k))), .c (.fn q g caps)] := by
  refine okS (fn := Try.f52) [] h0 Try.func52 (by kernel_rfl) rfl Try.ntmps52 Try.results52 (by simp) ?_
  simp
  refine loopS [0, 1, 7, 8] [] (fun n st => ∃ (i : Nat), i + n = xs.length ∧ (∀ (j : Nat) (hj : j < i) (hj' : j < xs.length), p xs[j] = false) ∧ st = ⟨slOf 19 [(0, .t (rd k xs.length (xs.flatMap (GUpdate.ci k)))), (1, .t (.fn q g caps)), (7, .t (pi xs.length)), (8, .t (pi i))], ofL []⟩) xs.length ?_ ?_
  · rintro Inv hI
    simp
    subst hI
    exact ⟨0, by omega, by intro j hj; omega, rfl⟩
  · rintro Inv hI n st ⟨i, hi, hall, rfl⟩
    refine ewr_sound (M := []) h0 ?_
    simp
    refine brn_app (fun h => ?_) (fun h => ?_)
    · simp at h
      have hd := fm_drop (GUpdate.ci k) 8 (fun _ => rfl) xs i h
      have hlen := fm_len (GUpdate.ci k) 8 (fun _ => rfl) xs
      have hlt : i * 8 < xs.length * 8 := by omega
      simp [h, hd, hlen, hlt]
      refine Inv_intro (hg _ (List.getElem_mem h)) ?_
      simp
      refine brn_app (fun h2 => ?_) (fun h2 => ?_)
      · simp
        exact (idxOf_hit p xs i h h2 fun j hj => hall j hj (by omega)).symm
      · simp
        subst hI
        refine Less_mk (n - 1) (by omega) ⟨i + 1, by omega, ?_, by rw [wrNext i (by omega)]⟩
        intro j hj hj'
        by_cases hji : j = i
        · subst hji; exact h2
        · exact hall j (by omega) hj'
    · simp at h
      simp
      exact (idxOf_no p xs fun j hj => hall j (by omega) hj).symm
theorem ok_ContainsFunc_Update (k q g : Nat) (caps : List (List PT)) (p : GUpdate → Bool) (xs : List GUpdate) (ha : xs.length ≤ 140737488351232)
    (hg : ∀ x ∈ xs, CallOK Try.prog g (.agg (GUpdate.ci k x) :: caps.map (PV.ip q)) (.c (pb (p x))) (.agg (GUpdate.ci k x) :: caps.map (PV.ip q))) :
    CallOK Try.prog 23 [.c (rd k xs.length (xs.flatMap (GUpdate.ci k))), .c (.fn q g caps)] (.c (pb (xs.any p))) [.c (rd k xs.length (xs.flatMap (GUpdate.ci k))), .c (.fn q g caps)] := by
  refine okS (fn := Try.f23) [] h0 Try.func23 (by kernel_rfl) rfl Try.ntmps23 Try.results23 (by simp) ?_
  simp
  refine Inv_intro (ok_IndexFunc_Update k q g caps p xs ha hg) ?_
  simp [idxOf_any]
theorem step_app_run {P : Program} {ops : Array Oper} {o : Oper} {a : Act} {w : World} {K : Act → World → Prop} {Q : Exit → Act → World → Prop} {E : Prop}
    (hg : o.guard = none) (d x : Operand) (dT sT : TypeId) (hop : o.op = Op.call { callee := Callee.builtin Builtin.append, args := #[d, x], argTypes := #[dT, sT] })
    (v u : Value) (hd : a.eval d = v) (hx : a.eval x = u) {v' : Value} {w' : World} (hr : (Builtin.append_ #[dT, sT] o.type #[v, u]).run P w = .ok v' w') (hK : K (a.put o.dst v') w') :
    if Region.wanted o (yielded ops a.tmps) = true then Oper.wp P o a w K Q else E := by
  have hw : Region.wanted o (yielded ops a.tmps) = true := by simp [Region.wanted, hg]
  rw [if_pos hw]
  unfold Oper.wp
  simp [execOp, hop, resolve, invoke, builtin, hd, hx, hr, Result.andThen]
  exact hK
theorem wp_clear_run {P : Program} (w : World) {o : Oper} {a : Act} {K : Act → World → Prop} {Q : Exit → Act → World → Prop} (s : Operand) (t : TypeId)
    (ho : o.op = .call { callee := .builtin .clear, args := #[s], argTypes := #[t] }) (v : Value) (hd : a.eval s = v) {v' : Value} {w' : World}
    (hr : (Builtin.clear_ #[t] o.type #[v]).run P w = .ok v' w') (h : K (a.put o.dst v') w') : o.wp P a w K Q := by
  unfold Oper.wp execOp
  simp only [ho, resolve, invoke, builtin, Sem.run_bind, Sem.run_pure, Result.andThen_ok, List.map_toArray, List.map_cons, List.map_nil, hd, hr]
  exact h
theorem wpList_clear_run {P : Program} (w : World) {ops : Array Oper} {rest : List Oper} {o : Oper} {a : Act} {Q : Exit → Act → World → Prop} (hgd : o.guard = none) (s : Operand) (t : TypeId)
    (ho : o.op = .call { callee := .builtin .clear, args := #[s], argTypes := #[t] }) (v : Value) (hd : a.eval s = v) {v' : Value} {w' : World}
    (hr : (Builtin.clear_ #[t] o.type #[v]).run P w = .ok v' w') (h : wpList P ops Q rest (a.put o.dst v') w') : wpList P ops Q (o :: rest) a w :=
  wpList_plain hgd fun _ hK => wp_clear_run w s t ho v hd hr (hK _ _ h)
theorem del_walk (b n c i j q : Nat) (A : Addr) (w w1 w2 : World) (x2 : Value) (hij : i < j) (hj : j ≤ n) (hnc : n ≤ c) (hq : q < n)
    (hA : (if c = j then some (⟨b, 0, none⟩ : Addr) else some ⟨b, j * 8, none⟩) = some A)
    (hr : ∀ ty, (Builtin.append_ #[26, 26] ty #[.slice (some ⟨b, 0, none⟩) i c, .slice (some A) (n - j) (c - j)]).run Try.prog w.drew = .ok (.slice (some ⟨b, 0, none⟩) q c) w1)
    (hc : ∀ ty, (Builtin.clear_ #[26] ty #[.slice (some ⟨b, q * 8, none⟩) (n - q) (c - q)]).run Try.prog w1 = .ok x2 w2) :
    Calls Try.prog 28 #[.slice (some ⟨b, 0, none⟩) n c, .int .i64 i, .int .i64 j] w fun e w' => e = .returned (.slice (some ⟨b, 0, none⟩) q c) ∧ w' = w2 := by
  have mixed : Try.prog.follows .mixedOrders = true := by kernel_rfl
  have tS : Try.prog.underlying 26 = some (.slice 58) := by kernel_rfl
  have uS := run_underlying tS
  have zE : ∀ w, (Go.sizeOf 58).run Try.prog w = .ok 8 w := fun w => by kernel_rfl
  have zS : ∀ w, (Go.sizeOf 26).run Try.prog w = .ok 1 w := fun w => by kernel_rfl
  have aS : ∀ w, (isAgg 26).run Try.prog w = .ok false w := fun w => by kernel_rfl
  have t3 : Try.prog.underlying 3 = some (.int .i64) := by kernel_rfl
  have u3 := run_underlying t3
  have a3 : ∀ w, (isAgg 3).run Try.prog w = .ok false w := fun w => by kernel_rfl
  have z3 : ∀ w, (Go.sizeOf 3).run Try.prog w = .ok 1 w := fun w => by kernel_rfl
  have hne : ¬ ((i : Int) = (j : Int)) := by omega
  have hic : i ≤ c := by omega
  have hjc : j ≤ c := by omega
  have hij' : i ≤ j := by omega
  have hqn : q ≤ n := by omega
  have hqc : q ≤ c := by omega
  have hcq : ¬ (c = q) := by omega
  go_enter Try.func28, Try.ntmps28
  go_wp2_with fail
  go_region_law_o (refine step_app_run rfl _ _ 26 26 rfl (.slice (some ⟨b, 0, none⟩) i c) (.slice (some A) (n - j) (c - j)) (by simp [Act.eval, Act.put]) (by simp [Act.eval, Act.put]) (hr _) ?_)
  go_wp2_with (at_builtin; refine wpList_clear_run _ rfl _ 26 rfl _ rfl (hc _) ?_)
  go_ret
  exact ⟨rfl, rfl⟩
theorem run_clear_n {P : Program} (w : World) (t ty e : TypeId) (b o k cap : Nat) (inf : TypeInfo) (z : Value) (hu : P.underlying t = some (.slice e)) (hi : P.info? e = some inf) (hz : inf.zero = some z)
    (hc : ∀ j, j < (k + 1) * z.cells.size → (w.cell? ⟨b, o + j, none⟩).isSome = true) (hf : ∀ j, j < (k + 1) * z.cells.size → w.frozen? ⟨b, o + j, none⟩ = false) (h1 : ∀ v ∈ z.cells.toList, v.oneCell' = true) :
    (Builtin.clear_ #[t] ty #[.slice (some ⟨b, o, none⟩) (k + 1) cap]).run P w = .ok (.tuple #[]) (w.setCells b o ((List.replicate (k + 1) z.cells.toList).flatten)) := by
  have hl : ((List.replicate (k + 1) z.cells.toList).flatten).length = (k + 1) * z.cells.size := by simp
  have hst := run_storeCells_cells (P := P) b o ((List.replicate (k + 1) z.cells.toList).flatten) 0 w (by rw [hl]; simpa using hc) (by rw [hl]; simpa using hf) (by
    intro v hv
    obtain ⟨l, hl, hvl⟩ := List.mem_flatten.1 hv
    rw [(List.mem_replicate.1 hl).2] at hvl
    exact h1 v hvl)
  have hzt := zeroCells_toList z.cells (k + 1)
  simp [-Value.cells, Builtin.clear_, run_underlying hu, zeroValue, typeInfo, hi, hz, Result.andThen, hzt]
  rw [hst]
  rfl
theorem del_world (b n c i j : Nat) (w : World) (arr : Array Value) (cv : List Value) (hba : w.heap[b]? = some (.cells arr 58 (0, 0)))
    (hcl : cv.length = n * 8) (hca : c * 8 ≤ arr.size) (hnc : n ≤ c) (hij : i < j) (hj : j ≤ n)
    (hcv : ∀ (t : Nat) u, cv[t]? = some u → arr[t]? = some u) (h1c : ∀ v ∈ cv, v.oneCell' = true) :
    ∃ (arr' : Array Value) (w' : World), Calls Try.prog 28 #[.slice (some ⟨b, 0, none⟩) n c, .int .i64 i, .int .i64 j] w (fun e w'' => e = .returned (.slice (some ⟨b, 0, none⟩) (i + (n - j)) c) ∧ w'' = w') ∧
      w'.heap[b]? = some (.cells arr' 58 (0, 0)) ∧ c * 8 ≤ arr'.size ∧ (∀ (t : Nat) u, (cv.take (i * 8) ++ cv.drop (j * 8))[t]? = some u → arr'[t]? = some u) ∧ Kp [b] w w' := by
  have tS : Try.prog.underlying 26 = some (.slice 58) := by kernel_rfl
  obtain ⟨inf, hinf⟩ := tsz_info (P := Try.prog) (t := 58) (by simp)
  have hsz : inf.size = 8 := by
    have h1 : tsz Try.prog 58 = inf.size := by simp only [tsz, hinf]
    have h2 : tsz Try.prog 58 = 8 := by kernel_rfl
    omega
  have hzz : tzero Try.prog 58 = inf.zero := by simp only [tzero, hinf]
  obtain ⟨z, hz⟩ : ∃ z, inf.zero = some z := by
    have h2 : (tzero Try.prog 58).isSome = true := by kernel_rfl
    rw [hzz] at h2
    exact Option.isSome_iff_exists.1 h2
  have hzs : z.cells.size = 8 := by
    have h2 : (tzero Try.prog 58).map (fun z => z.cells.size) = some 8 := by kernel_rfl
    rw [hzz, hz] at h2
    simpa using h2
  have hz1 : ∀ v ∈ z.cells.toList, v.oneCell' = true := by
    have h2 : (tzero Try.prog 58).map (fun z => z.cells.toList.all Value.oneCell') = some true := by kernel_rfl
    rw [hzz, hz] at h2
    have h3 : z.cells.toList.all Value.oneCell' = true := by simpa using h2
    exact List.all_eq_true.1 h3
  have hcellb : ∀ (k : Nat) u, cv[k]? = some u → w.cell? ⟨b, k, none⟩ = some u := fun k u h => by rw [cell_at hba]; exact hcv k u h
  obtain ⟨news, hnews⟩ : ∃ news, news = cv.drop (j * 8) := ⟨_, rfl⟩
  have hnl : news.length = (n - j) * 8 := by rw [hnews, List.length_drop, hcl]; omega
  have hnat : ∀ (t : Nat) u, news[t]? = some u → cv[j * 8 + t]? = some u := fun t u h => by rw [hnews] at h; rwa [List.getElem?_drop] at h
  obtain ⟨A, hA, hsrc⟩ : ∃ A : Addr, (if c = j then some (⟨b, 0, none⟩ : Addr) else some ⟨b, j * 8, none⟩) = some A ∧ ∀ (t : Nat) u, news[t]? = some u → w.drew.cell? (A.add t) = some u := by
    by_cases h : c = j
    · refine ⟨⟨b, 0, none⟩, by simp [h], fun t u hu => ?_⟩
      have := (List.getElem?_eq_some_iff.1 hu).1
      omega
    · refine ⟨⟨b, j * 8, none⟩, by simp [h], fun t u hu => ?_⟩
      rw [Addr.add_lit]
      exact hcellb _ u (hnat t u hu)
  have hr : ∀ ty, (Builtin.append_ #[26, 26] ty #[.slice (some ⟨b, 0, none⟩) i c, .slice (some A) (n - j) (c - j)]).run Try.prog w.drew = .ok (.slice (some ⟨b, 0, none⟩) (i + (n - j)) c) (w.drew.setCells b (i * 8) news) := fun ty => by
    have h := run_append_room_cells (P := Try.prog) w.drew 26 ty 58 inf tS hinf b 0 i c A (n - j) (c - j) news (by rw [hsz, hnl]) hsrc (by intro u hu; rw [hnews] at hu; exact h1c u (List.mem_of_mem_drop hu)) (by omega)
      (fun t ht => by
        show (w.cell? ⟨b, _, none⟩).isSome = true
        rw [cell_at hba, hsz, Array.getElem?_eq_getElem (by omega)]; rfl) (fun t ht => by
        show w.frozen? ⟨b, _, none⟩ = false
        simp [World.frozen?, hba])
    rw [hsz, Nat.zero_add] at h
    exact h
  obtain ⟨arr1, p1, p2, p3⟩ := setCells_heap news (i * 8) w.drew arr hba
  have hk1 := setCells_kp b news (i * 8) w.drew
  generalize w.drew.setCells b (i * 8) news = W1 at hr p1 hk1
  obtain ⟨k, hk⟩ : ∃ k, n - (i + (n - j)) = k + 1 := ⟨n - (i + (n - j)) - 1, by omega⟩
  have hc : ∀ ty, (Builtin.clear_ #[26] ty #[.slice (some ⟨b, (i + (n - j)) * 8, none⟩) (n - (i + (n - j))) (c - (i + (n - j)))]).run Try.prog W1 = .ok (.tuple #[]) (W1.setCells b ((i + (n - j)) * 8) ((List.replicate (k + 1) z.cells.toList).flatten)) := fun ty => by
    rw [hk]
    exact run_clear_n W1 26 ty 58 b ((i + (n - j)) * 8) k _ inf z tS hinf hz (fun t ht => by rw [cell_at p1, Array.getElem?_eq_getElem (by rw [hzs] at ht; omega)]; rfl) (fun t ht => by simp [World.frozen?, p1]) hz1
  obtain ⟨arr2, q1, q2, q3⟩ := setCells_heap ((List.replicate (k + 1) z.cells.toList).flatten) ((i + (n - j)) * 8) W1 arr1 p1
  have hk2 := setCells_kp b ((List.replicate (k + 1) z.cells.toList).flatten) ((i + (n - j)) * 8) W1
  refine ⟨arr2, _, del_walk b n c i j (i + (n - j)) A w W1 _ _ hij hj hnc (by omega) hA hr hc, q1, by omega, ?_, ((Kp.of_below (drew_below w)).trans hk1 (by intro y hy; exact .inl hy)).trans hk2 (by intro y hy; exact .inl hy)⟩
  intro t u ht
  have htl := (List.getElem?_eq_some_iff.1 ht).1
  rw [List.length_append, List.length_take, List.length_drop] at htl
  rw [q3, if_neg (by omega), p3]
  rw [List.getElem?_append, List.length_take] at ht
  split at ht
  · rw [List.getElem?_take] at ht
    rw [if_neg (by omega)]
    split at ht
    · exact hcv t u ht
    · cases ht
  · rw [if_pos (by omega), hnews]
    have e : t - i * 8 = t - min (i * 8) cv.length := by omega
    rw [e]
    exact ht
theorem ok_Delete_Route (n i j : Nat) (cs : List PT) (hcl : cs.length = n * 8) (hij : i < j) (hj : j ≤ n) :
    CallOK Try.prog 28 [.c (.sl 0 58 n cs), .c (pi i), .c (pi j)] (.c (.sl 0 58 (i + (n - j)) (cs.take (i * 8) ++ cs.drop (j * 8)))) [.c .hole, .c (pi i), .c (pi j)] := by
  intro I w las he hh hnd hI
  obtain ⟨ts, rfl, hts⟩ := erase_cs las [.sl 0 58 n cs, pi i, pi j] he
  obtain ⟨t0, t1, t2, rfl⟩ : ∃ t0 t1 t2, ts = [t0, t1, t2] := by
    have hl : ts.length = 3 := by simpa using congrArg List.length hts
    match ts, hl with
    | [a, b, c], _ => exact ⟨a, b, c, rfl⟩
  simp only [List.map_cons, List.map_nil, List.cons.injEq, and_true] at hts
  obtain ⟨e0, e1, e2⟩ := hts
  have hs2 : tsz Try.prog 58 = 8 := by kernel_rfl
  have k0 : t0.holds (tsz Try.prog) w I := by simpa [LV.holds] using hh (.c t0) (by simp)
  have k1 : t1.holds (tsz Try.prog) w I := by simpa [LV.holds] using hh (.c t1) (by simp)
  have k2 : t2.holds (tsz Try.prog) w I := by simpa [LV.holds] using hh (.c t2) (by simp)
  have leafI : ∀ (t : LT) (m : Nat), t.erase = pi m → t.holds (tsz Try.prog) w I → t.val = .int .i64 m ∧ t.blocks = [] := by
    intro t m e k
    cases t with
    | leaf v p =>
      simp only [LT.erase] at e
      subst e
      simp only [LT.holds, Im, pi] at k
      exact ⟨k.1, by simp [LT.blocks]⟩
    | own b cap e m cs => simp [LT.erase, pi] at e
  obtain ⟨hv1, hb1⟩ := leafI t1 i e1 k1
  obtain ⟨hv2, hb2⟩ := leafI t2 j e2 k2
  simp only [List.map_cons, List.map_nil] at hh hnd hI ⊢
  cases t0 with
  | leaf v p =>
    simp only [LT.erase] at e0
    subst e0
    simp only [LT.holds, Im] at k0
    have := k0.1.1
    omega
  | own b cap e m ls =>
    simp only [LT.erase, PT.sl.injEq, true_and] at e0
    obtain ⟨rfl, rfl, rfl⟩ := e0
    have k0' := k0
    simp only [LT.holds] at k0'
    obtain ⟨⟨arr, q1, q2, q3⟩, q4, q5, q6, q7⟩ := k0'
    rw [hs2] at q2 q4 q6
    have hcv : ∀ (j : Nat) u, (ls.map LT.val)[j]? = some u → arr[j]? = some u := by
      intro j u hj
      rw [List.getElem?_map, Option.map_eq_some_iff] at hj
      obtain ⟨d, hd, rfl⟩ := hj
      exact q3 j d hd
    have hlas : ([LV.c (.own b cap 58 m ls), .c t1, .c t2].flatMap LV.blocks) = b :: ls.flatMap LT.blocks := by simp [LV.blocks, LT.blocks, hb1, hb2]
    obtain ⟨arr', w', hcall, p1, p2, p3, p4⟩ := del_world b m cap i j w arr (ls.map LT.val) q1 (by rw [List.length_map, q4]) q2 q5 hij hj hcv (by
      intro v hv
      obtain ⟨d, hd, rfl⟩ := List.mem_map.1 hv
      rw [one_oneCell]
      exact LT.holds_one (q7 d hd))
    have hargs : [LV.val (.c (.own b cap 58 m ls)), LV.val (.c t1), LV.val (.c t2)].toArray = #[.slice (some ⟨b, 0, none⟩) m cap, .int .i64 i, .int .i64 j] := by
      simp only [LV.val, LT.val] at hv1 hv2 ⊢
      rw [hv1, hv2]
    rw [hargs]
    refine (CallsF.of_calls Try.func28 (by kernel_rfl) rfl hcall).mono ?_
    rintro e w'' ⟨rfl, rfl⟩
    rw [hlas] at hnd hI ⊢
    have hnd1 := List.nodup_cons.1 hnd
    have hbI : ∀ k x, I k x → w''.heap[x]? = w.heap[x]? := fun k x hx => p4.block x (hI k x hx).1 (by
      rw [List.mem_singleton]
      rintro rfl
      exact (hI k x hx).2 (by simp))
    have hsub : (ls.take (i * 8) ++ ls.drop (j * 8)).Sublist ls := by
      have h1 : (ls.drop (j * 8)).Sublist (ls.drop (i * 8)) := by
        have e : j * 8 = i * 8 + (j * 8 - i * 8) := by omega
        rw [e, ← List.drop_drop]
        exact List.drop_sublist _ _
      have h2 := List.Sublist.append_left h1 (ls.take (i * 8))
      rwa [List.take_append_drop] at h2
    have hbs : ((ls.take (i * 8) ++ ls.drop (j * 8)).flatMap LT.blocks).Sublist (ls.flatMap LT.blocks) := flat_sub _ hsub
    have hhold : ∀ c ∈ ls, c.holds (tsz Try.prog) w'' I := fun c hc => LT.holds_frame (fun _ _ h => h) hbI c (q7 c hc) fun x hx => p4.block x (LT.blocks_lt c (q7 c hc) x hx) (by
      rw [List.mem_singleton]
      rintro rfl
      exact hnd1.1 (List.mem_flatMap.2 ⟨c, hc, hx⟩))
    refine ⟨.c (.own b cap 58 (i + (m - j)) (ls.take (i * 8) ++ ls.drop (j * 8))), [.c (.leaf (.slice (some ⟨b, 0, none⟩) m cap) .hole), .c t1, .c t2], by simp [LV.val, LT.val], by simp [LV.erase, LT.erase], by simp [LV.erase, LT.erase, e1, e2], ?_, ?_, ?_, ?_, ?_, ?_⟩
    · simp [LV.full, LV.trees, LT.val]
    · simp only [LV.holds, LT.holds]
      refine ⟨⟨arr', p1, by rw [hs2]; exact p2, fun t c hc => p3 t _ (by rw [← List.map_take, ← List.map_drop, ← List.map_append, List.getElem?_map, hc]; rfl)⟩, ?_, by omega, ⟨by rw [hs2]; omega, by omega⟩, fun c hc => hhold c (hsub.subset hc)⟩
      rw [List.length_append, List.length_take, List.length_drop, hs2, q4]
      omega
    · intro l hl
      simp only [List.mem_cons, List.not_mem_nil, or_false] at hl
      rcases hl with rfl | rfl | rfl
      · simp only [LV.holds, LT.holds, Im]; exact ⟨trivial, rfl⟩
      · simp only [LV.holds]; exact LT.holds_frame (fun _ _ h => h) hbI t1 k1 (by rw [hb1]; simp)
      · simp only [LV.holds]; exact LT.holds_frame (fun _ _ h => h) hbI t2 k2 (by rw [hb2]; simp)
    · simp only [LV.blocks, LT.blocks, List.flatMap_cons, List.flatMap_nil, List.append_nil, hb1, hb2, List.nil_append]
      exact List.nodup_cons.2 ⟨fun hx => hnd1.1 (hbs.subset hx), hnd1.2.sublist hbs⟩
    · intro x hx
      simp only [LV.blocks, LT.blocks, List.flatMap_cons, List.flatMap_nil, List.append_nil, hb1, hb2, List.nil_append, List.mem_cons] at hx
      rcases hx with rfl | hx
      · exact .inl (by simp)
      · exact .inl (List.mem_cons_of_mem _ (hbs.subset hx))
    · exact (Kp.refl _ w).trans p4 (by
        intro x hx
        rw [List.mem_singleton] at hx
        subst hx
        exact .inl (by simp))
theorem alloc_kp (bs : List Nat) (w : World) (blk : Obj) : Kp bs w (w.alloc blk) := ⟨rfl, rfl, rfl, by show w.heap.size ≤ (w.heap.push blk).size; rw [Array.size_push]; omega, fun k hk _ => by
  show (w.heap.push blk)[k]? = w.heap[k]?
  rw [Array.getElem?_push]
  rw [if_neg (by omega)]⟩
theorem alloc_at (w : World) (blk : Obj) : (w.alloc blk).heap[w.heap.size]? = some blk := by
  show (w.heap.push blk)[w.heap.size]? = some blk
  simp
/-- The cells of a row behind an insertion. -/
def insV (S i : Nat) (cv vv : List Value) : List Value := cv.take (i * S) ++ vv ++ cv.drop (i * S)
theorem insV_len (S i : Nat) (cv vv : List Value) : (insV S i cv vv).length = cv.length + vv.length := by
  unfold insV
  simp only [List.length_append, List.length_take, List.length_drop]
  omega
theorem insV_at (S i : Nat) (cv vv : List Value) (hv : vv.length = S) (hi : i * S ≤ cv.length) (j : Nat) : (insV S i cv vv)[j]? = if j < i * S then cv[j]? else if j < i * S + S then vv[j - i * S]? else cv[j - S]? := by
  have hl : (cv.take (i * S)).length = i * S := by rw [List.length_take]; omega
  unfold insV
  rw [List.append_assoc, List.getElem?_append, hl]
  split
  · rename_i h
    rw [List.getElem?_take, if_pos h]
  · rename_i h
    rw [List.getElem?_append, hv]
    split
    · rw [if_pos (by omega)]
    · rw [if_neg (by omega), List.getElem?_drop]
      congr 1
      omega
theorem getv {l : List Value} {j : Nat} {u : Value} (h : l[j]? = some u) : j < l.length := (List.getElem?_eq_some_iff.1 h).1
/-- A road of slices.Insert: at the end. -/
theorem ins_endRoute (base : Option Addr) (vb n c vc : Nat) (w w1 : World) (r : Value) (hn : n ≤ c)
    (hr : ∀ ty, (Builtin.append_ #[26, 26] ty #[.slice base n c, .slice (some ⟨vb, 0, none⟩) 1 vc]).run Try.prog w = .ok r w1) :
    Calls Try.prog 30 #[.slice base n c, .int .i64 n, .slice (some ⟨vb, 0, none⟩) 1 vc] w fun e w' => e = .returned r ∧ w' = w1 := by
  have mixed : Try.prog.follows .mixedOrders = true := by kernel_rfl
  have tS : Try.prog.underlying 26 = some (.slice 58) := by kernel_rfl
  have uS := run_underlying tS
  have zE : ∀ w, (Go.sizeOf 58).run Try.prog w = .ok 8 w := fun w => by kernel_rfl
  have zS : ∀ w, (Go.sizeOf 26).run Try.prog w = .ok 1 w := fun w => by kernel_rfl
  have aS : ∀ w, (isAgg 26).run Try.prog w = .ok false w := fun w => by kernel_rfl
  have t3 : Try.prog.underlying 3 = some (.int .i64) := by kernel_rfl
  have u3 := run_underlying t3
  have a3 : ∀ w, (isAgg 3).run Try.prog w = .ok false w := fun w => by kernel_rfl
  have z3 : ∀ w, (Go.sizeOf 3).run Try.prog w = .ok 1 w := fun w => by kernel_rfl
  go_enter Try.func30, Try.ntmps30
  go_wp2_with (at_builtin; refine Lib.wpList_append_run _ rfl _ _ _ _ rfl _ _ rfl rfl _ _ (hr _) ?_)
  all_goals (go_ret; exact ⟨rfl, rfl⟩)
end Go.V
