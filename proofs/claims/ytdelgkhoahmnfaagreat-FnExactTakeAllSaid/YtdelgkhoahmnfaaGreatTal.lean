/- What functions of the seat's program do, each proved of its code, under the bounds that its theorem names. -/
import Derived.Test.YtdelgkhoahmnfaaGreatTak
import Derived.Deep.AppendSrc
import Derived.Lib.AppendZeros
import Derived.Shelf.SlSortCmp.NoneTotal
import Derived.Shelf.SlSortCmp.WholeK
import Derived.Shelf.Spec.SlicesInsert
import Derived.WalkKit
set_option linter.all false
namespace Go.V
open Go.Proofs
set_option maxHeartbeats 1000000
set_option maxRecDepth 10000
set_option linter.unusedSimpArgs false
set_option linter.unusedVariables false
end Go.V
namespace Go.Proofs
open Go.Shelf
def Tryz.laysSF_ren : Go.Shelf.Ren := ⟨fun | 6 => 128 | 15 => 173 | 14 => 172 | 28 => 199 | 29 => 200 | 20 => 191 | 21 => 192 | 22 => 193 | 23 => 194 | 24 => 195 | 25 => 196 | 26 => 197 | 27 => 198 | 46 => 209 | 47 => 210 | 48 => 211 | 49 => 212 | 50 => 213 | 57 => 220 | n => n, fun | 22 => 27 | 24 => 77 | 25 => 134 | 3 => 3 | 39 => 187 | 0 => 0 | 53 => 207 | 55 => 127 | 4 => 4 | 46 => 201 | 45 => 200 | 50 => 137 | 5 => 5 | 9 => 9 | 66 => 215 | 70 => 219 | 76 => 225 | 77 => 226 | n => n, fun | n => n⟩
theorem Tryz.laysSF : Go.Proofs.SlLaysF0.n6 Tryz.prog Tryz.laysSF_ren := {
  mixed := by kernel_rfl
  f6 := ⟨Tryz.f128.name, by decide, Tryz.func128.trans (congrArg some (by kernel_rfl))⟩
  f14 := ⟨Tryz.f172.name, by decide, Tryz.func172.trans (congrArg some (by kernel_rfl))⟩
  f15 := Tryz.func173.trans (congrArg some (by kernel_rfl))
  f20 := ⟨Tryz.f191.name, by decide, Tryz.func191.trans (congrArg some (by kernel_rfl))⟩
  f21 := ⟨Tryz.f192.name, by decide, Tryz.func192.trans (congrArg some (by kernel_rfl))⟩
  f22 := ⟨Tryz.f193.name, by decide, Tryz.func193.trans (congrArg some (by kernel_rfl))⟩
  f23 := ⟨Tryz.f194.name, by decide, Tryz.func194.trans (congrArg some (by kernel_rfl))⟩
  f24 := ⟨Tryz.f195.name, by decide, Tryz.func195.trans (congrArg some (by kernel_rfl))⟩
  f25 := ⟨Tryz.f196.name, by decide, Tryz.func196.trans (congrArg some (by kernel_rfl))⟩
  f26 := ⟨Tryz.f197.name, by decide, Tryz.func197.trans (congrArg some (by kernel_rfl))⟩
  f27 := ⟨Tryz.f198.name, by decide, Tryz.func198.trans (congrArg some (by kernel_rfl))⟩
  f28 := Tryz.func199.trans (congrArg some (by kernel_rfl))
  f29 := Tryz.func200.trans (congrArg some (by kernel_rfl))
  f46 := ⟨Tryz.f209.name, by decide, Tryz.func209.trans (congrArg some (by kernel_rfl))⟩
  f47 := Tryz.func210.trans (congrArg some (by kernel_rfl))
  f48 := Tryz.func211.trans (congrArg some (by kernel_rfl))
  f49 := ⟨Tryz.f212.name, by decide, Tryz.func212.trans (congrArg some (by kernel_rfl))⟩
  f50 := ⟨Tryz.f213.name, by decide, Tryz.func213.trans (congrArg some (by kernel_rfl))⟩
  f57 := ⟨Tryz.f220.name, by decide, Tryz.func220.trans (congrArg some (by kernel_rfl))⟩
  t0 := Tryz.underlying0
  a0 := Tryz.isAgg0
  z0 := Tryz.sizeOf0
  v0 := Tryz.zeroValue0
  t3 := Tryz.underlying3
  a3 := Tryz.isAgg3
  z3 := Tryz.sizeOf3
  v3 := Tryz.zeroValue3
  t4 := Tryz.underlying4
  a4 := Tryz.isAgg4
  z4 := Tryz.sizeOf4
  v4 := Tryz.zeroValue4
  t5 := Tryz.underlying5
  a5 := Tryz.isAgg5
  z5 := Tryz.sizeOf5
  v5 := Tryz.zeroValue5
  t9 := Tryz.underlying9
  a9 := Tryz.isAgg9
  z9 := Tryz.sizeOf9
  v9 := Tryz.zeroValue9
  t22 := Tryz.underlying27
  a22 := Tryz.isAgg27
  z22 := Tryz.sizeOf27
  v22 := Tryz.zeroValue27
  t25 := Tryz.underlying134
  a25 := Tryz.isAgg134
  z25 := Tryz.sizeOf134
  v25 := Tryz.zeroValue134
  t39 := Tryz.underlying187
  a39 := Tryz.isAgg187
  z39 := Tryz.sizeOf187
  v39 := Tryz.zeroValue187
  t45 := Tryz.underlying200
  a45 := Tryz.isAgg200
  z45 := Tryz.sizeOf200
  v45 := Tryz.zeroValue200
  t46 := Tryz.underlying201
  a46 := Tryz.isAgg201
  z46 := Tryz.sizeOf201
  v46 := Tryz.zeroValue201
  t50 := Tryz.underlying137
  a50 := Tryz.isAgg137
  z50 := Tryz.sizeOf137
  v50 := Tryz.zeroValue137
  t53 := Tryz.underlying207
  a53 := Tryz.isAgg207
  z53 := Tryz.sizeOf207
  v53 := Tryz.zeroValue207
  t55 := Tryz.underlying127
  a55 := Tryz.isAgg127
  z55 := Tryz.sizeOf127
  v55 := Tryz.zeroValue127
  t66 := Tryz.underlying215
  a66 := Tryz.isAgg215
  z66 := Tryz.sizeOf215
  v66 := Tryz.zeroValue215
  t70 := Tryz.underlying219
  a70 := Tryz.isAgg219
  z70 := Tryz.sizeOf219
  v70 := Tryz.zeroValue219
  t76 := Tryz.underlying225
  a76 := Tryz.isAgg225
  z76 := Tryz.sizeOf225
  v76 := Tryz.zeroValue225
  t77 := Tryz.underlying226
  a77 := Tryz.isAgg226
  z77 := Tryz.sizeOf226
  v77 := Tryz.zeroValue226 }
end Go.Proofs
namespace Go.V
open Go.Proofs
set_option maxHeartbeats 1000000
set_option maxRecDepth 10000
set_option linter.unusedSimpArgs false
set_option linter.unusedVariables false
theorem callOK_same0 {P : Program} {f e g : Nat} (hcall : ∀ (ad : Option Addr) (cap : Nat) (w : World), CallsF P f #[.slice ad 0 cap, .func (.func g) #[] #[]] w fun e' w' => e' = .returned (.tuple #[]) ∧ w' = w) : CallOK P f [.c (.sl 0 e 0 []), .c (.fn 0 g [])] (.tup []) [.c (.sl 0 e 0 []), .c (.fn 0 g [])] := by
  intro I w las he hh hnd hI
  obtain ⟨l0, r, rfl⟩ : ∃ l0 r, las = l0 :: r := by cases las with
    | nil => simp at he
    | cons l0 r => exact ⟨l0, r, rfl⟩
  obtain ⟨l1, r, rfl⟩ : ∃ l1 r', r = l1 :: r' := by cases r with
    | nil => simp at he
    | cons l0 r => exact ⟨l0, r, rfl⟩
  simp only [List.map_cons, List.cons.injEq, List.map_eq_nil_iff] at he
  obtain ⟨e0, e1, rfl⟩ := he
  obtain ⟨t0, rfl, e0'⟩ := LV.c_of_erase e0
  obtain ⟨t1, rfl, e1'⟩ := LV.c_of_erase e1
  obtain ⟨v1, rfl⟩ := leaf_of_erase e1' rfl
  have hh0 := hh (.c t0) (by simp)
  have hh1 := hh (.c (.leaf v1 (.fn 0 g []))) (by simp)
  simp only [LV.holds] at hh0 hh1
  have hh1' := hh1
  simp only [LT.holds, Im, ImC] at hh1
  obtain ⟨⟨us, rfl, rfl⟩, hone⟩ := hh1
  have hv0 : ∃ ad cap, t0.val = .slice ad 0 cap := by
    cases t0 with
    | own b cap e' n ls =>
      simp only [LT.erase, PT.sl.injEq, true_and] at e0'
      obtain ⟨rfl, rfl, hls⟩ := e0'
      exact ⟨_, _, rfl⟩
    | leaf v p =>
      simp only [LT.erase] at e0'
      subst e0'
      simp only [LT.holds, Im] at hh0
      obtain ⟨⟨_, _, ad, rfl⟩, hv1⟩ := hh0
      exact ⟨_, _, rfl⟩
  obtain ⟨ad, cap, hv0⟩ := hv0
  have ev : [LV.c t0, LV.c (.leaf (.func (.func g) #[] #[]) (.fn 0 g []))].map LV.val = [.slice ad 0 cap, .func (.func g) #[] #[]] := by
    simp only [List.map_cons, List.map_nil, LV.val, hv0]
    simp only [LT.val]
  rw [ev]
  refine (hcall ad cap w).mono ?_
  rintro e1 w' ⟨rfl, rfl⟩
  refine ⟨.tup [], [.c t0, .c (.leaf (.func (.func g) #[] #[]) (.fn 0 g []))], by simp [LV.val, LV.valL], by simp [LV.erase, LV.eraseL], by simp [LV.erase, LT.erase, e0'], by simp [LV.full, LV.trees, LT.val, hv0], by simp [LV.holds, LV.holdsL], ?_, ?_, ?_, ?_⟩
  · intro l hl
    simp only [List.mem_cons, List.not_mem_nil, or_false] at hl
    rcases hl with rfl | rfl
    · exact hh0
    · exact hh1'
  · simpa [LV.blocks, LV.blocksL, LT.blocks] using hnd
  · intro b hb
    left
    simpa [LV.blocks, LV.blocksL, LT.blocks] using hb
  · exact Kp.refl _ _
def encP (p : GPrefix) : List Value := [.int .i64 p.Addr, .int .i64 p.Len]
instance : Inhabited GPrefix := ⟨⟨0, 0⟩⟩
def srtOf (xs : List GPrefix) : List GPrefix := xs.mergeSort fun x y => !Go.Proofs.ltOf cmpPx y x
theorem swoP : Go.Sort.SWO (Go.Proofs.ltOf cmpPx) where
  irrefl := fun x => by
    unfold Go.Proofs.ltOf
    exact decide_eq_false (ltP_irr x)
  trans := fun x y z h1 h2 => by
    unfold Go.Proofs.ltOf at *
    exact decide_eq_true (ltP_trans (of_decide_eq_true h1) (of_decide_eq_true h2))
  ntrans := fun x y z h1 h2 => by
    unfold Go.Proofs.ltOf at *
    have g1 := of_decide_eq_false h1
    have g2 := of_decide_eq_false h2
    refine decide_eq_false ?_
    rw [cmpPx_lt] at *
    omega
theorem totP (x y : GPrefix) (h1 : Go.Proofs.ltOf cmpPx x y = false) (h2 : Go.Proofs.ltOf cmpPx y x = false) : x = y := by
  unfold Go.Proofs.ltOf at *
  have g1 := of_decide_eq_false h1
  have g2 := of_decide_eq_false h2
  rw [cmpPx_lt] at g1 g2
  rw [px_ext]
  omega
theorem srtOf_le (xs : List GPrefix) : leP (srtOf xs) := by
  have h := List.pairwise_mergeSort (le := fun x y => !Go.Proofs.ltOf cmpPx y x) (fun a b c h1 h2 => by
    simp only [Bool.not_eq_true'] at *
    exact swoP.ntrans c b a h2 h1) (fun a b => by
    simp only [Bool.or_eq_true, Bool.not_eq_true']
    unfold Go.Proofs.ltOf
    by_cases h : cmpPx b a < 0
    · right
      refine decide_eq_false ?_
      rw [cmpPx_lt] at *
      omega
    · left
      exact decide_eq_false h) xs
  unfold leP srtOf
  refine h.imp ?_
  intro a b hab
  simp only [Bool.not_eq_true'] at hab
  unfold Go.Proofs.ltOf at hab
  exact of_decide_eq_false hab
theorem srtOf_mem (xs : List GPrefix) (x : GPrefix) : x ∈ srtOf xs ↔ x ∈ xs := by simp [srtOf]
theorem srtOf_len (xs : List GPrefix) : (srtOf xs).length = xs.length := by simp [srtOf]
theorem srtOf_nil : srtOf [] = [] := by simp [srtOf]
theorem ok_SortFunc_Prefix (xs : List GPrefix) (hl : xs.length ≤ 1000000) : CallOK Tryz.prog 128 [.c (.sl 0 77 xs.length (xs.flatMap GPrefix.c)), .c (.fn 0 97 [])] (.tup []) [.c (.sl 0 77 (srtOf xs).length ((srtOf xs).flatMap GPrefix.c)), .c (.fn 0 97 [])] := by
  have hen : ∀ f, (f = 128 ∨ f = 97) → ∀ args w, (callFunc f args).run Tryz.prog w = .ok (.enter f args) w := by
    rintro f (rfl | rfl)
    · exact enters_of Tryz.func128 (by kernel_rfl) rfl
    · exact enters_of Tryz.func97 (by kernel_rfl) rfl
  by_cases hx : xs = []
  · subst hx
    rw [srtOf_nil]
    refine callOK_same0 fun ad cap w => ?_
    exact CallsF.of_calls Tryz.func128 (by kernel_rfl) rfl (Go.Proofs.AnyF.slices_SortFunc_none Tryz.laysSF ad cap (.func (.func 97) #[] #[]) w)
  · have e1 : ∀ l : List GPrefix, l.flatMap GPrefix.c = rowC encP l := fun l => by
      unfold rowC
      rfl
    rw [e1, e1]
    refine callOK_sort (k := 2) encP (by kernel_rfl) (by decide) (fun _ => rfl) (fun x v hv => by
      simp only [encP, List.mem_cons, List.not_mem_nil, or_false] at hv
      rcases hv with rfl | rfl <;> rfl) xs (srtOf xs) hx (srtOf_len xs) (hen _ (.inl rfl)) ?_
    intro blk cap w hH hb
    have h := Go.Proofs.AnyQ.slices_SortFunc_total Tryz.laysSF 2 (fun w => by kernel_rfl) (fun w => by kernel_rfl) encP (fun _ => rfl) (fun x v hv => by
      simp only [encP, List.mem_cons, List.not_mem_nil, or_false] at hv
      rcases hv with rfl | rfl <;> rfl) cmpPx swoP 97 #[] blk 0 cap xs.toArray w (hen _ (.inr rfl)) (cmpLays_of encP (fun x v hv => by
      simp only [encP, List.mem_cons, List.not_mem_nil, or_false] at hv
      rcases hv with rfl | rfl <;> rfl) (hen _ (.inr rfl)) (fun x y => ok_compare x y) blk 0 _ w) hH hb (by simp; omega) totP
    have h2 : Calls Tryz.prog 128 _ w _ := h
    simpa [srtOf] using h2
theorem ok_EqualI (k k' : Nat) (xs ys : List Int) (ha : xs.length ≤ 140737488351232) (hb : ys.length ≤ 140737488351232) : CallOK Tryz.prog 175 [.c (rd k xs.length (xs.map pi)), .c (rd k' ys.length (ys.map pi))] (.c (pb (decide (xs = ys)))) [.c (rd k xs.length (xs.map pi)), .c (rd k' ys.length (ys.map pi))] := by
  refine okS (fn := Tryz.f175) [] h0 Tryz.func175 (by kernel_rfl) rfl Tryz.ntmps175 Tryz.results175 (by simp) ?_
  simp
  refine brn_app (fun h => ?_) (fun h => ?_)
  · simp at h
    simp
    rintro rfl
    exact h rfl
  · simp at h
    have hl : ys.length = xs.length := by omega
    simp
    refine loopS [0, 1, 12, 13] [] (fun n st => ∃ (i : Nat), i + n = xs.length ∧ (xs.drop i = ys.drop i ↔ xs = ys) ∧ st = ⟨slOf 26 [(0, .t (rd k xs.length (xs.map pi))), (1, .t (rd k' ys.length (ys.map pi))), (12, .t (pi xs.length)), (13, .t (pi i))], ofL []⟩) xs.length ?_ ?_
    · rintro Inv hI
      simp
      subst hI
      exact ⟨0, by omega, by simp, rfl⟩
    · rintro Inv hI n st ⟨i, hi, htk, rfl⟩
      refine ewr_sound (M := []) h0 ?_
      simp
      refine brn_app (fun h => ?_) (fun h => ?_)
      · simp at h
        have hib : i < ys.length := by omega
        rw [drop_step xs i h, drop_step ys i hib, List.cons.injEq] at htk
        simp
        refine drawP E0 [⟨[], allD 26, true⟩, ⟨[], allD 26, true⟩, ⟨[], allD 26, true⟩, ⟨[], allD 26, true⟩, ⟨[], allD 26, true⟩, ⟨[], allD 26, true⟩, ⟨[], allD 26, true⟩, ⟨[], allD 26, true⟩, ⟨[], allD 26, true⟩] h0 hm (E0_ok _) (by kernel_rfl) (by kernel_rfl) ?_
        simp [h, hib]
        refine brn_app (fun h2 => ?_) (fun h2 => ?_)
        · simp at h2
          simp
          intro he
          exact h2 (htk.2 he).1
        · simp at h2
          simp
          subst hI
          exact Less_mk (n - 1) (by omega) ⟨i + 1, by omega, ⟨fun h4 => htk.1 ⟨h2, h4⟩, fun h4 => (htk.2 h4).2⟩, by rw [wrNext i (by omega)]⟩
      · simp at h
        rw [List.drop_of_length_le (by omega), List.drop_of_length_le (by omega)] at htk
        simp
        exact htk.1 rfl
theorem attrs_ext (a b : GAttrs) : decide (a = b) = (decide (a.Origin = b.Origin) && (decide (a.Path = b.Path) && (decide (a.Next = b.Next) && (decide (a.Med = b.Med) && (decide (a.Pref = b.Pref) && decide (a.Comms = b.Comms)))))) := by
  cases a
  cases b
  simp
theorem ok_sameAttrs (k k' : Nat) (a b : GAttrs) (ha : attrOK a) (hb : attrOK b) : CallOK Tryz.prog 132 [.agg (GAttrs.ci k a), .agg (GAttrs.ci k' b)] (.c (pb (decide (a = b)))) [.agg (GAttrs.ci k a), .agg (GAttrs.ci k' b)] := by
  refine okS (fn := Tryz.f132) [] h0 Tryz.func132 (by kernel_rfl) rfl Tryz.ntmps132 Tryz.results132 (by simp) ?_
  rw [attrs_ext]
  by_cases c1 : a.Origin = b.Origin
  · simp [c1]
    refine Inv_intro (ok_EqualI k k' a.Path b.Path ha.1 hb.1) ?_
    by_cases c2 : a.Path = b.Path
    · by_cases c3 : a.Next = b.Next
      · by_cases c4 : a.Med = b.Med
        · by_cases c5 : a.Pref = b.Pref
          · simp [c2, c3, c4, c5]
            refine Inv_intro (ok_EqualI k k' a.Comms b.Comms ha.2 hb.2) ?_
            simp
          · simp [c2, c3, c4, c5]
        · simp [c2, c3, c4]
      · simp [c2, c3]
    · simp [c2]
  · simp [c1]
theorem ok_changed1 (q ka kb : Nat) (a b : GRib) (p : GPrefix) (ha : ribOK a) (hga : goodRib a = true) (hb : ribOK b) (hgb : goodRib b = true) : CallOK Tryz.prog 131 [.agg p.c, .ip q (GRib.ci (ka + 1) a), .ip q (GRib.ci (kb + 1) b)] (.c (pb (decide (bestR a p = bestR b p)))) [.agg p.c, .ip q (GRib.ci (ka + 1) a), .ip q (GRib.ci (kb + 1) b)] := by
  refine okS (fn := Tryz.f131) [] h0 Tryz.func131 (by kernel_rfl) rfl Tryz.ntmps131 Tryz.results131 (by simp) ?_
  simp
  refine Inv_intro (ok_bestAt ka a p ha hga) ?_
  cases h1 : bestR a p with
  | none =>
    simp [outO]
    refine Inv_intro (ok_bestAt kb b p hb hgb) ?_
    cases h2 : bestR b p with
    | none =>
      simp [outO]
      refine Inv_intro (ok_sameAttrs 0 0 zeroO.Attrs zeroO.Attrs ⟨by decide, by decide⟩ ⟨by decide, by decide⟩) ?_
      simp
    | some y => simp [outO]
  | some x =>
    have hx := bestR_small h1
    simp [outO]
    refine Inv_intro (ok_bestAt kb b p hb hgb) ?_
    cases h2 : bestR b p with
    | none => simp [outO]
    | some y =>
      have hy := bestR_small h2
      by_cases hp : x.Peer = y.Peer
      · simp [outO, hp]
        refine Inv_intro (ok_sameAttrs (ka + 1) (kb + 1) x.Attrs y.Attrs ⟨by omega, by omega⟩ ⟨by omega, by omega⟩) ?_
        have : x = y ↔ x.Attrs = y.Attrs := by
          cases x; cases y
          simp only [GOffer.mk.injEq] at hp ⊢
          exact ⟨fun h => h.2, fun h => ⟨hp, h⟩⟩
        simp [this]
      · have : ¬ x = y := fun h => hp (by rw [h])
        simp [outO, hp, this]
def ribY (y : Nat × GRib) : List PT := GRib.ci y.1 y.2
def prefsY (l : List (Nat × GRib)) : List GPrefix := l.flatMap fun y => prefsOf y.2
theorem prefsY_snoc (l : List (Nat × GRib)) (i : Nat) (h : i < l.length) : prefsY (l.take (i + 1)) = prefsY (l.take i) ++ prefsOf l[i].2 := by
  unfold prefsY
  rw [take_step l i h, List.flatMap_append]
  simp
theorem ok_changed2 (ka kb : Nat) (a b : GRib) (ha : ribOK a) (hga : goodRib a = true) (hb : ribOK b) (hgb : goodRib b = true) : CallOK Tryz.prog 80 [.agg (GRib.ci (ka + 1) a), .agg (GRib.ci (kb + 1) b)] (.c (.sl 0 77 (changedG a b).length ((changedG a b).flatMap GPrefix.c))) [.agg (GRib.ci (ka + 1) a), .agg (GRib.ci (kb + 1) b)] := by
  have hna := (goodRib_gW hga).2.1
  have hnb := (goodRib_gW hgb).2.1
  refine okS (fn := Tryz.f80) [(128, [1,0]), (130, [2]), (129, [2,0])] h0 Tryz.func80 (by kernel_rfl) rfl Tryz.ntmps80 Tryz.results80 (by simp) ?_
  simp
  refine ewp_sw (.op 1 0 0) (.op 8 4 0) rfl rfl ?_
  simp
  obtain ⟨rs, hrs⟩ : ∃ rs : List (Nat × GRib), rs = [(ka + 1, a), (kb + 1, b)] := ⟨_, rfl⟩
  have hcells : rs.flatMap ribY = GRib.ci (ka + 1) a ++ GRib.ci (kb + 1) b := by rw [hrs]; rfl
  have hn2 : rs.length = 2 := by rw [hrs]; rfl
  have hrr : ∀ y ∈ rs, y.2.Rows.length ≤ 20 := by
    rw [hrs]
    intro y hy
    simp only [List.mem_cons, List.not_mem_nil, or_false] at hy
    rcases hy with rfl | rfl
    · exact hna
    · exact hnb
  have hpl : ∀ i, i ≤ 2 → (prefsY (rs.take i)).length ≤ 40 := by
    intro i hi
    have e : ∀ i, (prefsY (rs.take i)).length ≤ (prefsY rs).length := fun i => by
      have h : prefsY rs = prefsY (rs.take i) ++ prefsY (rs.drop i) := by
        unfold prefsY
        rw [← List.flatMap_append, List.take_append_drop]
      rw [h, List.length_append]
      omega
    refine Nat.le_trans (e i) ?_
    rw [hrs]
    simp [prefsY, prefsOf]
    omega
  refine loopS [2, 3, 5, 13, 14, 15] [.op 0 0 0, .op 0 1 0, .op 8 4 0, .op 2 2 0] (fun m st => ∃ (i : Nat), i + m = 2 ∧ st = ⟨slOf 39 [(2, .ptr ⟨.op 0 0 0, []⟩ 0), (3, .ptr ⟨.op 0 1 0, []⟩ 0), (5, .ref ⟨.op 8 4 0, []⟩ 0 (prefsY (rs.take i)).length), (13, .ref ⟨.op 2 2 0, []⟩ 0 2), (14, .t (pi 2)), (15, .t (pi i))], ofL [(.op 0 0 0, .sl 0 32 1 (GRib.ci (ka + 1) a)), (.op 0 1 0, .sl 0 32 1 (GRib.ci (kb + 1) b)), (.op 8 4 0, .sl 0 77 (prefsY (rs.take i)).length ((prefsY (rs.take i)).flatMap GPrefix.c)), (.op 2 2 0, .sl 0 32 2 (rs.flatMap ribY))]⟩) 2 ?_ ?_
  · rintro Inv hI
    simp
    subst hI
    refine ⟨0, by omega, ?_⟩
    rw [hcells]
    rfl
  · rintro Inv hI m st ⟨i, hi, rfl⟩
    refine ewr_sound (M := [(128, [1, 0]), (130, [2]), (129, [2, 0])]) h0 ?_
    simp
    refine brn_app (fun c => ?_) (fun c => ?_)
    · simp at c
      have hil : i < rs.length := by omega
      have hd := fm_drop ribY 2 (fun _ => rfl) rs i hil
      have hlen := fm_len ribY 2 (fun _ => rfl) rs
      rw [hn2] at hlen
      have hlt : i * 2 < 4 := by omega
      have hle : i * 2 + 2 ≤ 4 := by omega
      have hst := prefsY_snoc rs i hil
      have hp1 := hpl (i + 1) (by omega)
      rw [hst, List.length_append] at hp1
      have hy20 := hrr _ (List.getElem_mem hil)
      generalize hye : rs[i] = y at hd hst hp1 hy20
      generalize hDe : (rs.drop (i + 1)).flatMap ribY = D at hd
      generalize hRe : rs.flatMap ribY = R at *
      obtain ⟨ky, y⟩ := y
      simp only [ribY] at hd
      simp only at hst hp1 hy20
      simp [c, hd, hlen, hlt, hle]
      obtain ⟨P, hP⟩ : ∃ P, P = prefsY (rs.take i) := ⟨_, rfl⟩
      rw [← hP] at hst hp1 ⊢
      refine loopS [2, 3, 5, 13, 14, 15, 20, 21, 22] [.op 0 0 0, .op 0 1 0, .op 8 4 0, .op 2 2 0] (fun m st => ∃ (j : Nat), j + m = y.Rows.length ∧ st = ⟨slOf 39 [(2, .ptr ⟨.op 0 0 0, []⟩ 0), (3, .ptr ⟨.op 0 1 0, []⟩ 0), (5, .ref ⟨.op 8 4 0, []⟩ 0 (P ++ (y.Rows.take j).map GRow.Prefix).length), (13, .ref ⟨.op 2 2 0, []⟩ 0 2), (14, .t (pi 2)), (15, .t (pi i)), (20, .t (rd ky y.Rows.length (y.Rows.flatMap (GRow.ci ky)))), (21, .t (pi y.Rows.length)), (22, .t (pi j))], ofL [(.op 0 0 0, .sl 0 32 1 (GRib.ci (ka + 1) a)), (.op 0 1 0, .sl 0 32 1 (GRib.ci (kb + 1) b)), (.op 8 4 0, .sl 0 77 (P ++ (y.Rows.take j).map GRow.Prefix).length ((P ++ (y.Rows.take j).map GRow.Prefix).flatMap GPrefix.c)), (.op 2 2 0, .sl 0 32 2 R)]⟩) y.Rows.length ?_ ?_
      · rintro Inv2 hI2
        simp
        subst hI2
        refine ⟨0, by omega, ?_⟩
        simp
      · rintro Inv2 hI2 m2 st ⟨j, hj, rfl⟩
        have hQl : (P ++ (y.Rows.take j).map GRow.Prefix).length ≤ 40 := by
          unfold prefsOf at hp1
          rw [List.length_map] at hp1
          rw [List.length_append, List.length_map, List.length_take]
          omega
        have hsn : ∀ h : j < y.Rows.length, P ++ (y.Rows.take (j + 1)).map GRow.Prefix = (P ++ (y.Rows.take j).map GRow.Prefix) ++ [y.Rows[j].Prefix] := fun h => by
          rw [take_step y.Rows j h, List.map_append, List.append_assoc]
          rfl
        have hfin : j = y.Rows.length → P ++ (y.Rows.take j).map GRow.Prefix = P ++ prefsOf y := by
          rintro rfl
          rw [List.take_length]
          rfl
        generalize P ++ (y.Rows.take j).map GRow.Prefix = O at hQl hsn hfin ⊢
        refine ewr_sound (M := [(128, [1, 0]), (130, [2]), (129, [2, 0])]) h0 ?_
        simp
        refine brn_app (fun e => ?_) (fun e => ?_)
        · simp at e
          have hsn' := hsn e
          have hd2 := fm_drop (GRow.ci ky) 3 (fun _ => rfl) y.Rows j e
          have hlen2 := fm_len (GRow.ci ky) 3 (fun _ => rfl) y.Rows
          have hlt2 : j * 3 < y.Rows.length * 3 := by omega
          have hA := fm_len GPrefix.c 2 (fun _ => rfl) O
          have ht : List.take (O.length * 2) (O.flatMap GPrefix.c) = O.flatMap GPrefix.c := List.take_of_length_le (by omega)
          have hb1 : (O.length + 1) * 16 ≤ 140737488355328 := by omega
          have hb2 : O.length ≤ 9223372036854775806 := by omega
          simp [e, hd2, hlen2, hlt2, hA, ht, hb1, hb2]
          subst hI2
          refine Less_mk (m2 - 1) (by omega) ⟨j + 1, by omega, ?_⟩
          rw [wrNext j (by omega), hsn']
          all_goals simp
        · simp at e
          have hjn : j = y.Rows.length := by omega
          have hfin' := hfin hjn
          simp
          subst hI
          refine Less_mk (m - 1) (by omega) ⟨i + 1, by omega, ?_⟩
          rw [wrNext i (by omega), hst, hfin']
          all_goals simp
    · simp at c
      have hi2 : i = 2 := by omega
      subst hi2
      have hP : prefsY (rs.take 2) = prefsOf a ++ prefsOf b := by
        rw [List.take_of_length_le (by omega), hrs]
        simp [prefsY]
      have hPl := hpl 2 (by omega)
      rw [hP] at hPl ⊢
      have hun := comp_union (srtOf_le (prefsOf a ++ prefsOf b)) (srtOf_mem (prefsOf a ++ prefsOf b))
      have hch : changedG a b = (compP (srtOf (prefsOf a ++ prefsOf b))).filter fun p => !decide (bestR a p = bestR b p) := by
        rw [hun]
        rfl
      rw [hch]
      have hsl := srtOf_len (prefsOf a ++ prefsOf b)
      have hSo := ok_SortFunc_Prefix (prefsOf a ++ prefsOf b) (by omega)
      generalize prefsOf a ++ prefsOf b = X at *
      generalize srtOf X = Y at *
      have hcl := comp_len Y
      simp
      refine Inv_intro hSo ?_
      have hXl := fm_len GPrefix.c 2 (fun _ => rfl) X
      have hYl := fm_len GPrefix.c 2 (fun _ => rfl) Y
      have htX : List.take (X.length * 2) (X.flatMap GPrefix.c) = X.flatMap GPrefix.c := List.take_of_length_le (by omega)
      have htY : List.take (Y.length * 2) (Y.flatMap GPrefix.c) = Y.flatMap GPrefix.c := List.take_of_length_le (by omega)
      have hC := ok_Compact_Prefix Y (by omega)
      rw [hsl] at htY hC
      have hCl := fm_len GPrefix.c 2 (fun _ => rfl) (compP Y)
      have htC : List.take ((compP Y).length * 2) ((compP Y).flatMap GPrefix.c) = (compP Y).flatMap GPrefix.c := List.take_of_length_le (by omega)
      have hD := ok_DeleteFunc_Prefix 1 131 [GRib.ci (ka + 1) a, GRib.ci (kb + 1) b] (fun p => decide (bestR a p = bestR b p)) (compP Y) (by omega) (fun x _ => ok_changed1 1 ka kb a b x ha hga hb hgb)
      have hZl := fm_len GPrefix.c 2 (fun _ => rfl) ((compP Y).filter fun p => !decide (bestR a p = bestR b p))
      have htZ : List.take (((compP Y).filter fun p => !decide (bestR a p = bestR b p)).length * 2) (((compP Y).filter fun p => !decide (bestR a p = bestR b p)).flatMap GPrefix.c) = ((compP Y).filter fun p => !decide (bestR a p = bestR b p)).flatMap GPrefix.c := List.take_of_length_le (by omega)
      generalize compP Y = Z at *
      simp [hXl, hYl, htX, htY, hsl]
      refine Inv_intro hC ?_
      simp [hCl, htC]
      refine Inv_intro hD ?_
      generalize (Z.filter fun p => !decide (bestR a p = bestR b p)) = W at *
      simp [hZl, htZ]
theorem ok_changed (ka kb : Nat) (a b : GRib) (ha : ribOK a) (hga : goodRib a = true) (hb : ribOK b) (hgb : goodRib b = true) : CallOK Tryz.prog 80 [.agg (GRib.ci ka a), .agg (GRib.ci kb b)] (.c (.sl 0 77 (changedG a b).length ((changedG a b).flatMap GPrefix.c))) [.agg (GRib.ci ka a), .agg (GRib.ci kb b)] := by
  have h := ok_changed2 0 0 a b ha hga hb hgb
  refine CallOK.relabel ?_ rfl ?_
  · simpa only [List.map_cons, List.map_nil, rib_up] using h
  · intro w I I' lr he hh
    refine free_c ?_ he hh
    simp only [PT.free]
    exact free_px _
theorem step_app_run {P : Program} {ops : Array Oper} {o : Oper} {a : Act} {w : World} {K : Act → World → Prop} {Q : Exit → Act → World → Prop} {E : Prop}
    (hg : o.guard = none) (d x : Operand) (dT sT : TypeId) (hop : o.op = Op.call { callee := Callee.builtin Builtin.append, args := #[d, x], argTypes := #[dT, sT] })
    (v u : Value) (hd : a.eval d = v) (hx : a.eval x = u) {v' : Value} {w' : World} (hr : (Builtin.append_ #[dT, sT] o.type #[v, u]).run P w = .ok v' w') (hK : K (a.put o.dst v') w') :
    if Region.wanted o (yielded ops a.tmps) = true then Oper.wp P o a w K Q else E := by
  have hw : Region.wanted o (yielded ops a.tmps) = true := by simp [Region.wanted, hg]
  rw [if_pos hw]
  unfold Oper.wp
  simp [execOp, hop, resolve, invoke, builtin, hd, hx, hr, Result.andThen]
  exact hK
theorem wp_clear_run {P : Program} (w : World) {o : Oper} {a : Act} {K : Act → World → Prop} {Q : Exit → Act → World → Prop} (s : Operand) (t : TypeId)
    (ho : o.op = .call { callee := .builtin .clear, args := #[s], argTypes := #[t] }) (v : Value) (hd : a.eval s = v) {v' : Value} {w' : World}
    (hr : (Builtin.clear_ #[t] o.type #[v]).run P w = .ok v' w') (h : K (a.put o.dst v') w') : o.wp P a w K Q := by
  unfold Oper.wp execOp
  simp only [ho, resolve, invoke, builtin, Sem.run_bind, Sem.run_pure, Result.andThen_ok, List.map_toArray, List.map_cons, List.map_nil, hd, hr]
  exact h
theorem wpList_clear_run {P : Program} (w : World) {ops : Array Oper} {rest : List Oper} {o : Oper} {a : Act} {Q : Exit → Act → World → Prop} (hgd : o.guard = none) (s : Operand) (t : TypeId)
    (ho : o.op = .call { callee := .builtin .clear, args := #[s], argTypes := #[t] }) (v : Value) (hd : a.eval s = v) {v' : Value} {w' : World}
    (hr : (Builtin.clear_ #[t] o.type #[v]).run P w = .ok v' w') (h : wpList P ops Q rest (a.put o.dst v') w') : wpList P ops Q (o :: rest) a w :=
  wpList_plain hgd fun _ hK => wp_clear_run w s t ho v hd hr (hK _ _ h)
theorem run_clear_n {P : Program} (w : World) (t ty e : TypeId) (b o k cap : Nat) (inf : TypeInfo) (z : Value) (hu : P.underlying t = some (.slice e)) (hi : P.info? e = some inf) (hz : inf.zero = some z)
    (hc : ∀ j, j < (k + 1) * z.cells.size → (w.cell? ⟨b, o + j, none⟩).isSome = true) (hf : ∀ j, j < (k + 1) * z.cells.size → w.frozen? ⟨b, o + j, none⟩ = false) (h1 : ∀ v ∈ z.cells.toList, v.oneCell' = true) :
    (Builtin.clear_ #[t] ty #[.slice (some ⟨b, o, none⟩) (k + 1) cap]).run P w = .ok (.tuple #[]) (w.setCells b o ((List.replicate (k + 1) z.cells.toList).flatten)) := by
  have hl : ((List.replicate (k + 1) z.cells.toList).flatten).length = (k + 1) * z.cells.size := by simp
  have hst := run_storeCells_cells (P := P) b o ((List.replicate (k + 1) z.cells.toList).flatten) 0 w (by rw [hl]; simpa using hc) (by rw [hl]; simpa using hf) (by
    intro v hv
    obtain ⟨l, hl, hvl⟩ := List.mem_flatten.1 hv
    rw [(List.mem_replicate.1 hl).2] at hvl
    exact h1 v hvl)
  have hzt := zeroCells_toList z.cells (k + 1)
  simp [-Value.cells, Builtin.clear_, run_underlying hu, zeroValue, typeInfo, hi, hz, Result.andThen, hzt]
  rw [hst]
  rfl
theorem del_walkOffer (b n c i j q : Nat) (A : Addr) (w w1 w2 : World) (x2 : Value) (hij : i < j) (hj : j ≤ n) (hnc : n ≤ c) (hq : q < n)
    (hA : (if c = j then some (⟨b, 0, none⟩ : Addr) else some ⟨b, j * 7, none⟩) = some A)
    (hr : ∀ ty, (Builtin.append_ #[26, 26] ty #[.slice (some ⟨b, 0, none⟩) i c, .slice (some A) (n - j) (c - j)]).run Tryz.prog w.drew = .ok (.slice (some ⟨b, 0, none⟩) q c) w1)
    (hc : ∀ ty, (Builtin.clear_ #[26] ty #[.slice (some ⟨b, q * 7, none⟩) (n - q) (c - q)]).run Tryz.prog w1 = .ok x2 w2) :
    Calls Tryz.prog 126 #[.slice (some ⟨b, 0, none⟩) n c, .int .i64 i, .int .i64 j] w fun e w' => e = .returned (.slice (some ⟨b, 0, none⟩) q c) ∧ w' = w2 := by
  have mixed : Tryz.prog.follows .mixedOrders = true := by kernel_rfl
  have tS : Tryz.prog.underlying 26 = some (.slice 81) := by kernel_rfl
  have uS := run_underlying tS
  have zE : ∀ w, (Go.sizeOf 81).run Tryz.prog w = .ok 7 w := fun w => by kernel_rfl
  have zS : ∀ w, (Go.sizeOf 26).run Tryz.prog w = .ok 1 w := fun w => by kernel_rfl
  have aS : ∀ w, (isAgg 26).run Tryz.prog w = .ok false w := fun w => by kernel_rfl
  have t3 : Tryz.prog.underlying 3 = some (.int .i64) := by kernel_rfl
  have u3 := run_underlying t3
  have a3 : ∀ w, (isAgg 3).run Tryz.prog w = .ok false w := fun w => by kernel_rfl
  have z3 : ∀ w, (Go.sizeOf 3).run Tryz.prog w = .ok 1 w := fun w => by kernel_rfl
  have hne : ¬ ((i : Int) = (j : Int)) := by omega
  have hic : i ≤ c := by omega
  have hjc : j ≤ c := by omega
  have hij' : i ≤ j := by omega
  have hqn : q ≤ n := by omega
  have hqc : q ≤ c := by omega
  have hcq : ¬ (c = q) := by omega
  go_enter Tryz.func126, Tryz.ntmps126
  go_wp2_with fail
  go_region_law_o (refine step_app_run rfl _ _ 26 26 rfl (.slice (some ⟨b, 0, none⟩) i c) (.slice (some A) (n - j) (c - j)) (by simp [Act.eval, Act.put]) (by simp [Act.eval, Act.put]) (hr _) ?_)
  go_wp2_with (at_builtin; refine wpList_clear_run _ rfl _ 26 rfl _ rfl (hc _) ?_)
  go_ret
  exact ⟨rfl, rfl⟩
theorem del_worldOffer (b n c i j : Nat) (w : World) (arr : Array Value) (cv : List Value) (hba : w.heap[b]? = some (.cells arr 81 (0, 0)))
    (hcl : cv.length = n * 7) (hca : c * 7 ≤ arr.size) (hnc : n ≤ c) (hij : i < j) (hj : j ≤ n)
    (hcv : ∀ (t : Nat) u, cv[t]? = some u → arr[t]? = some u) (h1c : ∀ v ∈ cv, v.oneCell' = true) :
    ∃ (arr' : Array Value) (w' : World), Calls Tryz.prog 126 #[.slice (some ⟨b, 0, none⟩) n c, .int .i64 i, .int .i64 j] w (fun e w'' => e = .returned (.slice (some ⟨b, 0, none⟩) (i + (n - j)) c) ∧ w'' = w') ∧
      w'.heap[b]? = some (.cells arr' 81 (0, 0)) ∧ c * 7 ≤ arr'.size ∧ (∀ (t : Nat) u, (cv.take (i * 7) ++ cv.drop (j * 7))[t]? = some u → arr'[t]? = some u) ∧ Kp [b] w w' := by
  have tS : Tryz.prog.underlying 26 = some (.slice 81) := by kernel_rfl
  obtain ⟨inf, hinf⟩ := tsz_info (P := Tryz.prog) (t := 81) (by simp)
  have hsz : inf.size = 7 := by
    have h1 : tsz Tryz.prog 81 = inf.size := by simp only [tsz, hinf]
    have h2 : tsz Tryz.prog 81 = 7 := by kernel_rfl
    omega
  have hzz : tzero Tryz.prog 81 = inf.zero := by simp only [tzero, hinf]
  obtain ⟨z, hz⟩ : ∃ z, inf.zero = some z := by
    have h2 : (tzero Tryz.prog 81).isSome = true := by kernel_rfl
    rw [hzz] at h2
    exact Option.isSome_iff_exists.1 h2
  have hzs : z.cells.size = 7 := by
    have h2 : (tzero Tryz.prog 81).map (fun z => z.cells.size) = some 7 := by kernel_rfl
    rw [hzz, hz] at h2
    simpa using h2
  have hz1 : ∀ v ∈ z.cells.toList, v.oneCell' = true := by
    have h2 : (tzero Tryz.prog 81).map (fun z => z.cells.toList.all Value.oneCell') = some true := by kernel_rfl
    rw [hzz, hz] at h2
    have h3 : z.cells.toList.all Value.oneCell' = true := by simpa using h2
    exact List.all_eq_true.1 h3
  have hcellb : ∀ (k : Nat) u, cv[k]? = some u → w.cell? ⟨b, k, none⟩ = some u := fun k u h => by rw [cell_at hba]; exact hcv k u h
  obtain ⟨news, hnews⟩ : ∃ news, news = cv.drop (j * 7) := ⟨_, rfl⟩
  have hnl : news.length = (n - j) * 7 := by rw [hnews, List.length_drop, hcl]; omega
  have hnat : ∀ (t : Nat) u, news[t]? = some u → cv[j * 7 + t]? = some u := fun t u h => by rw [hnews] at h; rwa [List.getElem?_drop] at h
  obtain ⟨A, hA, hsrc⟩ : ∃ A : Addr, (if c = j then some (⟨b, 0, none⟩ : Addr) else some ⟨b, j * 7, none⟩) = some A ∧ ∀ (t : Nat) u, news[t]? = some u → w.drew.cell? (A.add t) = some u := by
    by_cases h : c = j
    · refine ⟨⟨b, 0, none⟩, by simp [h], fun t u hu => ?_⟩
      have := (List.getElem?_eq_some_iff.1 hu).1
      omega
    · refine ⟨⟨b, j * 7, none⟩, by simp [h], fun t u hu => ?_⟩
      rw [Addr.add_lit]
      exact hcellb _ u (hnat t u hu)
  have hr : ∀ ty, (Builtin.append_ #[26, 26] ty #[.slice (some ⟨b, 0, none⟩) i c, .slice (some A) (n - j) (c - j)]).run Tryz.prog w.drew = .ok (.slice (some ⟨b, 0, none⟩) (i + (n - j)) c) (w.drew.setCells b (i * 7) news) := fun ty => by
    have h := run_append_room_cells (P := Tryz.prog) w.drew 26 ty 81 inf tS hinf b 0 i c A (n - j) (c - j) news (by rw [hsz, hnl]) hsrc (by intro u hu; rw [hnews] at hu; exact h1c u (List.mem_of_mem_drop hu)) (by omega)
      (fun t ht => by
        show (w.cell? ⟨b, _, none⟩).isSome = true
        rw [cell_at hba, hsz, Array.getElem?_eq_getElem (by omega)]; rfl) (fun t ht => by
        show w.frozen? ⟨b, _, none⟩ = false
        simp [World.frozen?, hba])
    rw [hsz, Nat.zero_add] at h
    exact h
  obtain ⟨arr1, p1, p2, p3⟩ := setCells_heap news (i * 7) w.drew arr hba
  have hk1 := setCells_kp b news (i * 7) w.drew
  generalize w.drew.setCells b (i * 7) news = W1 at hr p1 hk1
  obtain ⟨k, hk⟩ : ∃ k, n - (i + (n - j)) = k + 1 := ⟨n - (i + (n - j)) - 1, by omega⟩
  have hc : ∀ ty, (Builtin.clear_ #[26] ty #[.slice (some ⟨b, (i + (n - j)) * 7, none⟩) (n - (i + (n - j))) (c - (i + (n - j)))]).run Tryz.prog W1 = .ok (.tuple #[]) (W1.setCells b ((i + (n - j)) * 7) ((List.replicate (k + 1) z.cells.toList).flatten)) := fun ty => by
    rw [hk]
    exact run_clear_n W1 26 ty 81 b ((i + (n - j)) * 7) k _ inf z tS hinf hz (fun t ht => by rw [cell_at p1, Array.getElem?_eq_getElem (by rw [hzs] at ht; omega)]; rfl) (fun t ht => by simp [World.frozen?, p1]) hz1
  obtain ⟨arr2, q1, q2, q3⟩ := setCells_heap ((List.replicate (k + 1) z.cells.toList).flatten) ((i + (n - j)) * 7) W1 arr1 p1
  have hk2 := setCells_kp b ((List.replicate (k + 1) z.cells.toList).flatten) ((i + (n - j)) * 7) W1
  refine ⟨arr2, _, del_walkOffer b n c i j (i + (n - j)) A w W1 _ _ hij hj hnc (by omega) hA hr hc, q1, by omega, ?_, ((Kp.of_below (drew_below w) (Nat.le_succ _)).trans hk1 (by intro y hy; exact .inl hy)).trans hk2 (by intro y hy; exact .inl hy)⟩
  intro t u ht
  have htl := (List.getElem?_eq_some_iff.1 ht).1
  rw [List.length_append, List.length_take, List.length_drop] at htl
  rw [q3, if_neg (by omega), p3]
  rw [List.getElem?_append, List.length_take] at ht
  split at ht
  · rw [List.getElem?_take] at ht
    rw [if_neg (by omega)]
    split at ht
    · exact hcv t u ht
    · cases ht
  · rw [if_pos (by omega), hnews]
    have e : t - i * 7 = t - min (i * 7) cv.length := by omega
    rw [e]
    exact ht
end Go.V
