/- What functions of the seat's program do, each proved of its code, under the bounds that its theorem names. -/
import Derived.Test.YtildjkidohpmbaaTak
set_option linter.all false
namespace Go.V
open Go.Proofs
set_option maxHeartbeats 1000000
set_option maxRecDepth 10000
set_option linter.unusedSimpArgs false
set_option linter.unusedVariables false
abbrev cLeafSo (xs : List GLeaf) : PT := .sl 0 103 xs.length (xs.flatMap GLeaf.co)
abbrev cLeafSi (k : Nat) (xs : List GLeaf) : PT := rd k xs.length (xs.flatMap (GLeaf.ci k))
def wt_LeafS (xs : List GLeaf) : Nat := wtR GLeaf.wt xs
theorem len_wt_LeafS (xs : List GLeaf) : xs.length ≤ wt_LeafS xs := by unfold wt_LeafS wtR; omega
theorem mem_wt_LeafS {xs : List GLeaf} {x : GLeaf} (h : x ∈ xs) : GLeaf.wt x ≤ wt_LeafS xs := by
  have := wt_mem GLeaf.wt h
  unfold wt_LeafS wtR
  omega
def fits_LeafS (xs : List GLeaf) : Prop := xs.length ≤ 140737488351232 ∧ ∀ x ∈ xs, GLeaf.fits x
def lens_LeafS (xs : List GLeaf) : Prop := xs.length ≤ 140737488351232 ∧ ∀ x ∈ xs, GLeaf.lens x
def mk_LeafS (xs : List GLeaf) (k : Int) : List GLeaf × Int := mkR GLeaf.mark xs k
def cn_LeafS (xs : List GLeaf) : Nat := cnR GLeaf.cn xs
theorem mk_LeafS_len (xs : List GLeaf) (k : Int) : (mk_LeafS xs k).1.length = xs.length := mkR_len _ xs k
attribute [simp] mk_LeafS_len
theorem mk_LeafS_snd (xs : List GLeaf) (k : Int) : (mk_LeafS xs k).2 = k + cn_LeafS xs := mkR_snd (GLeaf.mark_snd) xs k
theorem lens_of_LeafS {xs : List GLeaf} (h : wt_LeafS xs ≤ 1048576) : lens_LeafS xs := by
  have hl := len_wt_LeafS xs
  exact ⟨by omega, fun x hx => lens_of_Leaf (by have := mem_wt_LeafS hx; omega)⟩
theorem cn_le_LeafS (xs : List GLeaf) : cn_LeafS xs ≤ 32 * wt_LeafS xs := cnR_le (fun x => by have := cnE_le_Leaf x; omega) xs
theorem strs_ok {p : List ByteArray} (h : wt_StringS p ≤ 1048576) : strsOK p := by
  have := len_wt_StringS p
  refine ⟨by omega, fun s hs => ?_⟩
  have := mem_wt_StringS hs
  omega
theorem leaf_ok {x : GLeaf} (h : GLeaf.wt x ≤ 1048576) : leafOK x := by
  unfold GLeaf.wt at h
  exact ⟨strs_ok (by omega), by omega⟩
theorem conf_ok {l : List GLeaf} (h : wt_LeafS l ≤ 1048576) : confOK l := by
  have := len_wt_LeafS l
  refine ⟨by omega, fun x hx => leaf_ok ?_⟩
  have := mem_wt_LeafS hx
  omega
theorem conf_len {l : List GLeaf} (h : wt_LeafS l ≤ 1048576) : l.length ≤ 1048576 ∧ ∀ x ∈ l, x.Path.length ≤ 1048576 := by
  have := len_wt_LeafS l
  refine ⟨by omega, fun x hx => ?_⟩
  have := mem_wt_LeafS hx
  have := len_wt_StringS x.Path
  unfold GLeaf.wt at *
  omega
def rGoodConfig (v0 : List GLeaf) : Bool := goodC v0
theorem law_iGoodConfig (v0 : List GLeaf) (h0 : wt_LeafS v0 ≤ 1048576) : CallOK Try.prog 44 [.c (rd 0 v0.length (v0.flatMap (GLeaf.ci 0)))] (.c (pb (rGoodConfig v0))) [.c (rd 0 v0.length (v0.flatMap (GLeaf.ci 0)))] := ok_iGoodConfig 0 v0 (conf_ok h0)
theorem law_sGoodConfig (v0 : List GLeaf) (h0 : wt_LeafS v0 ≤ 1048576) : CallOK Try.prog 81 [.c (rd 0 v0.length (v0.flatMap (GLeaf.ci 0)))] (.c (pb (rGoodConfig v0))) [.c (rd 0 v0.length (v0.flatMap (GLeaf.ci 0)))] := ok_sGoodConfig 0 v0 (conf_ok h0)
theorem idxOf_cases {α : Type} (p : α → Bool) (xs : List α) : (idxOf p xs = -1 ∧ xs.find? p = none) ∨ ∃ (i : Nat) (h : i < xs.length), idxOf p xs = i ∧ xs.find? p = some xs[i] := by
  unfold idxOf
  cases h : xs.findIdx? p with
  | none =>
    rw [List.findIdx?_eq_none_iff] at h
    exact .inl ⟨rfl, List.find?_eq_none.2 fun x hx => by simp [h x hx]⟩
  | some i =>
    rw [List.findIdx?_eq_some_iff_getElem] at h
    obtain ⟨h1, h2, h3⟩ := h
    exact .inr ⟨i, h1, rfl, List.find?_eq_some_iff_getElem.2 ⟨h2, i, h1, rfl, fun j hj => by simpa using h3 j hj⟩⟩
def atP (p : List ByteArray) (x : GLeaf) : Bool := decide (x.Path = p)
theorem ok_find1 (q k k' : Nat) (x : GLeaf) (p : List ByteArray) (hx : x.Path.length ≤ 140737488351232) (hp : p.length ≤ 140737488351232) : CallOK Try.prog 130 [.agg (GLeaf.ci k x), .ip q [rd k' p.length (p.map ps)]] (.c (pb (atP p x))) [.agg (GLeaf.ci k x), .ip q [rd k' p.length (p.map ps)]] := by
  refine okS (fn := Try.f130) [] h0 Try.func130 (by kernel_rfl) rfl Try.ntmps130 Try.results130 (by simp) ?_
  simp
  refine Inv_intro (ok_EqualS k k' x.Path p hx hp) ?_
  simp [atP]
theorem ok_find (k k' : Nat) (l : List GLeaf) (p : List ByteArray) (hl : confOK l) (hp : p.length ≤ 140737488351232) : CallOK Try.prog 110 [.c (rd k l.length (l.flatMap (GLeaf.ci k))), .c (rd k' p.length (p.map ps))] (.c (pi (idxOf (atP p) l))) [.c (rd k l.length (l.flatMap (GLeaf.ci k))), .c (rd k' p.length (p.map ps))] := by
  refine okS (fn := Try.f110) [] h0 Try.func110 (by kernel_rfl) rfl Try.ntmps110 Try.results110 (by simp) ?_
  simp
  refine Inv_intro (ok_IndexFunc_Leaf k 1 130 [[rd 0 p.length (p.map ps)]] (atP p) l hl.1 (fun x hx => ok_find1 1 k 0 x p (hl.2 x hx).1.1 hp)) ?_
  simp
theorem fmap_snoc {α β : Type} (f : α → Bool) (g : α → β) (l : List α) (i : Nat) (h : i < l.length) : ((l.take (i + 1)).filter f).map g = ((l.take i).filter f).map g ++ (if f l[i] = true then [g l[i]] else []) := by
  rw [take_step l i h, List.filter_append, List.map_append]
  congr 1
  by_cases hb : f l[i] = true <;> simp [hb]
theorem fmap_len {α β : Type} (f : α → Bool) (g : α → β) (l : List α) : ((l.filter f).map g).length ≤ l.length := by
  rw [List.length_map]
  exact List.length_filter_le _ _
def goneC (b : List GLeaf) (x : GLeaf) : Bool := (b.find? (atP x.Path)).isNone
def delCo (x : GLeaf) : GCommand := ⟨false, x.Path, ByteArray.empty⟩
def freshC (a : List GLeaf) (x : GLeaf) : Bool := match a.find? (atP x.Path) with
  | some y => !decide (y.Value = x.Value)
  | none => true
def setCo (x : GLeaf) : GCommand := ⟨true, x.Path, x.Value⟩
def diffL (a b : List GLeaf) : List GCommand := (a.filter (goneC b)).map delCo ++ (b.filter (freshC a)).map setCo
theorem ok_diffOf (k k' : Nat) (a b : List GLeaf) (ha : a.length ≤ 1048576) (hax : ∀ x ∈ a, x.Path.length ≤ 1048576) (hb : b.length ≤ 1048576) (hbx : ∀ x ∈ b, x.Path.length ≤ 1048576) (hao : confOK a) (hbo : confOK b) : CallOK Try.prog 80 [.c (rd k a.length (a.flatMap (GLeaf.ci k))), .c (rd k' b.length (b.flatMap (GLeaf.ci k')))] (.c (.sl 0 65 (diffL a b).length ((diffL a b).flatMap GCommand.co))) [.c (rd k a.length (a.flatMap (GLeaf.ci k))), .c (rd k' b.length (b.flatMap (GLeaf.ci k')))] := by
  refine okS (fn := Try.f80) [] h0 Try.func80 (by kernel_rfl) rfl Try.ntmps80 Try.results80 (by simp) ?_
  simp
  refine ewp_sw (.op 1 0 0) (.op 6 6 0) rfl rfl ?_
  simp
  refine loopS [0, 1, 5, 12, 13, 14] [.op 6 6 0] (fun n st => ∃ (i : Nat), i + n = a.length ∧ st = ⟨slOf 64 [(0, .t (rd k a.length (a.flatMap (GLeaf.ci k)))), (1, .t (rd k' b.length (b.flatMap (GLeaf.ci k')))), (5, .ref ⟨.op 6 6 0, []⟩ 0 (((a.take i).filter (goneC b)).map delCo).length), (12, .t (rd k a.length (a.flatMap (GLeaf.ci k)))), (13, .t (pi a.length)), (14, .t (pi i))], ofL [(.op 6 6 0, .sl 0 65 (((a.take i).filter (goneC b)).map delCo).length ((((a.take i).filter (goneC b)).map delCo).flatMap GCommand.co))]⟩) a.length ?_ ?_
  · rintro Inv hI
    simp
    subst hI
    exact ⟨0, by omega, by simp⟩
  · rintro Inv hI n st ⟨i, hi, rfl⟩
    have hO : (((a.take i).filter (goneC b)).map delCo).length ≤ i := Nat.le_trans (fmap_len _ _ _) (by simp; omega)
    have hS := fmap_snoc (goneC b) delCo a i
    generalize hOe : ((a.take i).filter (goneC b)).map delCo = O at hO hS ⊢
    have hA := fm_len GCommand.co 3 (fun _ => rfl) O
    have hAm : ∀ y, (O ++ [y]).flatMap GCommand.co = O.flatMap GCommand.co ++ GCommand.co y := fun y => by simp
    generalize hAe : O.flatMap GCommand.co = A at hA hAm ⊢
    refine ewr_sound (M := []) h0 ?_
    simp
    refine brn_app (fun c => ?_) (fun c => ?_)
    · simp at c
      have hd := fm_drop (GLeaf.ci k) 2 (fun _ => rfl) a i c
      have hlen := fm_len (GLeaf.ci k) 2 (fun _ => rfl) a
      have hlt : i * 2 < a.length * 2 := by omega
      have hp1 := hax _ (List.getElem_mem c)
      have hS' := hS c
      have hb1 : (O.length + 1) * 48 ≤ 140737488355328 := by omega
      have hb2 : O.length ≤ 9223372036854775806 := by omega
      have ht : A.take (O.length * 3) = A := List.take_of_length_le (by omega)
      simp [c, hd, hlen, hlt]
      refine Inv_intro (ok_find k' k b a[i].Path hbo (by omega)) ?_
      simp
      have hc2 := idxOf_cases (atP a[i].Path) b
      refine brn_app (fun d => ?_) (fun d => ?_)
      · simp at d
        have hg : goneC b a[i] = true := by
          rcases hc2 with ⟨e1, e2⟩ | ⟨j, hj, e1, e2⟩
          · simp only [goneC, e2, Option.isNone_none]
          · omega
        simp
        refine Inv_intro (ok_Clone_String k a[i].Path hp1) ?_
        simp [hA, hb1, hb2, ht]
        rw [hg] at hS'
        subst hI
        refine Less_mk (n - 1) (by omega) ⟨i + 1, by omega, ?_⟩
        rw [wrNext i (by omega), hS']
        simp [hAm, hAe, delCo]
      · simp at d
        have hg : goneC b a[i] = false := by
          rcases hc2 with ⟨e1, e2⟩ | ⟨j, hj, e1, e2⟩
          · omega
          · simp only [goneC, e2, Option.isNone_some]
        simp
        rw [hg] at hS'
        subst hI
        refine Less_mk (n - 1) (by omega) ⟨i + 1, by omega, ?_⟩
        rw [wrNext i (by omega), hS']
        simp [hAe]
    · simp at c
      have ht : List.take i a = a := List.take_of_length_le (by omega)
      rw [ht] at hOe
      simp
      refine ewp_sw (.op 6 6 0) (.op 13 8 0) rfl rfl ?_
      simp
      refine loopS [0, 5, 31, 32, 33] [.op 13 8 0] (fun n st => ∃ (i : Nat), i + n = b.length ∧ st = ⟨slOf 64 [(0, .t (rd k a.length (a.flatMap (GLeaf.ci k)))), (5, .ref ⟨.op 13 8 0, []⟩ 0 (O.length + (((b.take i).filter (freshC a)).map setCo).length)), (31, .t (rd k' b.length (b.flatMap (GLeaf.ci k')))), (32, .t (pi b.length)), (33, .t (pi i))], ofL [(.op 13 8 0, .sl 0 65 (O.length + (((b.take i).filter (freshC a)).map setCo).length) (A ++ (((b.take i).filter (freshC a)).map setCo).flatMap GCommand.co))]⟩) b.length ?_ ?_
      · rintro Inv hI
        simp
        subst hI
        exact ⟨0, by omega, by simp⟩
      · rintro Inv hI n st ⟨i, hi, rfl⟩
        have hO2 : (((b.take i).filter (freshC a)).map setCo).length ≤ i := Nat.le_trans (fmap_len _ _ _) (by simp; omega)
        have hS2 := fmap_snoc (freshC a) setCo b i
        generalize hOe2 : ((b.take i).filter (freshC a)).map setCo = O2 at hO2 hS2 ⊢
        have hA2 := fm_len GCommand.co 3 (fun _ => rfl) O2
        have hAm2 : ∀ y, (O2 ++ [y]).flatMap GCommand.co = O2.flatMap GCommand.co ++ GCommand.co y := fun y => by simp
        generalize hAe2 : O2.flatMap GCommand.co = A2 at hA2 hAm2 ⊢
        have hAA : (A ++ A2).length = (O.length + O2.length) * 3 := by simp [hA, hA2]; omega
        generalize hAX : A ++ A2 = X at hAA ⊢
        refine ewr_sound (M := []) h0 ?_
        simp
        refine brn_app (fun c2 => ?_) (fun c2 => ?_)
        · simp at c2
          have hd := fm_drop (GLeaf.ci k') 2 (fun _ => rfl) b i c2
          have hlen := fm_len (GLeaf.ci k') 2 (fun _ => rfl) b
          have hlt : i * 2 < b.length * 2 := by omega
          have hp1 := hbx _ (List.getElem_mem c2)
          have hS' := hS2 c2
          have hb1 : (O.length + O2.length + 1) * 48 ≤ 140737488355328 := by omega
          have hb2 : O.length + O2.length ≤ 9223372036854775806 := by omega
          have ht2 : X.take ((O.length + O2.length) * 3) = X := List.take_of_length_le (by omega)
          have next : ∀ B : Bool, freshC a b[i] = B → ∀ X' m, X' = X ++ (if B = true then GCommand.co (setCo b[i]) else []) → m = O.length + O2.length + (if B = true then 1 else 0) → Less Inv n ⟨slOf 64 [(0, .t (rd k a.length (a.flatMap (GLeaf.ci k)))), (5, .ref ⟨.op 13 8 0, []⟩ 0 m), (31, .t (rd k' b.length (b.flatMap (GLeaf.ci k')))), (32, .t (pi b.length)), (33, .t (pi (IntKind.wrap .i64 ((i : Int) + 1))))], ofL [(.op 13 8 0, .sl 0 65 m X')]⟩ := by
            rintro B hB X' m rfl rfl
            rw [hB] at hS'
            subst hI
            refine Less_mk (n - 1) (by omega) ⟨i + 1, by omega, ?_⟩
            rw [wrNext i (by omega), hS', ← hAX]
            cases B <;> simp [hAm2, hAe2, Nat.add_assoc]
          simp [c2, hd, hlen, hlt]
          refine Inv_intro (ok_find k k' a b[i].Path hao (by omega)) ?_
          simp
          rcases idxOf_cases (atP b[i].Path) a with ⟨e1, e2⟩ | ⟨j, hj, e1, e2⟩
          · refine drawP (tabEnv [] _) [⟨[], allD 64, true⟩, ⟨[], allD 64, true⟩, ⟨[], allD 64, true⟩, ⟨[], allD 64, true⟩, ⟨[], allD 64, true⟩, ⟨[], allD 64, true⟩, ⟨[], allD 64, true⟩, ⟨[], allD 64, true⟩, ⟨[.op 10 2 0], allD 64, true⟩, ⟨[.op 10 2 0], allD 64, true⟩, ⟨[], allD 64, true⟩, ⟨[], allD 64, true⟩] h0 hm (tabEnv_ok tab_nil) (by kernel_rfl) (by kernel_rfl) ?_
            simp [e1]
            have hB : freshC a b[i] = true := by simp only [freshC, e2]
            refine drawP (tabEnv [] _) [⟨[.op 13 8 0], allD 64, true⟩, ⟨[.op 10 2 0], allD 64, true⟩, ⟨[.op 10 2 0], allD 64, true⟩, ⟨[], allD 64, false⟩, ⟨[.op 10 2 0], allD 64, true⟩, ⟨[.op 10 2 0], allD 64, true⟩, ⟨[.op 13 3 0], allD 64, true⟩, ⟨[.op 13 3 0, .op 13 6 0], [53, 54, 55, 56, 57, 58, 59, 60, 61, 5], false⟩, ⟨[.op 13 8 0, .op 13 7 0], [53, 54, 55, 56, 57, 58, 59, 60, 61, 5], false⟩, ⟨[.op 13 8 0], allD 64, true⟩] h0 hm (tabEnv_ok (tab_cons (ok_Clone_String k' b[i].Path hp1) tab_nil)) (by kernel_rfl) (by kernel_rfl) ?_
            simp [hAA, hb1, hb2, ht2]
            exact next true hB _ _ (by simp [setCo]) rfl
          · have hdj := fm_drop (GLeaf.ci k) 2 (fun _ => rfl) a j hj
            have hlenj := fm_len (GLeaf.ci k) 2 (fun _ => rfl) a
            have hltj : j * 2 < a.length * 2 := by omega
            have hn : ¬ (j : Int) < 0 := by omega
            refine drawP (tabEnv [] _) [⟨[], allD 64, true⟩, ⟨[], allD 64, true⟩, ⟨[], allD 64, true⟩, ⟨[], allD 64, true⟩, ⟨[], allD 64, true⟩, ⟨[], allD 64, true⟩, ⟨[], allD 64, true⟩, ⟨[], allD 64, true⟩, ⟨[.op 10 2 0], allD 64, true⟩, ⟨[.op 10 2 0], allD 64, true⟩, ⟨[], allD 64, true⟩, ⟨[], allD 64, true⟩] h0 hm (tabEnv_ok tab_nil) (by kernel_rfl) (by kernel_rfl) ?_
            simp [e1, hn, hj, hdj, hlenj, hltj]
            refine brn_app (fun d => ?_) (fun d => ?_)
            · simp at d
              simp
              have hB : freshC a b[i] = true := by simp only [freshC, e2]; simp [d]
              refine drawP (tabEnv [] _) [⟨[.op 13 8 0], allD 64, true⟩, ⟨[.op 10 2 0], allD 64, true⟩, ⟨[.op 10 2 0], allD 64, true⟩, ⟨[], allD 64, false⟩, ⟨[.op 10 2 0], allD 64, true⟩, ⟨[.op 10 2 0], allD 64, true⟩, ⟨[.op 13 3 0], allD 64, true⟩, ⟨[.op 13 3 0, .op 13 6 0], [53, 54, 55, 56, 57, 58, 59, 60, 61, 5], false⟩, ⟨[.op 13 8 0, .op 13 7 0], [53, 54, 55, 56, 57, 58, 59, 60, 61, 5], false⟩, ⟨[.op 13 8 0], allD 64, true⟩] h0 hm (tabEnv_ok (tab_cons (ok_Clone_String k' b[i].Path hp1) tab_nil)) (by kernel_rfl) (by kernel_rfl) ?_
              simp [hAA, hb1, hb2, ht2]
              exact next true hB _ _ (by simp [setCo]) rfl
            · simp at d
              simp
              exact next false (by simp only [freshC, e2]; simp [d]) _ _ (by simp) rfl
        · simp at c2
          have ht : List.take i b = b := List.take_of_length_le (by omega)
          rw [ht] at hOe2
          have hD : diffL a b = O ++ O2 := by rw [diffL, hOe, hOe2]
          have hX' : (diffL a b).flatMap GCommand.co = X := by rw [hD, List.flatMap_append, hAe, hAe2, hAX]
          have hm' : (diffL a b).length = O.length + O2.length := by rw [hD, List.length_append]
          have htX : X.take ((O.length + O2.length) * 3) = X := List.take_of_length_le (by omega)
          rw [hX', hm']
          simp [hAA, htX]
theorem begP_len : ∀ a b : List ByteArray, (begP a b && decide (a.length = b.length)) = decide (a = b)
  | [], [] => rfl
  | [], _ :: _ => rfl
  | _ :: _, [] => rfl
  | a :: us, b :: vs => by
    have := begP_len us vs
    simp only [begP, List.length_cons, Nat.add_right_cancel_iff, List.cons.injEq, Bool.and_assoc, this]
    simp
theorem ok_l15SamePath (k k' : Nat) (xs ys : List ByteArray) (ha : xs.length ≤ 140737488351232) (hb : ys.length ≤ 140737488351232) : CallOK Try.prog 131 [.c (rd k xs.length (xs.map ps)), .c (rd k' ys.length (ys.map ps))] (.c (pb (decide (xs = ys)))) [.c (rd k xs.length (xs.map ps)), .c (rd k' ys.length (ys.map ps))] := by
  refine okS (fn := Try.f131) [] h0 Try.func131 (by kernel_rfl) rfl Try.ntmps131 Try.results131 (by simp) ?_
  simp
  refine Inv_intro (ok_l15Begins k k' xs ys ha hb) ?_
  simp
  rw [← begP_len]
  cases begP xs ys with
  | false => simp
  | true =>
    simp
    omega
def hasV (l : List GLeaf) (p : List ByteArray) : ByteArray := match l.find? (atP p) with
  | some x => x.Value
  | none => ⟨#[]⟩
theorem ok_l15Has (k k' : Nat) (l : List GLeaf) (p : List ByteArray) (hl : confOK l) (hp : p.length ≤ 140737488351232) : CallOK Try.prog 112 [.c (rd k l.length (l.flatMap (GLeaf.ci k))), .c (rd k' p.length (p.map ps))] (.c (ps (hasV l p))) [.c (rd k l.length (l.flatMap (GLeaf.ci k))), .c (rd k' p.length (p.map ps))] := by
  have hll := hl.1
  refine okS (fn := Try.f112) [] h0 Try.func112 (by kernel_rfl) rfl Try.ntmps112 Try.results112 (by simp) ?_
  simp
  refine loopS [1, 7, 8, 9] [] (fun n st => ∃ (i : Nat), i + n = l.length ∧ (l.drop i).find? (atP p) = l.find? (atP p) ∧ st = ⟨slOf 20 [(1, .t (rd k' p.length (p.map ps))), (7, .t (rd k l.length (l.flatMap (GLeaf.ci k)))), (8, .t (pi l.length)), (9, .t (pi i))], ofL []⟩) l.length ?_ ?_
  · rintro Inv hI
    simp
    subst hI
    exact ⟨0, by omega, rfl, rfl⟩
  · rintro Inv hI n st ⟨i, hi, hf, rfl⟩
    refine ewr_sound (M := []) h0 ?_
    simp
    refine brn_app (fun a => ?_) (fun a => ?_)
    · simp at a
      have hx := hl.2 l[i] (List.getElem_mem a)
      rw [drop_step _ i a, List.find?_cons] at hf
      have hd := fm_drop (GLeaf.ci k) 2 (fun _ => rfl) l i a
      have hlen := fm_len (GLeaf.ci k) 2 (fun _ => rfl) l
      have hlt : i * 2 < l.length * 2 := by omega
      simp [a, hd, hlen, hlt]
      refine Inv_intro (ok_l15SamePath k k' l[i].Path p hx.1.1 hp) ?_
      simp
      refine brn_app (fun b => ?_) (fun b => ?_)
      · have b' : atP p l[i] = true := b
        rw [b'] at hf
        have hf' : some l[i] = l.find? (atP p) := hf
        simp [hasV, ← hf']
      · have b' : atP p l[i] = false := b
        rw [b'] at hf
        simp
        subst hI
        exact Less_mk (n - 1) (by omega) ⟨i + 1, by omega, hf, by rw [wrNext i (by omega)]⟩
    · simp at a
      rw [List.drop_of_length_le (by omega), List.find?_nil] at hf
      simp [hasV, ← hf]
theorem goodG_all : ∀ (q : Option GLeaf) (l : List GLeaf), goodG q l = true → ∀ x ∈ l, okLeaf x = true
  | _, [], _, _, hx => by simp at hx
  | q, y :: l, h, x, hx => by
    simp only [goodG, Bool.and_eq_true] at h
    rcases List.mem_cons.1 hx with rfl | hx
    · exact h.1.1
    · exact goodG_all _ l h.2 x hx
theorem goodC_all {l : List GLeaf} (h : goodC l = true) : ∀ x ∈ l, okLeaf x = true := by
  simp only [goodC, Bool.and_eq_true] at h
  exact goodG_all _ l h.1
theorem isW_ne {s : ByteArray} (h : isW s = true) : s ≠ ⟨#[]⟩ := by
  rintro rfl
  have : isW ⟨#[]⟩ = false := rfl
  rw [this] at h
  cases h
theorem okLeaf_val {x : GLeaf} (h : okLeaf x = true) : x.Value ≠ ⟨#[]⟩ := by
  simp only [okLeaf, Bool.and_eq_true] at h
  exact isW_ne h.2
theorem okLeaf_path {x : GLeaf} (h : okLeaf x = true) : x.Path ≠ [] := by
  simp only [okLeaf, isP, Bool.and_eq_true, decide_eq_true_eq] at h
  intro e
  rw [e] at h
  have := h.1.1.1
  simp at this
theorem hasV_gone {b : List GLeaf} (hb : goodC b = true) (x : GLeaf) : (hasV b x.Path = ⟨#[]⟩) = (goneC b x = true) := by
  unfold hasV goneC
  cases h : b.find? (atP x.Path) with
  | none => simp
  | some y =>
    have := okLeaf_val (goodC_all hb y (List.mem_of_find?_eq_some h))
    simp [this]
theorem hasV_fresh {a : List GLeaf} {x : GLeaf} (hx : x.Value ≠ ⟨#[]⟩) : (hasV a x.Path = x.Value) = (freshC a x = false) := by
  unfold hasV freshC
  cases h : a.find? (atP x.Path) with
  | none =>
    simp
    exact fun e => hx e.symm
  | some y => simp
theorem ok_l15Diff (k k' : Nat) (a b : List GLeaf) (ha : a.length ≤ 1048576) (hax : ∀ x ∈ a, x.Path.length ≤ 1048576) (hb : b.length ≤ 1048576) (hbx : ∀ x ∈ b, x.Path.length ≤ 1048576) (hao : confOK a) (hbo : confOK b) (ga : goodC a = true) (gb : goodC b = true) : CallOK Try.prog 82 [.c (rd k a.length (a.flatMap (GLeaf.ci k))), .c (rd k' b.length (b.flatMap (GLeaf.ci k')))] (.c (.sl 0 65 (diffL a b).length ((diffL a b).flatMap GCommand.co))) [.c (rd k a.length (a.flatMap (GLeaf.ci k))), .c (rd k' b.length (b.flatMap (GLeaf.ci k')))] := by
  refine okS (fn := Try.f82) [] h0 Try.func82 (by kernel_rfl) rfl Try.ntmps82 Try.results82 (by simp) ?_
  simp
  refine ewp_nil 5 (.op 6 7 0) 65 (by decide) rfl rfl rfl ?_
  refine loopS [0, 1, 5, 10, 11, 12] [.op 6 7 0] (fun n st => ∃ (i : Nat), i + n = a.length ∧ st = ⟨slOf 55 [(0, .t (rd k a.length (a.flatMap (GLeaf.ci k)))), (1, .t (rd k' b.length (b.flatMap (GLeaf.ci k')))), (5, .ref ⟨.op 6 7 0, []⟩ 0 (((a.take i).filter (goneC b)).map delCo).length), (10, .t (rd k a.length (a.flatMap (GLeaf.ci k)))), (11, .t (pi a.length)), (12, .t (pi i))], ofL [(.op 6 7 0, .sl 0 65 (((a.take i).filter (goneC b)).map delCo).length ((((a.take i).filter (goneC b)).map delCo).flatMap GCommand.co))]⟩) a.length ?_ ?_
  · rintro Inv hI
    simp
    subst hI
    exact ⟨0, by omega, by simp⟩
  · rintro Inv hI n st ⟨i, hi, rfl⟩
    have hO : (((a.take i).filter (goneC b)).map delCo).length ≤ i := Nat.le_trans (fmap_len _ _ _) (by simp; omega)
    have hS := fmap_snoc (goneC b) delCo a i
    generalize hOe : ((a.take i).filter (goneC b)).map delCo = O at hO hS ⊢
    have hA := fm_len GCommand.co 3 (fun _ => rfl) O
    have hAm : ∀ y, (O ++ [y]).flatMap GCommand.co = O.flatMap GCommand.co ++ GCommand.co y := fun y => by simp
    generalize hAe : O.flatMap GCommand.co = A at hA hAm ⊢
    refine ewr_sound (M := []) h0 ?_
    simp
    refine brn_app (fun c => ?_) (fun c => ?_)
    · simp at c
      have hd := fm_drop (GLeaf.ci k) 2 (fun _ => rfl) a i c
      have hlen := fm_len (GLeaf.ci k) 2 (fun _ => rfl) a
      have hlt : i * 2 < a.length * 2 := by omega
      have hp1 := hax _ (List.getElem_mem c)
      have hpn := okLeaf_path (goodC_all ga _ (List.getElem_mem c))
      have hS' := hS c
      have hb1 : (O.length + 1) * 48 ≤ 140737488355328 := by omega
      have hb2 : O.length ≤ 9223372036854775806 := by omega
      have hp3 : a[i].Path.length * 16 ≤ 140737488355328 := by omega
      have hp4 : a[i].Path.length ≤ 9223372036854775807 := by omega
      have ht : A.take (O.length * 3) = A := List.take_of_length_le (by omega)
      have hv := hasV_gone gb a[i]
      simp [c, hd, hlen, hlt]
      refine Inv_intro (ok_l15Has k' k b a[i].Path hbo (by omega)) ?_
      simp
      refine brn_app (fun d => ?_) (fun d => ?_)
      · have hg : goneC b a[i] = true := by
          simp at d
          rw [← hv]
          exact d
        simp [hpn, hp3, hp4, hA, hb1, hb2, ht]
        rw [hg] at hS'
        subst hI
        refine Less_mk (n - 1) (by omega) ⟨i + 1, by omega, ?_⟩
        rw [wrNext i (by omega), hS']
        simp [hAm, hAe, delCo]
      · have hg : goneC b a[i] = false := by
          simp at d
          cases e : goneC b a[i] with
          | false => rfl
          | true => exact absurd (hv.mpr e) d
        simp
        rw [hg] at hS'
        subst hI
        refine Less_mk (n - 1) (by omega) ⟨i + 1, by omega, ?_⟩
        rw [wrNext i (by omega), hS']
        simp [hAe]
    · simp at c
      have ht : List.take i a = a := List.take_of_length_le (by omega)
      rw [ht] at hOe
      simp
      refine ewp_sw (.op 6 7 0) (.op 12 9 0) rfl rfl ?_
      simp
      refine loopS [0, 5, 30, 31, 32] [.op 12 9 0] (fun n st => ∃ (i : Nat), i + n = b.length ∧ st = ⟨slOf 55 [(0, .t (rd k a.length (a.flatMap (GLeaf.ci k)))), (5, .ref ⟨.op 12 9 0, []⟩ 0 (O.length + (((b.take i).filter (freshC a)).map setCo).length)), (30, .t (rd k' b.length (b.flatMap (GLeaf.ci k')))), (31, .t (pi b.length)), (32, .t (pi i))], ofL [(.op 12 9 0, .sl 0 65 (O.length + (((b.take i).filter (freshC a)).map setCo).length) (A ++ (((b.take i).filter (freshC a)).map setCo).flatMap GCommand.co))]⟩) b.length ?_ ?_
      · rintro Inv hI
        simp
        subst hI
        exact ⟨0, by omega, by simp⟩
      · rintro Inv hI n st ⟨i, hi, rfl⟩
        have hO2 : (((b.take i).filter (freshC a)).map setCo).length ≤ i := Nat.le_trans (fmap_len _ _ _) (by simp; omega)
        have hS2 := fmap_snoc (freshC a) setCo b i
        generalize hOe2 : ((b.take i).filter (freshC a)).map setCo = O2 at hO2 hS2 ⊢
        have hA2 := fm_len GCommand.co 3 (fun _ => rfl) O2
        have hAm2 : ∀ y, (O2 ++ [y]).flatMap GCommand.co = O2.flatMap GCommand.co ++ GCommand.co y := fun y => by simp
        generalize hAe2 : O2.flatMap GCommand.co = A2 at hA2 hAm2 ⊢
        have hAA : (A ++ A2).length = (O.length + O2.length) * 3 := by simp [hA, hA2]; omega
        generalize hAX : A ++ A2 = X at hAA ⊢
        refine ewr_sound (M := []) h0 ?_
        simp
        refine brn_app (fun c2 => ?_) (fun c2 => ?_)
        · simp at c2
          have hd := fm_drop (GLeaf.ci k') 2 (fun _ => rfl) b i c2
          have hlen := fm_len (GLeaf.ci k') 2 (fun _ => rfl) b
          have hlt : i * 2 < b.length * 2 := by omega
          have hp1 := hbx _ (List.getElem_mem c2)
          have hok := goodC_all gb _ (List.getElem_mem c2)
          have hpn := okLeaf_path hok
          have hS' := hS2 c2
          have hb1 : (O.length + O2.length + 1) * 48 ≤ 140737488355328 := by omega
          have hb2 : O.length + O2.length ≤ 9223372036854775806 := by omega
          have hp3 : b[i].Path.length * 16 ≤ 140737488355328 := by omega
          have hp4 : b[i].Path.length ≤ 9223372036854775807 := by omega
          have ht2 : X.take ((O.length + O2.length) * 3) = X := List.take_of_length_le (by omega)
          have hv := hasV_fresh (a := a) (okLeaf_val hok)
          have next : ∀ B : Bool, freshC a b[i] = B → ∀ X' m, X' = X ++ (if B = true then GCommand.co (setCo b[i]) else []) → m = O.length + O2.length + (if B = true then 1 else 0) → Less Inv n ⟨slOf 55 [(0, .t (rd k a.length (a.flatMap (GLeaf.ci k)))), (5, .ref ⟨.op 12 9 0, []⟩ 0 m), (30, .t (rd k' b.length (b.flatMap (GLeaf.ci k')))), (31, .t (pi b.length)), (32, .t (pi (IntKind.wrap .i64 ((i : Int) + 1))))], ofL [(.op 12 9 0, .sl 0 65 m X')]⟩ := by
            rintro B hB X' m rfl rfl
            rw [hB] at hS'
            subst hI
            refine Less_mk (n - 1) (by omega) ⟨i + 1, by omega, ?_⟩
            rw [wrNext i (by omega), hS', ← hAX]
            cases B <;> simp [hAm2, hAe2, Nat.add_assoc]
          simp [c2, hd, hlen, hlt]
          refine drawP (tabEnv [] _) [⟨[], allD 55, true⟩, ⟨[.op 10 2 0], allD 55, true⟩, ⟨[.op 10 2 0], allD 55, true⟩, ⟨[], allD 55, false⟩, ⟨[.op 10 2 0], allD 55, true⟩, ⟨[.op 10 2 0], allD 55, true⟩, ⟨[], allD 55, true⟩] h0 hm (tabEnv_ok (tab_cons (ok_l15Has k k' a b[i].Path hao (by omega)) tab_nil)) (by kernel_rfl) (by kernel_rfl) ?_
          simp
          refine brn_app (fun d => ?_) (fun d => ?_)
          · simp at d
            have hB : freshC a b[i] = true := by
              cases e : freshC a b[i] with
              | true => rfl
              | false => exact absurd (hv.mpr e) d
            simp
            refine drawP (tabEnv [] _) [⟨[.op 12 9 0], allD 55, true⟩, ⟨[], allD 55, false⟩, ⟨[.op 10 2 0], allD 55, true⟩, ⟨[.op 10 2 0], allD 55, true⟩, ⟨[.op 12 1 0], [43, 44, 45, 46, 47, 48, 49, 50, 51, 52, 5], false⟩, ⟨[.op 10 2 0], allD 55, true⟩, ⟨[.op 10 2 0], allD 55, true⟩, ⟨[.op 12 4 0], allD 55, true⟩, ⟨[.op 12 4 0, .op 12 7 0], [43, 44, 45, 46, 47, 48, 49, 50, 51, 52, 5], false⟩, ⟨[.op 12 9 0, .op 12 8 0], [43, 44, 45, 46, 47, 48, 49, 50, 51, 52, 5], false⟩, ⟨[.op 12 9 0], allD 55, true⟩] h0 hm (tabEnv_ok tab_nil) (by kernel_rfl) (by kernel_rfl) ?_
            simp [hAA, hb1, hb2, ht2, hpn, hp3, hp4]
            exact next true hB _ _ (by simp [setCo]) rfl
          · simp at d
            have hB : freshC a b[i] = false := by rw [← hv]; exact d
            simp
            exact next false hB _ _ (by simp) rfl
        · simp at c2
          have ht : List.take i b = b := List.take_of_length_le (by omega)
          rw [ht] at hOe2
          have hD : diffL a b = O ++ O2 := by rw [diffL, hOe, hOe2]
          have hX' : (diffL a b).flatMap GCommand.co = X := by rw [hD, List.flatMap_append, hAe, hAe2, hAX]
          have hm' : (diffL a b).length = O.length + O2.length := by rw [hD, List.length_append]
          have htX : X.take ((O.length + O2.length) * 3) = X := List.take_of_length_le (by omega)
          rw [hX', hm']
          simp [hAA, htX]
abbrev cLeafSSo (xs : List (List GLeaf)) : PT := .sl 0 58 xs.length (xs.map (cLeafSo))
abbrev cLeafSSi (k : Nat) (xs : List (List GLeaf)) : PT := rd k xs.length (xs.map (cLeafSi k))
theorem un_LeafSS (xs : List (List GLeaf)) : PT.unownL (xs.map (cLeafSo)) = (xs.map (cLeafSi 0)) := by
  rw [unownL_map]
  congr 1
  funext r
  simp [cLeafSo, cLeafSi, rd]
theorem uni_LeafSS (k : Nat) (xs : List (List GLeaf)) : PT.unownL (xs.map (cLeafSi k)) = (xs.map (cLeafSi 0)) := by
  rw [unownL_map]
  congr 1
  funext r
  simp [cLeafSo, cLeafSi, rd]
theorem nt_LeafSS (xs : List (List GLeaf)) : PT.noTmpL (xs.map (cLeafSo)) = true := noTmpL_map _ xs fun r => by simp [cLeafSo]
theorem nti_LeafSS (k : Nat) (xs : List (List GLeaf)) : PT.noTmpL (xs.map (cLeafSi (k + 1))) = true := noTmpL_map _ xs fun r => by simp [cLeafSi, rd]
attribute [simp] un_LeafSS uni_LeafSS nt_LeafSS nti_LeafSS
def wt_LeafSS (xs : List (List GLeaf)) : Nat := wtR wt_LeafS xs
theorem len_wt_LeafSS (xs : List (List GLeaf)) : xs.length ≤ wt_LeafSS xs := by unfold wt_LeafSS wtR; omega
theorem mem_wt_LeafSS {xs : List (List GLeaf)} {x : (List GLeaf)} (h : x ∈ xs) : wt_LeafS x ≤ wt_LeafSS xs := by
  have := wt_mem wt_LeafS h
  unfold wt_LeafSS wtR
  omega
def fits_LeafSS (xs : List (List GLeaf)) : Prop := xs.length ≤ 140737488351232 ∧ ∀ x ∈ xs, fits_LeafS x
def lens_LeafSS (xs : List (List GLeaf)) : Prop := xs.length ≤ 140737488351232 ∧ ∀ x ∈ xs, lens_LeafS x
def mk_LeafSS (xs : List (List GLeaf)) (k : Int) : List (List GLeaf) × Int := mkR mk_LeafS xs k
def cn_LeafSS (xs : List (List GLeaf)) : Nat := cnR cn_LeafS xs
theorem mk_LeafSS_len (xs : List (List GLeaf)) (k : Int) : (mk_LeafSS xs k).1.length = xs.length := mkR_len _ xs k
attribute [simp] mk_LeafSS_len
theorem mk_LeafSS_snd (xs : List (List GLeaf)) (k : Int) : (mk_LeafSS xs k).2 = k + cn_LeafSS xs := mkR_snd (mk_LeafS_snd) xs k
theorem lens_of_LeafSS {xs : List (List GLeaf)} (h : wt_LeafSS xs ≤ 1048576) : lens_LeafSS xs := by
  have hl := len_wt_LeafSS xs
  exact ⟨by omega, fun x hx => lens_of_LeafS (by have := mem_wt_LeafSS hx; omega)⟩
theorem cn_le_LeafSS (xs : List (List GLeaf)) : cn_LeafSS xs ≤ 32 * wt_LeafSS xs := cnR_le (fun x => by have := cn_le_LeafS x; omega) xs
end Go.V
