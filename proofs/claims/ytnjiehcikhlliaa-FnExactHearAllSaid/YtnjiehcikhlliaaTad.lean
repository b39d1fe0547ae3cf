/- What functions of the seat's program do, each proved of its code, under the bounds that its theorem names. -/
import Derived.Test.YtnjiehcikhlliaaTac
set_option linter.all false
namespace Go.V
open Go.Proofs
set_option maxHeartbeats 1000000
set_option maxRecDepth 10000
set_option linter.unusedSimpArgs false
set_option linter.unusedVariables false
def adjPx (q : Option GPrefix) (x : GPrefix) : Bool := match q with
  | none => true
  | some q => decide (cmpPx q x < 0)
def risG : Option GPrefix → List GPrefix → Bool
  | _, [] => true
  | q, x :: xs => goodPx x && adjPx q x && risG (some x) xs
def goodPs (l : List GPrefix) : Bool := risG none l && decide (l.length ≤ 10)
def prevPx (l : List GPrefix) (i : Nat) : Option GPrefix := if i = 0 then none else l[i - 1]?
theorem prevPx_next (l : List GPrefix) (i : Nat) (h : i < l.length) : prevPx l (i + 1) = some l[i] := by simp [prevPx, h]
def zeroA : GAttrs := ⟨0, [], 0, 0, 0, []⟩
def goodU (u : GUpdate) : Bool := goodPs u.Gone && goodPs u.Come && goodA u.Attrs && u.Come.all (fun p => !decide (p ∈ u.Gone)) && (decide (u.Come ≠ []) || decide (u.Attrs = zeroA))
theorem risG_all : ∀ (q : Option GPrefix) (l : List GPrefix), risG q l = true → ∀ x ∈ l, goodPx x = true
  | _, [], _, x, hx => by simp at hx
  | q, y :: l, h, x, hx => by
    simp only [risG, Bool.and_eq_true] at h
    rcases List.mem_cons.1 hx with rfl | hx
    · exact h.1.1
    · exact risG_all (some y) l h.2 x hx
theorem goodU_spec {u : GUpdate} (h : goodU u = true) : u.Gone.length ≤ 10 ∧ u.Come.length ≤ 10 ∧ goodA u.Attrs = true ∧ ∀ p ∈ u.Come, goodPx p = true := by
  simp only [goodU, goodPs, Bool.and_eq_true, decide_eq_true_eq] at h
  obtain ⟨⟨⟨⟨⟨_, h1⟩, h2, h3⟩, h4⟩, _⟩, _⟩ := h
  exact ⟨h1, h3, h4, risG_all none u.Come h2⟩
def hearL (l : List GRoute) (u : GUpdate) : List GRoute := u.Come.foldl (fun o p => putR ⟨p, u.Attrs⟩ o) (l.filter fun r => !decide (r.Prefix ∈ u.Gone))
def comeL (l : List GRoute) (u : GUpdate) (i : Nat) : List GRoute := (u.Come.take i).foldl (fun o p => putR ⟨p, u.Attrs⟩ o) (l.filter fun r => !decide (r.Prefix ∈ u.Gone))
def goneL (l : List GRoute) (u : GUpdate) (i : Nat) : List GRoute := l.filter fun r => !decide (r.Prefix ∈ u.Gone.take i)
theorem goneL_zero (l : List GRoute) (u : GUpdate) : goneL l u 0 = l := by
  unfold goneL
  rw [List.filter_eq_self]
  intro a _
  simp
theorem goneL_succ (l : List GRoute) (u : GUpdate) (i : Nat) (h : i < u.Gone.length) : goneL l u (i + 1) = delR u.Gone[i] (goneL l u i) := by
  unfold goneL delR
  rw [List.filter_filter]
  congr 1
  funext r
  rw [take_step u.Gone i h]
  simp only [List.mem_append, List.mem_singleton]
  by_cases h1 : r.Prefix ∈ u.Gone.take i <;> by_cases h2 : r.Prefix = u.Gone[i] <;> simp [h1, h2]
theorem comeL_zero (l : List GRoute) (u : GUpdate) : comeL l u 0 = goneL l u u.Gone.length := by
  unfold comeL goneL
  rw [List.take_length]
  rfl
theorem comeL_succ (l : List GRoute) (u : GUpdate) (i : Nat) (h : i < u.Come.length) : comeL l u (i + 1) = putR ⟨u.Come[i], u.Attrs⟩ (comeL l u i) := by
  unfold comeL
  rw [take_step u.Come i h, List.foldl_append]
  rfl
theorem comeL_all (l : List GRoute) (u : GUpdate) : comeL l u u.Come.length = hearL l u := by
  unfold comeL hearL
  rw [List.take_length]
theorem srt_gone {l : List GRoute} (h : srt l) (u : GUpdate) (i : Nat) : srt (goneL l u i) := srt_del h _
theorem srt_come {l : List GRoute} (h : srt l) (u : GUpdate) : ∀ i, i ≤ u.Come.length → srt (comeL l u i)
  | 0, _ => by rw [comeL_zero]; exact srt_gone h u _
  | i + 1, hi => by rw [comeL_succ l u i (by omega)]; exact srt_put (srt_come h u i (by omega)) _
theorem len_gone (l : List GRoute) (u : GUpdate) (i : Nat) : (goneL l u i).length ≤ l.length := List.length_filter_le _ _
theorem len_come {l : List GRoute} (h : srt l) (u : GUpdate) : ∀ i, i ≤ u.Come.length → (comeL l u i).length ≤ l.length + i
  | 0, _ => by rw [comeL_zero]; exact len_gone l u _
  | i + 1, hi => by
    rw [comeL_succ l u i (by omega)]
    have h1 := put_len ⟨u.Come[i], u.Attrs⟩ (srt_come h u i (by omega))
    have h2 := len_come h u i (by omega)
    omega
theorem mem_come {l : List GRoute} (u : GUpdate) {x : GRoute} : ∀ i, i ≤ u.Come.length → x ∈ comeL l u i → x ∈ l ∨ (x.Attrs = u.Attrs ∧ x.Prefix ∈ u.Come)
  | 0, _, h => by
    rw [comeL_zero] at h
    exact .inl (List.mem_filter.1 h).1
  | i + 1, hi, h => by
    rw [comeL_succ l u i (by omega)] at h
    rcases mem_put h with rfl | h
    · exact .inr ⟨rfl, List.getElem_mem (by omega)⟩
    · exact mem_come u i (by omega) h
theorem good_come {l : List GRoute} (h : goodL l) {u : GUpdate} (hu : goodU u = true) (i : Nat) (hi : i ≤ u.Come.length) : goodL (comeL l u i) := by
  obtain ⟨_, _, h3, h4⟩ := goodU_spec hu
  refine ⟨srt_come h.1 u i hi, fun x hx => ?_⟩
  rcases mem_come u i hi hx with hx | ⟨h5, h6⟩
  · exact h.2 x hx
  · simp only [goodR, Bool.and_eq_true]
    rw [h5]
    exact ⟨h4 _ h6, h3⟩
theorem good_hear {l : List GRoute} (h : goodL l) {u : GUpdate} (hu : goodU u = true) : goodL (hearL l u) := by
  rw [← comeL_all]
  exact good_come h hu _ (Nat.le_refl _)
def hrI (l : List GRoute) (us : List GUpdate) : Nat → Option (List GRoute)
  | 0 => some l
  | i + 1 => match hrI l us i with
    | none => none
    | some o => match us[i]? with
      | none => none
      | some u => if (hearL o u).length ≤ 20 then some (hearL o u) else none
theorem hrI_none (l : List GRoute) (us : List GUpdate) {i : Nat} (h : hrI l us i = none) : ∀ n, i ≤ n → hrI l us n = none
  | n, hn => by
    induction hn with
    | refl => exact h
    | step _ ih => simp only [hrI, ih]
theorem hrI_good {l : List GRoute} {us : List GUpdate} (h : goodL l ∧ l.length ≤ 20) (hu : ∀ u ∈ us, goodU u = true) : ∀ (i : Nat) (o : List GRoute), hrI l us i = some o → goodL o ∧ o.length ≤ 20
  | 0, o, e => by cases e; exact h
  | i + 1, o, e => by
    unfold hrI at e
    split at e
    · cases e
    · rename_i o' ho'
      split at e
      · cases e
      · rename_i u hus
        split at e
        · rename_i hl
          cases e
          exact ⟨good_hear (hrI_good h hu i o' ho').1 (hu u (List.mem_of_getElem? hus)), hl⟩
        · cases e
def rHearAll (v0 : List GRoute) (v1 : List GUpdate) : List GRoute × Bool := if goodRs v0 = true ∧ v1.length ≤ 60 ∧ v1.all goodU = true then match hrI v0 v1 v1.length with
    | some o => (o, true)
    | none => ([], false)
  else ([], false)
/-- Where a condition holds first, or -1. -/
def idxOf {α : Type} (p : α → Bool) (xs : List α) : Int := match xs.findIdx? p with | some i => i | none => -1
theorem idxOf_hit {α : Type} (p : α → Bool) (xs : List α) (i : Nat) (h : i < xs.length) (hp : p xs[i] = true) (hall : ∀ (j : Nat) (hj : j < i), p (xs[j]'(by omega)) = false) : idxOf p xs = i := by
  unfold idxOf
  rw [(List.findIdx?_eq_some_iff_getElem (i := i)).2 ⟨h, hp, fun j hj => by simp [hall j hj]⟩]
theorem idxOf_no {α : Type} (p : α → Bool) (xs : List α) (hall : ∀ (j : Nat) (hj : j < xs.length), p xs[j] = false) : idxOf p xs = -1 := by
  unfold idxOf
  rw [List.findIdx?_eq_none_iff.2 (fun s hs => by
    obtain ⟨j, hj, rfl⟩ := List.getElem_of_mem hs
    simp [hall j hj])]
theorem idxOf_any {α : Type} (p : α → Bool) (xs : List α) : decide (0 ≤ idxOf p xs) = xs.any p := by
  unfold idxOf
  cases h : xs.findIdx? p with
  | none =>
    rw [List.findIdx?_eq_none_iff] at h
    simp
    exact fun x hx => by simpa using h x hx
  | some i =>
    rw [List.findIdx?_eq_some_iff_getElem] at h
    obtain ⟨h1, h2, _⟩ := h
    simp
    exact ⟨_, List.getElem_mem h1, h2⟩
theorem ok_IndexFunc_Prefix (k q g : Nat) (caps : List (List PT)) (p : GPrefix → Bool) (xs : List GPrefix) (ha : xs.length ≤ 140737488351232)
    (hg : ∀ x ∈ xs, CallOK Try.prog g (.agg (GPrefix.c x) :: caps.map (PV.ip q)) (.c (pb (p x))) (.agg (GPrefix.c x) :: caps.map (PV.ip q))) :
    CallOK Try.prog 80 [.c (rd k xs.length (xs.flatMap GPrefix.c)), .c (.fn q g caps)] (.c (pi (idxOf p xs))) [.c (rd k xs.length (xs.flatMap GPrefix.c)), .c (.fn q g caps)] := by
  refine okS (fn := Try.f80) [] h0 Try.func80 (by kernel_rfl) rfl Try.ntmps80 Try.results80 (by simp) ?_
  simp
  refine loopS [0, 1, 7, 8] [] (fun n st => ∃ (i : Nat), i + n = xs.length ∧ (∀ (j : Nat) (hj : j < i) (hj' : j < xs.length), p xs[j] = false) ∧ st = ⟨slOf 19 [(0, .t (rd k xs.length (xs.flatMap GPrefix.c))), (1, .t (.fn q g caps)), (7, .t (pi xs.length)), (8, .t (pi i))], ofL []⟩) xs.length ?_ ?_
  · rintro Inv hI
    simp
    subst hI
    exact ⟨0, by omega, by intro j hj; omega, rfl⟩
  · rintro Inv hI n st ⟨i, hi, hall, rfl⟩
    refine ewr_sound (M := []) h0 ?_
    simp
    refine brn_app (fun h => ?_) (fun h => ?_)
    · simp at h
      have hd := fm_drop GPrefix.c 2 (fun _ => rfl) xs i h
      have hlen := fm_len GPrefix.c 2 (fun _ => rfl) xs
      have hlt : i * 2 < xs.length * 2 := by omega
      simp [h, hd, hlen, hlt]
      refine Inv_intro (hg _ (List.getElem_mem h)) ?_
      simp
      refine brn_app (fun h2 => ?_) (fun h2 => ?_)
      · simp
        exact (idxOf_hit p xs i h h2 fun j hj => hall j hj (by omega)).symm
      · simp
        subst hI
        refine Less_mk (n - 1) (by omega) ⟨i + 1, by omega, ?_, by rw [wrNext i (by omega)]⟩
        intro j hj hj'
        by_cases hji : j = i
        · subst hji; exact h2
        · exact hall j (by omega) hj'
    · simp at h
      simp
      exact (idxOf_no p xs fun j hj => hall j (by omega) hj).symm
theorem ok_ContainsFunc_Prefix (k q g : Nat) (caps : List (List PT)) (p : GPrefix → Bool) (xs : List GPrefix) (ha : xs.length ≤ 140737488351232)
    (hg : ∀ x ∈ xs, CallOK Try.prog g (.agg (GPrefix.c x) :: caps.map (PV.ip q)) (.c (pb (p x))) (.agg (GPrefix.c x) :: caps.map (PV.ip q))) :
    CallOK Try.prog 55 [.c (rd k xs.length (xs.flatMap GPrefix.c)), .c (.fn q g caps)] (.c (pb (xs.any p))) [.c (rd k xs.length (xs.flatMap GPrefix.c)), .c (.fn q g caps)] := by
  refine okS (fn := Try.f55) [] h0 Try.func55 (by kernel_rfl) rfl Try.ntmps55 Try.results55 (by simp) ?_
  simp
  refine Inv_intro (ok_IndexFunc_Prefix k q g caps p xs ha hg) ?_
  simp [idxOf_any]
theorem ok_within (n lo hi : Int) : CallOK Try.prog 75 [.c (pi n), .c (pi lo), .c (pi hi)] (.c (pb (decide (lo ≤ n ∧ n ≤ hi)))) [.c (pi n), .c (pi lo), .c (pi hi)] := by
  refine okS (fn := Try.f75) [] h0 Try.func75 (by kernel_rfl) rfl Try.ntmps75 Try.results75 (by simp) ?_
  simp
  refine gT (fun h => ?_) (fun h => ?_) <;> simp [h]
theorem ok_IndexFunc_Int (k q g : Nat) (caps : List (List PT)) (p : Int → Bool) (xs : List Int) (ha : xs.length ≤ 140737488351232)
    (hg : ∀ x ∈ xs, CallOK Try.prog g (.c (pi x) :: caps.map (PV.ip q)) (.c (pb (p x))) (.c (pi x) :: caps.map (PV.ip q))) :
    CallOK Try.prog 92 [.c (rd k xs.length (xs.map pi)), .c (.fn q g caps)] (.c (pi (idxOf p xs))) [.c (rd k xs.length (xs.map pi)), .c (.fn q g caps)] := by
  refine okS (fn := Try.f92) [] h0 Try.func92 (by kernel_rfl) rfl Try.ntmps92 Try.results92 (by simp) ?_
  simp
  refine loopS [0, 1, 7, 8] [] (fun n st => ∃ (i : Nat), i + n = xs.length ∧ (∀ (j : Nat) (hj : j < i) (hj' : j < xs.length), p xs[j] = false) ∧ st = ⟨slOf 19 [(0, .t (rd k xs.length (xs.map pi))), (1, .t (.fn q g caps)), (7, .t (pi xs.length)), (8, .t (pi i))], ofL []⟩) xs.length ?_ ?_
  · rintro Inv hI
    simp
    subst hI
    exact ⟨0, by omega, by intro j hj; omega, rfl⟩
  · rintro Inv hI n st ⟨i, hi, hall, rfl⟩
    refine ewr_sound (M := []) h0 ?_
    simp
    refine brn_app (fun h => ?_) (fun h => ?_)
    · simp at h
      simp [h]
      refine Inv_intro (hg _ (List.getElem_mem h)) ?_
      simp
      refine brn_app (fun h2 => ?_) (fun h2 => ?_)
      · simp
        exact (idxOf_hit p xs i h h2 fun j hj => hall j hj (by omega)).symm
      · simp
        subst hI
        refine Less_mk (n - 1) (by omega) ⟨i + 1, by omega, ?_, by rw [wrNext i (by omega)]⟩
        intro j hj hj'
        by_cases hji : j = i
        · subst hji; exact h2
        · exact hall j (by omega) hj'
    · simp at h
      simp
      exact (idxOf_no p xs fun j hj => hall j (by omega) hj).symm
theorem ok_ContainsFunc_Int (k q g : Nat) (caps : List (List PT)) (p : Int → Bool) (xs : List Int) (ha : xs.length ≤ 140737488351232)
    (hg : ∀ x ∈ xs, CallOK Try.prog g (.c (pi x) :: caps.map (PV.ip q)) (.c (pb (p x))) (.c (pi x) :: caps.map (PV.ip q))) :
    CallOK Try.prog 88 [.c (rd k xs.length (xs.map pi)), .c (.fn q g caps)] (.c (pb (xs.any p))) [.c (rd k xs.length (xs.map pi)), .c (.fn q g caps)] := by
  refine okS (fn := Try.f88) [] h0 Try.func88 (by kernel_rfl) rfl Try.ntmps88 Try.results88 (by simp) ?_
  simp
  refine Inv_intro (ok_IndexFunc_Int k q g caps p xs ha hg) ?_
  simp [idxOf_any]
theorem any_not {α : Type} (p : α → Bool) (xs : List α) : xs.any (fun x => !p x) = !xs.all p := by
  induction xs with
  | nil => rfl
  | cons x xs ih => simp [ih]
theorem ok_l1In (n lo hi : Int) : CallOK Try.prog 69 [.c (pi n), .c (pi lo), .c (pi hi)] (.c (pb (decide (lo ≤ n ∧ n ≤ hi)))) [.c (pi n), .c (pi lo), .c (pi hi)] := by
  refine okS (fn := Try.f69) [] h0 Try.func69 (by kernel_rfl) rfl Try.ntmps69 Try.results69 (by simp) ?_
  simp
  refine gT (fun h => ?_) (fun h => ?_) <;> simp [h]
theorem inR_t {n lo hi : Int} (h : lo ≤ n ∧ n ≤ hi) : inR n lo hi = true := by simp [inR, h]
theorem ok_isAsn (n : Int) : CallOK Try.prog 90 [.c (pi n)] (.c (pb (isAsnB n))) [.c (pi n)] := by
  refine okS (fn := Try.f90) [] h0 Try.func90 (by kernel_rfl) rfl Try.ntmps90 Try.results90 (by simp) ?_
  simp
  refine Inv_intro (ok_within _ _ _) ?_
  simp [isAsnB, inR]
theorem ok_isAddr (n : Int) : CallOK Try.prog 77 [.c (pi n)] (.c (pb (inR n 0 4294967295))) [.c (pi n)] := by
  refine okS (fn := Try.f77) [] h0 Try.func77 (by kernel_rfl) rfl Try.ntmps77 Try.results77 (by simp) ?_
  simp
  refine Inv_intro (ok_within _ _ _) ?_
  simp [inR]
theorem ok_l1Addr (n : Int) : CallOK Try.prog 70 [.c (pi n)] (.c (pb (inR n 0 4294967295))) [.c (pi n)] := by
  refine okS (fn := Try.f70) [] h0 Try.func70 (by kernel_rfl) rfl Try.ntmps70 Try.results70 (by simp) ?_
  simp
  refine Inv_intro (ok_l1In _ _ _) ?_
  simp [inR]
theorem ok_sizeOf (n : Int) (h1 : 0 ≤ n) (h2 : n ≤ 32) : CallOK Try.prog 86 [.c (pi n)] (.c (pi (szP n))) [.c (pi n)] := by
  refine okS (fn := Try.f86) [] h0 Try.func86 (by kernel_rfl) rfl Try.ntmps86 Try.results86 (by simp) ?_
  have hw : IntKind.wrap .i64 (32 - n) = 32 - n := wrap64 (by omega) (by omega)
  have hs := shl_pow (32 - n).toNat (by omega)
  have hn : 0 ≤ 32 - n := by omega
  simp [hw, h2]
  simpa [szP] using hs
theorem ok_l1Size (p : GPrefix) (h1 : 0 ≤ p.Len) (h2 : p.Len ≤ 32) : CallOK Try.prog 85 [.agg p.c] (.c (pi (szP p.Len))) [.agg p.c] := by
  refine okS (fn := Try.f85) [] h0 Try.func85 (by kernel_rfl) rfl Try.ntmps85 Try.results85 (by simp) ?_
  have hw : IntKind.wrap .i64 (32 - p.Len) = 32 - p.Len := wrap64 (by omega) (by omega)
  have hw2 : IntKind.wrap .u64 (32 - p.Len) = 32 - p.Len := by
    show (32 - p.Len) % 18446744073709551616 = _
    omega
  have hs := shl_pow (32 - p.Len).toNat (by omega)
  have hn : 0 ≤ 32 - p.Len := by omega
  simp [hw, hw2, h2]
  simpa [szP] using hs
theorem ok_iGoodPrefix (p : GPrefix) : CallOK Try.prog 72 [.agg p.c] (.c (pb (goodPx p))) [.agg p.c] := by
  refine okS (fn := Try.f72) [] h0 Try.func72 (by kernel_rfl) rfl Try.ntmps72 Try.results72 (by simp) ?_
  simp
  have hz := pow_ne (32 - p.Len).toNat
  by_cases c1 : 0 ≤ p.Len ∧ p.Len ≤ 32
  · refine drawP (tabEnv [] _) [⟨[.op 0 0 0], allD 20, true⟩, ⟨[.op 0 0 0], allD 20, true⟩, ⟨[], allD 20, false⟩, ⟨[], allD 20, true⟩, ⟨[.op 0 0 0], allD 20, true⟩, ⟨[.op 0 0 0], allD 20, true⟩, ⟨[], allD 20, false⟩, ⟨[], allD 20, true⟩, ⟨[], allD 20, true⟩, ⟨[.op 0 0 0], allD 20, true⟩, ⟨[.op 0 0 0], allD 20, true⟩, ⟨[.op 0 0 0], allD 20, true⟩, ⟨[.op 0 0 0], allD 20, true⟩, ⟨[], allD 20, false⟩, ⟨[], allD 20, true⟩, ⟨[], allD 20, true⟩, ⟨[], allD 20, true⟩, ⟨[], allD 20, true⟩] h0 hm (tabEnv_ok (tab_cons (ok_within p.Len 0 32) (tab_cons (ok_isAddr p.Addr) (tab_cons (ok_sizeOf p.Len c1.1 c1.2) tab_nil)))) (by kernel_rfl) (by kernel_rfl) ?_
    cases c2 : inR p.Addr 0 4294967295 with
    | false => simp [c1, c2, goodPx, inR_t c1]
    | true =>
      simp [c1, c2, goodPx, inR_t c1, szP, hz]
      try exact decide_eq_decide.2 Iff.rfl
  · refine drawP (tabEnv [] _) [⟨[.op 0 0 0], allD 20, true⟩, ⟨[.op 0 0 0], allD 20, true⟩, ⟨[], allD 20, false⟩, ⟨[], allD 20, true⟩, ⟨[.op 0 0 0], allD 20, true⟩, ⟨[.op 0 0 0], allD 20, true⟩, ⟨[], allD 20, false⟩, ⟨[], allD 20, true⟩, ⟨[], allD 20, true⟩, ⟨[.op 0 0 0], allD 20, true⟩, ⟨[.op 0 0 0], allD 20, true⟩, ⟨[.op 0 0 0], allD 20, true⟩, ⟨[.op 0 0 0], allD 20, true⟩, ⟨[], allD 20, false⟩, ⟨[], allD 20, true⟩, ⟨[], allD 20, true⟩, ⟨[], allD 20, true⟩, ⟨[], allD 20, true⟩] h0 hm (tabEnv_ok (tab_cons (ok_within p.Len 0 32) tab_nil)) (by kernel_rfl) (by kernel_rfl) ?_
    simp [c1, goodPx, inR]
theorem ok_sGoodPrefix (p : GPrefix) : CallOK Try.prog 68 [.agg p.c] (.c (pb (goodPx p))) [.agg p.c] := by
  refine okS (fn := Try.f68) [] h0 Try.func68 (by kernel_rfl) rfl Try.ntmps68 Try.results68 (by simp) ?_
  simp
  have hz := pow_ne (32 - p.Len).toNat
  by_cases c1 : 0 ≤ p.Len ∧ p.Len ≤ 32
  · refine drawP (tabEnv [] _) [⟨[.op 0 0 0], allD 19, true⟩, ⟨[.op 0 0 0], allD 19, true⟩, ⟨[], allD 19, false⟩, ⟨[], allD 19, true⟩, ⟨[.op 0 0 0], allD 19, true⟩, ⟨[.op 0 0 0], allD 19, true⟩, ⟨[], allD 19, false⟩, ⟨[], allD 19, true⟩, ⟨[], allD 19, true⟩, ⟨[.op 0 0 0], allD 19, true⟩, ⟨[.op 0 0 0], allD 19, true⟩, ⟨[.op 0 0 0], allD 19, true⟩, ⟨[], allD 19, false⟩, ⟨[], allD 19, true⟩, ⟨[], allD 19, true⟩, ⟨[], allD 19, true⟩, ⟨[], allD 19, true⟩] h0 hm (tabEnv_ok (tab_cons (ok_l1In p.Len 0 32) (tab_cons (ok_l1Addr p.Addr) (tab_cons (ok_l1Size p c1.1 c1.2) tab_nil)))) (by kernel_rfl) (by kernel_rfl) ?_
    cases c2 : inR p.Addr 0 4294967295 with
    | false => simp [c1, c2, goodPx, inR_t c1]
    | true =>
      simp [c1, c2, goodPx, inR_t c1, szP, hz]
      try exact decide_eq_decide.2 Iff.rfl
  · refine drawP (tabEnv [] _) [⟨[.op 0 0 0], allD 19, true⟩, ⟨[.op 0 0 0], allD 19, true⟩, ⟨[], allD 19, false⟩, ⟨[], allD 19, true⟩, ⟨[.op 0 0 0], allD 19, true⟩, ⟨[.op 0 0 0], allD 19, true⟩, ⟨[], allD 19, false⟩, ⟨[], allD 19, true⟩, ⟨[], allD 19, true⟩, ⟨[.op 0 0 0], allD 19, true⟩, ⟨[.op 0 0 0], allD 19, true⟩, ⟨[.op 0 0 0], allD 19, true⟩, ⟨[], allD 19, false⟩, ⟨[], allD 19, true⟩, ⟨[], allD 19, true⟩, ⟨[], allD 19, true⟩, ⟨[], allD 19, true⟩] h0 hm (tabEnv_ok (tab_cons (ok_l1In p.Len 0 32) tab_nil)) (by kernel_rfl) (by kernel_rfl) ?_
    simp [c1, goodPx, inR]
theorem ok_isNaNI (s : Int) : CallOK Try.prog 87 [.c (pi s)] (.c (pb false)) [.c (pi s)] := by
  refine okS (fn := Try.f87) [] h0 Try.func87 (by kernel_rfl) rfl Try.ntmps87 Try.results87 (by simp) ?_
  simp
theorem ok_cmpI (u v : Int) : CallOK Try.prog 74 [.c (pi u), .c (pi v)] (.c (pi (cmpI u v))) [.c (pi u), .c (pi v)] := by
  refine okS (fn := Try.f74) [] h0 Try.func74 (by kernel_rfl) rfl Try.ntmps74 Try.results74 (by simp) ?_
  simp
  refine Inv_intro (ok_isNaNI u) ?_
  simp
  refine Inv_intro (ok_isNaNI v) ?_
  simp
  refine brn_app (fun a => ?_) (fun a => ?_)
  · simp at a
    simp [cmpI, a]
  · simp at a
    have a' : ¬ u < v := by omega
    simp
    refine brn_app (fun b => ?_) (fun b => ?_)
    · simp at b
      simp [cmpI, a', b]
    · simp at b
      have b' : ¬ v < u := by omega
      simp [cmpI, a', b']
theorem ok_orI (k : Nat) (xs : List Int) (hx : xs.length ≤ 140737488351232) : CallOK Try.prog 73 [.c (rd k xs.length (xs.map pi))] (.c (pi (orI xs))) [.c (rd k xs.length (xs.map pi))] := by
  refine okS (fn := Try.f73) [] h0 Try.func73 (by kernel_rfl) rfl Try.ntmps73 Try.results73 (by simp) ?_
  simp
  refine loopS [3, 6, 7, 8] [] (fun n st => ∃ (i : Nat), i + n = xs.length ∧ orI (xs.drop i) = orI xs ∧ st = ⟨slOf 18 [(3, .t (pi 0)), (6, .t (rd k xs.length (xs.map pi))), (7, .t (pi xs.length)), (8, .t (pi i))], ofL []⟩) xs.length ?_ ?_
  · rintro Inv hI
    simp
    subst hI
    exact ⟨0, by omega, rfl, rfl⟩
  · rintro Inv hI n st ⟨i, hi, hf, rfl⟩
    refine ewr_sound (M := []) h0 ?_
    simp
    refine brn_app (fun a => ?_) (fun a => ?_)
    · simp at a
      rw [drop_step _ i a, orI] at hf
      simp [a]
      refine brn_app (fun b => ?_) (fun b => ?_)
      · simp at b
        rw [if_neg b] at hf
        simp [hf]
      · simp at b
        rw [if_pos b] at hf
        simp
        subst hI
        exact Less_mk (n - 1) (by omega) ⟨i + 1, by omega, hf, by rw [wrNext i (by omega)]⟩
    · simp at a
      rw [List.drop_of_length_le (by omega), orI] at hf
      simp [← hf]
theorem ok_compare (p q : GPrefix) : CallOK Try.prog 51 [.agg p.c, .agg q.c] (.c (pi (cmpPx p q))) [.agg p.c, .agg q.c] := by
  refine okS (fn := Try.f51) [] h0 Try.func51 (by kernel_rfl) rfl Try.ntmps51 Try.results51 (by simp) ?_
  simp
  have ho := ok_orI 0 [cmpI p.Addr q.Addr, cmpI p.Len q.Len] (by simp)
  simp at ho
  refine drawP (fnEnv 74 (fI2 fun a b => pi (cmpI a b)) (tabEnv [] _)) [⟨[.op 0 0 0], allD 17, true⟩, ⟨[.op 0 0 0], allD 17, true⟩, ⟨[.op 0 1 0], allD 17, true⟩, ⟨[.op 0 1 0], allD 17, true⟩, ⟨[], allD 17, false⟩, ⟨[.op 0 0 0], allD 17, true⟩, ⟨[.op 0 0 0], allD 17, true⟩, ⟨[.op 0 1 0], allD 17, true⟩, ⟨[.op 0 1 0], allD 17, true⟩, ⟨[], allD 17, false⟩, ⟨[], allD 17, false⟩, ⟨[.op 1 10 0], [5, 6, 7, 8, 9, 10, 11, 12, 13, 14, 15, 16, 4], false⟩, ⟨[], allD 17, true⟩] h0 hm (fnEnv_ok (tabEnv_ok (tab_cons ho tab_nil)) (fI2_ok ok_cmpI)) (by kernel_rfl) (by kernel_rfl) ?_
  simp
  by_cases c : cmpI p.Addr q.Addr = 0
  · by_cases d : cmpI p.Len q.Len = 0 <;> simp [orI, cmpPx, c, d]
  · simp [orI, cmpPx, c]
theorem ok_l1Compare (p q : GPrefix) : CallOK Try.prog 39 [.agg p.c, .agg q.c] (.c (pi (cmpPx p q))) [.agg p.c, .agg q.c] := by
  refine okS (fn := Try.f39) [] h0 Try.func39 (by kernel_rfl) rfl Try.ntmps39 Try.results39 (by simp) ?_
  by_cases a1 : p.Addr < q.Addr
  · simp [a1, cmpPx, cmpI]
  · by_cases a2 : p.Addr = q.Addr
    · by_cases b1 : p.Len < q.Len
      · simp [a1, a2, b1, cmpPx, cmpI]
      · by_cases b2 : p.Len = q.Len
        · simp [a2, b2, cmpPx, cmpI]
        · have b3 : q.Len < p.Len := by omega
          simp [a2, b1, b2, b3, cmpPx, cmpI]
    · have a3 : q.Addr < p.Addr := by omega
      simp [a1, a2, a3, cmpPx, cmpI]
theorem ok_isValue (n : Int) : CallOK Try.prog 78 [.c (pi n)] (.c (pb (isValB n))) [.c (pi n)] := by
  refine okS (fn := Try.f78) [] h0 Try.func78 (by kernel_rfl) rfl Try.ntmps78 Try.results78 (by simp) ?_
  simp
  refine Inv_intro (ok_within _ _ _) ?_
  simp [isValB, inR]
theorem ok_isPath1 (n : Int) : CallOK Try.prog 89 [.c (pi n)] (.c (pb (!isAsnB n))) [.c (pi n)] := by
  refine okS (fn := Try.f89) [] h0 Try.func89 (by kernel_rfl) rfl Try.ntmps89 Try.results89 (by simp) ?_
  simp
  refine Inv_intro (ok_isAsn n) ?_
  simp
theorem ok_isPath (k : Nat) (p : List Int) (hl : p.length ≤ 140737488351232) : CallOK Try.prog 76 [.c (rd k p.length (p.map pi))] (.c (pb (goodPa p))) [.c (rd k p.length (p.map pi))] := by
  refine okS (fn := Try.f76) [] h0 Try.func76 (by kernel_rfl) rfl Try.ntmps76 Try.results76 (by simp) ?_
  simp
  refine gT (fun a => ?_) (fun a => ?_)
  · have a' : p.length ≤ 10 := by simp at a; omega
    simp [a]
    refine Inv_intro (ok_ContainsFunc_Int k 0 89 [] (fun n => !isAsnB n) p hl fun x hx => ok_isPath1 x) ?_
    simp [goodPa, any_not, a']
  · have a' : ¬ p.length ≤ 10 := by simp at a; omega
    simp [goodPa, a, a']
theorem ok_areComms (k : Nat) (l : List Int) (hl : l.length ≤ 140737488351232) : CallOK Try.prog 79 [.c (rd k l.length (l.map pi))] (.c (pb (goodCm l))) [.c (rd k l.length (l.map pi))] := by
  refine okS (fn := Try.f79) [] h0 Try.func79 (by kernel_rfl) rfl Try.ntmps79 Try.results79 (by simp) ?_
  simp
  refine loopS [0, 5, 6, 7] [] (fun n st => ∃ (i : Nat), i + n = l.length ∧ commsG (prevI l i) (l.drop i) = commsG none l ∧ st = ⟨slOf 32 [(0, .t (rd k l.length (l.map pi))), (5, .t (rd k l.length (l.map pi))), (6, .t (pi l.length)), (7, .t (pi i))], ofL []⟩) l.length ?_ ?_
  · rintro Inv hI
    simp
    subst hI
    exact ⟨0, by omega, rfl, rfl⟩
  · rintro Inv hI n st ⟨i, hi, hg, rfl⟩
    refine ewr_sound (M := []) h0 ?_
    simp
    refine brn_app (fun a => ?_) (fun a => ?_)
    · simp at a
      rw [drop_step _ i a, commsG] at hg
      have en : prevI l (i + 1) = some l[i] := prevI_next l i a
      simp [a]
      refine Inv_intro (ok_isValue l[i]) ?_
      cases c1 : isValB l[i] with
      | false =>
        rw [c1, Bool.false_and, Bool.false_and] at hg
        simp [goodCm, ← hg]
      | true =>
        rw [c1, Bool.true_and] at hg
        by_cases c0 : i = 0
        · have e0 : ¬ 0 < i := by omega
          have ep : prevI l i = none := by simp [prevI, c0]
          rw [ep, adjI, Bool.true_and] at hg
          simp [e0]
          subst hI
          exact Less_mk (n - 1) (by omega) ⟨i + 1, by omega, by rw [en]; exact hg, by rw [wrNext i (by omega)]⟩
        · obtain ⟨j, hj⟩ : ∃ j, i = j + 1 := ⟨i - 1, by omega⟩
          have aj : j < l.length := by omega
          have ep : prevI l i = some l[j] := by subst hj; exact prevI_next l j aj
          have hw : IntKind.wrap .i64 ((i : Int) - 1) = j := (wrap64 (by omega) (by omega)).trans (by omega)
          have e0 : 0 < i := by omega
          rw [ep, adjI] at hg
          simp [e0, hw, aj]
          refine brn_app (fun c => ?_) (fun c => ?_)
          · simp at c
            have c' : ¬ l[j] < l[i] := by omega
            simp [c'] at hg
            simp [goodCm, hg]
          · simp at c
            have c' : l[j] < l[i] := by omega
            simp [c'] at hg
            simp
            subst hI
            exact Less_mk (n - 1) (by omega) ⟨i + 1, by omega, by rw [en]; exact hg, by rw [wrNext i (by omega)]⟩
    · simp at a
      rw [List.drop_of_length_le (by omega), commsG] at hg
      simp [goodCm, ← hg]
      omega
theorem ok_iGoodAttrs (k : Nat) (x : GAttrs) (hx : attrOK x) : CallOK Try.prog 54 [.agg (GAttrs.ci k x)] (.c (pb (goodA x))) [.agg (GAttrs.ci k x)] := by
  obtain ⟨h1, h2⟩ := hx
  refine okS (fn := Try.f54) [] h0 Try.func54 (by kernel_rfl) rfl Try.ntmps54 Try.results54 (by simp) ?_
  simp
  refine Inv_intro (ok_within _ _ _) ?_
  by_cases c1 : 0 ≤ x.Origin ∧ x.Origin ≤ 2
  · simp [c1]
    refine Inv_intro (ok_isPath k x.Path h1) ?_
    cases c2 : goodPa x.Path with
    | false => simp [goodA, c2]
    | true =>
      simp
      refine Inv_intro (ok_isAddr _) ?_
      cases c3 : inR x.Next 0 4294967295 with
      | false => simp [goodA, c3]
      | true =>
        simp
        refine Inv_intro (ok_isValue _) ?_
        cases c4 : isValB x.Med with
        | false => simp [goodA, c4]
        | true =>
          simp
          refine Inv_intro (ok_isValue _) ?_
          cases c5 : isValB x.Pref with
          | false => simp [goodA, c5]
          | true =>
            simp
            refine Inv_intro (ok_areComms k x.Comms h2) ?_
            simp [goodA, c2, c3, c4, c5, inR_t c1]
  · have c1' : inR x.Origin 0 2 = false := by simp only [inR, decide_eq_false_iff_not]; exact c1
    simp [c1, goodA, c1']
theorem ok_iGoodRoute (k : Nat) (r : GRoute) (hx : attrOK r.Attrs) : CallOK Try.prog 50 [.agg (GRoute.ci k r)] (.c (pb (goodR r))) [.agg (GRoute.ci k r)] := by
  refine okS (fn := Try.f50) [] h0 Try.func50 (by kernel_rfl) rfl Try.ntmps50 Try.results50 (by simp) ?_
  simp
  refine Inv_intro (ok_iGoodPrefix r.Prefix) ?_
  cases c1 : goodPx r.Prefix with
  | false => simp [goodR, c1]
  | true =>
    simp
    refine Inv_intro (ok_iGoodAttrs k r.Attrs hx) ?_
    simp [goodR, c1]
theorem ok_EqualI (k k' : Nat) (xs ys : List Int) (ha : xs.length ≤ 140737488351232) (hb : ys.length ≤ 140737488351232) : CallOK Try.prog 82 [.c (rd k xs.length (xs.map pi)), .c (rd k' ys.length (ys.map pi))] (.c (pb (decide (xs = ys)))) [.c (rd k xs.length (xs.map pi)), .c (rd k' ys.length (ys.map pi))] := by
  refine okS (fn := Try.f82) [] h0 Try.func82 (by kernel_rfl) rfl Try.ntmps82 Try.results82 (by simp) ?_
  simp
  refine brn_app (fun h => ?_) (fun h => ?_)
  · simp at h
    simp
    rintro rfl
    exact h rfl
  · simp at h
    have hl : ys.length = xs.length := by omega
    simp
    refine loopS [0, 1, 12, 13] [] (fun n st => ∃ (i : Nat), i + n = xs.length ∧ (xs.drop i = ys.drop i ↔ xs = ys) ∧ st = ⟨slOf 26 [(0, .t (rd k xs.length (xs.map pi))), (1, .t (rd k' ys.length (ys.map pi))), (12, .t (pi xs.length)), (13, .t (pi i))], ofL []⟩) xs.length ?_ ?_
    · rintro Inv hI
      simp
      subst hI
      exact ⟨0, by omega, by simp, rfl⟩
    · rintro Inv hI n st ⟨i, hi, htk, rfl⟩
      refine ewr_sound (M := []) h0 ?_
      simp
      refine brn_app (fun h => ?_) (fun h => ?_)
      · simp at h
        have hib : i < ys.length := by omega
        rw [drop_step xs i h, drop_step ys i hib, List.cons.injEq] at htk
        simp
        refine drawP E0 [⟨[], allD 26, true⟩, ⟨[], allD 26, true⟩, ⟨[], allD 26, true⟩, ⟨[], allD 26, true⟩, ⟨[], allD 26, true⟩, ⟨[], allD 26, true⟩, ⟨[], allD 26, true⟩, ⟨[], allD 26, true⟩, ⟨[], allD 26, true⟩] h0 hm (E0_ok _) (by kernel_rfl) (by kernel_rfl) ?_
        simp [h, hib]
        refine brn_app (fun h2 => ?_) (fun h2 => ?_)
        · simp at h2
          simp
          intro he
          exact h2 (htk.2 he).1
        · simp at h2
          simp
          subst hI
          exact Less_mk (n - 1) (by omega) ⟨i + 1, by omega, ⟨fun h4 => htk.1 ⟨h2, h4⟩, fun h4 => (htk.2 h4).2⟩, by rw [wrNext i (by omega)]⟩
      · simp at h
        rw [List.drop_of_length_le (by omega), List.drop_of_length_le (by omega)] at htk
        simp
        exact htk.1 rfl
theorem attrs_ext (a b : GAttrs) : decide (a = b) = (decide (a.Origin = b.Origin) && (decide (a.Path = b.Path) && (decide (a.Next = b.Next) && (decide (a.Med = b.Med) && (decide (a.Pref = b.Pref) && decide (a.Comms = b.Comms)))))) := by
  cases a
  cases b
  simp
theorem ok_sameAttrs (k k' : Nat) (a b : GAttrs) (ha : attrOK a) (hb : attrOK b) : CallOK Try.prog 58 [.agg (GAttrs.ci k a), .agg (GAttrs.ci k' b)] (.c (pb (decide (a = b)))) [.agg (GAttrs.ci k a), .agg (GAttrs.ci k' b)] := by
  refine okS (fn := Try.f58) [] h0 Try.func58 (by kernel_rfl) rfl Try.ntmps58 Try.results58 (by simp) ?_
  rw [attrs_ext]
  by_cases c1 : a.Origin = b.Origin
  · simp [c1]
    refine Inv_intro (ok_EqualI k k' a.Path b.Path ha.1 hb.1) ?_
    by_cases c2 : a.Path = b.Path
    · by_cases c3 : a.Next = b.Next
      · by_cases c4 : a.Med = b.Med
        · by_cases c5 : a.Pref = b.Pref
          · simp [c2, c3, c4, c5]
            refine Inv_intro (ok_EqualI k k' a.Comms b.Comms ha.2 hb.2) ?_
            simp
          · simp [c2, c3, c4, c5]
        · simp [c2, c3, c4]
      · simp [c2, c3]
    · simp [c2]
  · simp [c1]
end Go.V
