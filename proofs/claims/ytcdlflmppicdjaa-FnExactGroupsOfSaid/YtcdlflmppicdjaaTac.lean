/- What functions of the seat's program do, each proved of its code, under the bounds that its theorem names. -/
import Derived.Test.YtcdlflmppicdjaaTab
set_option linter.all false
namespace Go.V
open Go.Proofs
set_option maxHeartbeats 1000000
set_option maxRecDepth 10000
set_option linter.unusedSimpArgs false
set_option linter.unusedVariables false
def pG (l : List GRoute) (x : GAttrs) (g : List Int) : Bool := match g with
  | h :: _ => match l[h.toNat]? with
    | some r => decide (r.Attrs = x)
    | none => false
  | [] => false
def stepG (l : List GRoute) (gs : List (List Int)) (i : Nat) (x : GAttrs) : List (List Int) := match gs.findIdx? (pG l x) with
  | some k => gs.set k ((gs[k]?.getD []) ++ [(i : Int)])
  | none => gs ++ [[(i : Int)]]
def groupsN (l : List GRoute) : Nat → List (List Int)
  | 0 => []
  | i + 1 => match l[i]? with
    | some r => stepG l (groupsN l i) i r.Attrs
    | none => groupsN l i
def groupsL (l : List GRoute) : List (List Int) := groupsN l l.length
def gOK (n : Nat) (gs : List (List Int)) : Prop := gs.length ≤ n ∧ ∀ g ∈ gs, (∃ h t, g = h :: t) ∧ g.length ≤ n ∧ ∀ h ∈ g, 0 ≤ h ∧ h < n
theorem stepG_ok (l : List GRoute) (gs : List (List Int)) (i : Nat) (x : GAttrs) (h : gOK i gs) : gOK (i + 1) (stepG l gs i x) := by
  obtain ⟨h1, h2⟩ := h
  unfold stepG
  split
  · rename_i k hk
    rw [List.findIdx?_eq_some_iff_getElem] at hk
    obtain ⟨hkl, _, _⟩ := hk
    refine ⟨by simp; omega, fun g hg => ?_⟩
    rcases List.mem_or_eq_of_mem_set hg with hg | hg
    · obtain ⟨a, b, c⟩ := h2 g hg
      exact ⟨a, by omega, fun h hh => by have := c h hh; omega⟩
    · subst hg
      rw [List.getElem?_eq_getElem hkl, Option.getD_some]
      obtain ⟨⟨u, t, e⟩, b, c⟩ := h2 _ (List.getElem_mem hkl)
      refine ⟨⟨u, t ++ [(i : Int)], by rw [e]; rfl⟩, by simp; omega, fun h hh => ?_⟩
      rcases List.mem_append.1 hh with hh | hh
      · have := c h hh; omega
      · simp only [List.mem_singleton] at hh; omega
  · refine ⟨by simp; omega, fun g hg => ?_⟩
    rcases List.mem_append.1 hg with hg | hg
    · obtain ⟨a, b, c⟩ := h2 g hg
      exact ⟨a, by omega, fun h hh => by have := c h hh; omega⟩
    · simp only [List.mem_singleton] at hg
      subst hg
      exact ⟨⟨_, _, rfl⟩, by simp, fun h hh => by simp only [List.mem_singleton] at hh; omega⟩
theorem groupsN_ok (l : List GRoute) : ∀ i, gOK i (groupsN l i)
  | 0 => ⟨by simp [groupsN], by simp [groupsN]⟩
  | i + 1 => by
    unfold groupsN
    split
    · exact stepG_ok l _ i _ (groupsN_ok l i)
    · obtain ⟨h1, h2⟩ := groupsN_ok l i
      exact ⟨by omega, fun g hg => let ⟨a, b, c⟩ := h2 g hg; ⟨a, by omega, fun h hh => by have := c h hh; omega⟩⟩
theorem groupsN_succ (l : List GRoute) (i : Nat) (h : i < l.length) : groupsN l (i + 1) = stepG l (groupsN l i) i l[i].Attrs := by
  simp [groupsN, List.getElem?_eq_getElem h]
def rGroupsOf (l : List GRoute) : List (List Int) × Bool := if goodRs l = true then (groupsL l, true) else ([], false)
theorem ok_groupsOf1 (q k : Nat) (l : List GRoute) (hl : routesOK l) (r : GRoute) (hr : attrOK r.Attrs) (g : List Int) (hg : ∃ h t, g = h :: t ∧ 0 ≤ h ∧ h < l.length) : CallOK Try.prog 120 [.c (rd k g.length (g.map pi)), .ip q [rd 0 l.length (l.flatMap (GRoute.ci 0))], .ip q (GRoute.ci 0 r)] (.c (pb (pG l r.Attrs g))) [.c (rd k g.length (g.map pi)), .ip q [rd 0 l.length (l.flatMap (GRoute.ci 0))], .ip q (GRoute.ci 0 r)] := by
  obtain ⟨h, t, rfl, hh0, hhl⟩ := hg
  have hn : h.toNat < l.length := by omega
  have e : pG l r.Attrs (h :: t) = decide (l[h.toNat].Attrs = r.Attrs) := by simp only [pG, List.getElem?_eq_getElem hn]
  have hd := fm_drop (GRoute.ci 0) 8 (fun _ => rfl) l h.toNat hn
  have hlen := fm_len (GRoute.ci 0) 8 (fun _ => rfl) l
  have hlt : h.toNat * 8 < l.length * 8 := by omega
  refine okS (fn := Try.f120) [] h0 Try.func120 (by kernel_rfl) rfl Try.ntmps120 Try.results120 (by simp) ?_
  simp
  refine drawP (tabEnv [] _) [⟨[], allD 15, true⟩, ⟨[], allD 15, true⟩, ⟨[], allD 15, true⟩, ⟨[], allD 15, true⟩, ⟨[], allD 15, true⟩, ⟨[], allD 15, true⟩, ⟨[], allD 15, true⟩, ⟨[], allD 15, true⟩, ⟨[], allD 15, true⟩, ⟨[], allD 15, false⟩, ⟨[], allD 15, true⟩] h0 hm (tabEnv_ok (tab_cons (ok_sameAttrs 0 0 l[h.toNat].Attrs r.Attrs (hl.2 _ (List.getElem_mem hn)) hr) tab_nil)) (by kernel_rfl) (by kernel_rfl) ?_
  simp [hh0, hhl, hn, hd, hlen, hlt, e]
/-- Where a condition holds first, or -1. -/
def idxOf {α : Type} (p : α → Bool) (xs : List α) : Int := match xs.findIdx? p with | some i => i | none => -1
theorem idxOf_hit {α : Type} (p : α → Bool) (xs : List α) (i : Nat) (h : i < xs.length) (hp : p xs[i] = true) (hall : ∀ (j : Nat) (hj : j < i), p (xs[j]'(by omega)) = false) : idxOf p xs = i := by
  unfold idxOf
  rw [(List.findIdx?_eq_some_iff_getElem (i := i)).2 ⟨h, hp, fun j hj => by simp [hall j hj]⟩]
theorem idxOf_no {α : Type} (p : α → Bool) (xs : List α) (hall : ∀ (j : Nat) (hj : j < xs.length), p xs[j] = false) : idxOf p xs = -1 := by
  unfold idxOf
  rw [List.findIdx?_eq_none_iff.2 (fun s hs => by
    obtain ⟨j, hj, rfl⟩ := List.getElem_of_mem hs
    simp [hall j hj])]
theorem idxOf_any {α : Type} (p : α → Bool) (xs : List α) : decide (0 ≤ idxOf p xs) = xs.any p := by
  unfold idxOf
  cases h : xs.findIdx? p with
  | none =>
    rw [List.findIdx?_eq_none_iff] at h
    simp
    exact fun x hx => by simpa using h x hx
  | some i =>
    rw [List.findIdx?_eq_some_iff_getElem] at h
    obtain ⟨h1, h2, _⟩ := h
    simp
    exact ⟨_, List.getElem_mem h1, h2⟩
theorem ok_IndexFunc_IntS (k q g : Nat) (caps : List (List PT)) (p : (List Int) → Bool) (xs : List (List Int)) (ha : xs.length ≤ 140737488351232)
    (hg : ∀ x ∈ xs, CallOK Try.prog g (.c (rd k x.length (x.map pi)) :: caps.map (PV.ip q)) (.c (pb (p x))) (.c (rd k x.length (x.map pi)) :: caps.map (PV.ip q))) :
    CallOK Try.prog 119 [.c (rd k xs.length (xs.map (cIntSi k))), .c (.fn q g caps)] (.c (pi (idxOf p xs))) [.c (rd k xs.length (xs.map (cIntSi k))), .c (.fn q g caps)] := by
  refine okS (fn := Try.f119) [] h0 Try.func119 (by kernel_rfl) rfl Try.ntmps119 Try.results119 (by simp) ?_
  simp
  refine loopS [0, 1, 7, 8] [] (fun n st => ∃ (i : Nat), i + n = xs.length ∧ (∀ (j : Nat) (hj : j < i) (hj' : j < xs.length), p xs[j] = false) ∧ st = ⟨slOf 19 [(0, .t (rd k xs.length (xs.map (cIntSi k)))), (1, .t (.fn q g caps)), (7, .t (pi xs.length)), (8, .t (pi i))], ofL []⟩) xs.length ?_ ?_
  · rintro Inv hI
    simp
    subst hI
    exact ⟨0, by omega, by intro j hj; omega, rfl⟩
  · rintro Inv hI n st ⟨i, hi, hall, rfl⟩
    refine ewr_sound (M := []) h0 ?_
    simp
    refine brn_app (fun h => ?_) (fun h => ?_)
    · simp at h
      simp [h]
      refine Inv_intro (hg _ (List.getElem_mem h)) ?_
      simp
      refine brn_app (fun h2 => ?_) (fun h2 => ?_)
      · simp
        exact (idxOf_hit p xs i h h2 fun j hj => hall j hj (by omega)).symm
      · simp
        subst hI
        refine Less_mk (n - 1) (by omega) ⟨i + 1, by omega, ?_, by rw [wrNext i (by omega)]⟩
        intro j hj hj'
        by_cases hji : j = i
        · subst hji; exact h2
        · exact hall j (by omega) hj'
    · simp at h
      simp
      exact (idxOf_no p xs fun j hj => hall j (by omega) hj).symm
theorem idxOf_find {α : Type} (p : α → Bool) (xs : List α) : (idxOf p xs = -1 ∧ xs.findIdx? p = none) ∨ ∃ (i : Nat) (h : i < xs.length), idxOf p xs = i ∧ xs.findIdx? p = some i := by
  unfold idxOf
  cases h : xs.findIdx? p with
  | none => exact .inl ⟨rfl, rfl⟩
  | some i =>
    have h' := h
    rw [List.findIdx?_eq_some_iff_getElem] at h'
    exact .inr ⟨i, h'.1, rfl, rfl⟩
theorem ok_groupsOf (k : Nat) (l : List GRoute) (hl : routesOK l) (h20 : l.length ≤ 20) : CallOK Try.prog 67 [.c (rd k l.length (l.flatMap (GRoute.ci k)))] (.c (.sl 0 72 (groupsL l).length ((groupsL l).map cIntSo))) [.c (rd k l.length (l.flatMap (GRoute.ci k)))] := by
  refine okS (fn := Try.f67) [] h0 Try.func67 (by kernel_rfl) rfl Try.ntmps67 Try.results67 (by simp) ?_
  simp
  refine ewp_sw (.op 1 0 0) (.op 7 4 0) rfl rfl ?_
  simp
  refine loopS [1, 3, 8, 9, 10] [.op 7 4 0, .op 0 0 0] (fun m st => ∃ (i : Nat), i + m = l.length ∧ st = ⟨slOf 37 [(1, .ptr ⟨.op 0 0 0, []⟩ 0), (3, .ref ⟨.op 7 4 0, []⟩ 0 (groupsN l i).length), (8, .t (rd k l.length (l.flatMap (GRoute.ci k)))), (9, .t (pi l.length)), (10, .t (pi i))], ofL [(.op 0 0 0, .sl 0 33 1 [rd k l.length (l.flatMap (GRoute.ci k))]), (.op 7 4 0, .sl 0 72 (groupsN l i).length ((groupsN l i).map cIntSo))]⟩) l.length ?_ ?_
  · rintro Inv hI
    simp
    subst hI
    exact ⟨0, by omega, rfl⟩
  · rintro Inv hI m st ⟨i, hi, rfl⟩
    have hG := groupsN_ok l i
    have hS := groupsN_succ l i
    generalize hGe : groupsN l i = G at hG hS ⊢
    obtain ⟨hGl, hGx⟩ := hG
    refine ewr_sound (M := []) h0 ?_
    simp
    refine brn_app (fun a => ?_) (fun a => ?_)
    · simp at a
      have hd := fm_drop (GRoute.ci k) 8 (fun _ => rfl) l i a
      have hlen := fm_len (GRoute.ci k) 8 (fun _ => rfl) l
      have hlt : i * 8 < l.length * 8 := by omega
      have hr := hl.2 _ (List.getElem_mem a)
      have hS' := hS a
      simp [a, hd, hlen, hlt, un_IntSS]
      have hcc := ok_IndexFunc_IntS 0 1 120 [[rd 0 l.length (l.flatMap (GRoute.ci 0))], GRoute.ci 0 l[i]] (pG l l[i].Attrs) G (by omega) (fun g hg => by
        obtain ⟨⟨h, t, e⟩, _, hb⟩ := hGx g hg
        have := hb h (by rw [e]; simp)
        exact ok_groupsOf1 1 0 l hl l[i] hr g ⟨h, t, e, by omega, by omega⟩)
      simp at hcc
      refine Inv_intro hcc ?_
      simp
      have hxs : ∀ x ∈ G, x.length ≤ i := fun g hg => (hGx g hg).2.1
      rcases idxOf_find (pG l l[i].Attrs) G with ⟨e1, e2⟩ | ⟨q, hq, e1, e2⟩
      · have hb1 : (G.length + 1) * 24 ≤ 140737488355328 := by omega
        have hb2 : G.length ≤ 9223372036854775806 := by omega
        simp [e1, hb1, hb2]
        have hst : stepG l G i l[i].Attrs = G ++ [[(i : Int)]] := by simp only [stepG, e2]
        subst hI
        refine Less_mk (m - 1) (by omega) ⟨i + 1, by omega, ?_⟩
        rw [wrNext i (by omega), hS', hst]
        simp [cIntSo]
      · have hn : ¬ (q : Int) < 0 := by omega
        have hxq := hxs _ (List.getElem_mem hq)
        have hst : stepG l G i l[i].Attrs = G.set q (G[q] ++ [(i : Int)]) := by simp only [stepG, e2, List.getElem?_eq_getElem hq, Option.getD_some]
        have hsp : G.map cIntSo = (G.take q).map cIntSo ++ cIntSo G[q] :: (G.drop (q + 1)).map cIntSo := by
          rw [← List.map_cons, ← List.drop_eq_getElem_cons hq, ← List.map_append, List.take_append_drop]
        have hsp2 : (G.set q (G[q] ++ [(i : Int)])).map cIntSo = (G.take q).map cIntSo ++ cIntSo (G[q] ++ [(i : Int)]) :: (G.drop (q + 1)).map cIntSo := by
          rw [List.set_eq_take_append_cons_drop, if_pos hq, List.map_append, List.map_cons]
        have hAl : ((G.take q).map cIntSo).length = q := by simp; omega
        have hll : G.length = ((G.take q).map cIntSo).length + ((G.drop (q + 1)).map cIntSo).length + 1 := by simp; omega
        rw [hsp]
        generalize (G.take q).map cIntSo = A at hsp2 hAl hll ⊢
        generalize (G.drop (q + 1)).map cIntSo = D at hsp2 hll ⊢
        have hb1 : (G[q].length + 1) * 8 ≤ 140737488355328 := by omega
        have hb2 : G[q].length ≤ 9223372036854775806 := by omega
        simp [e1, hn, hq, hAl, hb1, hb2]
        subst hI
        refine Less_mk (m - 1) (by omega) ⟨i + 1, by omega, ?_⟩
        rw [wrNext i (by omega), hS', hst, hsp2, List.length_set]
        simp [cIntSo]
    · simp at a
      have hil : i = l.length := by omega
      subst hil
      have hGe' : groupsL l = G := hGe
      rw [hGe']
      simp
theorem ok_within (n lo hi : Int) : CallOK Try.prog 97 [.c (pi n), .c (pi lo), .c (pi hi)] (.c (pb (decide (lo ≤ n ∧ n ≤ hi)))) [.c (pi n), .c (pi lo), .c (pi hi)] := by
  refine okS (fn := Try.f97) [] h0 Try.func97 (by kernel_rfl) rfl Try.ntmps97 Try.results97 (by simp) ?_
  simp
  refine gT (fun h => ?_) (fun h => ?_) <;> simp [h]
theorem ok_IndexFunc_Int (k q g : Nat) (caps : List (List PT)) (p : Int → Bool) (xs : List Int) (ha : xs.length ≤ 140737488351232)
    (hg : ∀ x ∈ xs, CallOK Try.prog g (.c (pi x) :: caps.map (PV.ip q)) (.c (pb (p x))) (.c (pi x) :: caps.map (PV.ip q))) :
    CallOK Try.prog 165 [.c (rd k xs.length (xs.map pi)), .c (.fn q g caps)] (.c (pi (idxOf p xs))) [.c (rd k xs.length (xs.map pi)), .c (.fn q g caps)] := by
  refine okS (fn := Try.f165) [] h0 Try.func165 (by kernel_rfl) rfl Try.ntmps165 Try.results165 (by simp) ?_
  simp
  refine loopS [0, 1, 7, 8] [] (fun n st => ∃ (i : Nat), i + n = xs.length ∧ (∀ (j : Nat) (hj : j < i) (hj' : j < xs.length), p xs[j] = false) ∧ st = ⟨slOf 19 [(0, .t (rd k xs.length (xs.map pi))), (1, .t (.fn q g caps)), (7, .t (pi xs.length)), (8, .t (pi i))], ofL []⟩) xs.length ?_ ?_
  · rintro Inv hI
    simp
    subst hI
    exact ⟨0, by omega, by intro j hj; omega, rfl⟩
  · rintro Inv hI n st ⟨i, hi, hall, rfl⟩
    refine ewr_sound (M := []) h0 ?_
    simp
    refine brn_app (fun h => ?_) (fun h => ?_)
    · simp at h
      simp [h]
      refine Inv_intro (hg _ (List.getElem_mem h)) ?_
      simp
      refine brn_app (fun h2 => ?_) (fun h2 => ?_)
      · simp
        exact (idxOf_hit p xs i h h2 fun j hj => hall j hj (by omega)).symm
      · simp
        subst hI
        refine Less_mk (n - 1) (by omega) ⟨i + 1, by omega, ?_, by rw [wrNext i (by omega)]⟩
        intro j hj hj'
        by_cases hji : j = i
        · subst hji; exact h2
        · exact hall j (by omega) hj'
    · simp at h
      simp
      exact (idxOf_no p xs fun j hj => hall j (by omega) hj).symm
theorem ok_ContainsFunc_Int (k q g : Nat) (caps : List (List PT)) (p : Int → Bool) (xs : List Int) (ha : xs.length ≤ 140737488351232)
    (hg : ∀ x ∈ xs, CallOK Try.prog g (.c (pi x) :: caps.map (PV.ip q)) (.c (pb (p x))) (.c (pi x) :: caps.map (PV.ip q))) :
    CallOK Try.prog 160 [.c (rd k xs.length (xs.map pi)), .c (.fn q g caps)] (.c (pb (xs.any p))) [.c (rd k xs.length (xs.map pi)), .c (.fn q g caps)] := by
  refine okS (fn := Try.f160) [] h0 Try.func160 (by kernel_rfl) rfl Try.ntmps160 Try.results160 (by simp) ?_
  simp
  refine Inv_intro (ok_IndexFunc_Int k q g caps p xs ha hg) ?_
  simp [idxOf_any]
theorem any_not {α : Type} (p : α → Bool) (xs : List α) : xs.any (fun x => !p x) = !xs.all p := by
  induction xs with
  | nil => rfl
  | cons x xs ih => simp [ih]
theorem ok_l1In (n lo hi : Int) : CallOK Try.prog 45 [.c (pi n), .c (pi lo), .c (pi hi)] (.c (pb (decide (lo ≤ n ∧ n ≤ hi)))) [.c (pi n), .c (pi lo), .c (pi hi)] := by
  refine okS (fn := Try.f45) [] h0 Try.func45 (by kernel_rfl) rfl Try.ntmps45 Try.results45 (by simp) ?_
  simp
  refine gT (fun h => ?_) (fun h => ?_) <;> simp [h]
theorem inR_t {n lo hi : Int} (h : lo ≤ n ∧ n ≤ hi) : inR n lo hi = true := by simp [inR, h]
theorem ok_isAsn (n : Int) : CallOK Try.prog 46 [.c (pi n)] (.c (pb (isAsnB n))) [.c (pi n)] := by
  refine okS (fn := Try.f46) [] h0 Try.func46 (by kernel_rfl) rfl Try.ntmps46 Try.results46 (by simp) ?_
  simp
  refine Inv_intro (ok_within _ _ _) ?_
  simp [isAsnB, inR]
theorem ok_isAddr (n : Int) : CallOK Try.prog 116 [.c (pi n)] (.c (pb (inR n 0 4294967295))) [.c (pi n)] := by
  refine okS (fn := Try.f116) [] h0 Try.func116 (by kernel_rfl) rfl Try.ntmps116 Try.results116 (by simp) ?_
  simp
  refine Inv_intro (ok_within _ _ _) ?_
  simp [inR]
theorem ok_l1Addr (n : Int) : CallOK Try.prog 113 [.c (pi n)] (.c (pb (inR n 0 4294967295))) [.c (pi n)] := by
  refine okS (fn := Try.f113) [] h0 Try.func113 (by kernel_rfl) rfl Try.ntmps113 Try.results113 (by simp) ?_
  simp
  refine Inv_intro (ok_l1In _ _ _) ?_
  simp [inR]
theorem ok_sizeOf (n : Int) (h1 : 0 ≤ n) (h2 : n ≤ 32) : CallOK Try.prog 117 [.c (pi n)] (.c (pi (szP n))) [.c (pi n)] := by
  refine okS (fn := Try.f117) [] h0 Try.func117 (by kernel_rfl) rfl Try.ntmps117 Try.results117 (by simp) ?_
  have hw : IntKind.wrap .i64 (32 - n) = 32 - n := wrap64 (by omega) (by omega)
  have hs := shl_pow (32 - n).toNat (by omega)
  have hn : 0 ≤ 32 - n := by omega
  simp [hw, h2]
  simpa [szP] using hs
theorem ok_l1Size (p : GPrefix) (h1 : 0 ≤ p.Len) (h2 : p.Len ≤ 32) : CallOK Try.prog 114 [.agg p.c] (.c (pi (szP p.Len))) [.agg p.c] := by
  refine okS (fn := Try.f114) [] h0 Try.func114 (by kernel_rfl) rfl Try.ntmps114 Try.results114 (by simp) ?_
  have hw : IntKind.wrap .i64 (32 - p.Len) = 32 - p.Len := wrap64 (by omega) (by omega)
  have hw2 : IntKind.wrap .u64 (32 - p.Len) = 32 - p.Len := by
    show (32 - p.Len) % 18446744073709551616 = _
    omega
  have hs := shl_pow (32 - p.Len).toNat (by omega)
  have hn : 0 ≤ 32 - p.Len := by omega
  simp [hw, hw2, h2]
  simpa [szP] using hs
theorem ok_iGoodPrefix (p : GPrefix) : CallOK Try.prog 64 [.agg p.c] (.c (pb (goodPx p))) [.agg p.c] := by
  refine okS (fn := Try.f64) [] h0 Try.func64 (by kernel_rfl) rfl Try.ntmps64 Try.results64 (by simp) ?_
  simp
  have hz := pow_ne (32 - p.Len).toNat
  by_cases c1 : 0 ≤ p.Len ∧ p.Len ≤ 32
  · refine drawP (tabEnv [] _) [⟨[.op 0 0 0], allD 20, true⟩, ⟨[.op 0 0 0], allD 20, true⟩, ⟨[], allD 20, false⟩, ⟨[], allD 20, true⟩, ⟨[.op 0 0 0], allD 20, true⟩, ⟨[.op 0 0 0], allD 20, true⟩, ⟨[], allD 20, false⟩, ⟨[], allD 20, true⟩, ⟨[], allD 20, true⟩, ⟨[.op 0 0 0], allD 20, true⟩, ⟨[.op 0 0 0], allD 20, true⟩, ⟨[.op 0 0 0], allD 20, true⟩, ⟨[.op 0 0 0], allD 20, true⟩, ⟨[], allD 20, false⟩, ⟨[], allD 20, true⟩, ⟨[], allD 20, true⟩, ⟨[], allD 20, true⟩, ⟨[], allD 20, true⟩] h0 hm (tabEnv_ok (tab_cons (ok_within p.Len 0 32) (tab_cons (ok_isAddr p.Addr) (tab_cons (ok_sizeOf p.Len c1.1 c1.2) tab_nil)))) (by kernel_rfl) (by kernel_rfl) ?_
    cases c2 : inR p.Addr 0 4294967295 with
    | false => simp [c1, c2, goodPx, inR_t c1]
    | true =>
      simp [c1, c2, goodPx, inR_t c1, szP, hz]
      try exact decide_eq_decide.2 Iff.rfl
  · refine drawP (tabEnv [] _) [⟨[.op 0 0 0], allD 20, true⟩, ⟨[.op 0 0 0], allD 20, true⟩, ⟨[], allD 20, false⟩, ⟨[], allD 20, true⟩, ⟨[.op 0 0 0], allD 20, true⟩, ⟨[.op 0 0 0], allD 20, true⟩, ⟨[], allD 20, false⟩, ⟨[], allD 20, true⟩, ⟨[], allD 20, true⟩, ⟨[.op 0 0 0], allD 20, true⟩, ⟨[.op 0 0 0], allD 20, true⟩, ⟨[.op 0 0 0], allD 20, true⟩, ⟨[.op 0 0 0], allD 20, true⟩, ⟨[], allD 20, false⟩, ⟨[], allD 20, true⟩, ⟨[], allD 20, true⟩, ⟨[], allD 20, true⟩, ⟨[], allD 20, true⟩] h0 hm (tabEnv_ok (tab_cons (ok_within p.Len 0 32) tab_nil)) (by kernel_rfl) (by kernel_rfl) ?_
    simp [c1, goodPx, inR]
theorem ok_sGoodPrefix (p : GPrefix) : CallOK Try.prog 61 [.agg p.c] (.c (pb (goodPx p))) [.agg p.c] := by
  refine okS (fn := Try.f61) [] h0 Try.func61 (by kernel_rfl) rfl Try.ntmps61 Try.results61 (by simp) ?_
  simp
  have hz := pow_ne (32 - p.Len).toNat
  by_cases c1 : 0 ≤ p.Len ∧ p.Len ≤ 32
  · refine drawP (tabEnv [] _) [⟨[.op 0 0 0], allD 19, true⟩, ⟨[.op 0 0 0], allD 19, true⟩, ⟨[], allD 19, false⟩, ⟨[], allD 19, true⟩, ⟨[.op 0 0 0], allD 19, true⟩, ⟨[.op 0 0 0], allD 19, true⟩, ⟨[], allD 19, false⟩, ⟨[], allD 19, true⟩, ⟨[], allD 19, true⟩, ⟨[.op 0 0 0], allD 19, true⟩, ⟨[.op 0 0 0], allD 19, true⟩, ⟨[.op 0 0 0], allD 19, true⟩, ⟨[], allD 19, false⟩, ⟨[], allD 19, true⟩, ⟨[], allD 19, true⟩, ⟨[], allD 19, true⟩, ⟨[], allD 19, true⟩] h0 hm (tabEnv_ok (tab_cons (ok_l1In p.Len 0 32) (tab_cons (ok_l1Addr p.Addr) (tab_cons (ok_l1Size p c1.1 c1.2) tab_nil)))) (by kernel_rfl) (by kernel_rfl) ?_
    cases c2 : inR p.Addr 0 4294967295 with
    | false => simp [c1, c2, goodPx, inR_t c1]
    | true =>
      simp [c1, c2, goodPx, inR_t c1, szP, hz]
      try exact decide_eq_decide.2 Iff.rfl
  · refine drawP (tabEnv [] _) [⟨[.op 0 0 0], allD 19, true⟩, ⟨[.op 0 0 0], allD 19, true⟩, ⟨[], allD 19, false⟩, ⟨[], allD 19, true⟩, ⟨[.op 0 0 0], allD 19, true⟩, ⟨[.op 0 0 0], allD 19, true⟩, ⟨[], allD 19, false⟩, ⟨[], allD 19, true⟩, ⟨[], allD 19, true⟩, ⟨[.op 0 0 0], allD 19, true⟩, ⟨[.op 0 0 0], allD 19, true⟩, ⟨[.op 0 0 0], allD 19, true⟩, ⟨[], allD 19, false⟩, ⟨[], allD 19, true⟩, ⟨[], allD 19, true⟩, ⟨[], allD 19, true⟩, ⟨[], allD 19, true⟩] h0 hm (tabEnv_ok (tab_cons (ok_l1In p.Len 0 32) tab_nil)) (by kernel_rfl) (by kernel_rfl) ?_
    simp [c1, goodPx, inR]
theorem ok_isNaNI (s : Int) : CallOK Try.prog 151 [.c (pi s)] (.c (pb false)) [.c (pi s)] := by
  refine okS (fn := Try.f151) [] h0 Try.func151 (by kernel_rfl) rfl Try.ntmps151 Try.results151 (by simp) ?_
  simp
theorem ok_cmpI (u v : Int) : CallOK Try.prog 107 [.c (pi u), .c (pi v)] (.c (pi (cmpI u v))) [.c (pi u), .c (pi v)] := by
  refine okS (fn := Try.f107) [] h0 Try.func107 (by kernel_rfl) rfl Try.ntmps107 Try.results107 (by simp) ?_
  simp
  refine Inv_intro (ok_isNaNI u) ?_
  simp
  refine Inv_intro (ok_isNaNI v) ?_
  simp
  refine brn_app (fun a => ?_) (fun a => ?_)
  · simp at a
    simp [cmpI, a]
  · simp at a
    have a' : ¬ u < v := by omega
    simp
    refine brn_app (fun b => ?_) (fun b => ?_)
    · simp at b
      simp [cmpI, a', b]
    · simp at b
      have b' : ¬ v < u := by omega
      simp [cmpI, a', b']
theorem ok_orI (k : Nat) (xs : List Int) (hx : xs.length ≤ 140737488351232) : CallOK Try.prog 106 [.c (rd k xs.length (xs.map pi))] (.c (pi (orI xs))) [.c (rd k xs.length (xs.map pi))] := by
  refine okS (fn := Try.f106) [] h0 Try.func106 (by kernel_rfl) rfl Try.ntmps106 Try.results106 (by simp) ?_
  simp
  refine loopS [3, 6, 7, 8] [] (fun n st => ∃ (i : Nat), i + n = xs.length ∧ orI (xs.drop i) = orI xs ∧ st = ⟨slOf 18 [(3, .t (pi 0)), (6, .t (rd k xs.length (xs.map pi))), (7, .t (pi xs.length)), (8, .t (pi i))], ofL []⟩) xs.length ?_ ?_
  · rintro Inv hI
    simp
    subst hI
    exact ⟨0, by omega, rfl, rfl⟩
  · rintro Inv hI n st ⟨i, hi, hf, rfl⟩
    refine ewr_sound (M := []) h0 ?_
    simp
    refine brn_app (fun a => ?_) (fun a => ?_)
    · simp at a
      rw [drop_step _ i a, orI] at hf
      simp [a]
      refine brn_app (fun b => ?_) (fun b => ?_)
      · simp at b
        rw [if_neg b] at hf
        simp [hf]
      · simp at b
        rw [if_pos b] at hf
        simp
        subst hI
        exact Less_mk (n - 1) (by omega) ⟨i + 1, by omega, hf, by rw [wrNext i (by omega)]⟩
    · simp at a
      rw [List.drop_of_length_le (by omega), orI] at hf
      simp [← hf]
theorem ok_compare (p q : GPrefix) : CallOK Try.prog 55 [.agg p.c, .agg q.c] (.c (pi (cmpPx p q))) [.agg p.c, .agg q.c] := by
  refine okS (fn := Try.f55) [] h0 Try.func55 (by kernel_rfl) rfl Try.ntmps55 Try.results55 (by simp) ?_
  simp
  have ho := ok_orI 0 [cmpI p.Addr q.Addr, cmpI p.Len q.Len] (by simp)
  simp at ho
  refine drawP (fnEnv 107 (fI2 fun a b => pi (cmpI a b)) (tabEnv [] _)) [⟨[.op 0 0 0], allD 17, true⟩, ⟨[.op 0 0 0], allD 17, true⟩, ⟨[.op 0 1 0], allD 17, true⟩, ⟨[.op 0 1 0], allD 17, true⟩, ⟨[], allD 17, false⟩, ⟨[.op 0 0 0], allD 17, true⟩, ⟨[.op 0 0 0], allD 17, true⟩, ⟨[.op 0 1 0], allD 17, true⟩, ⟨[.op 0 1 0], allD 17, true⟩, ⟨[], allD 17, false⟩, ⟨[], allD 17, false⟩, ⟨[.op 1 10 0], [5, 6, 7, 8, 9, 10, 11, 12, 13, 14, 15, 16, 4], false⟩, ⟨[], allD 17, true⟩] h0 hm (fnEnv_ok (tabEnv_ok (tab_cons ho tab_nil)) (fI2_ok ok_cmpI)) (by kernel_rfl) (by kernel_rfl) ?_
  simp
  by_cases c : cmpI p.Addr q.Addr = 0
  · by_cases d : cmpI p.Len q.Len = 0 <;> simp [orI, cmpPx, c, d]
  · simp [orI, cmpPx, c]
theorem ok_l1Compare (p q : GPrefix) : CallOK Try.prog 52 [.agg p.c, .agg q.c] (.c (pi (cmpPx p q))) [.agg p.c, .agg q.c] := by
  refine okS (fn := Try.f52) [] h0 Try.func52 (by kernel_rfl) rfl Try.ntmps52 Try.results52 (by simp) ?_
  by_cases a1 : p.Addr < q.Addr
  · simp [a1, cmpPx, cmpI]
  · by_cases a2 : p.Addr = q.Addr
    · by_cases b1 : p.Len < q.Len
      · simp [a1, a2, b1, cmpPx, cmpI]
      · by_cases b2 : p.Len = q.Len
        · simp [a2, b2, cmpPx, cmpI]
        · have b3 : q.Len < p.Len := by omega
          simp [a2, b1, b2, b3, cmpPx, cmpI]
    · have a3 : q.Addr < p.Addr := by omega
      simp [a1, a2, a3, cmpPx, cmpI]
theorem ok_isValue (n : Int) : CallOK Try.prog 149 [.c (pi n)] (.c (pb (isValB n))) [.c (pi n)] := by
  refine okS (fn := Try.f149) [] h0 Try.func149 (by kernel_rfl) rfl Try.ntmps149 Try.results149 (by simp) ?_
  simp
  refine Inv_intro (ok_within _ _ _) ?_
  simp [isValB, inR]
theorem ok_isPath1 (n : Int) : CallOK Try.prog 161 [.c (pi n)] (.c (pb (!isAsnB n))) [.c (pi n)] := by
  refine okS (fn := Try.f161) [] h0 Try.func161 (by kernel_rfl) rfl Try.ntmps161 Try.results161 (by simp) ?_
  simp
  refine Inv_intro (ok_isAsn n) ?_
  simp
theorem ok_isPath (k : Nat) (p : List Int) (hl : p.length ≤ 140737488351232) : CallOK Try.prog 148 [.c (rd k p.length (p.map pi))] (.c (pb (goodPa p))) [.c (rd k p.length (p.map pi))] := by
  refine okS (fn := Try.f148) [] h0 Try.func148 (by kernel_rfl) rfl Try.ntmps148 Try.results148 (by simp) ?_
  simp
  refine gT (fun a => ?_) (fun a => ?_)
  · have a' : p.length ≤ 10 := by simp at a; omega
    simp [a]
    refine Inv_intro (ok_ContainsFunc_Int k 0 161 [] (fun n => !isAsnB n) p hl fun x hx => ok_isPath1 x) ?_
    simp [goodPa, any_not, a']
  · have a' : ¬ p.length ≤ 10 := by simp at a; omega
    simp [goodPa, a, a']
theorem ok_areComms (k : Nat) (l : List Int) (hl : l.length ≤ 140737488351232) : CallOK Try.prog 150 [.c (rd k l.length (l.map pi))] (.c (pb (goodCm l))) [.c (rd k l.length (l.map pi))] := by
  refine okS (fn := Try.f150) [] h0 Try.func150 (by kernel_rfl) rfl Try.ntmps150 Try.results150 (by simp) ?_
  simp
  refine loopS [0, 5, 6, 7] [] (fun n st => ∃ (i : Nat), i + n = l.length ∧ commsG (prevI l i) (l.drop i) = commsG none l ∧ st = ⟨slOf 32 [(0, .t (rd k l.length (l.map pi))), (5, .t (rd k l.length (l.map pi))), (6, .t (pi l.length)), (7, .t (pi i))], ofL []⟩) l.length ?_ ?_
  · rintro Inv hI
    simp
    subst hI
    exact ⟨0, by omega, rfl, rfl⟩
  · rintro Inv hI n st ⟨i, hi, hg, rfl⟩
    refine ewr_sound (M := []) h0 ?_
    simp
    refine brn_app (fun a => ?_) (fun a => ?_)
    · simp at a
      rw [drop_step _ i a, commsG] at hg
      have en : prevI l (i + 1) = some l[i] := prevI_next l i a
      simp [a]
      refine Inv_intro (ok_isValue l[i]) ?_
      cases c1 : isValB l[i] with
      | false =>
        rw [c1, Bool.false_and, Bool.false_and] at hg
        simp [goodCm, ← hg]
      | true =>
        rw [c1, Bool.true_and] at hg
        by_cases c0 : i = 0
        · have e0 : ¬ 0 < i := by omega
          have ep : prevI l i = none := by simp [prevI, c0]
          rw [ep, adjI, Bool.true_and] at hg
          simp [e0]
          subst hI
          exact Less_mk (n - 1) (by omega) ⟨i + 1, by omega, by rw [en]; exact hg, by rw [wrNext i (by omega)]⟩
        · obtain ⟨j, hj⟩ : ∃ j, i = j + 1 := ⟨i - 1, by omega⟩
          have aj : j < l.length := by omega
          have ep : prevI l i = some l[j] := by subst hj; exact prevI_next l j aj
          have hw : IntKind.wrap .i64 ((i : Int) - 1) = j := (wrap64 (by omega) (by omega)).trans (by omega)
          have e0 : 0 < i := by omega
          rw [ep, adjI] at hg
          simp [e0, hw, aj]
          refine brn_app (fun c => ?_) (fun c => ?_)
          · simp at c
            have c' : ¬ l[j] < l[i] := by omega
            simp [c'] at hg
            simp [goodCm, hg]
          · simp at c
            have c' : l[j] < l[i] := by omega
            simp [c'] at hg
            simp
            subst hI
            exact Less_mk (n - 1) (by omega) ⟨i + 1, by omega, by rw [en]; exact hg, by rw [wrNext i (by omega)]⟩
    · simp at a
      rw [List.drop_of_length_le (by omega), commsG] at hg
      simp [goodCm, ← hg]
      omega
theorem ok_iGoodAttrs (k : Nat) (x : GAttrs) (hx : attrOK x) : CallOK Try.prog 105 [.agg (GAttrs.ci k x)] (.c (pb (goodA x))) [.agg (GAttrs.ci k x)] := by
  obtain ⟨h1, h2⟩ := hx
  refine okS (fn := Try.f105) [] h0 Try.func105 (by kernel_rfl) rfl Try.ntmps105 Try.results105 (by simp) ?_
  simp
  refine Inv_intro (ok_within _ _ _) ?_
  by_cases c1 : 0 ≤ x.Origin ∧ x.Origin ≤ 2
  · simp [c1]
    refine Inv_intro (ok_isPath k x.Path h1) ?_
    cases c2 : goodPa x.Path with
    | false => simp [goodA, c2]
    | true =>
      simp
      refine Inv_intro (ok_isAddr _) ?_
      cases c3 : inR x.Next 0 4294967295 with
      | false => simp [goodA, c3]
      | true =>
        simp
        refine Inv_intro (ok_isValue _) ?_
        cases c4 : isValB x.Med with
        | false => simp [goodA, c4]
        | true =>
          simp
          refine Inv_intro (ok_isValue _) ?_
          cases c5 : isValB x.Pref with
          | false => simp [goodA, c5]
          | true =>
            simp
            refine Inv_intro (ok_areComms k x.Comms h2) ?_
            simp [goodA, c2, c3, c4, c5, inR_t c1]
  · have c1' : inR x.Origin 0 2 = false := by simp only [inR, decide_eq_false_iff_not]; exact c1
    simp [c1, goodA, c1']
theorem ok_iGoodRoute (k : Nat) (r : GRoute) (hx : attrOK r.Attrs) : CallOK Try.prog 54 [.agg (GRoute.ci k r)] (.c (pb (goodR r))) [.agg (GRoute.ci k r)] := by
  refine okS (fn := Try.f54) [] h0 Try.func54 (by kernel_rfl) rfl Try.ntmps54 Try.results54 (by simp) ?_
  simp
  refine Inv_intro (ok_iGoodPrefix r.Prefix) ?_
  cases c1 : goodPx r.Prefix with
  | false => simp [goodR, c1]
  | true =>
    simp
    refine Inv_intro (ok_iGoodAttrs k r.Attrs hx) ?_
    simp [goodR, c1]
theorem ok_iGoodRoutes (k : Nat) (l : List GRoute) (hl : routesOK l) : CallOK Try.prog 19 [.c (rd k l.length (l.flatMap (GRoute.ci k)))] (.c (pb (goodRs l))) [.c (rd k l.length (l.flatMap (GRoute.ci k)))] := by
  obtain ⟨hll, hlx⟩ := hl
  refine okS (fn := Try.f19) [] h0 Try.func19 (by kernel_rfl) rfl Try.ntmps19 Try.results19 (by simp) ?_
  simp
  refine loopS [0, 5, 6, 7] [] (fun n st => ∃ (i : Nat), i + n = l.length ∧ routesG (prevR l i) (l.drop i) = routesG none l ∧ st = ⟨slOf 35 [(0, .t (rd k l.length (l.flatMap (GRoute.ci k)))), (5, .t (rd k l.length (l.flatMap (GRoute.ci k)))), (6, .t (pi l.length)), (7, .t (pi i))], ofL []⟩) l.length ?_ ?_
  · rintro Inv hI
    simp
    subst hI
    exact ⟨0, by omega, rfl, rfl⟩
  · rintro Inv hI n st ⟨i, hi, hg, rfl⟩
    refine ewr_sound (M := []) h0 ?_
    simp
    refine brn_app (fun a => ?_) (fun a => ?_)
    · simp at a
      have hx := hlx l[i] (List.getElem_mem a)
      rw [drop_step _ i a, routesG] at hg
      have hd := fm_drop (GRoute.ci k) 8 (fun _ => rfl) l i a
      have hlen := fm_len (GRoute.ci k) 8 (fun _ => rfl) l
      have hlt : i * 8 < l.length * 8 := by omega
      have en : prevR l (i + 1) = some l[i] := prevR_next l i a
      simp [a, hd, hlen, hlt]
      have hR := ok_iGoodRoute k l[i] hx
      by_cases c0 : i = 0
      · have e0 : ¬ 0 < i := by omega
        have ep : prevR l i = none := by simp [prevR, c0]
        rw [ep, adjR, Bool.and_true] at hg
        refine drawP (tabEnv [] _) [⟨[.op 3 3 0], allD 35, true⟩, ⟨[], allD 35, false⟩, ⟨[], allD 35, true⟩, ⟨[], allD 35, true⟩, ⟨[], allD 35, true⟩, ⟨[], allD 35, true⟩, ⟨[], allD 35, true⟩, ⟨[], allD 35, true⟩, ⟨[], allD 35, true⟩, ⟨[], allD 35, true⟩, ⟨[], allD 35, true⟩, ⟨[], allD 35, true⟩, ⟨[], allD 35, true⟩, ⟨[.op 3 3 0], allD 35, true⟩, ⟨[.op 3 3 0], allD 35, true⟩, ⟨[], allD 35, false⟩, ⟨[], allD 35, true⟩, ⟨[], allD 35, true⟩, ⟨[], allD 35, true⟩] h0 hm (tabEnv_ok (tab_cons hR tab_nil)) (by kernel_rfl) (by kernel_rfl) ?_
        cases c1 : goodR l[i] with
        | false =>
          rw [c1, Bool.false_and] at hg
          simp [c1, goodRs, ← hg]
        | true =>
          rw [c1, Bool.true_and] at hg
          simp [c1, e0]
          subst hI
          exact Less_mk (n - 1) (by omega) ⟨i + 1, by omega, by rw [en]; exact hg, by rw [wrNext i (by omega)]⟩
      · obtain ⟨j, hj⟩ : ∃ j, i = j + 1 := ⟨i - 1, by omega⟩
        have aj : j < l.length := by omega
        have ep : prevR l i = some l[j] := by subst hj; exact prevR_next l j aj
        have hdj := fm_drop (GRoute.ci k) 8 (fun _ => rfl) l j aj
        have hltj : j * 8 < l.length * 8 := by omega
        have hw : IntKind.wrap .i64 ((i : Int) - 1) = j := (wrap64 (by omega) (by omega)).trans (by omega)
        have e0 : 0 < i := by omega
        rw [ep, adjR] at hg
        refine drawP (tabEnv [] _) [⟨[.op 3 3 0], allD 35, true⟩, ⟨[], allD 35, false⟩, ⟨[], allD 35, true⟩, ⟨[], allD 35, true⟩, ⟨[], allD 35, true⟩, ⟨[], allD 35, true⟩, ⟨[], allD 35, true⟩, ⟨[], allD 35, true⟩, ⟨[], allD 35, true⟩, ⟨[], allD 35, true⟩, ⟨[], allD 35, true⟩, ⟨[], allD 35, true⟩, ⟨[], allD 35, true⟩, ⟨[.op 3 3 0], allD 35, true⟩, ⟨[.op 3 3 0], allD 35, true⟩, ⟨[], allD 35, false⟩, ⟨[], allD 35, true⟩, ⟨[], allD 35, true⟩, ⟨[], allD 35, true⟩] h0 hm (tabEnv_ok (tab_cons hR (tab_cons (ok_compare l[j].Prefix l[i].Prefix) tab_nil))) (by kernel_rfl) (by kernel_rfl) ?_
        cases c1 : goodR l[i] with
        | false =>
          rw [c1, Bool.false_and, Bool.false_and] at hg
          simp [c1, goodRs, ← hg]
        | true =>
          rw [c1, Bool.true_and] at hg
          by_cases c2 : cmpPx l[j].Prefix l[i].Prefix < 0
          · have c3 : ¬ 0 ≤ cmpPx l[j].Prefix l[i].Prefix := by omega
            rw [decide_eq_true c2, Bool.true_and] at hg
            simp [c1, e0, hw, aj, hdj, hlen, hltj, c3]
            subst hI
            exact Less_mk (n - 1) (by omega) ⟨i + 1, by omega, by rw [en]; exact hg, by rw [wrNext i (by omega)]⟩
          · have c3 : 0 ≤ cmpPx l[j].Prefix l[i].Prefix := by omega
            rw [decide_eq_false c2, Bool.false_and] at hg
            simp [c1, e0, hw, aj, hdj, hlen, hltj, c3, goodRs, ← hg]
    · simp at a
      rw [List.drop_of_length_le (by omega), routesG] at hg
      simp [goodRs, ← hg]
      omega
end Go.V
