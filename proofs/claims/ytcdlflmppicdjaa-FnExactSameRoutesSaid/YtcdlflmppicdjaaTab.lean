/- What functions of the seat's program do, each proved of its code, under the bounds that its theorem names. -/
import Derived.Test.YtcdlflmppicdjaaTaa
set_option linter.all false
namespace Go.V
open Go.Proofs
set_option maxHeartbeats 1000000
set_option maxRecDepth 10000
set_option linter.unusedSimpArgs false
set_option linter.unusedVariables false
theorem ok_toAttrs (k : Nat) (x : GAttrs) (hwt : GAttrs.wt x ≤ 1048576) : CallOK Try.prog 104 [.agg (GAttrs.ci k x)] (.agg (GAttrs.co x)) [.agg (GAttrs.ci k x)] := by
  unfold GAttrs.wt at hwt
  refine okS (fn := Try.f104) [] h0 Try.func104 (by kernel_rfl) rfl Try.ntmps104 Try.results104 (by simp) ?_
  simp
  refine Inv_intro (ok_toIntS k x.Path (by omega)) ?_
  simp
  refine Inv_intro (ok_toIntS k x.Comms (by omega)) ?_
  simp
theorem ok_toPrefix (x : GPrefix) : CallOK Try.prog 103 [.agg (GPrefix.c x)] (.agg (GPrefix.c x)) [.agg (GPrefix.c x)] := by
  refine okS (fn := Try.f103) [] h0 Try.func103 (by kernel_rfl) rfl Try.ntmps103 Try.results103 (by simp) ?_
  simp
theorem ok_toRoute (k : Nat) (x : GRoute) (hwt : GRoute.wt x ≤ 1048576) : CallOK Try.prog 53 [.agg (GRoute.ci k x)] (.agg (GRoute.co x)) [.agg (GRoute.ci k x)] := by
  unfold GRoute.wt at hwt
  refine okS (fn := Try.f53) [] h0 Try.func53 (by kernel_rfl) rfl Try.ntmps53 Try.results53 (by simp) ?_
  simp
  refine Inv_intro (ok_toPrefix x.Prefix) ?_
  simp
  refine Inv_intro (ok_toAttrs k x.Attrs (by omega)) ?_
  simp
theorem ok_toRouteS (k : Nat) (xs : List GRoute) (hwt : wt_RouteS xs ≤ 1048576) : CallOK Try.prog 18 [.c (rd k xs.length (xs.flatMap (GRoute.ci k)))] (.c (.sl 0 80 xs.length (xs.flatMap GRoute.co))) [.c (rd k xs.length (xs.flatMap (GRoute.ci k)))] := by
  have hl := len_wt_RouteS xs
  refine okS (fn := Try.f18) [] h0 Try.func18 (by kernel_rfl) rfl Try.ntmps18 Try.results18 (by simp) ?_
  have hb1 : (xs.length : Int) ≤ 281474976710656 := by omega
  have hb2 : 96 * (xs.length : Int) ≤ 281474976710656 := by omega
  simp [hb1, hb2]
  refine loopS [0, 3, 4] [.op 1 2 0] (fun n st => ∃ (i : Nat), i + n = xs.length ∧ st = ⟨slOf 23 [(0, .t (rd k xs.length (xs.flatMap (GRoute.ci k)))), (3, .ref ⟨.op 1 2 0, []⟩ 0 xs.length), (4, .t (pi i))], ofL [(.op 1 2 0, .sl 0 80 xs.length (((xs.take i).flatMap GRoute.co) ++ (List.replicate n [.raw (.int .i64 0), .raw (.int .i64 0), .raw (.int .i64 0), .sl 0 nilE 0 [], .raw (.int .i64 0), .raw (.int .i64 0), .raw (.int .i64 0), .sl 0 nilE 0 []]).flatten))]⟩) xs.length ?_ ?_
  · rintro Inv hI
    simp
    subst hI
    exact ⟨0, by omega, by simp⟩
  · rintro Inv hI n st ⟨i, hi, rfl⟩
    have hA := fm_take_len GRoute.co 8 (fun _ => rfl) xs i (by omega)
    generalize hAe : ((xs.take i).flatMap GRoute.co) = A at hA ⊢
    refine ewr_sound (M := []) h0 ?_
    simp
    refine brn_app (fun h => ?_) (fun h => ?_)
    · simp at h
      obtain ⟨m, rfl⟩ : ∃ m, n = m + 1 := ⟨n - 1, by omega⟩
      have hd := fm_drop (GRoute.ci k) 8 (fun _ => rfl) xs i h
      have hlen := fm_len (GRoute.ci k) 8 (fun _ => rfl) xs
      have hlt : i * 8 < xs.length * 8 := by omega
      simp [h, hd, hlen, hlt]
      refine Inv_intro (ok_toRoute k xs[i] (by have := mem_wt_RouteS (List.getElem_mem h); omega)) ?_
      simp [h, hA, List.replicate_succ]
      have e3 : ((xs.take (i + 1)).flatMap GRoute.co) = A ++ GRoute.co xs[i] := by rw [take_step xs i h, List.flatMap_append, hAe, List.flatMap_cons, List.flatMap_nil, List.append_nil]
      subst hI
      refine Less_mk m (by omega) ⟨i + 1, by omega, ?_⟩
      rw [wrNext i (by omega), e3, List.append_assoc]
      all_goals rfl
    · simp at h
      have hn : n = 0 := by omega
      subst hn
      have ht : List.take i xs = xs := List.take_of_length_le (by omega)
      have ht2 : List.take (xs.length * 8) (xs.flatMap GRoute.co) = (xs.flatMap GRoute.co) := List.take_of_length_le (by rw [fm_len GRoute.co 8 (fun _ => rfl)]; exact Nat.le_refl _)
      have hlo := fm_len GRoute.co 8 (fun _ => rfl) xs
      rw [← hAe, ht]
      simp [ht2, hlo, -List.length_flatMap]
def inR (n lo hi : Int) : Bool := decide (lo ≤ n ∧ n ≤ hi)
def szP (n : Int) : Int := 2 ^ (32 - n).toNat
theorem shl_pow (m : Nat) (h : m ≤ 32) : IntKind.wrap .i64 (1 * 2 ^ min m IntKind.i64.bits) = 2 ^ m := by
  have : ∀ m : Fin 33, IntKind.wrap .i64 (1 * 2 ^ min m.1 IntKind.i64.bits) = 2 ^ m.1 := by decide
  exact this ⟨m, by omega⟩
theorem pow_ne (m : Nat) : ¬ (2 : Int) ^ m = 0 := by
  have : (0 : Int) < 2 ^ m := Int.pow_pos (by decide)
  omega
def goodPx (p : GPrefix) : Bool := inR p.Len 0 32 && (inR p.Addr 0 4294967295 && decide (p.Addr.tmod (szP p.Len) = 0))
def cmpI (a b : Int) : Int := if a < b then -1 else if b < a then 1 else 0
def cmpPx (p q : GPrefix) : Int := if cmpI p.Addr q.Addr = 0 then cmpI p.Len q.Len else cmpI p.Addr q.Addr
def orI : List Int → Int
  | [] => 0
  | x :: xs => if x = 0 then orI xs else x
def isAsnB (n : Int) : Bool := inR n 1 65535
def isValB (n : Int) : Bool := inR n 0 1000000
def adjI (q : Option Int) (x : Int) : Bool := match q with
  | none => true
  | some q => decide (q < x)
def commsG : Option Int → List Int → Bool
  | _, [] => true
  | q, x :: xs => isValB x && adjI q x && commsG (some x) xs
def goodCm (l : List Int) : Bool := commsG none l && decide (l.length ≤ 6)
def goodPa (l : List Int) : Bool := decide (l.length ≤ 10) && l.all isAsnB
def goodA (a : GAttrs) : Bool := inR a.Origin 0 2 && (goodPa a.Path && (inR a.Next 0 4294967295 && (isValB a.Med && (isValB a.Pref && goodCm a.Comms))))
def prevI (l : List Int) (i : Nat) : Option Int := if i = 0 then none else l[i - 1]?
theorem prevI_next (l : List Int) (i : Nat) (h : i < l.length) : prevI l (i + 1) = some l[i] := by simp [prevI, h]
def attrOK (a : GAttrs) : Prop := a.Path.length ≤ 140737488351232 ∧ a.Comms.length ≤ 140737488351232
def goodR (r : GRoute) : Bool := goodPx r.Prefix && goodA r.Attrs
def adjR (q : Option GRoute) (x : GRoute) : Bool := match q with
  | none => true
  | some q => decide (cmpPx q.Prefix x.Prefix < 0)
def routesG : Option GRoute → List GRoute → Bool
  | _, [] => true
  | q, x :: xs => goodR x && adjR q x && routesG (some x) xs
def goodRs (l : List GRoute) : Bool := routesG none l && decide (l.length ≤ 20)
def prevR (l : List GRoute) (i : Nat) : Option GRoute := if i = 0 then none else l[i - 1]?
theorem prevR_next (l : List GRoute) (i : Nat) (h : i < l.length) : prevR l (i + 1) = some l[i] := by simp [prevR, h]
def routesOK (l : List GRoute) : Prop := l.length ≤ 140737488351232 ∧ ∀ r ∈ l, attrOK r.Attrs
theorem ok_EqualI (k k' : Nat) (xs ys : List Int) (ha : xs.length ≤ 140737488351232) (hb : ys.length ≤ 140737488351232) : CallOK Try.prog 153 [.c (rd k xs.length (xs.map pi)), .c (rd k' ys.length (ys.map pi))] (.c (pb (decide (xs = ys)))) [.c (rd k xs.length (xs.map pi)), .c (rd k' ys.length (ys.map pi))] := by
  refine okS (fn := Try.f153) [] h0 Try.func153 (by kernel_rfl) rfl Try.ntmps153 Try.results153 (by simp) ?_
  simp
  refine brn_app (fun h => ?_) (fun h => ?_)
  · simp at h
    simp
    rintro rfl
    exact h rfl
  · simp at h
    have hl : ys.length = xs.length := by omega
    simp
    refine loopS [0, 1, 12, 13] [] (fun n st => ∃ (i : Nat), i + n = xs.length ∧ (xs.drop i = ys.drop i ↔ xs = ys) ∧ st = ⟨slOf 26 [(0, .t (rd k xs.length (xs.map pi))), (1, .t (rd k' ys.length (ys.map pi))), (12, .t (pi xs.length)), (13, .t (pi i))], ofL []⟩) xs.length ?_ ?_
    · rintro Inv hI
      simp
      subst hI
      exact ⟨0, by omega, by simp, rfl⟩
    · rintro Inv hI n st ⟨i, hi, htk, rfl⟩
      refine ewr_sound (M := []) h0 ?_
      simp
      refine brn_app (fun h => ?_) (fun h => ?_)
      · simp at h
        have hib : i < ys.length := by omega
        rw [drop_step xs i h, drop_step ys i hib, List.cons.injEq] at htk
        simp
        refine drawP E0 [⟨[], allD 26, true⟩, ⟨[], allD 26, true⟩, ⟨[], allD 26, true⟩, ⟨[], allD 26, true⟩, ⟨[], allD 26, true⟩, ⟨[], allD 26, true⟩, ⟨[], allD 26, true⟩, ⟨[], allD 26, true⟩, ⟨[], allD 26, true⟩] h0 hm (E0_ok _) (by kernel_rfl) (by kernel_rfl) ?_
        simp [h, hib]
        refine brn_app (fun h2 => ?_) (fun h2 => ?_)
        · simp at h2
          simp
          intro he
          exact h2 (htk.2 he).1
        · simp at h2
          simp
          subst hI
          exact Less_mk (n - 1) (by omega) ⟨i + 1, by omega, ⟨fun h4 => htk.1 ⟨h2, h4⟩, fun h4 => (htk.2 h4).2⟩, by rw [wrNext i (by omega)]⟩
      · simp at h
        rw [List.drop_of_length_le (by omega), List.drop_of_length_le (by omega)] at htk
        simp
        exact htk.1 rfl
theorem attrs_ext (a b : GAttrs) : decide (a = b) = (decide (a.Origin = b.Origin) && (decide (a.Path = b.Path) && (decide (a.Next = b.Next) && (decide (a.Med = b.Med) && (decide (a.Pref = b.Pref) && decide (a.Comms = b.Comms)))))) := by
  cases a
  cases b
  simp
theorem ok_sameAttrs (k k' : Nat) (a b : GAttrs) (ha : attrOK a) (hb : attrOK b) : CallOK Try.prog 111 [.agg (GAttrs.ci k a), .agg (GAttrs.ci k' b)] (.c (pb (decide (a = b)))) [.agg (GAttrs.ci k a), .agg (GAttrs.ci k' b)] := by
  refine okS (fn := Try.f111) [] h0 Try.func111 (by kernel_rfl) rfl Try.ntmps111 Try.results111 (by simp) ?_
  rw [attrs_ext]
  by_cases c1 : a.Origin = b.Origin
  · simp [c1]
    refine Inv_intro (ok_EqualI k k' a.Path b.Path ha.1 hb.1) ?_
    by_cases c2 : a.Path = b.Path
    · by_cases c3 : a.Next = b.Next
      · by_cases c4 : a.Med = b.Med
        · by_cases c5 : a.Pref = b.Pref
          · simp [c2, c3, c4, c5]
            refine Inv_intro (ok_EqualI k k' a.Comms b.Comms ha.2 hb.2) ?_
            simp
          · simp [c2, c3, c4, c5]
        · simp [c2, c3, c4]
      · simp [c2, c3]
    · simp [c2]
  · simp [c1]
theorem ok_sameRoute (k k' : Nat) (a b : GRoute) (ha : attrOK a.Attrs) (hb : attrOK b.Attrs) : CallOK Try.prog 59 [.agg (GRoute.ci k a), .agg (GRoute.ci k' b)] (.c (pb (decide (a = b)))) [.agg (GRoute.ci k a), .agg (GRoute.ci k' b)] := by
  refine okS (fn := Try.f59) [] h0 Try.func59 (by kernel_rfl) rfl Try.ntmps59 Try.results59 (by simp) ?_
  have e : decide (a = b) = (decide (a.Prefix = b.Prefix) && decide (a.Attrs = b.Attrs)) := by
    cases a
    cases b
    simp
  have e2 : decide (a.Prefix = b.Prefix) = (decide (a.Prefix.Addr = b.Prefix.Addr) && decide (a.Prefix.Len = b.Prefix.Len)) := by
    cases a.Prefix
    cases b.Prefix
    simp
  rw [e, e2]
  by_cases c1 : a.Prefix.Addr = b.Prefix.Addr
  · by_cases c2 : a.Prefix.Len = b.Prefix.Len
    · simp [c1, c2]
      refine Inv_intro (ok_sameAttrs k k' a.Attrs b.Attrs ha hb) ?_
      simp
    · simp [c1, c2]
  · simp [c1]
theorem ok_EqualFunc_Route (k k' : Nat) (xs ys : List GRoute) (hx : routesOK xs) (hy : routesOK ys) : CallOK Try.prog 58 [.c (rd k xs.length (xs.flatMap (GRoute.ci k))), .c (rd k' ys.length (ys.flatMap (GRoute.ci k'))), .c (.fn 0 59 [])] (.c (pb (decide (xs = ys)))) [.c (rd k xs.length (xs.flatMap (GRoute.ci k))), .c (rd k' ys.length (ys.flatMap (GRoute.ci k'))), .c (.fn 0 59 [])] := by
  obtain ⟨hxl, hxx⟩ := hx
  obtain ⟨hyl, hyy⟩ := hy
  refine okS (fn := Try.f58) [] h0 Try.func58 (by kernel_rfl) rfl Try.ntmps58 Try.results58 (by simp) ?_
  simp
  refine brn_app (fun h => ?_) (fun h => ?_)
  · simp at h
    simp
    rintro rfl
    exact h rfl
  · simp at h
    have hl : ys.length = xs.length := by omega
    simp
    refine loopS [1, 2, 15, 16, 17] [] (fun n st => ∃ (i : Nat), i + n = xs.length ∧ (xs.drop i = ys.drop i ↔ xs = ys) ∧ st = ⟨slOf 32 [(1, .t (rd k' ys.length (ys.flatMap (GRoute.ci k')))), (2, .t (.fn 0 59 [])), (15, .t (rd k xs.length (xs.flatMap (GRoute.ci k)))), (16, .t (pi xs.length)), (17, .t (pi i))], ofL []⟩) xs.length ?_ ?_
    · rintro Inv hI
      simp
      subst hI
      exact ⟨0, by omega, by simp, rfl⟩
    · rintro Inv hI n st ⟨i, hi, htk, rfl⟩
      refine ewr_sound (M := []) h0 ?_
      simp
      refine brn_app (fun h => ?_) (fun h => ?_)
      · simp at h
        have hib : i < ys.length := by omega
        rw [drop_step xs i h, drop_step ys i hib, List.cons.injEq] at htk
        have hd := fm_drop (GRoute.ci k) 8 (fun _ => rfl) xs i h
        have hlen := fm_len (GRoute.ci k) 8 (fun _ => rfl) xs
        have hlt : i * 8 < xs.length * 8 := by omega
        have hd' := fm_drop (GRoute.ci k') 8 (fun _ => rfl) ys i hib
        have hlen' := fm_len (GRoute.ci k') 8 (fun _ => rfl) ys
        have hlt' : i * 8 < ys.length * 8 := by omega
        simp [h, hd, hlen, hlt, hib, hd', hlen', hlt']
        refine Inv_intro (ok_sameRoute k k' xs[i] ys[i] (hxx _ (List.getElem_mem h)) (hyy _ (List.getElem_mem hib))) ?_
        simp
        refine brn_app (fun h2 => ?_) (fun h2 => ?_)
        · simp at h2
          simp
          intro he
          exact h2 (htk.2 he).1
        · simp at h2
          simp
          subst hI
          exact Less_mk (n - 1) (by omega) ⟨i + 1, by omega, ⟨fun h4 => htk.1 ⟨h2, h4⟩, fun h4 => (htk.2 h4).2⟩, by rw [wrNext i (by omega)]⟩
      · simp at h
        rw [List.drop_of_length_le (by omega), List.drop_of_length_le (by omega)] at htk
        simp
        exact htk.1 rfl
theorem ok_within (n lo hi : Int) : CallOK Try.prog 97 [.c (pi n), .c (pi lo), .c (pi hi)] (.c (pb (decide (lo ≤ n ∧ n ≤ hi)))) [.c (pi n), .c (pi lo), .c (pi hi)] := by
  refine okS (fn := Try.f97) [] h0 Try.func97 (by kernel_rfl) rfl Try.ntmps97 Try.results97 (by simp) ?_
  simp
  refine gT (fun h => ?_) (fun h => ?_) <;> simp [h]
/-- Where a condition holds first, or -1. -/
def idxOf {α : Type} (p : α → Bool) (xs : List α) : Int := match xs.findIdx? p with | some i => i | none => -1
theorem idxOf_hit {α : Type} (p : α → Bool) (xs : List α) (i : Nat) (h : i < xs.length) (hp : p xs[i] = true) (hall : ∀ (j : Nat) (hj : j < i), p (xs[j]'(by omega)) = false) : idxOf p xs = i := by
  unfold idxOf
  rw [(List.findIdx?_eq_some_iff_getElem (i := i)).2 ⟨h, hp, fun j hj => by simp [hall j hj]⟩]
theorem idxOf_no {α : Type} (p : α → Bool) (xs : List α) (hall : ∀ (j : Nat) (hj : j < xs.length), p xs[j] = false) : idxOf p xs = -1 := by
  unfold idxOf
  rw [List.findIdx?_eq_none_iff.2 (fun s hs => by
    obtain ⟨j, hj, rfl⟩ := List.getElem_of_mem hs
    simp [hall j hj])]
theorem idxOf_any {α : Type} (p : α → Bool) (xs : List α) : decide (0 ≤ idxOf p xs) = xs.any p := by
  unfold idxOf
  cases h : xs.findIdx? p with
  | none =>
    rw [List.findIdx?_eq_none_iff] at h
    simp
    exact fun x hx => by simpa using h x hx
  | some i =>
    rw [List.findIdx?_eq_some_iff_getElem] at h
    obtain ⟨h1, h2, _⟩ := h
    simp
    exact ⟨_, List.getElem_mem h1, h2⟩
theorem ok_IndexFunc_Int (k q g : Nat) (caps : List (List PT)) (p : Int → Bool) (xs : List Int) (ha : xs.length ≤ 140737488351232)
    (hg : ∀ x ∈ xs, CallOK Try.prog g (.c (pi x) :: caps.map (PV.ip q)) (.c (pb (p x))) (.c (pi x) :: caps.map (PV.ip q))) :
    CallOK Try.prog 165 [.c (rd k xs.length (xs.map pi)), .c (.fn q g caps)] (.c (pi (idxOf p xs))) [.c (rd k xs.length (xs.map pi)), .c (.fn q g caps)] := by
  refine okS (fn := Try.f165) [] h0 Try.func165 (by kernel_rfl) rfl Try.ntmps165 Try.results165 (by simp) ?_
  simp
  refine loopS [0, 1, 7, 8] [] (fun n st => ∃ (i : Nat), i + n = xs.length ∧ (∀ (j : Nat) (hj : j < i) (hj' : j < xs.length), p xs[j] = false) ∧ st = ⟨slOf 19 [(0, .t (rd k xs.length (xs.map pi))), (1, .t (.fn q g caps)), (7, .t (pi xs.length)), (8, .t (pi i))], ofL []⟩) xs.length ?_ ?_
  · rintro Inv hI
    simp
    subst hI
    exact ⟨0, by omega, by intro j hj; omega, rfl⟩
  · rintro Inv hI n st ⟨i, hi, hall, rfl⟩
    refine ewr_sound (M := []) h0 ?_
    simp
    refine brn_app (fun h => ?_) (fun h => ?_)
    · simp at h
      simp [h]
      refine Inv_intro (hg _ (List.getElem_mem h)) ?_
      simp
      refine brn_app (fun h2 => ?_) (fun h2 => ?_)
      · simp
        exact (idxOf_hit p xs i h h2 fun j hj => hall j hj (by omega)).symm
      · simp
        subst hI
        refine Less_mk (n - 1) (by omega) ⟨i + 1, by omega, ?_, by rw [wrNext i (by omega)]⟩
        intro j hj hj'
        by_cases hji : j = i
        · subst hji; exact h2
        · exact hall j (by omega) hj'
    · simp at h
      simp
      exact (idxOf_no p xs fun j hj => hall j (by omega) hj).symm
theorem ok_ContainsFunc_Int (k q g : Nat) (caps : List (List PT)) (p : Int → Bool) (xs : List Int) (ha : xs.length ≤ 140737488351232)
    (hg : ∀ x ∈ xs, CallOK Try.prog g (.c (pi x) :: caps.map (PV.ip q)) (.c (pb (p x))) (.c (pi x) :: caps.map (PV.ip q))) :
    CallOK Try.prog 160 [.c (rd k xs.length (xs.map pi)), .c (.fn q g caps)] (.c (pb (xs.any p))) [.c (rd k xs.length (xs.map pi)), .c (.fn q g caps)] := by
  refine okS (fn := Try.f160) [] h0 Try.func160 (by kernel_rfl) rfl Try.ntmps160 Try.results160 (by simp) ?_
  simp
  refine Inv_intro (ok_IndexFunc_Int k q g caps p xs ha hg) ?_
  simp [idxOf_any]
theorem any_not {α : Type} (p : α → Bool) (xs : List α) : xs.any (fun x => !p x) = !xs.all p := by
  induction xs with
  | nil => rfl
  | cons x xs ih => simp [ih]
theorem ok_l1In (n lo hi : Int) : CallOK Try.prog 45 [.c (pi n), .c (pi lo), .c (pi hi)] (.c (pb (decide (lo ≤ n ∧ n ≤ hi)))) [.c (pi n), .c (pi lo), .c (pi hi)] := by
  refine okS (fn := Try.f45) [] h0 Try.func45 (by kernel_rfl) rfl Try.ntmps45 Try.results45 (by simp) ?_
  simp
  refine gT (fun h => ?_) (fun h => ?_) <;> simp [h]
theorem inR_t {n lo hi : Int} (h : lo ≤ n ∧ n ≤ hi) : inR n lo hi = true := by simp [inR, h]
theorem ok_isAsn (n : Int) : CallOK Try.prog 46 [.c (pi n)] (.c (pb (isAsnB n))) [.c (pi n)] := by
  refine okS (fn := Try.f46) [] h0 Try.func46 (by kernel_rfl) rfl Try.ntmps46 Try.results46 (by simp) ?_
  simp
  refine Inv_intro (ok_within _ _ _) ?_
  simp [isAsnB, inR]
theorem ok_isAddr (n : Int) : CallOK Try.prog 116 [.c (pi n)] (.c (pb (inR n 0 4294967295))) [.c (pi n)] := by
  refine okS (fn := Try.f116) [] h0 Try.func116 (by kernel_rfl) rfl Try.ntmps116 Try.results116 (by simp) ?_
  simp
  refine Inv_intro (ok_within _ _ _) ?_
  simp [inR]
theorem ok_l1Addr (n : Int) : CallOK Try.prog 113 [.c (pi n)] (.c (pb (inR n 0 4294967295))) [.c (pi n)] := by
  refine okS (fn := Try.f113) [] h0 Try.func113 (by kernel_rfl) rfl Try.ntmps113 Try.results113 (by simp) ?_
  simp
  refine Inv_intro (ok_l1In _ _ _) ?_
  simp [inR]
theorem ok_sizeOf (n : Int) (h1 : 0 ≤ n) (h2 : n ≤ 32) : CallOK Try.prog 117 [.c (pi n)] (.c (pi (szP n))) [.c (pi n)] := by
  refine okS (fn := Try.f117) [] h0 Try.func117 (by kernel_rfl) rfl Try.ntmps117 Try.results117 (by simp) ?_
  have hw : IntKind.wrap .i64 (32 - n) = 32 - n := wrap64 (by omega) (by omega)
  have hs := shl_pow (32 - n).toNat (by omega)
  have hn : 0 ≤ 32 - n := by omega
  simp [hw, h2]
  simpa [szP] using hs
theorem ok_l1Size (p : GPrefix) (h1 : 0 ≤ p.Len) (h2 : p.Len ≤ 32) : CallOK Try.prog 114 [.agg p.c] (.c (pi (szP p.Len))) [.agg p.c] := by
  refine okS (fn := Try.f114) [] h0 Try.func114 (by kernel_rfl) rfl Try.ntmps114 Try.results114 (by simp) ?_
  have hw : IntKind.wrap .i64 (32 - p.Len) = 32 - p.Len := wrap64 (by omega) (by omega)
  have hw2 : IntKind.wrap .u64 (32 - p.Len) = 32 - p.Len := by
    show (32 - p.Len) % 18446744073709551616 = _
    omega
  have hs := shl_pow (32 - p.Len).toNat (by omega)
  have hn : 0 ≤ 32 - p.Len := by omega
  simp [hw, hw2, h2]
  simpa [szP] using hs
theorem ok_iGoodPrefix (p : GPrefix) : CallOK Try.prog 64 [.agg p.c] (.c (pb (goodPx p))) [.agg p.c] := by
  refine okS (fn := Try.f64) [] h0 Try.func64 (by kernel_rfl) rfl Try.ntmps64 Try.results64 (by simp) ?_
  simp
  have hz := pow_ne (32 - p.Len).toNat
  by_cases c1 : 0 ≤ p.Len ∧ p.Len ≤ 32
  · refine drawP (tabEnv [] _) [⟨[.op 0 0 0], allD 20, true⟩, ⟨[.op 0 0 0], allD 20, true⟩, ⟨[], allD 20, false⟩, ⟨[], allD 20, true⟩, ⟨[.op 0 0 0], allD 20, true⟩, ⟨[.op 0 0 0], allD 20, true⟩, ⟨[], allD 20, false⟩, ⟨[], allD 20, true⟩, ⟨[], allD 20, true⟩, ⟨[.op 0 0 0], allD 20, true⟩, ⟨[.op 0 0 0], allD 20, true⟩, ⟨[.op 0 0 0], allD 20, true⟩, ⟨[.op 0 0 0], allD 20, true⟩, ⟨[], allD 20, false⟩, ⟨[], allD 20, true⟩, ⟨[], allD 20, true⟩, ⟨[], allD 20, true⟩, ⟨[], allD 20, true⟩] h0 hm (tabEnv_ok (tab_cons (ok_within p.Len 0 32) (tab_cons (ok_isAddr p.Addr) (tab_cons (ok_sizeOf p.Len c1.1 c1.2) tab_nil)))) (by kernel_rfl) (by kernel_rfl) ?_
    cases c2 : inR p.Addr 0 4294967295 with
    | false => simp [c1, c2, goodPx, inR_t c1]
    | true =>
      simp [c1, c2, goodPx, inR_t c1, szP, hz]
      try exact decide_eq_decide.2 Iff.rfl
  · refine drawP (tabEnv [] _) [⟨[.op 0 0 0], allD 20, true⟩, ⟨[.op 0 0 0], allD 20, true⟩, ⟨[], allD 20, false⟩, ⟨[], allD 20, true⟩, ⟨[.op 0 0 0], allD 20, true⟩, ⟨[.op 0 0 0], allD 20, true⟩, ⟨[], allD 20, false⟩, ⟨[], allD 20, true⟩, ⟨[], allD 20, true⟩, ⟨[.op 0 0 0], allD 20, true⟩, ⟨[.op 0 0 0], allD 20, true⟩, ⟨[.op 0 0 0], allD 20, true⟩, ⟨[.op 0 0 0], allD 20, true⟩, ⟨[], allD 20, false⟩, ⟨[], allD 20, true⟩, ⟨[], allD 20, true⟩, ⟨[], allD 20, true⟩, ⟨[], allD 20, true⟩] h0 hm (tabEnv_ok (tab_cons (ok_within p.Len 0 32) tab_nil)) (by kernel_rfl) (by kernel_rfl) ?_
    simp [c1, goodPx, inR]
theorem ok_sGoodPrefix (p : GPrefix) : CallOK Try.prog 61 [.agg p.c] (.c (pb (goodPx p))) [.agg p.c] := by
  refine okS (fn := Try.f61) [] h0 Try.func61 (by kernel_rfl) rfl Try.ntmps61 Try.results61 (by simp) ?_
  simp
  have hz := pow_ne (32 - p.Len).toNat
  by_cases c1 : 0 ≤ p.Len ∧ p.Len ≤ 32
  · refine drawP (tabEnv [] _) [⟨[.op 0 0 0], allD 19, true⟩, ⟨[.op 0 0 0], allD 19, true⟩, ⟨[], allD 19, false⟩, ⟨[], allD 19, true⟩, ⟨[.op 0 0 0], allD 19, true⟩, ⟨[.op 0 0 0], allD 19, true⟩, ⟨[], allD 19, false⟩, ⟨[], allD 19, true⟩, ⟨[], allD 19, true⟩, ⟨[.op 0 0 0], allD 19, true⟩, ⟨[.op 0 0 0], allD 19, true⟩, ⟨[.op 0 0 0], allD 19, true⟩, ⟨[], allD 19, false⟩, ⟨[], allD 19, true⟩, ⟨[], allD 19, true⟩, ⟨[], allD 19, true⟩, ⟨[], allD 19, true⟩] h0 hm (tabEnv_ok (tab_cons (ok_l1In p.Len 0 32) (tab_cons (ok_l1Addr p.Addr) (tab_cons (ok_l1Size p c1.1 c1.2) tab_nil)))) (by kernel_rfl) (by kernel_rfl) ?_
    cases c2 : inR p.Addr 0 4294967295 with
    | false => simp [c1, c2, goodPx, inR_t c1]
    | true =>
      simp [c1, c2, goodPx, inR_t c1, szP, hz]
      try exact decide_eq_decide.2 Iff.rfl
  · refine drawP (tabEnv [] _) [⟨[.op 0 0 0], allD 19, true⟩, ⟨[.op 0 0 0], allD 19, true⟩, ⟨[], allD 19, false⟩, ⟨[], allD 19, true⟩, ⟨[.op 0 0 0], allD 19, true⟩, ⟨[.op 0 0 0], allD 19, true⟩, ⟨[], allD 19, false⟩, ⟨[], allD 19, true⟩, ⟨[], allD 19, true⟩, ⟨[.op 0 0 0], allD 19, true⟩, ⟨[.op 0 0 0], allD 19, true⟩, ⟨[.op 0 0 0], allD 19, true⟩, ⟨[], allD 19, false⟩, ⟨[], allD 19, true⟩, ⟨[], allD 19, true⟩, ⟨[], allD 19, true⟩, ⟨[], allD 19, true⟩] h0 hm (tabEnv_ok (tab_cons (ok_l1In p.Len 0 32) tab_nil)) (by kernel_rfl) (by kernel_rfl) ?_
    simp [c1, goodPx, inR]
theorem ok_isNaNI (s : Int) : CallOK Try.prog 151 [.c (pi s)] (.c (pb false)) [.c (pi s)] := by
  refine okS (fn := Try.f151) [] h0 Try.func151 (by kernel_rfl) rfl Try.ntmps151 Try.results151 (by simp) ?_
  simp
theorem ok_cmpI (u v : Int) : CallOK Try.prog 107 [.c (pi u), .c (pi v)] (.c (pi (cmpI u v))) [.c (pi u), .c (pi v)] := by
  refine okS (fn := Try.f107) [] h0 Try.func107 (by kernel_rfl) rfl Try.ntmps107 Try.results107 (by simp) ?_
  simp
  refine Inv_intro (ok_isNaNI u) ?_
  simp
  refine Inv_intro (ok_isNaNI v) ?_
  simp
  refine brn_app (fun a => ?_) (fun a => ?_)
  · simp at a
    simp [cmpI, a]
  · simp at a
    have a' : ¬ u < v := by omega
    simp
    refine brn_app (fun b => ?_) (fun b => ?_)
    · simp at b
      simp [cmpI, a', b]
    · simp at b
      have b' : ¬ v < u := by omega
      simp [cmpI, a', b']
theorem ok_orI (k : Nat) (xs : List Int) (hx : xs.length ≤ 140737488351232) : CallOK Try.prog 106 [.c (rd k xs.length (xs.map pi))] (.c (pi (orI xs))) [.c (rd k xs.length (xs.map pi))] := by
  refine okS (fn := Try.f106) [] h0 Try.func106 (by kernel_rfl) rfl Try.ntmps106 Try.results106 (by simp) ?_
  simp
  refine loopS [3, 6, 7, 8] [] (fun n st => ∃ (i : Nat), i + n = xs.length ∧ orI (xs.drop i) = orI xs ∧ st = ⟨slOf 18 [(3, .t (pi 0)), (6, .t (rd k xs.length (xs.map pi))), (7, .t (pi xs.length)), (8, .t (pi i))], ofL []⟩) xs.length ?_ ?_
  · rintro Inv hI
    simp
    subst hI
    exact ⟨0, by omega, rfl, rfl⟩
  · rintro Inv hI n st ⟨i, hi, hf, rfl⟩
    refine ewr_sound (M := []) h0 ?_
    simp
    refine brn_app (fun a => ?_) (fun a => ?_)
    · simp at a
      rw [drop_step _ i a, orI] at hf
      simp [a]
      refine brn_app (fun b => ?_) (fun b => ?_)
      · simp at b
        rw [if_neg b] at hf
        simp [hf]
      · simp at b
        rw [if_pos b] at hf
        simp
        subst hI
        exact Less_mk (n - 1) (by omega) ⟨i + 1, by omega, hf, by rw [wrNext i (by omega)]⟩
    · simp at a
      rw [List.drop_of_length_le (by omega), orI] at hf
      simp [← hf]
theorem ok_compare (p q : GPrefix) : CallOK Try.prog 55 [.agg p.c, .agg q.c] (.c (pi (cmpPx p q))) [.agg p.c, .agg q.c] := by
  refine okS (fn := Try.f55) [] h0 Try.func55 (by kernel_rfl) rfl Try.ntmps55 Try.results55 (by simp) ?_
  simp
  have ho := ok_orI 0 [cmpI p.Addr q.Addr, cmpI p.Len q.Len] (by simp)
  simp at ho
  refine drawP (fnEnv 107 (fI2 fun a b => pi (cmpI a b)) (tabEnv [] _)) [⟨[.op 0 0 0], allD 17, true⟩, ⟨[.op 0 0 0], allD 17, true⟩, ⟨[.op 0 1 0], allD 17, true⟩, ⟨[.op 0 1 0], allD 17, true⟩, ⟨[], allD 17, false⟩, ⟨[.op 0 0 0], allD 17, true⟩, ⟨[.op 0 0 0], allD 17, true⟩, ⟨[.op 0 1 0], allD 17, true⟩, ⟨[.op 0 1 0], allD 17, true⟩, ⟨[], allD 17, false⟩, ⟨[], allD 17, false⟩, ⟨[.op 1 10 0], [5, 6, 7, 8, 9, 10, 11, 12, 13, 14, 15, 16, 4], false⟩, ⟨[], allD 17, true⟩] h0 hm (fnEnv_ok (tabEnv_ok (tab_cons ho tab_nil)) (fI2_ok ok_cmpI)) (by kernel_rfl) (by kernel_rfl) ?_
  simp
  by_cases c : cmpI p.Addr q.Addr = 0
  · by_cases d : cmpI p.Len q.Len = 0 <;> simp [orI, cmpPx, c, d]
  · simp [orI, cmpPx, c]
theorem ok_l1Compare (p q : GPrefix) : CallOK Try.prog 52 [.agg p.c, .agg q.c] (.c (pi (cmpPx p q))) [.agg p.c, .agg q.c] := by
  refine okS (fn := Try.f52) [] h0 Try.func52 (by kernel_rfl) rfl Try.ntmps52 Try.results52 (by simp) ?_
  by_cases a1 : p.Addr < q.Addr
  · simp [a1, cmpPx, cmpI]
  · by_cases a2 : p.Addr = q.Addr
    · by_cases b1 : p.Len < q.Len
      · simp [a1, a2, b1, cmpPx, cmpI]
      · by_cases b2 : p.Len = q.Len
        · simp [a2, b2, cmpPx, cmpI]
        · have b3 : q.Len < p.Len := by omega
          simp [a2, b1, b2, b3, cmpPx, cmpI]
    · have a3 : q.Addr < p.Addr := by omega
      simp [a1, a2, a3, cmpPx, cmpI]
theorem ok_isValue (n : Int) : CallOK Try.prog 149 [.c (pi n)] (.c (pb (isValB n))) [.c (pi n)] := by
  refine okS (fn := Try.f149) [] h0 Try.func149 (by kernel_rfl) rfl Try.ntmps149 Try.results149 (by simp) ?_
  simp
  refine Inv_intro (ok_within _ _ _) ?_
  simp [isValB, inR]
theorem ok_isPath1 (n : Int) : CallOK Try.prog 161 [.c (pi n)] (.c (pb (!isAsnB n))) [.c (pi n)] := by
  refine okS (fn := Try.f161) [] h0 Try.func161 (by kernel_rfl) rfl Try.ntmps161 Try.results161 (by simp) ?_
  simp
  refine Inv_intro (ok_isAsn n) ?_
  simp
theorem ok_isPath (k : Nat) (p : List Int) (hl : p.length ≤ 140737488351232) : CallOK Try.prog 148 [.c (rd k p.length (p.map pi))] (.c (pb (goodPa p))) [.c (rd k p.length (p.map pi))] := by
  refine okS (fn := Try.f148) [] h0 Try.func148 (by kernel_rfl) rfl Try.ntmps148 Try.results148 (by simp) ?_
  simp
  refine gT (fun a => ?_) (fun a => ?_)
  · have a' : p.length ≤ 10 := by simp at a; omega
    simp [a]
    refine Inv_intro (ok_ContainsFunc_Int k 0 161 [] (fun n => !isAsnB n) p hl fun x hx => ok_isPath1 x) ?_
    simp [goodPa, any_not, a']
  · have a' : ¬ p.length ≤ 10 := by simp at a; omega
    simp [goodPa, a, a']
theorem ok_areComms (k : Nat) (l : List Int) (hl : l.length ≤ 140737488351232) : CallOK Try.prog 150 [.c (rd k l.length (l.map pi))] (.c (pb (goodCm l))) [.c (rd k l.length (l.map pi))] := by
  refine okS (fn := Try.f150) [] h0 Try.func150 (by kernel_rfl) rfl Try.ntmps150 Try.results150 (by simp) ?_
  simp
  refine loopS [0, 5, 6, 7] [] (fun n st => ∃ (i : Nat), i + n = l.length ∧ commsG (prevI l i) (l.drop i) = commsG none l ∧ st = ⟨slOf 32 [(0, .t (rd k l.length (l.map pi))), (5, .t (rd k l.length (l.map pi))), (6, .t (pi l.length)), (7, .t (pi i))], ofL []⟩) l.length ?_ ?_
  · rintro Inv hI
    simp
    subst hI
    exact ⟨0, by omega, rfl, rfl⟩
  · rintro Inv hI n st ⟨i, hi, hg, rfl⟩
    refine ewr_sound (M := []) h0 ?_
    simp
    refine brn_app (fun a => ?_) (fun a => ?_)
    · simp at a
      rw [drop_step _ i a, commsG] at hg
      have en : prevI l (i + 1) = some l[i] := prevI_next l i a
      simp [a]
      refine Inv_intro (ok_isValue l[i]) ?_
      cases c1 : isValB l[i] with
      | false =>
        rw [c1, Bool.false_and, Bool.false_and] at hg
        simp [goodCm, ← hg]
      | true =>
        rw [c1, Bool.true_and] at hg
        by_cases c0 : i = 0
        · have e0 : ¬ 0 < i := by omega
          have ep : prevI l i = none := by simp [prevI, c0]
          rw [ep, adjI, Bool.true_and] at hg
          simp [e0]
          subst hI
          exact Less_mk (n - 1) (by omega) ⟨i + 1, by omega, by rw [en]; exact hg, by rw [wrNext i (by omega)]⟩
        · obtain ⟨j, hj⟩ : ∃ j, i = j + 1 := ⟨i - 1, by omega⟩
          have aj : j < l.length := by omega
          have ep : prevI l i = some l[j] := by subst hj; exact prevI_next l j aj
          have hw : IntKind.wrap .i64 ((i : Int) - 1) = j := (wrap64 (by omega) (by omega)).trans (by omega)
          have e0 : 0 < i := by omega
          rw [ep, adjI] at hg
          simp [e0, hw, aj]
          refine brn_app (fun c => ?_) (fun c => ?_)
          · simp at c
            have c' : ¬ l[j] < l[i] := by omega
            simp [c'] at hg
            simp [goodCm, hg]
          · simp at c
            have c' : l[j] < l[i] := by omega
            simp [c'] at hg
            simp
            subst hI
            exact Less_mk (n - 1) (by omega) ⟨i + 1, by omega, by rw [en]; exact hg, by rw [wrNext i (by omega)]⟩
    · simp at a
      rw [List.drop_of_length_le (by omega), commsG] at hg
      simp [goodCm, ← hg]
      omega
theorem ok_iGoodAttrs (k : Nat) (x : GAttrs) (hx : attrOK x) : CallOK Try.prog 105 [.agg (GAttrs.ci k x)] (.c (pb (goodA x))) [.agg (GAttrs.ci k x)] := by
  obtain ⟨h1, h2⟩ := hx
  refine okS (fn := Try.f105) [] h0 Try.func105 (by kernel_rfl) rfl Try.ntmps105 Try.results105 (by simp) ?_
  simp
  refine Inv_intro (ok_within _ _ _) ?_
  by_cases c1 : 0 ≤ x.Origin ∧ x.Origin ≤ 2
  · simp [c1]
    refine Inv_intro (ok_isPath k x.Path h1) ?_
    cases c2 : goodPa x.Path with
    | false => simp [goodA, c2]
    | true =>
      simp
      refine Inv_intro (ok_isAddr _) ?_
      cases c3 : inR x.Next 0 4294967295 with
      | false => simp [goodA, c3]
      | true =>
        simp
        refine Inv_intro (ok_isValue _) ?_
        cases c4 : isValB x.Med with
        | false => simp [goodA, c4]
        | true =>
          simp
          refine Inv_intro (ok_isValue _) ?_
          cases c5 : isValB x.Pref with
          | false => simp [goodA, c5]
          | true =>
            simp
            refine Inv_intro (ok_areComms k x.Comms h2) ?_
            simp [goodA, c2, c3, c4, c5, inR_t c1]
  · have c1' : inR x.Origin 0 2 = false := by simp only [inR, decide_eq_false_iff_not]; exact c1
    simp [c1, goodA, c1']
theorem ok_iGoodRoute (k : Nat) (r : GRoute) (hx : attrOK r.Attrs) : CallOK Try.prog 54 [.agg (GRoute.ci k r)] (.c (pb (goodR r))) [.agg (GRoute.ci k r)] := by
  refine okS (fn := Try.f54) [] h0 Try.func54 (by kernel_rfl) rfl Try.ntmps54 Try.results54 (by simp) ?_
  simp
  refine Inv_intro (ok_iGoodPrefix r.Prefix) ?_
  cases c1 : goodPx r.Prefix with
  | false => simp [goodR, c1]
  | true =>
    simp
    refine Inv_intro (ok_iGoodAttrs k r.Attrs hx) ?_
    simp [goodR, c1]
end Go.V
