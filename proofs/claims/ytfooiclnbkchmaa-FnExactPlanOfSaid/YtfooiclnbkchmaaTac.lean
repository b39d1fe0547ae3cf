/- What functions of the seat's program do, each proved of its code, under the bounds that its theorem names. -/
import Derived.Test.YtfooiclnbkchmaaTab
set_option linter.all false
namespace Go.V
open Go.Proofs
set_option maxHeartbeats 1000000
set_option maxRecDepth 10000
set_option linter.unusedSimpArgs false
set_option linter.unusedVariables false
theorem ok_within (n lo hi : Int) : CallOK Try.prog 65 [.c (pi n), .c (pi lo), .c (pi hi)] (.c (pb (decide (lo ≤ n ∧ n ≤ hi)))) [.c (pi n), .c (pi lo), .c (pi hi)] := by
  refine okS (fn := Try.f65) [] h0 Try.func65 (by kernel_rfl) rfl Try.ntmps65 Try.results65 (by simp) ?_
  simp
  refine gT (fun h => ?_) (fun h => ?_) <;> simp [h]
/-- Where a condition holds first, or -1. -/
def idxOf {α : Type} (p : α → Bool) (xs : List α) : Int := match xs.findIdx? p with | some i => i | none => -1
theorem idxOf_hit {α : Type} (p : α → Bool) (xs : List α) (i : Nat) (h : i < xs.length) (hp : p xs[i] = true) (hall : ∀ (j : Nat) (hj : j < i), p (xs[j]'(by omega)) = false) : idxOf p xs = i := by
  unfold idxOf
  rw [(List.findIdx?_eq_some_iff_getElem (i := i)).2 ⟨h, hp, fun j hj => by simp [hall j hj]⟩]
theorem idxOf_no {α : Type} (p : α → Bool) (xs : List α) (hall : ∀ (j : Nat) (hj : j < xs.length), p xs[j] = false) : idxOf p xs = -1 := by
  unfold idxOf
  rw [List.findIdx?_eq_none_iff.2 (fun s hs => by
    obtain ⟨j, hj, rfl⟩ := List.getElem_of_mem hs
    simp [hall j hj])]
theorem idxOf_any {α : Type} (p : α → Bool) (xs : List α) : decide (0 ≤ idxOf p xs) = xs.any p := by
  unfold idxOf
  cases h : xs.findIdx? p with
  | none =>
    rw [List.findIdx?_eq_none_iff] at h
    simp
    exact fun x hx => by simpa using h x hx
  | some i =>
    rw [List.findIdx?_eq_some_iff_getElem] at h
    obtain ⟨h1, h2, _⟩ := h
    simp
    exact ⟨_, List.getElem_mem h1, h2⟩
theorem ok_IndexFunc_String (k q g : Nat) (caps : List (List PT)) (p : ByteArray → Bool) (xs : List ByteArray) (ha : xs.length ≤ 140737488351232)
    (hg : ∀ x ∈ xs, CallOK Try.prog g (.c (ps x) :: caps.map (PV.ip q)) (.c (pb (p x))) (.c (ps x) :: caps.map (PV.ip q))) :
    CallOK Try.prog 98 [.c (rd k xs.length (xs.map ps)), .c (.fn q g caps)] (.c (pi (idxOf p xs))) [.c (rd k xs.length (xs.map ps)), .c (.fn q g caps)] := by
  refine okS (fn := Try.f98) [] h0 Try.func98 (by kernel_rfl) rfl Try.ntmps98 Try.results98 (by simp) ?_
  simp
  refine loopS [0, 1, 7, 8] [] (fun n st => ∃ (i : Nat), i + n = xs.length ∧ (∀ (j : Nat) (hj : j < i) (hj' : j < xs.length), p xs[j] = false) ∧ st = ⟨slOf 19 [(0, .t (rd k xs.length (xs.map ps))), (1, .t (.fn q g caps)), (7, .t (pi xs.length)), (8, .t (pi i))], ofL []⟩) xs.length ?_ ?_
  · rintro Inv hI
    simp
    subst hI
    exact ⟨0, by omega, by intro j hj; omega, rfl⟩
  · rintro Inv hI n st ⟨i, hi, hall, rfl⟩
    refine ewr_sound (M := []) h0 ?_
    simp
    refine brn_app (fun h => ?_) (fun h => ?_)
    · simp at h
      simp [h]
      refine Inv_intro (hg _ (List.getElem_mem h)) ?_
      simp
      refine brn_app (fun h2 => ?_) (fun h2 => ?_)
      · simp
        exact (idxOf_hit p xs i h h2 fun j hj => hall j hj (by omega)).symm
      · simp
        subst hI
        refine Less_mk (n - 1) (by omega) ⟨i + 1, by omega, ?_, by rw [wrNext i (by omega)]⟩
        intro j hj hj'
        by_cases hji : j = i
        · subst hji; exact h2
        · exact hall j (by omega) hj'
    · simp at h
      simp
      exact (idxOf_no p xs fun j hj => hall j (by omega) hj).symm
theorem ok_ContainsFunc_String (k q g : Nat) (caps : List (List PT)) (p : ByteArray → Bool) (xs : List ByteArray) (ha : xs.length ≤ 140737488351232)
    (hg : ∀ x ∈ xs, CallOK Try.prog g (.c (ps x) :: caps.map (PV.ip q)) (.c (pb (p x))) (.c (ps x) :: caps.map (PV.ip q))) :
    CallOK Try.prog 73 [.c (rd k xs.length (xs.map ps)), .c (.fn q g caps)] (.c (pb (xs.any p))) [.c (rd k xs.length (xs.map ps)), .c (.fn q g caps)] := by
  refine okS (fn := Try.f73) [] h0 Try.func73 (by kernel_rfl) rfl Try.ntmps73 Try.results73 (by simp) ?_
  simp
  refine Inv_intro (ok_IndexFunc_String k q g caps p xs ha hg) ?_
  simp [idxOf_any]
theorem ok_IndexFunc_Write (k q g : Nat) (caps : List (List PT)) (p : GWrite → Bool) (xs : List GWrite) (ha : xs.length ≤ 140737488351232)
    (hg : ∀ x ∈ xs, CallOK Try.prog g (.agg (GWrite.c x) :: caps.map (PV.ip q)) (.c (pb (p x))) (.agg (GWrite.c x) :: caps.map (PV.ip q))) :
    CallOK Try.prog 99 [.c (rd k xs.length (xs.flatMap GWrite.c)), .c (.fn q g caps)] (.c (pi (idxOf p xs))) [.c (rd k xs.length (xs.flatMap GWrite.c)), .c (.fn q g caps)] := by
  refine okS (fn := Try.f99) [] h0 Try.func99 (by kernel_rfl) rfl Try.ntmps99 Try.results99 (by simp) ?_
  simp
  refine loopS [0, 1, 7, 8] [] (fun n st => ∃ (i : Nat), i + n = xs.length ∧ (∀ (j : Nat) (hj : j < i) (hj' : j < xs.length), p xs[j] = false) ∧ st = ⟨slOf 19 [(0, .t (rd k xs.length (xs.flatMap GWrite.c))), (1, .t (.fn q g caps)), (7, .t (pi xs.length)), (8, .t (pi i))], ofL []⟩) xs.length ?_ ?_
  · rintro Inv hI
    simp
    subst hI
    exact ⟨0, by omega, by intro j hj; omega, rfl⟩
  · rintro Inv hI n st ⟨i, hi, hall, rfl⟩
    refine ewr_sound (M := []) h0 ?_
    simp
    refine brn_app (fun h => ?_) (fun h => ?_)
    · simp at h
      have hd := fm_drop GWrite.c 2 (fun _ => rfl) xs i h
      have hlen := fm_len GWrite.c 2 (fun _ => rfl) xs
      have hlt : i * 2 < xs.length * 2 := by omega
      simp [h, hd, hlen, hlt]
      refine Inv_intro (hg _ (List.getElem_mem h)) ?_
      simp
      refine brn_app (fun h2 => ?_) (fun h2 => ?_)
      · simp
        exact (idxOf_hit p xs i h h2 fun j hj => hall j hj (by omega)).symm
      · simp
        subst hI
        refine Less_mk (n - 1) (by omega) ⟨i + 1, by omega, ?_, by rw [wrNext i (by omega)]⟩
        intro j hj hj'
        by_cases hji : j = i
        · subst hji; exact h2
        · exact hall j (by omega) hj'
    · simp at h
      simp
      exact (idxOf_no p xs fun j hj => hall j (by omega) hj).symm
theorem ok_ContainsFunc_Write (k q g : Nat) (caps : List (List PT)) (p : GWrite → Bool) (xs : List GWrite) (ha : xs.length ≤ 140737488351232)
    (hg : ∀ x ∈ xs, CallOK Try.prog g (.agg (GWrite.c x) :: caps.map (PV.ip q)) (.c (pb (p x))) (.agg (GWrite.c x) :: caps.map (PV.ip q))) :
    CallOK Try.prog 76 [.c (rd k xs.length (xs.flatMap GWrite.c)), .c (.fn q g caps)] (.c (pb (xs.any p))) [.c (rd k xs.length (xs.flatMap GWrite.c)), .c (.fn q g caps)] := by
  refine okS (fn := Try.f76) [] h0 Try.func76 (by kernel_rfl) rfl Try.ntmps76 Try.results76 (by simp) ?_
  simp
  refine Inv_intro (ok_IndexFunc_Write k q g caps p xs ha hg) ?_
  simp [idxOf_any]
theorem any_not {α : Type} (p : α → Bool) (xs : List α) : xs.any (fun x => !p x) = !xs.all p := by
  induction xs with
  | nil => rfl
  | cons x xs ih => simp [ih]
def okWrite (w : GWrite) : Bool := decide (0 ≤ w.At ∧ w.At ≤ 9) && decide (w.Data.size ≤ 20)
def goodDisk (d : GDisk) : Bool := decide (d.Sectors.length = 10) && decide (d.Waiting.length ≤ 40) && d.Sectors.all (fun s => decide (s.size ≤ 20)) && d.Waiting.all okWrite
theorem ok_isSector (s : ByteArray) : CallOK Try.prog 75 [.c (ps s)] (.c (pb (decide (s.size ≤ 20)))) [.c (ps s)] := by
  refine okS (fn := Try.f75) [] h0 Try.func75 (by kernel_rfl) rfl Try.ntmps75 Try.results75 (by simp) ?_
  simp
  omega
theorem ok_GoodDisk1 (s : ByteArray) : CallOK Try.prog 74 [.c (ps s)] (.c (pb (!decide (s.size ≤ 20)))) [.c (ps s)] := by
  refine okS (fn := Try.f74) [] h0 Try.func74 (by kernel_rfl) rfl Try.ntmps74 Try.results74 (by simp) ?_
  simp
  refine Inv_intro (ok_isSector _) ?_
  simp
theorem ok_GoodDisk2 (w : GWrite) : CallOK Try.prog 77 [.agg w.c] (.c (pb (!okWrite w))) [.agg w.c] := by
  refine okS (fn := Try.f77) [] h0 Try.func77 (by kernel_rfl) rfl Try.ntmps77 Try.results77 (by simp) ?_
  simp
  refine Inv_intro (ok_within _ _ _) ?_
  simp
  refine gF (fun h => ?_) (fun h => ?_)
  · simp [h]
    refine Inv_intro (ok_isSector _) ?_
    simp at h
    simp [okWrite, h]
  · simp [h]
    simp at h
    simp [okWrite]
    omega
theorem ok_iGoodDisk (k : Nat) (d : GDisk) (h1 : d.Sectors.length ≤ 140737488351232) (h2 : d.Waiting.length ≤ 140737488351232) : CallOK Try.prog 34 [.agg (d.ci k)] (.c (pb (goodDisk d))) [.agg (d.ci k)] := by
  refine okS (fn := Try.f34) [] h0 Try.func34 (by kernel_rfl) rfl Try.ntmps34 Try.results34 (by simp) ?_
  simp
  refine gT (fun a1 => ?_) (fun a1 => ?_)
  · simp [a1]
    refine gT (fun a2 => ?_) (fun a2 => ?_)
    · simp [a2]
      refine Inv_intro (ok_ContainsFunc_String k 0 74 [] (fun s => !decide (s.size ≤ 20)) d.Sectors h1 fun x _ => ok_GoodDisk1 x) ?_
      simp
      refine gT (fun a3 => ?_) (fun a3 => ?_)
      · simp [a3]
        refine Inv_intro (ok_ContainsFunc_Write k 0 77 [] (fun w => !okWrite w) d.Waiting h2 fun x _ => ok_GoodDisk2 x) ?_
        simp
        rw [any_not] at a3 ⊢
        have c1 : d.Sectors.length = 10 := by simp at a1; omega
        have c2 : d.Waiting.length ≤ 40 := by simp at a2; omega
        have c3 : (d.Sectors.all fun s => decide (s.size ≤ 20)) = true := by simpa using a3
        unfold goodDisk
        rw [c3]
        simp [c1, c2]
      · simp [a3]
        rw [any_not] at a3
        have c3 : (d.Sectors.all fun s => decide (s.size ≤ 20)) = false := by simpa using a3
        unfold goodDisk
        rw [c3]
        simp
    · simp [a2]
      simp at a2
      unfold goodDisk
      simp
      omega
  · simp [a1]
    simp at a1
    unfold goodDisk
    simp
    omega
theorem ok_l1In (n lo hi : Int) : CallOK Try.prog 61 [.c (pi n), .c (pi lo), .c (pi hi)] (.c (pb (decide (lo ≤ n ∧ n ≤ hi)))) [.c (pi n), .c (pi lo), .c (pi hi)] := by
  refine okS (fn := Try.f61) [] h0 Try.func61 (by kernel_rfl) rfl Try.ntmps61 Try.results61 (by simp) ?_
  simp
  refine gT (fun h => ?_) (fun h => ?_) <;> simp [h]
theorem ok_sGoodDisk (k : Nat) (d : GDisk) (h1 : d.Sectors.length ≤ 140737488351232) (h2 : d.Waiting.length ≤ 140737488351232) : CallOK Try.prog 42 [.agg (d.ci k)] (.c (pb (goodDisk d))) [.agg (d.ci k)] := by
  refine okS (fn := Try.f42) [] h0 Try.func42 (by kernel_rfl) rfl Try.ntmps42 Try.results42 (by simp) ?_
  simp
  refine loopS [1, 8, 9, 10] [.op 0 0 0] (fun n st => ∃ (i : Nat), i + n = d.Sectors.length ∧ (d.Sectors.drop i).all (fun s => decide (s.size ≤ 20)) = d.Sectors.all (fun s => decide (s.size ≤ 20)) ∧ st = ⟨slOf 46 [(1, .ptr ⟨.op 0 0 0, []⟩ 0), (8, .t (rd k d.Sectors.length (d.Sectors.map ps))), (9, .t (pi d.Sectors.length)), (10, .t (pi i))], ofL [(.op 0 0 0, .sl 0 31 1 (d.ci k))]⟩) d.Sectors.length ?_ ?_
  · rintro Inv hI
    simp
    subst hI
    exact ⟨0, by omega, rfl, rfl⟩
  · rintro Inv hI n st ⟨i, hi, hall, rfl⟩
    refine ewr_sound (M := []) h0 ?_
    simp
    refine brn_app (fun h => ?_) (fun h => ?_)
    · simp at h
      rw [drop_step _ i h, List.all_cons] at hall
      simp [h]
      refine brn_app (fun a => ?_) (fun a => ?_)
      · simp
        simp at a
        have a' : ¬ (d.Sectors[i].size ≤ 20) := by omega
        rw [decide_eq_false a', Bool.false_and] at hall
        simp [goodDisk, ← hall]
      · simp
        simp at a
        have a' : d.Sectors[i].size ≤ 20 := by omega
        rw [decide_eq_true a', Bool.true_and] at hall
        subst hI
        exact Less_mk (n - 1) (by omega) ⟨i + 1, by omega, hall, by rw [wrNext i (by omega)]; rfl⟩
    · simp at h
      rw [List.drop_of_length_le (by omega), List.all_nil] at hall
      simp
      refine loopS [1, 19, 20, 21] [.op 0 0 0] (fun n st => ∃ (i : Nat), i + n = d.Waiting.length ∧ (d.Waiting.drop i).all okWrite = d.Waiting.all okWrite ∧ st = ⟨slOf 46 [(1, .ptr ⟨.op 0 0 0, []⟩ 0), (19, .t (rd k d.Waiting.length (d.Waiting.flatMap GWrite.c))), (20, .t (pi d.Waiting.length)), (21, .t (pi i))], ofL [(.op 0 0 0, .sl 0 31 1 (d.ci k))]⟩) d.Waiting.length ?_ ?_
      · rintro Inv hI
        simp
        subst hI
        exact ⟨0, by omega, rfl, rfl⟩
      · rintro Inv hI n st ⟨i, hi, hall2, rfl⟩
        refine ewr_sound (M := []) h0 ?_
        simp
        refine brn_app (fun h => ?_) (fun h => ?_)
        · simp at h
          rw [drop_step _ i h, List.all_cons] at hall2
          have hd := fm_drop GWrite.c 2 (fun _ => rfl) d.Waiting i h
          have hlt : i * 2 < d.Waiting.length * 2 := by omega
          simp [h, hd, hlt]
          refine Inv_intro (ok_l1In _ _ _) ?_
          simp
          refine gF (fun a => ?_) (fun a => ?_)
          · simp [a]
            refine brn_app (fun b => ?_) (fun b => ?_)
            · simp
              simp at a b
              have hw : okWrite d.Waiting[i] = false := by simp [okWrite]; omega
              rw [hw, Bool.false_and] at hall2
              simp [goodDisk, ← hall2]
            · simp
              simp at a b
              have hw : okWrite d.Waiting[i] = true := by simp [okWrite]; omega
              rw [hw, Bool.true_and] at hall2
              subst hI
              exact Less_mk (n - 1) (by omega) ⟨i + 1, by omega, hall2, by rw [wrNext i (by omega)]; rfl⟩
          · simp [a]
            simp at a
            have hw : okWrite d.Waiting[i] = false := by simp [okWrite]; omega
            rw [hw, Bool.false_and] at hall2
            simp [goodDisk, ← hall2]
        · simp at h
          rw [List.drop_of_length_le (by omega), List.all_nil] at hall2
          simp
          refine gT (fun a => ?_) (fun a => ?_)
          · simp [a]
            simp at a
            have c1 : d.Sectors.length = 10 := by omega
            rw [goodDisk, ← hall, ← hall2]
            simp [c1]
            omega
          · simp [a]
            simp at a
            have c1 : ¬ d.Sectors.length = 10 := by omega
            simp [goodDisk, c1]
def rLoadFrom (d : GDisk) : ByteArray × Int × Bool := if goodDisk d = true then loadR d.Sectors else (⟨#[]⟩, 0, false)
theorem goodDisk_secs {d : GDisk} (h : goodDisk d = true) : d.Sectors.length = 10 ∧ ∀ s ∈ d.Sectors, s.size ≤ 20 := by
  simp only [goodDisk, Bool.and_eq_true, decide_eq_true_eq, List.all_eq_true] at h
  exact ⟨h.1.1.1, h.1.2⟩
theorem law_iLoadFrom (v0 : GDisk) (hw0 : v0.wt ≤ 1048576) : CallOK Try.prog 12 [.agg (GDisk.ci 0 v0)] (.tup [.c (ps (rLoadFrom v0).1), .c (pi (rLoadFrom v0).2.1), .c (pb (rLoadFrom v0).2.2)]) [.agg (GDisk.ci 0 v0)] := by
  have hl := disk_len hw0
  refine okS (fn := Try.f12) [] h0 Try.func12 (by kernel_rfl) rfl Try.ntmps12 Try.results12 (by simp) ?_
  simp
  refine Inv_intro (ok_iGoodDisk 0 v0 (by omega) (by omega)) ?_
  cases c1 : goodDisk v0 with
  | false => simp [rLoadFrom, c1]
  | true =>
    obtain ⟨h10, hs⟩ := goodDisk_secs c1
    have er : rLoadFrom v0 = loadR v0.Sectors := by simp [rLoadFrom, c1]
    simp
    refine Inv_intro (ok_load 0 v0 h10 fun s hx => by have := hs s hx; omega) ?_
    simp [er]
theorem law_sLoadFrom (v0 : GDisk) (hw0 : v0.wt ≤ 1048576) : CallOK Try.prog 10 [.agg (GDisk.ci 0 v0)] (.tup [.c (ps (rLoadFrom v0).1), .c (pi (rLoadFrom v0).2.1), .c (pb (rLoadFrom v0).2.2)]) [.agg (GDisk.ci 0 v0)] := by
  have hl := disk_len hw0
  refine okS (fn := Try.f10) [] h0 Try.func10 (by kernel_rfl) rfl Try.ntmps10 Try.results10 (by simp) ?_
  simp
  refine Inv_intro (ok_sGoodDisk 0 v0 (by omega) (by omega)) ?_
  cases c1 : goodDisk v0 with
  | false => simp [rLoadFrom, c1]
  | true =>
    obtain ⟨h10, hs⟩ := goodDisk_secs c1
    have er : rLoadFrom v0 = loadR v0.Sectors := by simp [rLoadFrom, c1]
    simp
    refine Inv_intro (ok_l17Load 0 v0 h10 fun s hx => by have := hs s hx; omega) ?_
    simp [er]
theorem ok_l17Plan (k : Nat) (d : GDisk) (text : ByteArray) (h10 : d.Sectors.length = 10) (hs : ∀ s ∈ d.Sectors, s.size ≤ 140737488355328) (ht : text.size ≤ 140737488351232) : CallOK Try.prog 57 [.agg (GDisk.ci k d), .c (ps text)] (.tup [.c (.sl 0 61 (planL d.Sectors text).1.length ((planL d.Sectors text).1.flatMap GWrite.c)), .c (pb (planL d.Sectors text).2)]) [.agg (GDisk.ci k d), .c (ps text)] := by
  refine okS (fn := Try.f57) [] h0 Try.func57 (by kernel_rfl) rfl Try.ntmps57 Try.results57 (by simp) ?_
  simp
  refine Inv_intro (ok_l17Load k d h10 hs) ?_
  simp
  have hnew := @loadR_new d.Sectors
  have hpl : ∀ a b c, loadR d.Sectors = (a, b, c) → planL d.Sectors text = if (!c || decide (999 ≤ b) || decide (72 < text.size)) = true then ([], false) else (planN text (1 - (newR d.Sectors).1.toNat) 4 ++ [⟨(8 + (1 - (newR d.Sectors).1.toNat) : Nat), sealS (strOf [tb (IntKind.wrap .i64 (b + 1)) 1, tb (IntKind.wrap .i64 (b + 1)) 0, tb text.size 0])⟩], true) := by
    intro a b c e
    simp [planL, e]
  generalize hL : loadR d.Sectors = L at *
  obtain ⟨L1, L2, L3⟩ := L
  have hpl := hpl L1 L2 L3 rfl
  cases L3 with
  | false => simp [hpl]
  | true =>
    by_cases c1 : 999 ≤ L2
    · simp [hpl, c1]
    · by_cases c2 : 72 < text.size
      · have c2' : 72 < (text.size : Int) := by omega
        simp [hpl, c1, c2, c2']
      · have c2' : ¬ 72 < (text.size : Int) := by omega
        obtain ⟨o, ho, hn1, hn2⟩ := hnew rfl
        have hpl : planL d.Sectors text = (planN text o 4 ++ [⟨(8 + o : Nat), sealS (strOf [tb (IntKind.wrap .i64 (L2 + 1)) 1, tb (IntKind.wrap .i64 (L2 + 1)) 0, tb text.size 0])⟩], true) := by
          rw [hpl, hn2]
          simp [c1, c2]
        rw [hpl]
        simp [c1, c2']
        refine Inv_intro (ok_l17Newest k d h10 hs) ?_
        rw [swNew_eq, hn1]
        have w0 : IntKind.wrap .i64 (1 - ((1 - o : Nat) : Int)) = (o : Int) := (wrap64 (by omega) (by omega)).trans (by omega)
        simp [w0]
        refine ewp_nil 10 (.op 13 10 0) 61 (by decide) rfl rfl rfl ?_
        refine loopS [1, 7, 9, 10, 11, 12] [.op 13 10 0] (fun m st => ∃ (i : Nat), i + m = 4 ∧ st = ⟨slOf 68 [(1, .t (ps text)), (7, .t (pi L2)), (9, .t (pi o)), (10, .ref ⟨.op 13 10 0, []⟩ 0 i), (11, .t (ps (text.extract (min (18 * i) text.size) text.size))), (12, .t (pi i))], ofL [(.op 13 10 0, .sl 0 61 i ((planN text o i).flatMap GWrite.c))]⟩) 4 ?_ ?_
        · rintro Inv hI
          simp
          subst hI
          refine ⟨0, by omega, ?_⟩
          simp [planN]
        · rintro Inv hI m st ⟨i, hi, rfl⟩
          have hA : ((planN text o i).flatMap GWrite.c).length = i * 2 := by rw [fm_len GWrite.c 2 (fun _ => rfl), planN_len]
          have hAm : (planN text o (i + 1)).flatMap GWrite.c = (planN text o i).flatMap GWrite.c ++ GWrite.c ⟨(4 * o + i : Nat), partK text i⟩ := by rw [planN_succ, List.flatMap_append, List.flatMap_cons, List.flatMap_nil, List.append_nil]
          have hAf : i = 4 → (planN text o 4).flatMap GWrite.c = (planN text o i).flatMap GWrite.c := by rintro rfl; rfl
          generalize hAe : ((planN text o i).flatMap GWrite.c) = A at hA hAm hAf ⊢
          refine ewr_sound (M := []) h0 ?_
          simp
          refine brn_app (fun a => ?_) (fun a => ?_)
          · simp at a
            have hi4 : i < 4 := by omega
            obtain ⟨R, hR⟩ : ∃ R, R = text.extract (min (18 * i) text.size) text.size := ⟨_, rfl⟩
            obtain ⟨q, hq⟩ : ∃ q, q = min 18 (text.size - 18 * i) := ⟨_, rfl⟩
            have hRz : R.size = text.size - min (18 * i) text.size := by rw [hR, ByteArray.size_extract]; omega
            have hRp : R.extract 0 q = partK text i := by
              apply ByteArray.ext_getElem
              · simp only [ByteArray.size_extract, partK, hRz]
                omega
              · intro j h1 h2
                simp only [ByteArray.size_extract, partK, hRz] at h1 h2
                subst hR
                simp only [partK, ByteArray.getElem_extract]
                congr 1
                omega
            have hRn : R.extract q R.size = text.extract (min (18 * (i + 1)) text.size) text.size := by
              apply ByteArray.ext_getElem
              · simp only [ByteArray.size_extract, hRz]
                omega
              · intro j h1 h2
                simp only [ByteArray.size_extract, hRz] at h1 h2
                subst hR
                simp only [ByteArray.getElem_extract]
                congr 1
                omega
            have hqR : q ≤ R.size := by omega
            have w4 : IntKind.wrap .i64 (4 * (o : Int)) = ((4 * o : Nat) : Int) := (wrap64 (by omega) (by omega)).trans (by omega)
            have w5 : IntKind.wrap .i64 (((4 * o : Nat) : Int) + (i : Int)) = ((4 * o + i : Nat) : Int) := (wrap64 (by omega) (by omega)).trans (by omega)
            have b1 : (i + 1) * 24 ≤ 140737488355328 := by omega
            have b2 : i ≤ 9223372036854775806 := by omega
            have hAt : A.take (i * 2) = A := List.take_of_length_le (by omega)
            rw [← hR]
            have hcond : ∀ q0 : Nat, q0 = q → IntKind.wrap .i64 (q0 : Int) = (q : Int) := by
              rintro _ rfl
              exact wrap64 (by omega) (by omega)
            generalize (4 * o + i : Nat) = z at *
            generalize (4 * o : Nat) = z0 at *
            simp
            refine brn_app (fun b => ?_) (fun b => ?_)
            · simp at b
              have hq18 : q = 18 := by omega
              subst hq18
              have b3 : 18 ≤ R.size := hqR
              have b4 : (18 : Int) ≤ R.size := by omega
              have s1 := pr_sliceH (P := Try.prog) (t := 9) (s := R) (k := .i64) (b := 18) (by kernel_rfl) (by decide) b4
              have s2 := pr_sliceL (P := Try.prog) (t := 9) (s := R) (k := .i64) (a := 18) (by kernel_rfl) (by decide) b4
              have s3 : (18 : Int).toNat = 18 := rfl
              rw [s3] at s1 s2
              simp [w4, w5, hA, b1, b2, b3, s1, s2, hRp, hRn, hAt]
              subst hI
              refine Less_mk (m - 1) (by omega) ⟨i + 1, by omega, ?_⟩
              rw [wrNext i (by omega), hAm]
              rfl
            · simp at b
              have hqR2 : q = R.size := by omega
              subst hqR2
              have hE : text.extract (min (18 * (i + 1)) text.size) text.size = ByteArray.empty := by
                rw [← hRn]
                simp
              simp [w4, w5, hA, b1, b2, hRp, hRn, hAt]
              subst hI
              refine Less_mk (m - 1) (by omega) ⟨i + 1, by omega, ?_⟩
              rw [wrNext i (by omega), hAm, hE]
              rfl
          · simp at a
            have : i = 4 := by omega
            subst this
            have hAf := hAf rfl
            have w6 : IntKind.wrap .i64 (8 + (o : Int)) = ((8 + o : Nat) : Int) := (wrap64 (by omega) (by omega)).trans (by omega)
            have hAt : A.take (4 * 2) = A := List.take_of_length_le (by omega)
            have b1 : (4 + 1) * 24 ≤ 140737488355328 := by omega
            rw [hAf]
            simp [w6]
            refine Inv_intro (ok_steller _ text.size) ?_
            have ht2 : ∀ x y : PT, List.take 10 (A ++ [x, y]) = A ++ [x, y] := fun x y => List.take_of_length_le (by simp [hA])
            simp [hA, b1, hAt, planN_len, ht2]
def rPlanOf (d : GDisk) (text : ByteArray) : List GWrite × Bool := if goodDisk d = true then planL d.Sectors text else ([], false)
theorem rPlanOf_ok (v0 : GDisk) (v1 : ByteArray) (hw0 : v0.wt ≤ 1048576) (hw1 : v1.size ≤ 1048576) : lens_WriteS (rPlanOf v0 v1).1 ∧ cn_WriteS (rPlanOf v0 v1).1 ≤ 1152921504606846976 := by
  have hl : (rPlanOf v0 v1).1.length ≤ 5 := by
    unfold rPlanOf planL
    split
    · split
      · simp
      · simp [planN_len]
    · simp
  have hc := cn_len_WriteS (rPlanOf v0 v1).1
  exact ⟨⟨by omega, fun _ _ => trivial⟩, by omega⟩
theorem law_iPlanOf (v0 : GDisk) (v1 : ByteArray) (hw0 : v0.wt ≤ 1048576) (hw1 : v1.size ≤ 1048576) : CallOK Try.prog 15 [.agg (GDisk.ci 0 v0), .c (ps v1)] (.tup [.c (.sl 0 61 (rPlanOf v0 v1).1.length ((rPlanOf v0 v1).1.flatMap GWrite.c)), .c (pb (rPlanOf v0 v1).2)]) [.agg (GDisk.ci 0 v0), .c (ps v1)] := by
  have hl := disk_len hw0
  refine okS (fn := Try.f15) [] h0 Try.func15 (by kernel_rfl) rfl Try.ntmps15 Try.results15 (by simp) ?_
  simp
  refine Inv_intro (ok_iGoodDisk 0 v0 (by omega) (by omega)) ?_
  cases c1 : goodDisk v0 with
  | false => simp [rPlanOf, c1]
  | true =>
    obtain ⟨h10, hs⟩ := goodDisk_secs c1
    have er : rPlanOf v0 v1 = planL v0.Sectors v1 := by simp [rPlanOf, c1]
    simp
    refine Inv_intro (ok_planOf 0 v0 v1 h10 (fun s hx => by have := hs s hx; omega) (by omega)) ?_
    simp [er]
theorem law_sPlanOf (v0 : GDisk) (v1 : ByteArray) (hw0 : v0.wt ≤ 1048576) (hw1 : v1.size ≤ 1048576) : CallOK Try.prog 14 [.agg (GDisk.ci 0 v0), .c (ps v1)] (.tup [.c (.sl 0 61 (rPlanOf v0 v1).1.length ((rPlanOf v0 v1).1.flatMap GWrite.c)), .c (pb (rPlanOf v0 v1).2)]) [.agg (GDisk.ci 0 v0), .c (ps v1)] := by
  have hl := disk_len hw0
  refine okS (fn := Try.f14) [] h0 Try.func14 (by kernel_rfl) rfl Try.ntmps14 Try.results14 (by simp) ?_
  simp
  refine Inv_intro (ok_sGoodDisk 0 v0 (by omega) (by omega)) ?_
  cases c1 : goodDisk v0 with
  | false => simp [rPlanOf, c1]
  | true =>
    obtain ⟨h10, hs⟩ := goodDisk_secs c1
    have er : rPlanOf v0 v1 = planL v0.Sectors v1 := by simp [rPlanOf, c1]
    simp
    refine Inv_intro (ok_l17Plan 0 v0 v1 h10 (fun s hx => by have := hs s hx; omega) (by omega)) ?_
    simp [er]
theorem ok_eqStringS (k k' : Nat) (xs ys : List ByteArray) (ha : lens_StringS xs) (hb : lens_StringS ys) : CallOK Try.prog 25 [.c (rd k xs.length (xs.map ps)), .c (rd k' ys.length (ys.map ps))] (.c (pb (decide (xs = ys)))) [.c (rd k xs.length (xs.map ps)), .c (rd k' ys.length (ys.map ps))] := by
  obtain ⟨ha, hax⟩ := ha
  obtain ⟨hb, hbx⟩ := hb
  refine okS (fn := Try.f25) [] h0 Try.func25 (by kernel_rfl) rfl Try.ntmps25 Try.results25 (by simp) ?_
  simp
  refine brn_app (fun h => ?_) (fun h => ?_)
  · simp at h
    simp
    rintro rfl
    exact h rfl
  · simp at h
    have hl : ys.length = xs.length := by omega
    simp
    refine loopS [0, 1, 5] [] (fun n st => ∃ (i : Nat), i + n = xs.length ∧ (xs.drop i = ys.drop i ↔ xs = ys) ∧ st = ⟨slOf 26 [(0, .t (rd k xs.length (xs.map ps))), (1, .t (rd k' ys.length (ys.map ps))), (5, .t (pi i))], ofL []⟩) xs.length ?_ ?_
    · rintro Inv hI
      simp
      subst hI
      exact ⟨0, by omega, by simp, rfl⟩
    · rintro Inv hI n st ⟨i, hi, htk, rfl⟩
      refine ewr_sound (M := []) h0 ?_
      simp
      refine brn_app (fun h => ?_) (fun h => ?_)
      · simp at h
        have hib : i < ys.length := by omega
        rw [drop_step xs i h, drop_step ys i hib, List.cons.injEq] at htk
        simp
        refine drawP E0 [⟨[], allD 26, true⟩, ⟨[], allD 26, true⟩, ⟨[], allD 26, true⟩, ⟨[], allD 26, true⟩, ⟨[], allD 26, true⟩, ⟨[], allD 26, true⟩, ⟨[], allD 26, true⟩, ⟨[], allD 26, true⟩, ⟨[], allD 26, true⟩] h0 hm (E0_ok _) (by kernel_rfl) (by kernel_rfl) ?_
        simp [h, hib]
        refine brn_app (fun h2 => ?_) (fun h2 => ?_)
        · simp at h2
          simp
          intro he
          exact h2 (htk.2 he).1
        · simp at h2
          simp
          subst hI
          exact Less_mk (n - 1) (by omega) ⟨i + 1, by omega, ⟨fun h4 => htk.1 ⟨h2, h4⟩, fun h4 => (htk.2 h4).2⟩, by rw [wrNext i (by omega)]⟩
      · simp at h
        rw [List.drop_of_length_le (by omega), List.drop_of_length_le (by omega)] at htk
        simp
        exact htk.1 rfl
theorem ok_eqWrite (x y : GWrite) : CallOK Try.prog 59 [.agg (GWrite.c x), .agg (GWrite.c y)] (.c (pb (decide (x = y)))) [.agg (GWrite.c x), .agg (GWrite.c y)] := by
  refine okS (fn := Try.f59) [] h0 Try.func59 (by kernel_rfl) rfl Try.ntmps59 Try.results59 (by simp) ?_
  simp
  refine brn_app (fun a0 => ?_) (fun a0 => ?_)
  · simp at a0
    simp
    rintro rfl
    exact a0 rfl
  · simp at a0
    simp
    refine brn_app (fun a1 => ?_) (fun a1 => ?_)
    · simp at a1
      simp
      rintro rfl
      exact a1 rfl
    · simp at a1
      simp
      cases x
      cases y
      simp_all
theorem ok_eqWriteS (k k' : Nat) (xs ys : List GWrite) (ha : lens_WriteS xs) (hb : lens_WriteS ys) : CallOK Try.prog 16 [.c (rd k xs.length (xs.flatMap GWrite.c)), .c (rd k' ys.length (ys.flatMap GWrite.c))] (.c (pb (decide (xs = ys)))) [.c (rd k xs.length (xs.flatMap GWrite.c)), .c (rd k' ys.length (ys.flatMap GWrite.c))] := by
  obtain ⟨ha, hax⟩ := ha
  obtain ⟨hb, hbx⟩ := hb
  refine okS (fn := Try.f16) [] h0 Try.func16 (by kernel_rfl) rfl Try.ntmps16 Try.results16 (by simp) ?_
  simp
  refine brn_app (fun h => ?_) (fun h => ?_)
  · simp at h
    simp
    rintro rfl
    exact h rfl
  · simp at h
    have hl : ys.length = xs.length := by omega
    simp
    refine loopS [0, 1, 5] [] (fun n st => ∃ (i : Nat), i + n = xs.length ∧ (xs.drop i = ys.drop i ↔ xs = ys) ∧ st = ⟨slOf 27 [(0, .t (rd k xs.length (xs.flatMap GWrite.c))), (1, .t (rd k' ys.length (ys.flatMap GWrite.c))), (5, .t (pi i))], ofL []⟩) xs.length ?_ ?_
    · rintro Inv hI
      simp
      subst hI
      exact ⟨0, by omega, by simp, rfl⟩
    · rintro Inv hI n st ⟨i, hi, htk, rfl⟩
      refine ewr_sound (M := []) h0 ?_
      simp
      refine brn_app (fun h => ?_) (fun h => ?_)
      · simp at h
        have hib : i < ys.length := by omega
        rw [drop_step xs i h, drop_step ys i hib, List.cons.injEq] at htk
        simp
        have hd := fm_drop GWrite.c 2 (fun _ => rfl) xs i h
        have hd' := fm_drop GWrite.c 2 (fun _ => rfl) ys i hib
        have hlen := fm_len GWrite.c 2 (fun _ => rfl) xs
        have hlen' := fm_len GWrite.c 2 (fun _ => rfl) ys
        have hlt : i * 2 < xs.length * 2 := by omega
        have hlt' : i * 2 < ys.length * 2 := by omega
        have hE := ok_eqWrite xs[i] ys[i]
        refine drawP (tabEnv [] [(59, [.agg (GWrite.c xs[i]), .agg (GWrite.c ys[i])], .c (pb (decide (xs[i] = ys[i]))), [.agg (GWrite.c xs[i]), .agg (GWrite.c ys[i])])]) [⟨[], allD 27, true⟩, ⟨[], allD 27, true⟩, ⟨[], allD 27, true⟩, ⟨[], allD 27, true⟩, ⟨[], allD 27, true⟩, ⟨[], allD 27, true⟩, ⟨[], allD 27, true⟩, ⟨[], allD 27, true⟩, ⟨[], allD 27, false⟩, ⟨[], allD 27, true⟩] h0 hm (tabEnv_ok (by intro x hx; simp only [List.mem_singleton] at hx; subst hx; exact hE)) (by kernel_rfl) (by kernel_rfl) ?_
        simp [h, hib, hd, hd', hlen, hlen', hlt, hlt']
        refine brn_app (fun h2 => ?_) (fun h2 => ?_)
        · simp at h2
          simp
          intro he
          exact h2 (htk.2 he).1
        · simp at h2
          simp
          subst hI
          exact Less_mk (n - 1) (by omega) ⟨i + 1, by omega, ⟨fun h4 => htk.1 ⟨h2, h4⟩, fun h4 => (htk.2 h4).2⟩, by rw [wrNext i (by omega)]⟩
      · simp at h
        rw [List.drop_of_length_le (by omega), List.drop_of_length_le (by omega)] at htk
        simp
        exact htk.1 rfl
end Go.V
