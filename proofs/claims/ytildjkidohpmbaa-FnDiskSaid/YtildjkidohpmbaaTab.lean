/- What functions of the seat's program do, each proved of its code, under the bounds that its theorem names. -/
import Derived.Test.YtildjkidohpmbaaTaa
set_option linter.all false
namespace Go.V
open Go.Proofs
set_option maxHeartbeats 1000000
set_option maxRecDepth 10000
set_option linter.unusedSimpArgs false
set_option linter.unusedVariables false
theorem ok_within (n lo hi : Int) : CallOK Try.prog 46 [.c (pi n), .c (pi lo), .c (pi hi)] (.c (pb (decide (lo ≤ n ∧ n ≤ hi)))) [.c (pi n), .c (pi lo), .c (pi hi)] := by
  refine okS (fn := Try.f46) [] h0 Try.func46 (by kernel_rfl) rfl Try.ntmps46 Try.results46 (by simp) ?_
  simp
  refine gT (fun h => ?_) (fun h => ?_) <;> simp [h]
/-- Where a condition holds first, or -1. -/
def idxOf {α : Type} (p : α → Bool) (xs : List α) : Int := match xs.findIdx? p with | some i => i | none => -1
theorem idxOf_hit {α : Type} (p : α → Bool) (xs : List α) (i : Nat) (h : i < xs.length) (hp : p xs[i] = true) (hall : ∀ (j : Nat) (hj : j < i), p (xs[j]'(by omega)) = false) : idxOf p xs = i := by
  unfold idxOf
  rw [(List.findIdx?_eq_some_iff_getElem (i := i)).2 ⟨h, hp, fun j hj => by simp [hall j hj]⟩]
theorem idxOf_no {α : Type} (p : α → Bool) (xs : List α) (hall : ∀ (j : Nat) (hj : j < xs.length), p xs[j] = false) : idxOf p xs = -1 := by
  unfold idxOf
  rw [List.findIdx?_eq_none_iff.2 (fun s hs => by
    obtain ⟨j, hj, rfl⟩ := List.getElem_of_mem hs
    simp [hall j hj])]
theorem idxOf_any {α : Type} (p : α → Bool) (xs : List α) : decide (0 ≤ idxOf p xs) = xs.any p := by
  unfold idxOf
  cases h : xs.findIdx? p with
  | none =>
    rw [List.findIdx?_eq_none_iff] at h
    simp
    exact fun x hx => by simpa using h x hx
  | some i =>
    rw [List.findIdx?_eq_some_iff_getElem] at h
    obtain ⟨h1, h2, _⟩ := h
    simp
    exact ⟨_, List.getElem_mem h1, h2⟩
theorem ok_IndexFunc_String (k q g : Nat) (caps : List (List PT)) (p : ByteArray → Bool) (xs : List ByteArray) (ha : xs.length ≤ 140737488351232)
    (hg : ∀ x ∈ xs, CallOK Try.prog g (.c (ps x) :: caps.map (PV.ip q)) (.c (pb (p x))) (.c (ps x) :: caps.map (PV.ip q))) :
    CallOK Try.prog 99 [.c (rd k xs.length (xs.map ps)), .c (.fn q g caps)] (.c (pi (idxOf p xs))) [.c (rd k xs.length (xs.map ps)), .c (.fn q g caps)] := by
  refine okS (fn := Try.f99) [] h0 Try.func99 (by kernel_rfl) rfl Try.ntmps99 Try.results99 (by simp) ?_
  simp
  refine loopS [0, 1, 7, 8] [] (fun n st => ∃ (i : Nat), i + n = xs.length ∧ (∀ (j : Nat) (hj : j < i) (hj' : j < xs.length), p xs[j] = false) ∧ st = ⟨slOf 19 [(0, .t (rd k xs.length (xs.map ps))), (1, .t (.fn q g caps)), (7, .t (pi xs.length)), (8, .t (pi i))], ofL []⟩) xs.length ?_ ?_
  · rintro Inv hI
    simp
    subst hI
    exact ⟨0, by omega, by intro j hj; omega, rfl⟩
  · rintro Inv hI n st ⟨i, hi, hall, rfl⟩
    refine ewr_sound (M := []) h0 ?_
    simp
    refine brn_app (fun h => ?_) (fun h => ?_)
    · simp at h
      simp [h]
      refine Inv_intro (hg _ (List.getElem_mem h)) ?_
      simp
      refine brn_app (fun h2 => ?_) (fun h2 => ?_)
      · simp
        exact (idxOf_hit p xs i h h2 fun j hj => hall j hj (by omega)).symm
      · simp
        subst hI
        refine Less_mk (n - 1) (by omega) ⟨i + 1, by omega, ?_, by rw [wrNext i (by omega)]⟩
        intro j hj hj'
        by_cases hji : j = i
        · subst hji; exact h2
        · exact hall j (by omega) hj'
    · simp at h
      simp
      exact (idxOf_no p xs fun j hj => hall j (by omega) hj).symm
theorem ok_ContainsFunc_String (k q g : Nat) (caps : List (List PT)) (p : ByteArray → Bool) (xs : List ByteArray) (ha : xs.length ≤ 140737488351232)
    (hg : ∀ x ∈ xs, CallOK Try.prog g (.c (ps x) :: caps.map (PV.ip q)) (.c (pb (p x))) (.c (ps x) :: caps.map (PV.ip q))) :
    CallOK Try.prog 55 [.c (rd k xs.length (xs.map ps)), .c (.fn q g caps)] (.c (pb (xs.any p))) [.c (rd k xs.length (xs.map ps)), .c (.fn q g caps)] := by
  refine okS (fn := Try.f55) [] h0 Try.func55 (by kernel_rfl) rfl Try.ntmps55 Try.results55 (by simp) ?_
  simp
  refine Inv_intro (ok_IndexFunc_String k q g caps p xs ha hg) ?_
  simp [idxOf_any]
theorem ok_IndexFunc_Write (k q g : Nat) (caps : List (List PT)) (p : GWrite → Bool) (xs : List GWrite) (ha : xs.length ≤ 140737488351232)
    (hg : ∀ x ∈ xs, CallOK Try.prog g (.agg (GWrite.c x) :: caps.map (PV.ip q)) (.c (pb (p x))) (.agg (GWrite.c x) :: caps.map (PV.ip q))) :
    CallOK Try.prog 100 [.c (rd k xs.length (xs.flatMap GWrite.c)), .c (.fn q g caps)] (.c (pi (idxOf p xs))) [.c (rd k xs.length (xs.flatMap GWrite.c)), .c (.fn q g caps)] := by
  refine okS (fn := Try.f100) [] h0 Try.func100 (by kernel_rfl) rfl Try.ntmps100 Try.results100 (by simp) ?_
  simp
  refine loopS [0, 1, 7, 8] [] (fun n st => ∃ (i : Nat), i + n = xs.length ∧ (∀ (j : Nat) (hj : j < i) (hj' : j < xs.length), p xs[j] = false) ∧ st = ⟨slOf 19 [(0, .t (rd k xs.length (xs.flatMap GWrite.c))), (1, .t (.fn q g caps)), (7, .t (pi xs.length)), (8, .t (pi i))], ofL []⟩) xs.length ?_ ?_
  · rintro Inv hI
    simp
    subst hI
    exact ⟨0, by omega, by intro j hj; omega, rfl⟩
  · rintro Inv hI n st ⟨i, hi, hall, rfl⟩
    refine ewr_sound (M := []) h0 ?_
    simp
    refine brn_app (fun h => ?_) (fun h => ?_)
    · simp at h
      have hd := fm_drop GWrite.c 2 (fun _ => rfl) xs i h
      have hlen := fm_len GWrite.c 2 (fun _ => rfl) xs
      have hlt : i * 2 < xs.length * 2 := by omega
      simp [h, hd, hlen, hlt]
      refine Inv_intro (hg _ (List.getElem_mem h)) ?_
      simp
      refine brn_app (fun h2 => ?_) (fun h2 => ?_)
      · simp
        exact (idxOf_hit p xs i h h2 fun j hj => hall j hj (by omega)).symm
      · simp
        subst hI
        refine Less_mk (n - 1) (by omega) ⟨i + 1, by omega, ?_, by rw [wrNext i (by omega)]⟩
        intro j hj hj'
        by_cases hji : j = i
        · subst hji; exact h2
        · exact hall j (by omega) hj'
    · simp at h
      simp
      exact (idxOf_no p xs fun j hj => hall j (by omega) hj).symm
theorem ok_ContainsFunc_Write (k q g : Nat) (caps : List (List PT)) (p : GWrite → Bool) (xs : List GWrite) (ha : xs.length ≤ 140737488351232)
    (hg : ∀ x ∈ xs, CallOK Try.prog g (.agg (GWrite.c x) :: caps.map (PV.ip q)) (.c (pb (p x))) (.agg (GWrite.c x) :: caps.map (PV.ip q))) :
    CallOK Try.prog 58 [.c (rd k xs.length (xs.flatMap GWrite.c)), .c (.fn q g caps)] (.c (pb (xs.any p))) [.c (rd k xs.length (xs.flatMap GWrite.c)), .c (.fn q g caps)] := by
  refine okS (fn := Try.f58) [] h0 Try.func58 (by kernel_rfl) rfl Try.ntmps58 Try.results58 (by simp) ?_
  simp
  refine Inv_intro (ok_IndexFunc_Write k q g caps p xs ha hg) ?_
  simp [idxOf_any]
theorem any_not {α : Type} (p : α → Bool) (xs : List α) : xs.any (fun x => !p x) = !xs.all p := by
  induction xs with
  | nil => rfl
  | cons x xs ih => simp [ih]
def okWrite (w : GWrite) : Bool := decide (0 ≤ w.At ∧ w.At ≤ 9) && decide (w.Data.size ≤ 20)
def goodDisk (d : GDisk) : Bool := decide (d.Sectors.length = 10) && decide (d.Waiting.length ≤ 40) && d.Sectors.all (fun s => decide (s.size ≤ 20)) && d.Waiting.all okWrite
theorem ok_isSector (s : ByteArray) : CallOK Try.prog 57 [.c (ps s)] (.c (pb (decide (s.size ≤ 20)))) [.c (ps s)] := by
  refine okS (fn := Try.f57) [] h0 Try.func57 (by kernel_rfl) rfl Try.ntmps57 Try.results57 (by simp) ?_
  simp
  omega
theorem ok_GoodDisk1 (s : ByteArray) : CallOK Try.prog 56 [.c (ps s)] (.c (pb (!decide (s.size ≤ 20)))) [.c (ps s)] := by
  refine okS (fn := Try.f56) [] h0 Try.func56 (by kernel_rfl) rfl Try.ntmps56 Try.results56 (by simp) ?_
  simp
  refine Inv_intro (ok_isSector _) ?_
  simp
theorem ok_GoodDisk2 (w : GWrite) : CallOK Try.prog 59 [.agg w.c] (.c (pb (!okWrite w))) [.agg w.c] := by
  refine okS (fn := Try.f59) [] h0 Try.func59 (by kernel_rfl) rfl Try.ntmps59 Try.results59 (by simp) ?_
  simp
  refine Inv_intro (ok_within _ _ _) ?_
  simp
  refine gF (fun h => ?_) (fun h => ?_)
  · simp [h]
    refine Inv_intro (ok_isSector _) ?_
    simp at h
    simp [okWrite, h]
  · simp [h]
    simp at h
    simp [okWrite]
    omega
theorem ok_iGoodDisk (k : Nat) (d : GDisk) (h1 : d.Sectors.length ≤ 140737488351232) (h2 : d.Waiting.length ≤ 140737488351232) : CallOK Try.prog 11 [.agg (d.ci k)] (.c (pb (goodDisk d))) [.agg (d.ci k)] := by
  refine okS (fn := Try.f11) [] h0 Try.func11 (by kernel_rfl) rfl Try.ntmps11 Try.results11 (by simp) ?_
  simp
  refine gT (fun a1 => ?_) (fun a1 => ?_)
  · simp [a1]
    refine gT (fun a2 => ?_) (fun a2 => ?_)
    · simp [a2]
      refine Inv_intro (ok_ContainsFunc_String k 0 56 [] (fun s => !decide (s.size ≤ 20)) d.Sectors h1 fun x _ => ok_GoodDisk1 x) ?_
      simp
      refine gT (fun a3 => ?_) (fun a3 => ?_)
      · simp [a3]
        refine Inv_intro (ok_ContainsFunc_Write k 0 59 [] (fun w => !okWrite w) d.Waiting h2 fun x _ => ok_GoodDisk2 x) ?_
        simp
        rw [any_not] at a3 ⊢
        have c1 : d.Sectors.length = 10 := by simp at a1; omega
        have c2 : d.Waiting.length ≤ 40 := by simp at a2; omega
        have c3 : (d.Sectors.all fun s => decide (s.size ≤ 20)) = true := by simpa using a3
        unfold goodDisk
        rw [c3]
        simp [c1, c2]
      · simp [a3]
        rw [any_not] at a3
        have c3 : (d.Sectors.all fun s => decide (s.size ≤ 20)) = false := by simpa using a3
        unfold goodDisk
        rw [c3]
        simp
    · simp [a2]
      simp at a2
      unfold goodDisk
      simp
      omega
  · simp [a1]
    simp at a1
    unfold goodDisk
    simp
    omega
theorem good_at {d : GDisk} (h : goodDisk d = true) : d.Sectors.length = 10 ∧ d.Waiting.length ≤ 40 ∧ ∀ w ∈ d.Waiting, atOK d.Sectors.length w := by
  unfold goodDisk at h
  simp only [Bool.and_eq_true, decide_eq_true_eq] at h
  obtain ⟨⟨⟨h1, h2⟩, h3⟩, h4⟩ := h
  refine ⟨h1, h2, fun w hw => ?_⟩
  have := List.all_eq_true.1 h4 w hw
  simp only [okWrite, Bool.and_eq_true, decide_eq_true_eq] at this
  unfold atOK
  omega
abbrev pvDB (r : GDisk × Bool) : PV := .tup [.agg r.1.co, .c (pb r.2)]
def kp (kept : List Bool) (i : Nat) : Bool := kept.getD i false
def crashed (d : GDisk) (kept : List Bool) : GDisk := ⟨applyW (kp kept) 0 d.Waiting d.Sectors, []⟩
def rCrashDisk (d : GDisk) (kept : List Bool) : GDisk × Bool := if goodDisk d = true ∧ kept.length = d.Waiting.length then (crashed d kept, true) else (⟨[], []⟩, false)
def synced (d : GDisk) : GDisk := ⟨applyW (fun _ => true) 0 d.Waiting d.Sectors, []⟩
def rSyncDisk (d : GDisk) : GDisk × Bool := if goodDisk d = true then (synced d, true) else (⟨[], []⟩, false)
def rWriteTo (d : GDisk) (at_ : Int) (data : ByteArray) : GDisk × Bool := if goodDisk d = true ∧ okWrite ⟨at_, data⟩ = true ∧ d.Waiting.length < 40 then (⟨d.Sectors, d.Waiting ++ [⟨at_, data⟩]⟩, true) else (⟨[], []⟩, false)
theorem kp_lt {kept : List Bool} {i : Nat} (h : i < kept.length) : kp kept i = kept[i] := by
  unfold kp
  rw [List.getD_eq_getElem?_getD, List.getElem?_eq_getElem h]
  rfl
theorem kp_ge {kept : List Bool} {i : Nat} (h : ¬ i < kept.length) : kp kept i = false := by
  unfold kp
  rw [List.getD_eq_getElem?_getD, List.getElem?_eq_none (by omega)]
  rfl
theorem rep_kp (n i : Nat) (h : i < n) : kp (List.replicate n true) i = true := by
  rw [kp_lt (by simpa using h)]
  simp
theorem crashed_all (d : GDisk) : crashed d (List.replicate d.Waiting.length true) = synced d := by
  unfold crashed synced
  congr 1
  exact applyW_congr (n := d.Waiting.length) (fun i hi => rep_kp _ i hi) _ _ _ (by omega)
theorem ok_l17Crash (k : Nat) (d : GDisk) (kept : List Bool) (h1 : d.Sectors.length ≤ 1048576) (h2 : d.Waiting.length ≤ 1048576) (hat : ∀ w ∈ d.Waiting, atOK d.Sectors.length w) : CallOK Try.prog 52 [.agg d.co, .c (rd k kept.length (kept.map pb))] (.agg (crashed d kept).co) [.agg [.hole, .hole], .c (rd k kept.length (kept.map pb))] := by
  refine okS (fn := Try.f52) [] h0 Try.func52 (by kernel_rfl) rfl Try.ntmps52 Try.results52 (by simp) ?_
  simp
  refine loopS [1, 2, 4, 8, 9, 10] [.op 0 0 0, .op 0 1 0] (fun n st => ∃ (i : Nat) (ss : List ByteArray), i + n = d.Waiting.length ∧ ss.length = d.Sectors.length ∧ applyW (kp kept) i (d.Waiting.drop i) ss = applyW (kp kept) 0 d.Waiting d.Sectors ∧ st = ⟨slOf 35 [(1, .t (rd k kept.length (kept.map pb))), (2, .ptr ⟨.op 0 0 0, []⟩ 0), (4, .ptr ⟨.op 0 1 0, []⟩ 0), (8, .ref ⟨.op 0 0 0, [1]⟩ 0 d.Waiting.length), (9, .t (pi d.Waiting.length)), (10, .t (pi i))], ofL [(.arg 0 0, .hole), (.arg 0 1, .hole), (.op 0 0 0, .sl 0 29 1 [.sl 0 9 ss.length (ss.map ps), .sl 0 43 d.Waiting.length (d.Waiting.flatMap GWrite.c)]), (.op 0 1 0, .sl 0 29 1 [.sl 0 nilE 0 [], .sl 0 nilE 0 []])]⟩) d.Waiting.length ?_ ?_
  · rintro Inv hI
    simp
    subst hI
    exact ⟨0, d.Sectors, by omega, rfl, rfl, rfl⟩
  · rintro Inv hI n st ⟨i, ss, hi, hss, hap, rfl⟩
    refine ewr_sound (M := []) h0 ?_
    simp
    refine brn_app (fun h => ?_) (fun h => ?_)
    · simp at h
      have hd := fm_drop GWrite.c 2 (fun _ => rfl) d.Waiting i h
      have hlt : i * 2 < d.Waiting.length * 2 := by omega
      have hlt2 : i * 2 + 2 ≤ d.Waiting.length * 2 := by omega
      have hw := hat _ (List.getElem_mem h)
      unfold atOK at hw
      rw [drop_step _ i h, applyW] at hap
      simp [h, hd, hlt, hlt2]
      refine gT (fun a => ?_) (fun a => ?_)
      · simp [a]
        simp at a
        have hk := kp_lt a
        simp [a]
        refine brn_app (fun b => ?_) (fun b => ?_)
        · rw [hk, if_pos b] at hap
          have hn : d.Waiting[i].At.toNat < ss.length := by omega
          have hn2 : d.Waiting[i].At < ss.length := by omega
          have hn1 : d.Waiting[i].At.toNat + 1 ≤ ss.length := by omega
          have hs := map_set ps ss d.Waiting[i].At.toNat d.Waiting[i].Data hn
          simp at hs
          simp [hw.1, hn2, hn1, hs]
          subst hI
          refine Less_mk (n - 1) (by omega) ⟨i + 1, ss.set d.Waiting[i].At.toNat d.Waiting[i].Data, by omega, by simp [hss], hap, ?_⟩
          rw [wrNext i (by omega)]
          simp
        · rw [hk, if_neg (by simp [b])] at hap
          simp
          subst hI
          exact Less_mk (n - 1) (by omega) ⟨i + 1, ss, by omega, hss, hap, by rw [wrNext i (by omega)]⟩
      · simp [a]
        simp at a
        rw [kp_ge (by omega), if_neg (by simp)] at hap
        subst hI
        exact Less_mk (n - 1) (by omega) ⟨i + 1, ss, by omega, hss, hap, by rw [wrNext i (by omega)]⟩
    · simp at h
      rw [List.drop_of_length_le (by omega), applyW] at hap
      subst hap
      simp [crashed]
theorem ok_l17Sync (d : GDisk) (h1 : d.Sectors.length ≤ 1048576) (h2 : d.Waiting.length ≤ 1048576) (hat : ∀ w ∈ d.Waiting, atOK d.Sectors.length w) : CallOK Try.prog 97 [.agg d.co] (.agg (synced d).co) [.agg [.hole, .hole]] := by
  refine okS (fn := Try.f97) [(52, [2])] h0 Try.func97 (by kernel_rfl) rfl Try.ntmps97 Try.results97 (by simp) ?_
  simp
  refine ewp_nil 3 (.op 4 2 0) 4 (by decide) rfl rfl rfl ?_
  refine loopS [1, 2, 3, 6, 7] [.op 4 2 0, .op 0 0 0, .op 0 1 0] (fun n st => ∃ (i : Nat), i + n = d.Waiting.length ∧ st = ⟨slOf 16 [(1, .ptr ⟨.op 0 0 0, []⟩ 0), (2, .ptr ⟨.op 0 1 0, []⟩ 0), (3, .ref ⟨.op 4 2 0, []⟩ 0 i), (6, .t (pi d.Waiting.length)), (7, .t (pi i))], ofL [(.op 4 2 0, .sl 0 4 i ((List.replicate i true).map pb)), (.arg 0 0, .hole), (.arg 0 1, .hole), (.op 0 0 0, .sl 0 29 1 d.co), (.op 0 1 0, .sl 0 29 1 [.sl 0 nilE 0 [], .sl 0 nilE 0 []])]⟩) d.Waiting.length ?_ ?_
  · rintro Inv hI
    simp
    subst hI
    exact ⟨0, by omega, rfl⟩
  · rintro Inv hI n st ⟨i, hi, rfl⟩
    have hCl : ((List.replicate i true).map pb).length = i := by simp
    have hun : PT.unownL ((List.replicate i true).map pb) = (List.replicate i true).map pb := unown_pb _
    have hcs : (List.replicate i true).map pb ++ [pb true] = (List.replicate (i + 1) true).map pb := by rw [List.replicate_succ', List.map_append]; rfl
    have hc := ok_l17Crash 0 d (List.replicate i true) h1 h2 hat
    rw [List.length_replicate] at hc
    generalize (List.replicate i true).map pb = C at hCl hun hcs hc ⊢
    have ht : C.take i = C := List.take_of_length_le (by omega)
    refine ewr_sound (M := [(52, [2])]) h0 ?_
    simp
    refine brn_app (fun h => ?_) (fun h => ?_)
    · simp at h
      have b1 : i + 1 ≤ 140737488355328 := by omega
      have b2 : i + 1 ≤ 9223372036854775807 := by omega
      simp [hCl, ht, b1, b2]
      subst hI
      refine Less_mk (n - 1) (by omega) ⟨i + 1, by omega, ?_⟩
      rw [wrNext i (by omega), ← hcs]
      rfl
    · simp at h
      have e : i = d.Waiting.length := by omega
      subst e
      rw [crashed_all] at hc
      simp at hc
      simp [hCl, ht, hun]
      refine Inv_intro hc ?_
      simp
theorem ok_synced1 (i : Int) : CallOK Try.prog 106 [.c (pi i)] (.c (pb true)) [.c (pi i)] := by
  refine okS (fn := Try.f106) [] h0 Try.func106 (by kernel_rfl) rfl Try.ntmps106 Try.results106 (by simp) ?_
  simp
theorem ok_synced (k : Nat) (d : GDisk) (h1 : d.Sectors.length ≤ 1048576) (h2 : d.Waiting.length ≤ 1048576) (hat : ∀ w ∈ d.Waiting, atOK d.Sectors.length w) : CallOK Try.prog 71 [.agg (d.ci k)] (.agg (synced d).co) [.agg (d.ci k)] := by
  refine okS (fn := Try.f71) [] h0 Try.func71 (by kernel_rfl) rfl Try.ntmps71 Try.results71 (by simp) ?_
  simp
  refine Inv_intro (ok_written k 0 106 [] d (fun _ => true) h1 h2 hat (fun i _ => ok_synced1 i)) ?_
  simp [synced]
theorem ok_l1In (n lo hi : Int) : CallOK Try.prog 50 [.c (pi n), .c (pi lo), .c (pi hi)] (.c (pb (decide (lo ≤ n ∧ n ≤ hi)))) [.c (pi n), .c (pi lo), .c (pi hi)] := by
  refine okS (fn := Try.f50) [] h0 Try.func50 (by kernel_rfl) rfl Try.ntmps50 Try.results50 (by simp) ?_
  simp
  refine gT (fun h => ?_) (fun h => ?_) <;> simp [h]
theorem ok_sGoodDisk (k : Nat) (d : GDisk) (h1 : d.Sectors.length ≤ 140737488351232) (h2 : d.Waiting.length ≤ 140737488351232) : CallOK Try.prog 23 [.agg (d.ci k)] (.c (pb (goodDisk d))) [.agg (d.ci k)] := by
  refine okS (fn := Try.f23) [] h0 Try.func23 (by kernel_rfl) rfl Try.ntmps23 Try.results23 (by simp) ?_
  simp
  refine loopS [1, 8, 9, 10] [.op 0 0 0] (fun n st => ∃ (i : Nat), i + n = d.Sectors.length ∧ (d.Sectors.drop i).all (fun s => decide (s.size ≤ 20)) = d.Sectors.all (fun s => decide (s.size ≤ 20)) ∧ st = ⟨slOf 46 [(1, .ptr ⟨.op 0 0 0, []⟩ 0), (8, .t (rd k d.Sectors.length (d.Sectors.map ps))), (9, .t (pi d.Sectors.length)), (10, .t (pi i))], ofL [(.op 0 0 0, .sl 0 29 1 (d.ci k))]⟩) d.Sectors.length ?_ ?_
  · rintro Inv hI
    simp
    subst hI
    exact ⟨0, by omega, rfl, rfl⟩
  · rintro Inv hI n st ⟨i, hi, hall, rfl⟩
    refine ewr_sound (M := []) h0 ?_
    simp
    refine brn_app (fun h => ?_) (fun h => ?_)
    · simp at h
      rw [drop_step _ i h, List.all_cons] at hall
      simp [h]
      refine brn_app (fun a => ?_) (fun a => ?_)
      · simp
        simp at a
        have a' : ¬ (d.Sectors[i].size ≤ 20) := by omega
        rw [decide_eq_false a', Bool.false_and] at hall
        simp [goodDisk, ← hall]
      · simp
        simp at a
        have a' : d.Sectors[i].size ≤ 20 := by omega
        rw [decide_eq_true a', Bool.true_and] at hall
        subst hI
        exact Less_mk (n - 1) (by omega) ⟨i + 1, by omega, hall, by rw [wrNext i (by omega)]; rfl⟩
    · simp at h
      rw [List.drop_of_length_le (by omega), List.all_nil] at hall
      simp
      refine loopS [1, 19, 20, 21] [.op 0 0 0] (fun n st => ∃ (i : Nat), i + n = d.Waiting.length ∧ (d.Waiting.drop i).all okWrite = d.Waiting.all okWrite ∧ st = ⟨slOf 46 [(1, .ptr ⟨.op 0 0 0, []⟩ 0), (19, .t (rd k d.Waiting.length (d.Waiting.flatMap GWrite.c))), (20, .t (pi d.Waiting.length)), (21, .t (pi i))], ofL [(.op 0 0 0, .sl 0 29 1 (d.ci k))]⟩) d.Waiting.length ?_ ?_
      · rintro Inv hI
        simp
        subst hI
        exact ⟨0, by omega, rfl, rfl⟩
      · rintro Inv hI n st ⟨i, hi, hall2, rfl⟩
        refine ewr_sound (M := []) h0 ?_
        simp
        refine brn_app (fun h => ?_) (fun h => ?_)
        · simp at h
          rw [drop_step _ i h, List.all_cons] at hall2
          have hd := fm_drop GWrite.c 2 (fun _ => rfl) d.Waiting i h
          have hlt : i * 2 < d.Waiting.length * 2 := by omega
          simp [h, hd, hlt]
          refine Inv_intro (ok_l1In _ _ _) ?_
          simp
          refine gF (fun a => ?_) (fun a => ?_)
          · simp [a]
            refine brn_app (fun b => ?_) (fun b => ?_)
            · simp
              simp at a b
              have hw : okWrite d.Waiting[i] = false := by simp [okWrite]; omega
              rw [hw, Bool.false_and] at hall2
              simp [goodDisk, ← hall2]
            · simp
              simp at a b
              have hw : okWrite d.Waiting[i] = true := by simp [okWrite]; omega
              rw [hw, Bool.true_and] at hall2
              subst hI
              exact Less_mk (n - 1) (by omega) ⟨i + 1, by omega, hall2, by rw [wrNext i (by omega)]; rfl⟩
          · simp [a]
            simp at a
            have hw : okWrite d.Waiting[i] = false := by simp [okWrite]; omega
            rw [hw, Bool.false_and] at hall2
            simp [goodDisk, ← hall2]
        · simp at h
          rw [List.drop_of_length_le (by omega), List.all_nil] at hall2
          simp
          refine gT (fun a => ?_) (fun a => ?_)
          · simp [a]
            simp at a
            have c1 : d.Sectors.length = 10 := by omega
            rw [goodDisk, ← hall, ← hall2]
            simp [c1]
            omega
          · simp [a]
            simp at a
            have c1 : ¬ d.Sectors.length = 10 := by omega
            simp [goodDisk, c1]
theorem ok_CrashDisk1 (q k : Nat) (kept : List Bool) (i : Nat) (h : i < kept.length) : CallOK Try.prog 68 [.c (pi i), .ip q [rd k kept.length (kept.map pb)]] (.c (pb (kp kept i))) [.c (pi i), .ip q [rd k kept.length (kept.map pb)]] := by
  refine okS (fn := Try.f68) [] h0 Try.func68 (by kernel_rfl) rfl Try.ntmps68 Try.results68 (by simp) ?_
  simp [h, kp_lt h]
theorem ok_iSyncDisk (k : Nat) (d : GDisk) (h1 : d.Sectors.length ≤ 1048576) (h2 : d.Waiting.length ≤ 1048576) : CallOK Try.prog 24 [.agg (d.ci k)] (pvDB (rSyncDisk d)) [.agg (d.ci k)] := by
  refine okS (fn := Try.f24) [] h0 Try.func24 (by kernel_rfl) rfl Try.ntmps24 Try.results24 (by simp) ?_
  simp
  refine Inv_intro (ok_iGoodDisk k d (by omega) (by omega)) ?_
  simp
  refine brn_app (fun a => ?_) (fun a => ?_)
  · simp at a
    simp [rSyncDisk, a]
  · simp at a
    simp
    refine Inv_intro (ok_synced k d h1 h2 (good_at a).2.2) ?_
    simp [rSyncDisk, a]
theorem ok_iCrashDisk (k k' : Nat) (d : GDisk) (kept : List Bool) (h1 : d.Sectors.length ≤ 1048576) (h2 : d.Waiting.length ≤ 1048576) : CallOK Try.prog 18 [.agg (d.ci k), .c (rd k' kept.length (kept.map pb))] (pvDB (rCrashDisk d kept)) [.agg (d.ci k), .c (rd k' kept.length (kept.map pb))] := by
  refine okS (fn := Try.f18) [] h0 Try.func18 (by kernel_rfl) rfl Try.ntmps18 Try.results18 (by simp) ?_
  simp
  refine Inv_intro (ok_iGoodDisk k d (by omega) (by omega)) ?_
  simp
  refine gF (fun a => ?_) (fun a => ?_)
  · simp at a
    simp [a]
    refine brn_app (fun b => ?_) (fun b => ?_)
    · simp at b
      have hb : ¬ kept.length = d.Waiting.length := by omega
      simp [rCrashDisk, a, hb]
    · simp at b
      have hb : kept.length = d.Waiting.length := by omega
      simp
      refine Inv_intro (ok_written k 1 68 [[rd 0 kept.length (kept.map pb)]] d (kp kept) h1 h2 (good_at a).2.2 (fun i hi => ok_CrashDisk1 1 0 kept i (by omega))) ?_
      simp [rCrashDisk, a, hb, crashed]
  · simp at a
    simp [a, rCrashDisk]
theorem ok_iWriteTo (k : Nat) (d : GDisk) (at_ : Int) (data : ByteArray) (h1 : d.Sectors.length ≤ 1048576) (h2 : d.Waiting.length ≤ 1048576) : CallOK Try.prog 21 [.agg (d.ci k), .c (pi at_), .c (ps data)] (pvDB (rWriteTo d at_ data)) [.agg (d.ci k), .c (pi at_), .c (ps data)] := by
  refine okS (fn := Try.f21) [] h0 Try.func21 (by kernel_rfl) rfl Try.ntmps21 Try.results21 (by simp) ?_
  simp
  refine Inv_intro (ok_waiting k d ⟨at_, data⟩ h1 h2) ?_
  simp
  refine Inv_intro (ok_iGoodDisk k d (by omega) (by omega)) ?_
  simp
  refine gF (fun a => ?_) (fun a => ?_)
  · simp at a
    simp [a]
    have hg : goodDisk ⟨d.Sectors, d.Waiting ++ [⟨at_, data⟩]⟩ = decide (okWrite ⟨at_, data⟩ = true ∧ d.Waiting.length < 40) := by
      have := good_at a
      unfold goodDisk at a ⊢
      simp only [Bool.and_eq_true, decide_eq_true_eq] at a
      obtain ⟨⟨⟨a1, a2⟩, a3⟩, a4⟩ := a
      simp only [List.all_append, List.length_append, a3, a4, List.all_cons, List.all_nil, List.length_cons, List.length_nil]
      rw [Bool.eq_iff_iff]
      simp [a1]
      constructor
      · rintro ⟨h3, h4⟩; exact ⟨h4, by omega⟩
      · rintro ⟨h3, h4⟩; exact ⟨by omega, h3⟩
    have hc := ok_iGoodDisk 0 ⟨d.Sectors, d.Waiting ++ [⟨at_, data⟩]⟩ (by simp; omega) (by simp; omega)
    rw [hg] at hc
    simp at hc
    refine Inv_intro hc ?_
    simp
    refine brn_app (fun b => ?_) (fun b => ?_)
    · simp at b
      have hb : ¬ (okWrite ⟨at_, data⟩ = true ∧ d.Waiting.length < 40) := by rintro ⟨b1, b2⟩; simp [b1] at b; omega
      simp [rWriteTo, a, hb]
    · simp at b
      simp [rWriteTo, a, b]
  · simp at a
    simp [a, rWriteTo]
theorem ok_sWriteTo (k : Nat) (d : GDisk) (at_ : Int) (data : ByteArray) (h1 : d.Sectors.length ≤ 1048576) (h2 : d.Waiting.length ≤ 1048576) : CallOK Try.prog 22 [.agg (d.ci k), .c (pi at_), .c (ps data)] (pvDB (rWriteTo d at_ data)) [.agg (d.ci k), .c (pi at_), .c (ps data)] := by
  refine okS (fn := Try.f22) [] h0 Try.func22 (by kernel_rfl) rfl Try.ntmps22 Try.results22 (by simp) ?_
  simp
  refine Inv_intro (ok_sGoodDisk k d (by omega) (by omega)) ?_
  simp
  refine gF (fun a => ?_) (fun a => ?_)
  · simp at a
    simp [a]
    refine Inv_intro (ok_l1In _ _ _) ?_
    simp
    refine gF (fun b => ?_) (fun b => ?_)
    · simp [b]
      simp at b
      refine gF (fun c => ?_) (fun c => ?_)
      · simp [c]
        simp at c
        refine brn_app (fun e => ?_) (fun e => ?_)
        · simp at e
          have he : ¬ d.Waiting.length < 40 := by omega
          simp [rWriteTo, he]
        · simp at e
          have hg := (good_at a).2.1
          have he : d.Waiting.length < 40 := by omega
          have hw : okWrite ⟨at_, data⟩ = true := by simp [okWrite, b]; omega
          simp
          refine Inv_intro (ok_l17Own k d h1 h2) ?_
          have b3 : (d.Waiting.length + 1) * 24 ≤ 140737488355328 := by omega
          have b4 : d.Waiting.length + 1 ≤ 9223372036854775807 := by omega
          simp [b3, b4, rWriteTo, a, hw, he]
      · simp [c]
        simp at c
        have hw : okWrite ⟨at_, data⟩ = false := by simp [okWrite]; omega
        simp [rWriteTo, hw]
    · simp [b]
      simp at b
      have hw : okWrite ⟨at_, data⟩ = false := by simp [okWrite]; omega
      simp [rWriteTo, hw]
  · simp at a
    simp [a, rWriteTo]
theorem ok_sCrashDisk (k k' : Nat) (d : GDisk) (kept : List Bool) (h1 : d.Sectors.length ≤ 1048576) (h2 : d.Waiting.length ≤ 1048576) : CallOK Try.prog 19 [.agg (d.ci k), .c (rd k' kept.length (kept.map pb))] (pvDB (rCrashDisk d kept)) [.agg (d.ci k), .c (rd k' kept.length (kept.map pb))] := by
  refine okS (fn := Try.f19) [(52, [2])] h0 Try.func19 (by kernel_rfl) rfl Try.ntmps19 Try.results19 (by simp) ?_
  simp
  refine Inv_intro (ok_sGoodDisk k d (by omega) (by omega)) ?_
  simp
  refine gF (fun a => ?_) (fun a => ?_)
  · simp at a
    simp [a]
    refine brn_app (fun b => ?_) (fun b => ?_)
    · simp at b
      have hb : ¬ kept.length = d.Waiting.length := by omega
      simp [rCrashDisk, a, hb]
    · simp at b
      have hb : kept.length = d.Waiting.length := by omega
      simp
      refine Inv_intro (ok_l17Own k d h1 h2) ?_
      simp
      refine Inv_intro (ok_l17Crash k' d kept h1 h2 (good_at a).2.2) ?_
      simp [rCrashDisk, a, hb]
  · simp at a
    simp [a, rCrashDisk]
theorem disk_ok {d : GDisk} (h1 : d.Sectors.length ≤ 2097152) (h2 : d.Waiting.length ≤ 2097152) : d.lens ∧ GDisk.cnT d ≤ 1152921504606846976 := by
  refine ⟨⟨⟨by omega, fun _ _ => trivial⟩, ⟨by omega, fun _ _ => trivial⟩⟩, ?_⟩
  have := cn_len_StringS d.Sectors
  have := cn_len_WriteS d.Waiting
  unfold GDisk.cnT
  omega
theorem disk_len {d : GDisk} (h : d.wt ≤ 1048576) : d.Sectors.length ≤ 1048576 ∧ d.Waiting.length ≤ 1048576 := by
  have := len_wt_StringS d.Sectors
  have := len_wt_WriteS d.Waiting
  unfold GDisk.wt at h
  omega
abbrev cBoolSo (xs : List Bool) : PT := .sl 0 4 xs.length (xs.map pb)
abbrev cBoolSi (k : Nat) (xs : List Bool) : PT := rd k xs.length (xs.map pb)
def wt_BoolS (xs : List Bool) : Nat := xs.length
theorem len_wt_BoolS (xs : List Bool) : xs.length ≤ wt_BoolS xs := by unfold wt_BoolS; omega
def fits_BoolS (xs : List Bool) : Prop := xs.length ≤ 140737488351232 ∧ ∀ x ∈ xs, True
def lens_BoolS (xs : List Bool) : Prop := xs.length ≤ 140737488351232 ∧ ∀ x ∈ xs, True
def mk_BoolS (xs : List Bool) (k : Int) : List Bool × Int := mkR (fun (_ : Bool) k => (decide (Int.tmod k 3 = 0), k + 1)) xs k
def cn_BoolS (xs : List Bool) : Nat := cnR (fun (_ : Bool) => 1) xs
theorem mk_BoolS_len (xs : List Bool) (k : Int) : (mk_BoolS xs k).1.length = xs.length := mkR_len _ xs k
attribute [simp] mk_BoolS_len
theorem mk_BoolS_snd (xs : List Bool) (k : Int) : (mk_BoolS xs k).2 = k + cn_BoolS xs := mkR_snd (fun _ _ => rfl) xs k
theorem lens_of_BoolS {xs : List Bool} (h : wt_BoolS xs ≤ 1048576) : lens_BoolS xs := by
  have hl := len_wt_BoolS xs
  exact ⟨by omega, fun _ _ => trivial⟩
theorem cn_len_BoolS (xs : List Bool) : cn_BoolS xs ≤ 32 * xs.length := cnR_le0 (fun x => by omega) xs
theorem cn_le_BoolS (xs : List Bool) : cn_BoolS xs ≤ 32 * wt_BoolS xs := cnR_le0 (fun _ => by omega) xs
theorem law_iWriteTo (v0 : GDisk) (v1 : Int) (v2 : ByteArray) (h0 : v0.wt ≤ 1048576) (h2 : v2.size ≤ 1048576) : CallOK Try.prog 21 [.agg (v0.ci 0), .c (pi v1), .c (ps v2)] (pvDB (rWriteTo v0 v1 v2)) [.agg (v0.ci 0), .c (pi v1), .c (ps v2)] := ok_iWriteTo 0 v0 v1 v2 (disk_len h0).1 (disk_len h0).2
theorem law_sWriteTo (v0 : GDisk) (v1 : Int) (v2 : ByteArray) (h0 : v0.wt ≤ 1048576) (h2 : v2.size ≤ 1048576) : CallOK Try.prog 22 [.agg (v0.ci 0), .c (pi v1), .c (ps v2)] (pvDB (rWriteTo v0 v1 v2)) [.agg (v0.ci 0), .c (pi v1), .c (ps v2)] := ok_sWriteTo 0 v0 v1 v2 (disk_len h0).1 (disk_len h0).2
theorem rWriteTo_ok (v0 : GDisk) (v1 : Int) (v2 : ByteArray) (h0 : v0.wt ≤ 1048576) (h2 : v2.size ≤ 1048576) : (rWriteTo v0 v1 v2).1.lens ∧ GDisk.cnT (rWriteTo v0 v1 v2).1 ≤ 1152921504606846976 := by
  have hl := disk_len h0
  refine disk_ok ?_ ?_ <;> unfold rWriteTo <;> split <;> simp <;> omega
theorem law_iSyncDisk (v0 : GDisk) (h0 : v0.wt ≤ 1048576) : CallOK Try.prog 24 [.agg (v0.ci 0)] (pvDB (rSyncDisk v0)) [.agg (v0.ci 0)] := ok_iSyncDisk 0 v0 (disk_len h0).1 (disk_len h0).2
theorem rSyncDisk_ok (v0 : GDisk) (h0 : v0.wt ≤ 1048576) : (rSyncDisk v0).1.lens ∧ GDisk.cnT (rSyncDisk v0).1 ≤ 1152921504606846976 := by
  have hl := disk_len h0
  refine disk_ok ?_ ?_ <;> unfold rSyncDisk <;> split <;> simp [synced, applyW_len] <;> omega
theorem law_iCrashDisk (v0 : GDisk) (v1 : List Bool) (h0 : v0.wt ≤ 1048576) (h1 : wt_BoolS v1 ≤ 1048576) : CallOK Try.prog 18 [.agg (v0.ci 0), .c (rd 0 v1.length (v1.map pb))] (pvDB (rCrashDisk v0 v1)) [.agg (v0.ci 0), .c (rd 0 v1.length (v1.map pb))] := ok_iCrashDisk 0 0 v0 v1 (disk_len h0).1 (disk_len h0).2
theorem law_sCrashDisk (v0 : GDisk) (v1 : List Bool) (h0 : v0.wt ≤ 1048576) (h1 : wt_BoolS v1 ≤ 1048576) : CallOK Try.prog 19 [.agg (v0.ci 0), .c (rd 0 v1.length (v1.map pb))] (pvDB (rCrashDisk v0 v1)) [.agg (v0.ci 0), .c (rd 0 v1.length (v1.map pb))] := ok_sCrashDisk 0 0 v0 v1 (disk_len h0).1 (disk_len h0).2
theorem rCrashDisk_ok (v0 : GDisk) (v1 : List Bool) (h0 : v0.wt ≤ 1048576) (h1 : wt_BoolS v1 ≤ 1048576) : (rCrashDisk v0 v1).1.lens ∧ GDisk.cnT (rCrashDisk v0 v1).1 ≤ 1152921504606846976 := by
  have hl := disk_len h0
  refine disk_ok ?_ ?_ <;> unfold rCrashDisk <;> split <;> simp [crashed, applyW_len] <;> omega
end Go.V
