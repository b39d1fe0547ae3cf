/- What functions of the seat's program do, each proved of its code, under the bounds that its theorem names. -/
import Derived.Test.YtcdlflmppicdjaaTac
set_option linter.all false
namespace Go.V
open Go.Proofs
set_option maxHeartbeats 1000000
set_option maxRecDepth 10000
set_option linter.unusedSimpArgs false
set_option linter.unusedVariables false
theorem ok_within (n lo hi : Int) : CallOK Try.prog 97 [.c (pi n), .c (pi lo), .c (pi hi)] (.c (pb (decide (lo ≤ n ∧ n ≤ hi)))) [.c (pi n), .c (pi lo), .c (pi hi)] := by
  refine okS (fn := Try.f97) [] h0 Try.func97 (by kernel_rfl) rfl Try.ntmps97 Try.results97 (by simp) ?_
  simp
  refine gT (fun h => ?_) (fun h => ?_) <;> simp [h]
theorem ok_l1In (n lo hi : Int) : CallOK Try.prog 45 [.c (pi n), .c (pi lo), .c (pi hi)] (.c (pb (decide (lo ≤ n ∧ n ≤ hi)))) [.c (pi n), .c (pi lo), .c (pi hi)] := by
  refine okS (fn := Try.f45) [] h0 Try.func45 (by kernel_rfl) rfl Try.ntmps45 Try.results45 (by simp) ?_
  simp
  refine gT (fun h => ?_) (fun h => ?_) <;> simp [h]
theorem inR_t {n lo hi : Int} (h : lo ≤ n ∧ n ≤ hi) : inR n lo hi = true := by simp [inR, h]
theorem ok_isAsn (n : Int) : CallOK Try.prog 46 [.c (pi n)] (.c (pb (isAsnB n))) [.c (pi n)] := by
  refine okS (fn := Try.f46) [] h0 Try.func46 (by kernel_rfl) rfl Try.ntmps46 Try.results46 (by simp) ?_
  simp
  refine Inv_intro (ok_within _ _ _) ?_
  simp [isAsnB, inR]
theorem ok_isAddr (n : Int) : CallOK Try.prog 116 [.c (pi n)] (.c (pb (inR n 0 4294967295))) [.c (pi n)] := by
  refine okS (fn := Try.f116) [] h0 Try.func116 (by kernel_rfl) rfl Try.ntmps116 Try.results116 (by simp) ?_
  simp
  refine Inv_intro (ok_within _ _ _) ?_
  simp [inR]
theorem ok_l1Addr (n : Int) : CallOK Try.prog 113 [.c (pi n)] (.c (pb (inR n 0 4294967295))) [.c (pi n)] := by
  refine okS (fn := Try.f113) [] h0 Try.func113 (by kernel_rfl) rfl Try.ntmps113 Try.results113 (by simp) ?_
  simp
  refine Inv_intro (ok_l1In _ _ _) ?_
  simp [inR]
theorem ok_sizeOf (n : Int) (h1 : 0 ≤ n) (h2 : n ≤ 32) : CallOK Try.prog 117 [.c (pi n)] (.c (pi (szP n))) [.c (pi n)] := by
  refine okS (fn := Try.f117) [] h0 Try.func117 (by kernel_rfl) rfl Try.ntmps117 Try.results117 (by simp) ?_
  have hw : IntKind.wrap .i64 (32 - n) = 32 - n := wrap64 (by omega) (by omega)
  have hs := shl_pow (32 - n).toNat (by omega)
  have hn : 0 ≤ 32 - n := by omega
  simp [hw, h2]
  simpa [szP] using hs
theorem ok_l1Size (p : GPrefix) (h1 : 0 ≤ p.Len) (h2 : p.Len ≤ 32) : CallOK Try.prog 114 [.agg p.c] (.c (pi (szP p.Len))) [.agg p.c] := by
  refine okS (fn := Try.f114) [] h0 Try.func114 (by kernel_rfl) rfl Try.ntmps114 Try.results114 (by simp) ?_
  have hw : IntKind.wrap .i64 (32 - p.Len) = 32 - p.Len := wrap64 (by omega) (by omega)
  have hw2 : IntKind.wrap .u64 (32 - p.Len) = 32 - p.Len := by
    show (32 - p.Len) % 18446744073709551616 = _
    omega
  have hs := shl_pow (32 - p.Len).toNat (by omega)
  have hn : 0 ≤ 32 - p.Len := by omega
  simp [hw, hw2, h2]
  simpa [szP] using hs
theorem ok_iGoodPrefix (p : GPrefix) : CallOK Try.prog 64 [.agg p.c] (.c (pb (goodPx p))) [.agg p.c] := by
  refine okS (fn := Try.f64) [] h0 Try.func64 (by kernel_rfl) rfl Try.ntmps64 Try.results64 (by simp) ?_
  simp
  have hz := pow_ne (32 - p.Len).toNat
  by_cases c1 : 0 ≤ p.Len ∧ p.Len ≤ 32
  · refine drawP (tabEnv [] _) [⟨[.op 0 0 0], allD 20, true⟩, ⟨[.op 0 0 0], allD 20, true⟩, ⟨[], allD 20, false⟩, ⟨[], allD 20, true⟩, ⟨[.op 0 0 0], allD 20, true⟩, ⟨[.op 0 0 0], allD 20, true⟩, ⟨[], allD 20, false⟩, ⟨[], allD 20, true⟩, ⟨[], allD 20, true⟩, ⟨[.op 0 0 0], allD 20, true⟩, ⟨[.op 0 0 0], allD 20, true⟩, ⟨[.op 0 0 0], allD 20, true⟩, ⟨[.op 0 0 0], allD 20, true⟩, ⟨[], allD 20, false⟩, ⟨[], allD 20, true⟩, ⟨[], allD 20, true⟩, ⟨[], allD 20, true⟩, ⟨[], allD 20, true⟩] h0 hm (tabEnv_ok (tab_cons (ok_within p.Len 0 32) (tab_cons (ok_isAddr p.Addr) (tab_cons (ok_sizeOf p.Len c1.1 c1.2) tab_nil)))) (by kernel_rfl) (by kernel_rfl) ?_
    cases c2 : inR p.Addr 0 4294967295 with
    | false => simp [c1, c2, goodPx, inR_t c1]
    | true =>
      simp [c1, c2, goodPx, inR_t c1, szP, hz]
      try exact decide_eq_decide.2 Iff.rfl
  · refine drawP (tabEnv [] _) [⟨[.op 0 0 0], allD 20, true⟩, ⟨[.op 0 0 0], allD 20, true⟩, ⟨[], allD 20, false⟩, ⟨[], allD 20, true⟩, ⟨[.op 0 0 0], allD 20, true⟩, ⟨[.op 0 0 0], allD 20, true⟩, ⟨[], allD 20, false⟩, ⟨[], allD 20, true⟩, ⟨[], allD 20, true⟩, ⟨[.op 0 0 0], allD 20, true⟩, ⟨[.op 0 0 0], allD 20, true⟩, ⟨[.op 0 0 0], allD 20, true⟩, ⟨[.op 0 0 0], allD 20, true⟩, ⟨[], allD 20, false⟩, ⟨[], allD 20, true⟩, ⟨[], allD 20, true⟩, ⟨[], allD 20, true⟩, ⟨[], allD 20, true⟩] h0 hm (tabEnv_ok (tab_cons (ok_within p.Len 0 32) tab_nil)) (by kernel_rfl) (by kernel_rfl) ?_
    simp [c1, goodPx, inR]
theorem ok_sGoodPrefix (p : GPrefix) : CallOK Try.prog 61 [.agg p.c] (.c (pb (goodPx p))) [.agg p.c] := by
  refine okS (fn := Try.f61) [] h0 Try.func61 (by kernel_rfl) rfl Try.ntmps61 Try.results61 (by simp) ?_
  simp
  have hz := pow_ne (32 - p.Len).toNat
  by_cases c1 : 0 ≤ p.Len ∧ p.Len ≤ 32
  · refine drawP (tabEnv [] _) [⟨[.op 0 0 0], allD 19, true⟩, ⟨[.op 0 0 0], allD 19, true⟩, ⟨[], allD 19, false⟩, ⟨[], allD 19, true⟩, ⟨[.op 0 0 0], allD 19, true⟩, ⟨[.op 0 0 0], allD 19, true⟩, ⟨[], allD 19, false⟩, ⟨[], allD 19, true⟩, ⟨[], allD 19, true⟩, ⟨[.op 0 0 0], allD 19, true⟩, ⟨[.op 0 0 0], allD 19, true⟩, ⟨[.op 0 0 0], allD 19, true⟩, ⟨[], allD 19, false⟩, ⟨[], allD 19, true⟩, ⟨[], allD 19, true⟩, ⟨[], allD 19, true⟩, ⟨[], allD 19, true⟩] h0 hm (tabEnv_ok (tab_cons (ok_l1In p.Len 0 32) (tab_cons (ok_l1Addr p.Addr) (tab_cons (ok_l1Size p c1.1 c1.2) tab_nil)))) (by kernel_rfl) (by kernel_rfl) ?_
    cases c2 : inR p.Addr 0 4294967295 with
    | false => simp [c1, c2, goodPx, inR_t c1]
    | true =>
      simp [c1, c2, goodPx, inR_t c1, szP, hz]
      try exact decide_eq_decide.2 Iff.rfl
  · refine drawP (tabEnv [] _) [⟨[.op 0 0 0], allD 19, true⟩, ⟨[.op 0 0 0], allD 19, true⟩, ⟨[], allD 19, false⟩, ⟨[], allD 19, true⟩, ⟨[.op 0 0 0], allD 19, true⟩, ⟨[.op 0 0 0], allD 19, true⟩, ⟨[], allD 19, false⟩, ⟨[], allD 19, true⟩, ⟨[], allD 19, true⟩, ⟨[.op 0 0 0], allD 19, true⟩, ⟨[.op 0 0 0], allD 19, true⟩, ⟨[.op 0 0 0], allD 19, true⟩, ⟨[], allD 19, false⟩, ⟨[], allD 19, true⟩, ⟨[], allD 19, true⟩, ⟨[], allD 19, true⟩, ⟨[], allD 19, true⟩] h0 hm (tabEnv_ok (tab_cons (ok_l1In p.Len 0 32) tab_nil)) (by kernel_rfl) (by kernel_rfl) ?_
    simp [c1, goodPx, inR]
theorem ok_isNaNI (s : Int) : CallOK Try.prog 151 [.c (pi s)] (.c (pb false)) [.c (pi s)] := by
  refine okS (fn := Try.f151) [] h0 Try.func151 (by kernel_rfl) rfl Try.ntmps151 Try.results151 (by simp) ?_
  simp
theorem ok_cmpI (u v : Int) : CallOK Try.prog 107 [.c (pi u), .c (pi v)] (.c (pi (cmpI u v))) [.c (pi u), .c (pi v)] := by
  refine okS (fn := Try.f107) [] h0 Try.func107 (by kernel_rfl) rfl Try.ntmps107 Try.results107 (by simp) ?_
  simp
  refine Inv_intro (ok_isNaNI u) ?_
  simp
  refine Inv_intro (ok_isNaNI v) ?_
  simp
  refine brn_app (fun a => ?_) (fun a => ?_)
  · simp at a
    simp [cmpI, a]
  · simp at a
    have a' : ¬ u < v := by omega
    simp
    refine brn_app (fun b => ?_) (fun b => ?_)
    · simp at b
      simp [cmpI, a', b]
    · simp at b
      have b' : ¬ v < u := by omega
      simp [cmpI, a', b']
theorem ok_orI (k : Nat) (xs : List Int) (hx : xs.length ≤ 140737488351232) : CallOK Try.prog 106 [.c (rd k xs.length (xs.map pi))] (.c (pi (orI xs))) [.c (rd k xs.length (xs.map pi))] := by
  refine okS (fn := Try.f106) [] h0 Try.func106 (by kernel_rfl) rfl Try.ntmps106 Try.results106 (by simp) ?_
  simp
  refine loopS [3, 6, 7, 8] [] (fun n st => ∃ (i : Nat), i + n = xs.length ∧ orI (xs.drop i) = orI xs ∧ st = ⟨slOf 18 [(3, .t (pi 0)), (6, .t (rd k xs.length (xs.map pi))), (7, .t (pi xs.length)), (8, .t (pi i))], ofL []⟩) xs.length ?_ ?_
  · rintro Inv hI
    simp
    subst hI
    exact ⟨0, by omega, rfl, rfl⟩
  · rintro Inv hI n st ⟨i, hi, hf, rfl⟩
    refine ewr_sound (M := []) h0 ?_
    simp
    refine brn_app (fun a => ?_) (fun a => ?_)
    · simp at a
      rw [drop_step _ i a, orI] at hf
      simp [a]
      refine brn_app (fun b => ?_) (fun b => ?_)
      · simp at b
        rw [if_neg b] at hf
        simp [hf]
      · simp at b
        rw [if_pos b] at hf
        simp
        subst hI
        exact Less_mk (n - 1) (by omega) ⟨i + 1, by omega, hf, by rw [wrNext i (by omega)]⟩
    · simp at a
      rw [List.drop_of_length_le (by omega), orI] at hf
      simp [← hf]
theorem ok_compare (p q : GPrefix) : CallOK Try.prog 55 [.agg p.c, .agg q.c] (.c (pi (cmpPx p q))) [.agg p.c, .agg q.c] := by
  refine okS (fn := Try.f55) [] h0 Try.func55 (by kernel_rfl) rfl Try.ntmps55 Try.results55 (by simp) ?_
  simp
  have ho := ok_orI 0 [cmpI p.Addr q.Addr, cmpI p.Len q.Len] (by simp)
  simp at ho
  refine drawP (fnEnv 107 (fI2 fun a b => pi (cmpI a b)) (tabEnv [] _)) [⟨[.op 0 0 0], allD 17, true⟩, ⟨[.op 0 0 0], allD 17, true⟩, ⟨[.op 0 1 0], allD 17, true⟩, ⟨[.op 0 1 0], allD 17, true⟩, ⟨[], allD 17, false⟩, ⟨[.op 0 0 0], allD 17, true⟩, ⟨[.op 0 0 0], allD 17, true⟩, ⟨[.op 0 1 0], allD 17, true⟩, ⟨[.op 0 1 0], allD 17, true⟩, ⟨[], allD 17, false⟩, ⟨[], allD 17, false⟩, ⟨[.op 1 10 0], [5, 6, 7, 8, 9, 10, 11, 12, 13, 14, 15, 16, 4], false⟩, ⟨[], allD 17, true⟩] h0 hm (fnEnv_ok (tabEnv_ok (tab_cons ho tab_nil)) (fI2_ok ok_cmpI)) (by kernel_rfl) (by kernel_rfl) ?_
  simp
  by_cases c : cmpI p.Addr q.Addr = 0
  · by_cases d : cmpI p.Len q.Len = 0 <;> simp [orI, cmpPx, c, d]
  · simp [orI, cmpPx, c]
theorem ok_l1Compare (p q : GPrefix) : CallOK Try.prog 52 [.agg p.c, .agg q.c] (.c (pi (cmpPx p q))) [.agg p.c, .agg q.c] := by
  refine okS (fn := Try.f52) [] h0 Try.func52 (by kernel_rfl) rfl Try.ntmps52 Try.results52 (by simp) ?_
  by_cases a1 : p.Addr < q.Addr
  · simp [a1, cmpPx, cmpI]
  · by_cases a2 : p.Addr = q.Addr
    · by_cases b1 : p.Len < q.Len
      · simp [a1, a2, b1, cmpPx, cmpI]
      · by_cases b2 : p.Len = q.Len
        · simp [a2, b2, cmpPx, cmpI]
        · have b3 : q.Len < p.Len := by omega
          simp [a2, b1, b2, b3, cmpPx, cmpI]
    · have a3 : q.Addr < p.Addr := by omega
      simp [a1, a2, a3, cmpPx, cmpI]
theorem ok_findOffer1 (k : Nat) (o : GOffer) (n : Int) : CallOK Try.prog 122 [.agg (GOffer.ci k o), .c (pi n)] (.c (pi (cmpI o.Peer n))) [.agg (GOffer.ci k o), .c (pi n)] := by
  refine okS (fn := Try.f122) [] h0 Try.func122 (by kernel_rfl) rfl Try.ntmps122 Try.results122 (by simp) ?_
  simp
  refine Inv_intro (ok_cmpI o.Peer n) ?_
  simp
theorem ok_BS_Offer (k : Nat) (xs : List GOffer) (n : Int) (hl : xs.length ≤ 140737488351232) (hmono : ∀ (i j : Nat) (hij : i < j) (hj : j < xs.length), cmpI xs[j].Peer n < 0 → cmpI xs[i].Peer n < 0) :
    CallOK Try.prog 121 [.c (rd k xs.length (xs.flatMap (GOffer.ci k))), .c (pi n), .c (.fn 0 122 [])] (.tup [.c (pi (bsI (fun o : GOffer => cmpI o.Peer n) xs)), .c (pb (bsF (fun o : GOffer => cmpI o.Peer n) xs))]) [.c (rd k xs.length (xs.flatMap (GOffer.ci k))), .c (pi n), .c (.fn 0 122 [])] := by
  refine okS (fn := Try.f121) [] h0 Try.func121 (by kernel_rfl) rfl Try.ntmps121 Try.results121 (by simp) ?_
  simp
  refine loopS [0, 1, 2, 8, 9, 10] [] (fun m st => ∃ (i j : Nat), i + m = j ∧ j ≤ xs.length ∧ (∀ (q : Nat) (hq : q < i) (hl : q < xs.length), cmpI xs[q].Peer n < 0) ∧ (∀ (q : Nat) (hq : j ≤ q) (hl : q < xs.length), 0 ≤ cmpI xs[q].Peer n) ∧ st = ⟨slOf 49 [(0, .t (rd k xs.length (xs.flatMap (GOffer.ci k)))), (1, .t (pi n)), (2, .t (.fn 0 122 [])), (8, .t (pi xs.length)), (9, .t (pi i)), (10, .t (pi j))], ofL []⟩) xs.length ?_ ?_
  · rintro Inv hI
    simp
    subst hI
    exact ⟨0, xs.length, by omega, by omega, by intro q hq; omega, by intro q hq h; omega, rfl⟩
  · rintro Inv hI m st ⟨i, j, hm, hj, hlo, hhi, rfl⟩
    refine ewr_sound (M := []) h0 ?_
    simp
    refine brn_app (fun a => ?_) (fun a => ?_)
    · simp at a
      have hw0 : IntKind.wrap .i64 ((i : Int) + j) = (i : Int) + j := wrap64 (by omega) (by omega)
      have hw := half_u64 i j (by omega)
      obtain ⟨h, hh⟩ : ∃ h, h = (i + j) / 2 := ⟨_, rfl⟩
      rw [← hh] at hw
      have hb : h < xs.length := by omega
      have hd := fm_drop (GOffer.ci k) 7 (fun _ => rfl) xs h hb
      have hlen := fm_len (GOffer.ci k) 7 (fun _ => rfl) xs
      have hlt : h * 7 < xs.length * 7 := by omega
      simp [hw0, hw, hb, hd, hlen, hlt]
      refine Inv_intro (ok_findOffer1 k xs[h] n) ?_
      simp
      refine brn_app (fun b => ?_) (fun b => ?_)
      · simp at b
        have hn1 : IntKind.wrap .i64 ((h : Int) + 1) = ((h + 1 : Nat) : Int) := wrNext h (by omega)
        simp
        subst hI
        refine Less_mk (j - (h + 1)) (by omega) ⟨h + 1, j, by omega, hj, ?_, hhi, by rw [hn1]⟩
        intro q hq hql
        rcases Nat.lt_or_ge q h with h' | h'
        · exact hmono q h h' hb b
        · have : q = h := by omega
          subst this
          exact b
      · simp at b
        simp
        subst hI
        refine Less_mk (h - i) (by omega) ⟨i, h, by omega, by omega, hlo, ?_, rfl⟩
        intro q hq hql
        rcases Nat.eq_or_lt_of_le hq with h' | h'
        · subst h'
          exact b
        · exact Int.not_lt.1 fun hc => by have := hmono h q h' hql hc; omega
    · simp at a
      have hij : i = j := by omega
      subst hij
      have e1 : bsI (fun o : GOffer => cmpI o.Peer n) xs = i := bsI_eq _ xs i hj hlo fun h => hhi i (Nat.le_refl _) h
      simp
      by_cases hb : i < xs.length
      · have hd := fm_drop (GOffer.ci k) 7 (fun _ => rfl) xs i hb
        have hlen := fm_len (GOffer.ci k) 7 (fun _ => rfl) xs
        have hlt : i * 7 < xs.length * 7 := by omega
        have e2 : bsF (fun o : GOffer => cmpI o.Peer n) xs = decide (cmpI xs[i].Peer n = 0) := by simp only [bsF, e1, List.getElem?_eq_getElem hb]
        simp [hb, hd, hlen, hlt]
        refine Inv_intro (ok_findOffer1 k xs[i] n) ?_
        simp [e1, e2]
      · have e2 : bsF (fun o : GOffer => cmpI o.Peer n) xs = false := by simp only [bsF, e1, List.getElem?_eq_none (Nat.le_of_not_lt hb)]
        simp [hb, e1, e2]
/-- Where a condition holds first, or -1. -/
def idxOf {α : Type} (p : α → Bool) (xs : List α) : Int := match xs.findIdx? p with | some i => i | none => -1
theorem idxOf_hit {α : Type} (p : α → Bool) (xs : List α) (i : Nat) (h : i < xs.length) (hp : p xs[i] = true) (hall : ∀ (j : Nat) (hj : j < i), p (xs[j]'(by omega)) = false) : idxOf p xs = i := by
  unfold idxOf
  rw [(List.findIdx?_eq_some_iff_getElem (i := i)).2 ⟨h, hp, fun j hj => by simp [hall j hj]⟩]
theorem idxOf_no {α : Type} (p : α → Bool) (xs : List α) (hall : ∀ (j : Nat) (hj : j < xs.length), p xs[j] = false) : idxOf p xs = -1 := by
  unfold idxOf
  rw [List.findIdx?_eq_none_iff.2 (fun s hs => by
    obtain ⟨j, hj, rfl⟩ := List.getElem_of_mem hs
    simp [hall j hj])]
theorem idxOf_any {α : Type} (p : α → Bool) (xs : List α) : decide (0 ≤ idxOf p xs) = xs.any p := by
  unfold idxOf
  cases h : xs.findIdx? p with
  | none =>
    rw [List.findIdx?_eq_none_iff] at h
    simp
    exact fun x hx => by simpa using h x hx
  | some i =>
    rw [List.findIdx?_eq_some_iff_getElem] at h
    obtain ⟨h1, h2, _⟩ := h
    simp
    exact ⟨_, List.getElem_mem h1, h2⟩
theorem ok_IndexFunc_Int (k q g : Nat) (caps : List (List PT)) (p : Int → Bool) (xs : List Int) (ha : xs.length ≤ 140737488351232)
    (hg : ∀ x ∈ xs, CallOK Try.prog g (.c (pi x) :: caps.map (PV.ip q)) (.c (pb (p x))) (.c (pi x) :: caps.map (PV.ip q))) :
    CallOK Try.prog 165 [.c (rd k xs.length (xs.map pi)), .c (.fn q g caps)] (.c (pi (idxOf p xs))) [.c (rd k xs.length (xs.map pi)), .c (.fn q g caps)] := by
  refine okS (fn := Try.f165) [] h0 Try.func165 (by kernel_rfl) rfl Try.ntmps165 Try.results165 (by simp) ?_
  simp
  refine loopS [0, 1, 7, 8] [] (fun n st => ∃ (i : Nat), i + n = xs.length ∧ (∀ (j : Nat) (hj : j < i) (hj' : j < xs.length), p xs[j] = false) ∧ st = ⟨slOf 19 [(0, .t (rd k xs.length (xs.map pi))), (1, .t (.fn q g caps)), (7, .t (pi xs.length)), (8, .t (pi i))], ofL []⟩) xs.length ?_ ?_
  · rintro Inv hI
    simp
    subst hI
    exact ⟨0, by omega, by intro j hj; omega, rfl⟩
  · rintro Inv hI n st ⟨i, hi, hall, rfl⟩
    refine ewr_sound (M := []) h0 ?_
    simp
    refine brn_app (fun h => ?_) (fun h => ?_)
    · simp at h
      simp [h]
      refine Inv_intro (hg _ (List.getElem_mem h)) ?_
      simp
      refine brn_app (fun h2 => ?_) (fun h2 => ?_)
      · simp
        exact (idxOf_hit p xs i h h2 fun j hj => hall j hj (by omega)).symm
      · simp
        subst hI
        refine Less_mk (n - 1) (by omega) ⟨i + 1, by omega, ?_, by rw [wrNext i (by omega)]⟩
        intro j hj hj'
        by_cases hji : j = i
        · subst hji; exact h2
        · exact hall j (by omega) hj'
    · simp at h
      simp
      exact (idxOf_no p xs fun j hj => hall j (by omega) hj).symm
theorem ok_ContainsFunc_Int (k q g : Nat) (caps : List (List PT)) (p : Int → Bool) (xs : List Int) (ha : xs.length ≤ 140737488351232)
    (hg : ∀ x ∈ xs, CallOK Try.prog g (.c (pi x) :: caps.map (PV.ip q)) (.c (pb (p x))) (.c (pi x) :: caps.map (PV.ip q))) :
    CallOK Try.prog 160 [.c (rd k xs.length (xs.map pi)), .c (.fn q g caps)] (.c (pb (xs.any p))) [.c (rd k xs.length (xs.map pi)), .c (.fn q g caps)] := by
  refine okS (fn := Try.f160) [] h0 Try.func160 (by kernel_rfl) rfl Try.ntmps160 Try.results160 (by simp) ?_
  simp
  refine Inv_intro (ok_IndexFunc_Int k q g caps p xs ha hg) ?_
  simp [idxOf_any]
theorem any_not {α : Type} (p : α → Bool) (xs : List α) : xs.any (fun x => !p x) = !xs.all p := by
  induction xs with
  | nil => rfl
  | cons x xs ih => simp [ih]
theorem ok_isValue (n : Int) : CallOK Try.prog 149 [.c (pi n)] (.c (pb (isValB n))) [.c (pi n)] := by
  refine okS (fn := Try.f149) [] h0 Try.func149 (by kernel_rfl) rfl Try.ntmps149 Try.results149 (by simp) ?_
  simp
  refine Inv_intro (ok_within _ _ _) ?_
  simp [isValB, inR]
theorem ok_isPath1 (n : Int) : CallOK Try.prog 161 [.c (pi n)] (.c (pb (!isAsnB n))) [.c (pi n)] := by
  refine okS (fn := Try.f161) [] h0 Try.func161 (by kernel_rfl) rfl Try.ntmps161 Try.results161 (by simp) ?_
  simp
  refine Inv_intro (ok_isAsn n) ?_
  simp
theorem ok_isPath (k : Nat) (p : List Int) (hl : p.length ≤ 140737488351232) : CallOK Try.prog 148 [.c (rd k p.length (p.map pi))] (.c (pb (goodPa p))) [.c (rd k p.length (p.map pi))] := by
  refine okS (fn := Try.f148) [] h0 Try.func148 (by kernel_rfl) rfl Try.ntmps148 Try.results148 (by simp) ?_
  simp
  refine gT (fun a => ?_) (fun a => ?_)
  · have a' : p.length ≤ 10 := by simp at a; omega
    simp [a]
    refine Inv_intro (ok_ContainsFunc_Int k 0 161 [] (fun n => !isAsnB n) p hl fun x hx => ok_isPath1 x) ?_
    simp [goodPa, any_not, a']
  · have a' : ¬ p.length ≤ 10 := by simp at a; omega
    simp [goodPa, a, a']
theorem ok_areComms (k : Nat) (l : List Int) (hl : l.length ≤ 140737488351232) : CallOK Try.prog 150 [.c (rd k l.length (l.map pi))] (.c (pb (goodCm l))) [.c (rd k l.length (l.map pi))] := by
  refine okS (fn := Try.f150) [] h0 Try.func150 (by kernel_rfl) rfl Try.ntmps150 Try.results150 (by simp) ?_
  simp
  refine loopS [0, 5, 6, 7] [] (fun n st => ∃ (i : Nat), i + n = l.length ∧ commsG (prevI l i) (l.drop i) = commsG none l ∧ st = ⟨slOf 32 [(0, .t (rd k l.length (l.map pi))), (5, .t (rd k l.length (l.map pi))), (6, .t (pi l.length)), (7, .t (pi i))], ofL []⟩) l.length ?_ ?_
  · rintro Inv hI
    simp
    subst hI
    exact ⟨0, by omega, rfl, rfl⟩
  · rintro Inv hI n st ⟨i, hi, hg, rfl⟩
    refine ewr_sound (M := []) h0 ?_
    simp
    refine brn_app (fun a => ?_) (fun a => ?_)
    · simp at a
      rw [drop_step _ i a, commsG] at hg
      have en : prevI l (i + 1) = some l[i] := prevI_next l i a
      simp [a]
      refine Inv_intro (ok_isValue l[i]) ?_
      cases c1 : isValB l[i] with
      | false =>
        rw [c1, Bool.false_and, Bool.false_and] at hg
        simp [goodCm, ← hg]
      | true =>
        rw [c1, Bool.true_and] at hg
        by_cases c0 : i = 0
        · have e0 : ¬ 0 < i := by omega
          have ep : prevI l i = none := by simp [prevI, c0]
          rw [ep, adjI, Bool.true_and] at hg
          simp [e0]
          subst hI
          exact Less_mk (n - 1) (by omega) ⟨i + 1, by omega, by rw [en]; exact hg, by rw [wrNext i (by omega)]⟩
        · obtain ⟨j, hj⟩ : ∃ j, i = j + 1 := ⟨i - 1, by omega⟩
          have aj : j < l.length := by omega
          have ep : prevI l i = some l[j] := by subst hj; exact prevI_next l j aj
          have hw : IntKind.wrap .i64 ((i : Int) - 1) = j := (wrap64 (by omega) (by omega)).trans (by omega)
          have e0 : 0 < i := by omega
          rw [ep, adjI] at hg
          simp [e0, hw, aj]
          refine brn_app (fun c => ?_) (fun c => ?_)
          · simp at c
            have c' : ¬ l[j] < l[i] := by omega
            simp [c'] at hg
            simp [goodCm, hg]
          · simp at c
            have c' : l[j] < l[i] := by omega
            simp [c'] at hg
            simp
            subst hI
            exact Less_mk (n - 1) (by omega) ⟨i + 1, by omega, by rw [en]; exact hg, by rw [wrNext i (by omega)]⟩
    · simp at a
      rw [List.drop_of_length_le (by omega), commsG] at hg
      simp [goodCm, ← hg]
      omega
theorem ok_iGoodAttrs (k : Nat) (x : GAttrs) (hx : attrOK x) : CallOK Try.prog 105 [.agg (GAttrs.ci k x)] (.c (pb (goodA x))) [.agg (GAttrs.ci k x)] := by
  obtain ⟨h1, h2⟩ := hx
  refine okS (fn := Try.f105) [] h0 Try.func105 (by kernel_rfl) rfl Try.ntmps105 Try.results105 (by simp) ?_
  simp
  refine Inv_intro (ok_within _ _ _) ?_
  by_cases c1 : 0 ≤ x.Origin ∧ x.Origin ≤ 2
  · simp [c1]
    refine Inv_intro (ok_isPath k x.Path h1) ?_
    cases c2 : goodPa x.Path with
    | false => simp [goodA, c2]
    | true =>
      simp
      refine Inv_intro (ok_isAddr _) ?_
      cases c3 : inR x.Next 0 4294967295 with
      | false => simp [goodA, c3]
      | true =>
        simp
        refine Inv_intro (ok_isValue _) ?_
        cases c4 : isValB x.Med with
        | false => simp [goodA, c4]
        | true =>
          simp
          refine Inv_intro (ok_isValue _) ?_
          cases c5 : isValB x.Pref with
          | false => simp [goodA, c5]
          | true =>
            simp
            refine Inv_intro (ok_areComms k x.Comms h2) ?_
            simp [goodA, c2, c3, c4, c5, inR_t c1]
  · have c1' : inR x.Origin 0 2 = false := by simp only [inR, decide_eq_false_iff_not]; exact c1
    simp [c1, goodA, c1']
theorem ok_iGoodRoute (k : Nat) (r : GRoute) (hx : attrOK r.Attrs) : CallOK Try.prog 54 [.agg (GRoute.ci k r)] (.c (pb (goodR r))) [.agg (GRoute.ci k r)] := by
  refine okS (fn := Try.f54) [] h0 Try.func54 (by kernel_rfl) rfl Try.ntmps54 Try.results54 (by simp) ?_
  simp
  refine Inv_intro (ok_iGoodPrefix r.Prefix) ?_
  cases c1 : goodPx r.Prefix with
  | false => simp [goodR, c1]
  | true =>
    simp
    refine Inv_intro (ok_iGoodAttrs k r.Attrs hx) ?_
    simp [goodR, c1]
theorem ok_isPeer (n : Int) : CallOK Try.prog 73 [.c (pi n)] (.c (pb (isPeerB n))) [.c (pi n)] := by
  refine okS (fn := Try.f73) [] h0 Try.func73 (by kernel_rfl) rfl Try.ntmps73 Try.results73 (by simp) ?_
  simp
  refine Inv_intro (ok_within _ _ _) ?_
  simp [isPeerB, inR]
theorem ok_isOffer (k : Nat) (o : GOffer) (hx : attrOK o.Attrs) : CallOK Try.prog 118 [.agg (GOffer.ci k o)] (.c (pb (goodO o))) [.agg (GOffer.ci k o)] := by
  refine okS (fn := Try.f118) [] h0 Try.func118 (by kernel_rfl) rfl Try.ntmps118 Try.results118 (by simp) ?_
  simp
  refine Inv_intro (ok_isPeer o.Peer) ?_
  cases c1 : isPeerB o.Peer with
  | false => simp [goodO, c1]
  | true =>
    simp
    refine Inv_intro (ok_iGoodAttrs k o.Attrs hx) ?_
    simp [goodO, c1]
theorem ok_iGoodOffers (k : Nat) (l : List GOffer) (hl : offersOK l) : CallOK Try.prog 65 [.c (rd k l.length (l.flatMap (GOffer.ci k)))] (.c (pb (goodOs l))) [.c (rd k l.length (l.flatMap (GOffer.ci k)))] := by
  obtain ⟨hll, hlx⟩ := hl
  refine okS (fn := Try.f65) [] h0 Try.func65 (by kernel_rfl) rfl Try.ntmps65 Try.results65 (by simp) ?_
  simp
  refine loopS [0, 5, 6, 7] [] (fun n st => ∃ (i : Nat), i + n = l.length ∧ offersG (prevO l i) (l.drop i) = offersG none l ∧ st = ⟨slOf 31 [(0, .t (rd k l.length (l.flatMap (GOffer.ci k)))), (5, .t (rd k l.length (l.flatMap (GOffer.ci k)))), (6, .t (pi l.length)), (7, .t (pi i))], ofL []⟩) l.length ?_ ?_
  · rintro Inv hI
    simp
    subst hI
    exact ⟨0, by omega, rfl, rfl⟩
  · rintro Inv hI n st ⟨i, hi, hg, rfl⟩
    refine ewr_sound (M := []) h0 ?_
    simp
    refine brn_app (fun a => ?_) (fun a => ?_)
    · simp at a
      have hx := hlx l[i] (List.getElem_mem a)
      rw [drop_step _ i a, offersG] at hg
      have hd := fm_drop (GOffer.ci k) 7 (fun _ => rfl) l i a
      have hlen := fm_len (GOffer.ci k) 7 (fun _ => rfl) l
      have hlt : i * 7 < l.length * 7 := by omega
      have en : prevO l (i + 1) = some l[i] := prevO_next l i a
      simp [a, hd, hlen, hlt]
      have hR := ok_isOffer k l[i] hx
      by_cases c0 : i = 0
      · have e0 : ¬ 0 < i := by omega
        have ep : prevO l i = none := by simp [prevO, c0]
        rw [ep, adjO, Bool.and_true] at hg
        refine drawP (tabEnv [] _) [⟨[.op 3 3 0], allD 31, true⟩, ⟨[], allD 31, false⟩, ⟨[], allD 31, true⟩, ⟨[], allD 31, true⟩, ⟨[], allD 31, true⟩, ⟨[], allD 31, true⟩, ⟨[], allD 31, true⟩, ⟨[.op 3 3 0], allD 31, true⟩, ⟨[.op 3 3 0], allD 31, true⟩, ⟨[], allD 31, true⟩, ⟨[], allD 31, true⟩, ⟨[], allD 31, true⟩, ⟨[], allD 31, true⟩, ⟨[], allD 31, true⟩, ⟨[], allD 31, true⟩, ⟨[], allD 31, true⟩, ⟨[], allD 31, true⟩, ⟨[], allD 31, true⟩] h0 hm (tabEnv_ok (tab_cons hR tab_nil)) (by kernel_rfl) (by kernel_rfl) ?_
        cases c1 : goodO l[i] with
        | false =>
          rw [c1, Bool.false_and] at hg
          simp [c1, goodOs, ← hg]
        | true =>
          rw [c1, Bool.true_and] at hg

          simp [c1, e0]
          subst hI
          exact Less_mk (n - 1) (by omega) ⟨i + 1, by omega, by rw [en]; exact hg, by rw [wrNext i (by omega)]⟩
      · obtain ⟨j, hj⟩ : ∃ j, i = j + 1 := ⟨i - 1, by omega⟩
        have aj : j < l.length := by omega
        have ep : prevO l i = some l[j] := by subst hj; exact prevO_next l j aj
        have hdj := fm_drop (GOffer.ci k) 7 (fun _ => rfl) l j aj
        have hltj : j * 7 < l.length * 7 := by omega
        have hw : IntKind.wrap .i64 ((i : Int) - 1) = j := (wrap64 (by omega) (by omega)).trans (by omega)
        have e0 : 0 < i := by omega
        rw [ep, adjO] at hg
        refine drawP (tabEnv [] _) [⟨[.op 3 3 0], allD 31, true⟩, ⟨[], allD 31, false⟩, ⟨[], allD 31, true⟩, ⟨[], allD 31, true⟩, ⟨[], allD 31, true⟩, ⟨[], allD 31, true⟩, ⟨[], allD 31, true⟩, ⟨[.op 3 3 0], allD 31, true⟩, ⟨[.op 3 3 0], allD 31, true⟩, ⟨[], allD 31, true⟩, ⟨[], allD 31, true⟩, ⟨[], allD 31, true⟩, ⟨[], allD 31, true⟩, ⟨[], allD 31, true⟩, ⟨[], allD 31, true⟩, ⟨[], allD 31, true⟩, ⟨[], allD 31, true⟩, ⟨[], allD 31, true⟩] h0 hm (tabEnv_ok (tab_cons hR tab_nil)) (by kernel_rfl) (by kernel_rfl) ?_
        cases c1 : goodO l[i] with
        | false =>
          rw [c1, Bool.false_and, Bool.false_and] at hg
          simp [c1, goodOs, ← hg]
        | true =>
          rw [c1, Bool.true_and] at hg

          by_cases c2 : l[j].Peer < l[i].Peer
          · have c3 : ¬ l[i].Peer ≤ l[j].Peer := by omega
            rw [decide_eq_true c2, Bool.true_and] at hg
            simp [c1, e0, hw, aj, hdj, hlen, hltj, c3]
            subst hI
            exact Less_mk (n - 1) (by omega) ⟨i + 1, by omega, by rw [en]; exact hg, by rw [wrNext i (by omega)]⟩
          · have c3 : l[i].Peer ≤ l[j].Peer := by omega
            rw [decide_eq_false c2, Bool.false_and] at hg
            simp [c1, e0, hw, aj, hdj, hlen, hltj, c3, goodOs, ← hg]
    · simp at a
      rw [List.drop_of_length_le (by omega), offersG] at hg
      simp [goodOs, ← hg]
theorem ok_iGoodRib (k : Nat) (r : GRib) (hl : ribOK r) : CallOK Try.prog 26 [.agg (GRib.ci k r)] (.c (pb (goodRib r))) [.agg (GRib.ci k r)] := by
  obtain ⟨hll, hlx⟩ := hl
  refine okS (fn := Try.f26) [] h0 Try.func26 (by kernel_rfl) rfl Try.ntmps26 Try.results26 (by simp) ?_
  simp
  refine Inv_intro (ok_isAsn r.Own) ?_
  cases d1 : isAsnB r.Own with
  | false => simp [goodRib, d1]
  | true =>
    simp
    refine brn_app (fun b => ?_) (fun b => ?_)
    · simp at b
      have d2 : ¬ r.Rows.length ≤ 20 := by omega
      simp [goodRib, d2]
    · simp at b
      have d2 : r.Rows.length ≤ 20 := by omega
      simp
      refine loopS [1, 16, 17, 18] [.op 0 0 0] (fun n st => ∃ (i : Nat), i + n = r.Rows.length ∧ rowsG (prevW r.Rows i) (r.Rows.drop i) = rowsG none r.Rows ∧ st = ⟨slOf 57 [(1, .ptr ⟨.op 0 0 0, []⟩ 0), (16, .t (rd k r.Rows.length (r.Rows.flatMap (GRow.ci k)))), (17, .t (pi r.Rows.length)), (18, .t (pi i))], ofL [(.op 0 0 0, .sl 0 24 1 [pi r.Own, rd k r.Rows.length (r.Rows.flatMap (GRow.ci k))])]⟩) r.Rows.length ?_ ?_
      · rintro Inv hI
        simp
        subst hI
        exact ⟨0, by omega, rfl, rfl⟩
      · rintro Inv hI n st ⟨i, hi, hg, rfl⟩
        refine ewr_sound (M := []) h0 ?_
        simp
        refine brn_app (fun a => ?_) (fun a => ?_)
        · simp at a
          have hx := hlx r.Rows[i] (List.getElem_mem a)
          rw [drop_step _ i a, rowsG] at hg
          have hd := fm_drop (GRow.ci k) 3 (fun _ => rfl) r.Rows i a
          have hlen := fm_len (GRow.ci k) 3 (fun _ => rfl) r.Rows
          have hlt : i * 3 < r.Rows.length * 3 := by omega
          have en : prevW r.Rows (i + 1) = some r.Rows[i] := prevW_next r.Rows i a
          simp [a, hd, hlen, hlt]
          have hP := ok_iGoodPrefix r.Rows[i].Prefix
          have hO := ok_iGoodOffers k r.Rows[i].Offers hx
          by_cases c0 : i = 0
          · have e0 : ¬ 0 < i := by omega
            have ep : prevW r.Rows i = none := by simp [prevW, c0]
            rw [ep, adjW, Bool.and_true] at hg
            refine drawP (tabEnv [] _) [⟨[.op 5 3 0], allD 57, true⟩, ⟨[.op 5 3 0], allD 57, true⟩, ⟨[], allD 57, false⟩, ⟨[], allD 57, true⟩, ⟨[], allD 57, true⟩, ⟨[], allD 57, true⟩, ⟨[], allD 57, true⟩, ⟨[], allD 57, true⟩, ⟨[.op 0 0 0], allD 57, true⟩, ⟨[.op 0 0 0], allD 57, true⟩, ⟨[], allD 57, true⟩, ⟨[], allD 57, true⟩, ⟨[], allD 57, true⟩, ⟨[], allD 57, true⟩, ⟨[], allD 57, true⟩, ⟨[.op 5 3 0], allD 57, true⟩, ⟨[.op 5 3 0], allD 57, true⟩, ⟨[], allD 57, false⟩, ⟨[], allD 57, true⟩, ⟨[], allD 57, true⟩, ⟨[], allD 57, true⟩, ⟨[], allD 57, true⟩, ⟨[.op 5 3 0], allD 57, true⟩, ⟨[.op 5 3 0], allD 57, true⟩, ⟨[], allD 57, true⟩, ⟨[], allD 57, true⟩, ⟨[], allD 57, true⟩, ⟨[], allD 57, true⟩, ⟨[.op 5 3 0], allD 57, true⟩, ⟨[.op 5 3 0], allD 57, true⟩, ⟨[], allD 57, false⟩, ⟨[], allD 57, true⟩, ⟨[], allD 57, true⟩] h0 hm (tabEnv_ok (tab_cons hP (tab_cons hO tab_nil))) (by kernel_rfl) (by kernel_rfl) ?_
            cases c1 : goodPx r.Rows[i].Prefix with
            | false =>
              have hk : goodRow r.Rows[i] = false := by simp [goodRow, c1]
              rw [hk, Bool.false_and] at hg
              simp [c1, goodRib, ← hg]
            | true =>
              by_cases c2 : r.Rows[i].Offers.length = 0
              · have hk : goodRow r.Rows[i] = false := by simp [goodRow, c2]
                have c2' : r.Rows[i].Offers = [] := List.length_eq_zero_iff.1 c2
                rw [hk, Bool.false_and] at hg
                simp [c1, e0, c2', goodRib, ← hg]
              · have c2' : ¬ r.Rows[i].Offers = [] := fun e => c2 (by rw [e]; rfl)
                cases c3 : goodOs r.Rows[i].Offers with
                | false =>
                  have hk : goodRow r.Rows[i] = false := by simp [goodRow, c3]
                  rw [hk, Bool.false_and] at hg
                  simp [c1, e0, c2', c3, goodRib, ← hg]
                | true =>
                  have hk : goodRow r.Rows[i] = true := by simp [goodRow, c1, c2', c3]
                  rw [hk, Bool.true_and] at hg
                  simp [c1, e0, c2', c3]
                  subst hI
                  exact Less_mk (n - 1) (by omega) ⟨i + 1, by omega, by rw [en]; exact hg, by rw [wrNext i (by omega)]⟩
          · obtain ⟨j, hj⟩ : ∃ j, i = j + 1 := ⟨i - 1, by omega⟩
            have aj : j < r.Rows.length := by omega
            have ep : prevW r.Rows i = some r.Rows[j] := by subst hj; exact prevW_next r.Rows j aj
            have hdj := fm_drop (GRow.ci k) 3 (fun _ => rfl) r.Rows j aj
            have hltj : j * 3 < r.Rows.length * 3 := by omega
            have hw : IntKind.wrap .i64 ((i : Int) - 1) = j := (wrap64 (by omega) (by omega)).trans (by omega)
            have e0 : 0 < i := by omega
            rw [ep, adjW] at hg
            refine drawP (tabEnv [] _) [⟨[.op 5 3 0], allD 57, true⟩, ⟨[.op 5 3 0], allD 57, true⟩, ⟨[], allD 57, false⟩, ⟨[], allD 57, true⟩, ⟨[], allD 57, true⟩, ⟨[], allD 57, true⟩, ⟨[], allD 57, true⟩, ⟨[], allD 57, true⟩, ⟨[.op 0 0 0], allD 57, true⟩, ⟨[.op 0 0 0], allD 57, true⟩, ⟨[], allD 57, true⟩, ⟨[], allD 57, true⟩, ⟨[], allD 57, true⟩, ⟨[], allD 57, true⟩, ⟨[], allD 57, true⟩, ⟨[.op 5 3 0], allD 57, true⟩, ⟨[.op 5 3 0], allD 57, true⟩, ⟨[], allD 57, false⟩, ⟨[], allD 57, true⟩, ⟨[], allD 57, true⟩, ⟨[], allD 57, true⟩, ⟨[], allD 57, true⟩, ⟨[.op 5 3 0], allD 57, true⟩, ⟨[.op 5 3 0], allD 57, true⟩, ⟨[], allD 57, true⟩, ⟨[], allD 57, true⟩, ⟨[], allD 57, true⟩, ⟨[], allD 57, true⟩, ⟨[.op 5 3 0], allD 57, true⟩, ⟨[.op 5 3 0], allD 57, true⟩, ⟨[], allD 57, false⟩, ⟨[], allD 57, true⟩, ⟨[], allD 57, true⟩] h0 hm (tabEnv_ok (tab_cons hP (tab_cons hO (tab_cons (ok_compare r.Rows[j].Prefix r.Rows[i].Prefix) tab_nil)))) (by kernel_rfl) (by kernel_rfl) ?_
            cases c1 : goodPx r.Rows[i].Prefix with
            | false =>
              have hk : goodRow r.Rows[i] = false := by simp [goodRow, c1]
              rw [hk, Bool.false_and, Bool.false_and] at hg
              simp [c1, goodRib, ← hg]
            | true =>
              by_cases c4 : cmpPx r.Rows[j].Prefix r.Rows[i].Prefix < 0
              · have c5 : ¬ 0 ≤ cmpPx r.Rows[j].Prefix r.Rows[i].Prefix := by omega
                rw [decide_eq_true c4, Bool.and_true] at hg
                by_cases c2 : r.Rows[i].Offers.length = 0
                · have hk : goodRow r.Rows[i] = false := by simp [goodRow, c2]
                  have c2' : r.Rows[i].Offers = [] := List.length_eq_zero_iff.1 c2
                  rw [hk, Bool.false_and] at hg
                  simp [c1, e0, hw, aj, hdj, hlen, hltj, c5, c2', goodRib, ← hg]
                · have c2' : ¬ r.Rows[i].Offers = [] := fun e => c2 (by rw [e]; rfl)
                  cases c3 : goodOs r.Rows[i].Offers with
                  | false =>
                    have hk : goodRow r.Rows[i] = false := by simp [goodRow, c3]
                    rw [hk, Bool.false_and] at hg
                    simp [c1, e0, hw, aj, hdj, hlen, hltj, c5, c2', c3, goodRib, ← hg]
                  | true =>
                    have hk : goodRow r.Rows[i] = true := by simp [goodRow, c1, c2', c3]
                    rw [hk, Bool.true_and] at hg
                    simp [c1, e0, hw, aj, hdj, hlen, hltj, c5, c2', c3]
                    subst hI
                    exact Less_mk (n - 1) (by omega) ⟨i + 1, by omega, by rw [en]; exact hg, by rw [wrNext i (by omega)]⟩
              · have c5 : 0 ≤ cmpPx r.Rows[j].Prefix r.Rows[i].Prefix := by omega
                rw [decide_eq_false c4, Bool.and_false, Bool.false_and] at hg
                by_cases c2' : r.Rows[i].Offers = []
                · simp [c1, e0, hw, aj, hdj, hlen, hltj, c5, c2', goodRib, ← hg]
                · cases c3 : goodOs r.Rows[i].Offers <;> simp [c1, e0, hw, aj, hdj, hlen, hltj, c5, c2', c3, goodRib, ← hg]
        · simp at a
          rw [List.drop_of_length_le (by omega), rowsG] at hg
          simp
          simp [goodRib, d1, d2, ← hg]
end Go.V
