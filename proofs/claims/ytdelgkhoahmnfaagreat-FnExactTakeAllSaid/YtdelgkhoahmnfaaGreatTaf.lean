/- What functions of the seat's program do, each proved of its code, under the bounds that its theorem names. -/
import Derived.Test.YtdelgkhoahmnfaaGreatTae
set_option linter.all false
namespace Go.V
open Go.Proofs
set_option maxHeartbeats 1000000
set_option maxRecDepth 10000
set_option linter.unusedSimpArgs false
set_option linter.unusedVariables false
def stepT (r : GRib) (n : Int) (u : GUpdate) : Option GRib := if (rTakeUpdate r n u).2.2 = true then some (rTakeUpdate r n u).1 else none
def tkI (own : Int) (peers : List Int) (l : List GUpdate) : Nat → Option GRib
  | 0 => some ⟨own, []⟩
  | i + 1 => match tkI own peers l i with
    | some r => (match l[i]?, peers[i]? with
      | some u, some n => stepT r n u
      | _, _ => none)
    | none => none
theorem tkI_succ {own : Int} {peers : List Int} {l : List GUpdate} {i : Nat} {r : GRib} (h : tkI own peers l i = some r) (h1 : i < l.length) (h2 : i < peers.length) : tkI own peers l (i + 1) = stepT r peers[i] l[i] := by
  simp only [tkI, h, List.getElem?_eq_getElem h1, List.getElem?_eq_getElem h2]
theorem tkI_none {own : Int} {peers : List Int} {l : List GUpdate} {i : Nat} (h : tkI own peers l i = none) : ∀ j, i ≤ j → tkI own peers l j = none := by
  intro j hj
  induction j with
  | zero =>
    have : i = 0 := by omega
    subst this
    exact h
  | succ j ih =>
    rcases Nat.lt_or_ge i (j + 1) with h1 | h1
    · simp only [tkI, ih (by omega)]
    · have : i = j + 1 := by omega
      subst this
      exact h
theorem stepT_good {r a : GRib} {n : Int} {u : GUpdate} (h : stepT r n u = some a) : goodRib a = true := by
  unfold stepT at h
  split at h
  · rename_i h2
    cases h
    unfold rTakeUpdate at h2 ⊢
    split at h2
    · rename_i h3
      rw [if_pos h3]
      exact h3.2.2.2
    · simp at h2
  · cases h
theorem tkI_good {own : Int} {peers : List Int} {l : List GUpdate} (ho : isAsnB own = true) : ∀ (i : Nat) (r : GRib), tkI own peers l i = some r → goodRib r = true
  | 0, r, h => by
    simp only [tkI, Option.some.injEq] at h
    subst h
    simp [goodRib, ho, rowsG]
  | i + 1, r, h => by
    simp only [tkI] at h
    split at h
    · split at h
      · exact stepT_good h
      · cases h
    · cases h
/-- What TakeAll answers. -/
def rTakeAll (own : Int) (peers : List Int) (l : List GUpdate) : GRib × Bool := if isAsnB own = true ∧ l.length ≤ 40 ∧ peers.length = l.length then (match tkI own peers l l.length with
  | some r => (r, true)
  | none => (⟨0, []⟩, false)) else (⟨0, []⟩, false)
theorem ok_within (n lo hi : Int) : CallOK Tryz.prog 125 [.c (pi n), .c (pi lo), .c (pi hi)] (.c (pb (decide (lo ≤ n ∧ n ≤ hi)))) [.c (pi n), .c (pi lo), .c (pi hi)] := by
  refine okS (fn := Tryz.f125) [] h0 Tryz.func125 (by kernel_rfl) rfl Tryz.ntmps125 Tryz.results125 (by simp) ?_
  simp
  refine gT (fun h => ?_) (fun h => ?_) <;> simp [h]
theorem ok_l1In (n lo hi : Int) : CallOK Tryz.prog 102 [.c (pi n), .c (pi lo), .c (pi hi)] (.c (pb (decide (lo ≤ n ∧ n ≤ hi)))) [.c (pi n), .c (pi lo), .c (pi hi)] := by
  refine okS (fn := Tryz.f102) [] h0 Tryz.func102 (by kernel_rfl) rfl Tryz.ntmps102 Tryz.results102 (by simp) ?_
  simp
  refine gT (fun h => ?_) (fun h => ?_) <;> simp [h]
theorem inR_t {n lo hi : Int} (h : lo ≤ n ∧ n ≤ hi) : inR n lo hi = true := by simp [inR, h]
theorem ok_isAsn (n : Int) : CallOK Tryz.prog 95 [.c (pi n)] (.c (pb (isAsnB n))) [.c (pi n)] := by
  refine okS (fn := Tryz.f95) [] h0 Tryz.func95 (by kernel_rfl) rfl Tryz.ntmps95 Tryz.results95 (by simp) ?_
  simp
  refine Inv_intro (ok_within _ _ _) ?_
  simp [isAsnB, inR]
theorem ok_isAddr (n : Int) : CallOK Tryz.prog 150 [.c (pi n)] (.c (pb (inR n 0 4294967295))) [.c (pi n)] := by
  refine okS (fn := Tryz.f150) [] h0 Tryz.func150 (by kernel_rfl) rfl Tryz.ntmps150 Tryz.results150 (by simp) ?_
  simp
  refine Inv_intro (ok_within _ _ _) ?_
  simp [inR]
theorem ok_l1Addr (n : Int) : CallOK Tryz.prog 155 [.c (pi n)] (.c (pb (inR n 0 4294967295))) [.c (pi n)] := by
  refine okS (fn := Tryz.f155) [] h0 Tryz.func155 (by kernel_rfl) rfl Tryz.ntmps155 Tryz.results155 (by simp) ?_
  simp
  refine Inv_intro (ok_l1In _ _ _) ?_
  simp [inR]
theorem ok_sizeOf (n : Int) (h1 : 0 ≤ n) (h2 : n ≤ 32) : CallOK Tryz.prog 151 [.c (pi n)] (.c (pi (szP n))) [.c (pi n)] := by
  refine okS (fn := Tryz.f151) [] h0 Tryz.func151 (by kernel_rfl) rfl Tryz.ntmps151 Tryz.results151 (by simp) ?_
  have hw : IntKind.wrap .i64 (32 - n) = 32 - n := wrap64 (by omega) (by omega)
  have hs := shl_pow (32 - n).toNat (by omega)
  have hn : 0 ≤ 32 - n := by omega
  simp [hw, h2]
  simpa [szP] using hs
theorem ok_l1Size (p : GPrefix) (h1 : 0 ≤ p.Len) (h2 : p.Len ≤ 32) : CallOK Tryz.prog 156 [.agg p.c] (.c (pi (szP p.Len))) [.agg p.c] := by
  refine okS (fn := Tryz.f156) [] h0 Tryz.func156 (by kernel_rfl) rfl Tryz.ntmps156 Tryz.results156 (by simp) ?_
  have hw : IntKind.wrap .i64 (32 - p.Len) = 32 - p.Len := wrap64 (by omega) (by omega)
  have hw2 : IntKind.wrap .u64 (32 - p.Len) = 32 - p.Len := by
    show (32 - p.Len) % 18446744073709551616 = _
    omega
  have hs := shl_pow (32 - p.Len).toNat (by omega)
  have hn : 0 ≤ 32 - p.Len := by omega
  simp [hw, hw2, h2]
  simpa [szP] using hs
theorem ok_iGoodPrefix (p : GPrefix) : CallOK Tryz.prog 96 [.agg p.c] (.c (pb (goodPx p))) [.agg p.c] := by
  refine okS (fn := Tryz.f96) [] h0 Tryz.func96 (by kernel_rfl) rfl Tryz.ntmps96 Tryz.results96 (by simp) ?_
  simp
  have hz := pow_ne (32 - p.Len).toNat
  by_cases c1 : 0 ≤ p.Len ∧ p.Len ≤ 32
  · refine drawP (tabEnv [] _) [⟨[.op 0 0 0], allD 20, true⟩, ⟨[.op 0 0 0], allD 20, true⟩, ⟨[], allD 20, false⟩, ⟨[], allD 20, true⟩, ⟨[.op 0 0 0], allD 20, true⟩, ⟨[.op 0 0 0], allD 20, true⟩, ⟨[], allD 20, false⟩, ⟨[], allD 20, true⟩, ⟨[], allD 20, true⟩, ⟨[.op 0 0 0], allD 20, true⟩, ⟨[.op 0 0 0], allD 20, true⟩, ⟨[.op 0 0 0], allD 20, true⟩, ⟨[.op 0 0 0], allD 20, true⟩, ⟨[], allD 20, false⟩, ⟨[], allD 20, true⟩, ⟨[], allD 20, true⟩, ⟨[], allD 20, true⟩, ⟨[], allD 20, true⟩] h0 hm (tabEnv_ok (tab_cons (ok_within p.Len 0 32) (tab_cons (ok_isAddr p.Addr) (tab_cons (ok_sizeOf p.Len c1.1 c1.2) tab_nil)))) (by kernel_rfl) (by kernel_rfl) ?_
    cases c2 : inR p.Addr 0 4294967295 with
    | false => simp [c1, c2, goodPx, inR_t c1]
    | true =>
      simp [c1, c2, goodPx, inR_t c1, szP, hz]
      try exact decide_eq_decide.2 Iff.rfl
  · refine drawP (tabEnv [] _) [⟨[.op 0 0 0], allD 20, true⟩, ⟨[.op 0 0 0], allD 20, true⟩, ⟨[], allD 20, false⟩, ⟨[], allD 20, true⟩, ⟨[.op 0 0 0], allD 20, true⟩, ⟨[.op 0 0 0], allD 20, true⟩, ⟨[], allD 20, false⟩, ⟨[], allD 20, true⟩, ⟨[], allD 20, true⟩, ⟨[.op 0 0 0], allD 20, true⟩, ⟨[.op 0 0 0], allD 20, true⟩, ⟨[.op 0 0 0], allD 20, true⟩, ⟨[.op 0 0 0], allD 20, true⟩, ⟨[], allD 20, false⟩, ⟨[], allD 20, true⟩, ⟨[], allD 20, true⟩, ⟨[], allD 20, true⟩, ⟨[], allD 20, true⟩] h0 hm (tabEnv_ok (tab_cons (ok_within p.Len 0 32) tab_nil)) (by kernel_rfl) (by kernel_rfl) ?_
    simp [c1, goodPx, inR]
theorem ok_sGoodPrefix (p : GPrefix) : CallOK Tryz.prog 99 [.agg p.c] (.c (pb (goodPx p))) [.agg p.c] := by
  refine okS (fn := Tryz.f99) [] h0 Tryz.func99 (by kernel_rfl) rfl Tryz.ntmps99 Tryz.results99 (by simp) ?_
  simp
  have hz := pow_ne (32 - p.Len).toNat
  by_cases c1 : 0 ≤ p.Len ∧ p.Len ≤ 32
  · refine drawP (tabEnv [] _) [⟨[.op 0 0 0], allD 19, true⟩, ⟨[.op 0 0 0], allD 19, true⟩, ⟨[], allD 19, false⟩, ⟨[], allD 19, true⟩, ⟨[.op 0 0 0], allD 19, true⟩, ⟨[.op 0 0 0], allD 19, true⟩, ⟨[], allD 19, false⟩, ⟨[], allD 19, true⟩, ⟨[], allD 19, true⟩, ⟨[.op 0 0 0], allD 19, true⟩, ⟨[.op 0 0 0], allD 19, true⟩, ⟨[.op 0 0 0], allD 19, true⟩, ⟨[], allD 19, false⟩, ⟨[], allD 19, true⟩, ⟨[], allD 19, true⟩, ⟨[], allD 19, true⟩, ⟨[], allD 19, true⟩] h0 hm (tabEnv_ok (tab_cons (ok_l1In p.Len 0 32) (tab_cons (ok_l1Addr p.Addr) (tab_cons (ok_l1Size p c1.1 c1.2) tab_nil)))) (by kernel_rfl) (by kernel_rfl) ?_
    cases c2 : inR p.Addr 0 4294967295 with
    | false => simp [c1, c2, goodPx, inR_t c1]
    | true =>
      simp [c1, c2, goodPx, inR_t c1, szP, hz]
      try exact decide_eq_decide.2 Iff.rfl
  · refine drawP (tabEnv [] _) [⟨[.op 0 0 0], allD 19, true⟩, ⟨[.op 0 0 0], allD 19, true⟩, ⟨[], allD 19, false⟩, ⟨[], allD 19, true⟩, ⟨[.op 0 0 0], allD 19, true⟩, ⟨[.op 0 0 0], allD 19, true⟩, ⟨[], allD 19, false⟩, ⟨[], allD 19, true⟩, ⟨[], allD 19, true⟩, ⟨[.op 0 0 0], allD 19, true⟩, ⟨[.op 0 0 0], allD 19, true⟩, ⟨[.op 0 0 0], allD 19, true⟩, ⟨[], allD 19, false⟩, ⟨[], allD 19, true⟩, ⟨[], allD 19, true⟩, ⟨[], allD 19, true⟩, ⟨[], allD 19, true⟩] h0 hm (tabEnv_ok (tab_cons (ok_l1In p.Len 0 32) tab_nil)) (by kernel_rfl) (by kernel_rfl) ?_
    simp [c1, goodPx, inR]
theorem ok_isNaNI (s : Int) : CallOK Tryz.prog 184 [.c (pi s)] (.c (pb false)) [.c (pi s)] := by
  refine okS (fn := Tryz.f184) [] h0 Tryz.func184 (by kernel_rfl) rfl Tryz.ntmps184 Tryz.results184 (by simp) ?_
  simp
theorem ok_cmpI (u v : Int) : CallOK Tryz.prog 153 [.c (pi u), .c (pi v)] (.c (pi (cmpI u v))) [.c (pi u), .c (pi v)] := by
  refine okS (fn := Tryz.f153) [] h0 Tryz.func153 (by kernel_rfl) rfl Tryz.ntmps153 Tryz.results153 (by simp) ?_
  simp
  refine Inv_intro (ok_isNaNI u) ?_
  simp
  refine Inv_intro (ok_isNaNI v) ?_
  simp
  refine brn_app (fun a => ?_) (fun a => ?_)
  · simp at a
    simp [cmpI, a]
  · simp at a
    have a' : ¬ u < v := by omega
    simp
    refine brn_app (fun b => ?_) (fun b => ?_)
    · simp at b
      simp [cmpI, a', b]
    · simp at b
      have b' : ¬ v < u := by omega
      simp [cmpI, a', b']
theorem ok_orI (k : Nat) (xs : List Int) (hx : xs.length ≤ 140737488351232) : CallOK Tryz.prog 152 [.c (rd k xs.length (xs.map pi))] (.c (pi (orI xs))) [.c (rd k xs.length (xs.map pi))] := by
  refine okS (fn := Tryz.f152) [] h0 Tryz.func152 (by kernel_rfl) rfl Tryz.ntmps152 Tryz.results152 (by simp) ?_
  simp
  refine loopS [3, 6, 7, 8] [] (fun n st => ∃ (i : Nat), i + n = xs.length ∧ orI (xs.drop i) = orI xs ∧ st = ⟨slOf 18 [(3, .t (pi 0)), (6, .t (rd k xs.length (xs.map pi))), (7, .t (pi xs.length)), (8, .t (pi i))], ofL []⟩) xs.length ?_ ?_
  · rintro Inv hI
    simp
    subst hI
    exact ⟨0, by omega, rfl, rfl⟩
  · rintro Inv hI n st ⟨i, hi, hf, rfl⟩
    refine ewr_sound (M := []) h0 ?_
    simp
    refine brn_app (fun a => ?_) (fun a => ?_)
    · simp at a
      rw [drop_step _ i a, orI] at hf
      simp [a]
      refine brn_app (fun b => ?_) (fun b => ?_)
      · simp at b
        rw [if_neg b] at hf
        simp [hf]
      · simp at b
        rw [if_pos b] at hf
        simp
        subst hI
        exact Less_mk (n - 1) (by omega) ⟨i + 1, by omega, hf, by rw [wrNext i (by omega)]⟩
    · simp at a
      rw [List.drop_of_length_le (by omega), orI] at hf
      simp [← hf]
theorem ok_compare (p q : GPrefix) : CallOK Tryz.prog 97 [.agg p.c, .agg q.c] (.c (pi (cmpPx p q))) [.agg p.c, .agg q.c] := by
  refine okS (fn := Tryz.f97) [] h0 Tryz.func97 (by kernel_rfl) rfl Tryz.ntmps97 Tryz.results97 (by simp) ?_
  simp
  have ho := ok_orI 0 [cmpI p.Addr q.Addr, cmpI p.Len q.Len] (by simp)
  simp at ho
  refine drawP (fnEnv 153 (fI2 fun a b => pi (cmpI a b)) (tabEnv [] _)) [⟨[.op 0 0 0], allD 17, true⟩, ⟨[.op 0 0 0], allD 17, true⟩, ⟨[.op 0 1 0], allD 17, true⟩, ⟨[.op 0 1 0], allD 17, true⟩, ⟨[], allD 17, false⟩, ⟨[.op 0 0 0], allD 17, true⟩, ⟨[.op 0 0 0], allD 17, true⟩, ⟨[.op 0 1 0], allD 17, true⟩, ⟨[.op 0 1 0], allD 17, true⟩, ⟨[], allD 17, false⟩, ⟨[], allD 17, false⟩, ⟨[.op 1 10 0], [5, 6, 7, 8, 9, 10, 11, 12, 13, 14, 15, 16, 4], false⟩, ⟨[], allD 17, true⟩] h0 hm (fnEnv_ok (tabEnv_ok (tab_cons ho tab_nil)) (fI2_ok ok_cmpI)) (by kernel_rfl) (by kernel_rfl) ?_
  simp
  by_cases c : cmpI p.Addr q.Addr = 0
  · by_cases d : cmpI p.Len q.Len = 0 <;> simp [orI, cmpPx, c, d]
  · simp [orI, cmpPx, c]
theorem ok_l1Compare (p q : GPrefix) : CallOK Tryz.prog 101 [.agg p.c, .agg q.c] (.c (pi (cmpPx p q))) [.agg p.c, .agg q.c] := by
  refine okS (fn := Tryz.f101) [] h0 Tryz.func101 (by kernel_rfl) rfl Tryz.ntmps101 Tryz.results101 (by simp) ?_
  by_cases a1 : p.Addr < q.Addr
  · simp [a1, cmpPx, cmpI]
  · by_cases a2 : p.Addr = q.Addr
    · by_cases b1 : p.Len < q.Len
      · simp [a1, a2, b1, cmpPx, cmpI]
      · by_cases b2 : p.Len = q.Len
        · simp [a2, b2, cmpPx, cmpI]
        · have b3 : q.Len < p.Len := by omega
          simp [a2, b1, b2, b3, cmpPx, cmpI]
    · have a3 : q.Addr < p.Addr := by omega
      simp [a1, a2, a3, cmpPx, cmpI]
theorem ok_findOffer1 (k : Nat) (o : GOffer) (n : Int) : CallOK Tryz.prog 159 [.agg (GOffer.ci k o), .c (pi n)] (.c (pi (cmpI o.Peer n))) [.agg (GOffer.ci k o), .c (pi n)] := by
  refine okS (fn := Tryz.f159) [] h0 Tryz.func159 (by kernel_rfl) rfl Tryz.ntmps159 Tryz.results159 (by simp) ?_
  simp
  refine Inv_intro (ok_cmpI o.Peer n) ?_
  simp
theorem ok_BS_Offer (k : Nat) (xs : List GOffer) (n : Int) (hl : xs.length ≤ 140737488351232) (hmono : ∀ (i j : Nat) (hij : i < j) (hj : j < xs.length), cmpI xs[j].Peer n < 0 → cmpI xs[i].Peer n < 0) :
    CallOK Tryz.prog 158 [.c (rd k xs.length (xs.flatMap (GOffer.ci k))), .c (pi n), .c (.fn 0 159 [])] (.tup [.c (pi (bsI (fun o : GOffer => cmpI o.Peer n) xs)), .c (pb (bsF (fun o : GOffer => cmpI o.Peer n) xs))]) [.c (rd k xs.length (xs.flatMap (GOffer.ci k))), .c (pi n), .c (.fn 0 159 [])] := by
  refine okS (fn := Tryz.f158) [] h0 Tryz.func158 (by kernel_rfl) rfl Tryz.ntmps158 Tryz.results158 (by simp) ?_
  simp
  refine loopS [0, 1, 2, 8, 9, 10] [] (fun m st => ∃ (i j : Nat), i + m = j ∧ j ≤ xs.length ∧ (∀ (q : Nat) (hq : q < i) (hl : q < xs.length), cmpI xs[q].Peer n < 0) ∧ (∀ (q : Nat) (hq : j ≤ q) (hl : q < xs.length), 0 ≤ cmpI xs[q].Peer n) ∧ st = ⟨slOf 49 [(0, .t (rd k xs.length (xs.flatMap (GOffer.ci k)))), (1, .t (pi n)), (2, .t (.fn 0 159 [])), (8, .t (pi xs.length)), (9, .t (pi i)), (10, .t (pi j))], ofL []⟩) xs.length ?_ ?_
  · rintro Inv hI
    simp
    subst hI
    exact ⟨0, xs.length, by omega, by omega, by intro q hq; omega, by intro q hq h; omega, rfl⟩
  · rintro Inv hI m st ⟨i, j, hm, hj, hlo, hhi, rfl⟩
    refine ewr_sound (M := []) h0 ?_
    simp
    refine brn_app (fun a => ?_) (fun a => ?_)
    · simp at a
      have hw0 : IntKind.wrap .i64 ((i : Int) + j) = (i : Int) + j := wrap64 (by omega) (by omega)
      have hw := half_u64 i j (by omega)
      obtain ⟨h, hh⟩ : ∃ h, h = (i + j) / 2 := ⟨_, rfl⟩
      rw [← hh] at hw
      have hb : h < xs.length := by omega
      have hd := fm_drop (GOffer.ci k) 7 (fun _ => rfl) xs h hb
      have hlen := fm_len (GOffer.ci k) 7 (fun _ => rfl) xs
      have hlt : h * 7 < xs.length * 7 := by omega
      simp [hw0, hw, hb, hd, hlen, hlt]
      refine Inv_intro (ok_findOffer1 k xs[h] n) ?_
      simp
      refine brn_app (fun b => ?_) (fun b => ?_)
      · simp at b
        have hn1 : IntKind.wrap .i64 ((h : Int) + 1) = ((h + 1 : Nat) : Int) := wrNext h (by omega)
        simp
        subst hI
        refine Less_mk (j - (h + 1)) (by omega) ⟨h + 1, j, by omega, hj, ?_, hhi, by rw [hn1]⟩
        intro q hq hql
        rcases Nat.lt_or_ge q h with h' | h'
        · exact hmono q h h' hb b
        · have : q = h := by omega
          subst this
          exact b
      · simp at b
        simp
        subst hI
        refine Less_mk (h - i) (by omega) ⟨i, h, by omega, by omega, hlo, ?_, rfl⟩
        intro q hq hql
        rcases Nat.eq_or_lt_of_le hq with h' | h'
        · subst h'
          exact b
        · exact Int.not_lt.1 fun hc => by have := hmono h q h' hql hc; omega
    · simp at a
      have hij : i = j := by omega
      subst hij
      have e1 : bsI (fun o : GOffer => cmpI o.Peer n) xs = i := bsI_eq _ xs i hj hlo fun h => hhi i (Nat.le_refl _) h
      simp
      by_cases hb : i < xs.length
      · have hd := fm_drop (GOffer.ci k) 7 (fun _ => rfl) xs i hb
        have hlen := fm_len (GOffer.ci k) 7 (fun _ => rfl) xs
        have hlt : i * 7 < xs.length * 7 := by omega
        have e2 : bsF (fun o : GOffer => cmpI o.Peer n) xs = decide (cmpI xs[i].Peer n = 0) := by simp only [bsF, e1, List.getElem?_eq_getElem hb]
        simp [hb, hd, hlen, hlt]
        refine Inv_intro (ok_findOffer1 k xs[i] n) ?_
        simp [e1, e2]
      · have e2 : bsF (fun o : GOffer => cmpI o.Peer n) xs = false := by simp only [bsF, e1, List.getElem?_eq_none (Nat.le_of_not_lt hb)]
        simp [hb, e1, e2]
theorem ok_findRow1 (k : Nat) (o : GRow) (n : GPrefix) : CallOK Tryz.prog 165 [.agg (GRow.ci k o), .agg n.c] (.c (pi (cmpPx o.Prefix n))) [.agg (GRow.ci k o), .agg n.c] := by
  refine okS (fn := Tryz.f165) [] h0 Tryz.func165 (by kernel_rfl) rfl Tryz.ntmps165 Tryz.results165 (by simp) ?_
  simp
  refine Inv_intro (ok_compare o.Prefix n) ?_
  simp
theorem ok_BS_Row (k : Nat) (xs : List GRow) (n : GPrefix) (hl : xs.length ≤ 140737488351232) (hmono : ∀ (i j : Nat) (hij : i < j) (hj : j < xs.length), cmpPx xs[j].Prefix n < 0 → cmpPx xs[i].Prefix n < 0) :
    CallOK Tryz.prog 164 [.c (rd k xs.length (xs.flatMap (GRow.ci k))), .agg n.c, .c (.fn 0 165 [])] (.tup [.c (pi (bsI (fun o : GRow => cmpPx o.Prefix n) xs)), .c (pb (bsF (fun o : GRow => cmpPx o.Prefix n) xs))]) [.c (rd k xs.length (xs.flatMap (GRow.ci k))), .agg n.c, .c (.fn 0 165 [])] := by
  refine okS (fn := Tryz.f164) [] h0 Tryz.func164 (by kernel_rfl) rfl Tryz.ntmps164 Tryz.results164 (by simp) ?_
  simp
  refine loopS [0, 2, 4, 8, 9, 10] [.op 0 0 0] (fun m st => ∃ (i j : Nat), i + m = j ∧ j ≤ xs.length ∧ (∀ (q : Nat) (hq : q < i) (hl : q < xs.length), cmpPx xs[q].Prefix n < 0) ∧ (∀ (q : Nat) (hq : j ≤ q) (hl : q < xs.length), 0 ≤ cmpPx xs[q].Prefix n) ∧ st = ⟨slOf 49 [(0, .t (rd k xs.length (xs.flatMap (GRow.ci k)))), (2, .t (.fn 0 165 [])), (4, .ptr ⟨.op 0 0 0, []⟩ 0), (8, .t (pi xs.length)), (9, .t (pi i)), (10, .t (pi j))], ofL [(.op 0 0 0, .sl 0 77 1 n.c)]⟩) xs.length ?_ ?_
  · rintro Inv hI
    simp
    subst hI
    exact ⟨0, xs.length, by omega, by omega, by intro q hq; omega, by intro q hq h; omega, rfl⟩
  · rintro Inv hI m st ⟨i, j, hm', hj, hlo, hhi, rfl⟩
    refine ewr_sound (M := []) h0 ?_
    simp
    refine brn_app (fun a => ?_) (fun a => ?_)
    · simp at a
      have hw0 : IntKind.wrap .i64 ((i : Int) + j) = (i : Int) + j := wrap64 (by omega) (by omega)
      have hw := half_u64 i j (by omega)
      obtain ⟨h, hh⟩ : ∃ h, h = (i + j) / 2 := ⟨_, rfl⟩
      rw [← hh] at hw
      have hb : h < xs.length := by omega
      have hd := fm_drop (GRow.ci k) 3 (fun _ => rfl) xs h hb
      have hlen := fm_len (GRow.ci k) 3 (fun _ => rfl) xs
      have hlt : h * 3 < xs.length * 3 := by omega
      simp [hw0, hw]
      refine drawP (tabEnv [] _) [⟨[], allD 49, true⟩, ⟨[], allD 49, true⟩, ⟨[], allD 49, true⟩, ⟨[], allD 49, true⟩, ⟨[], allD 49, true⟩, ⟨[.op 0 0 0], allD 49, true⟩, ⟨[], allD 49, false⟩, ⟨[], allD 49, true⟩] h0 hm (tabEnv_ok (tab_cons (ok_findRow1 k xs[h] n) tab_nil)) (by kernel_rfl) (by kernel_rfl) ?_
      simp [hb, hd, hlen, hlt]
      refine brn_app (fun b => ?_) (fun b => ?_)
      · simp at b
        have hn1 : IntKind.wrap .i64 ((h : Int) + 1) = ((h + 1 : Nat) : Int) := wrNext h (by omega)
        simp
        subst hI
        refine Less_mk (j - (h + 1)) (by omega) ⟨h + 1, j, by omega, hj, ?_, hhi, by rw [hn1]; rfl⟩
        intro q hq hql
        rcases Nat.lt_or_ge q h with h' | h'
        · exact hmono q h h' hb b
        · have : q = h := by omega
          subst this
          exact b
      · simp at b
        simp
        subst hI
        refine Less_mk (h - i) (by omega) ⟨i, h, by omega, by omega, hlo, ?_, rfl⟩
        intro q hq hql
        rcases Nat.eq_or_lt_of_le hq with h' | h'
        · subst h'
          exact b
        · exact Int.not_lt.1 fun hc => by have := hmono h q h' hql hc; omega
    · simp at a
      have hij : i = j := by omega
      subst hij
      have e1 : bsI (fun o : GRow => cmpPx o.Prefix n) xs = i := bsI_eq _ xs i hj hlo fun h => hhi i (Nat.le_refl _) h
      simp
      by_cases hb : i < xs.length
      · have hd := fm_drop (GRow.ci k) 3 (fun _ => rfl) xs i hb
        have hlen := fm_len (GRow.ci k) 3 (fun _ => rfl) xs
        have hlt : i * 3 < xs.length * 3 := by omega
        have e2 : bsF (fun o : GRow => cmpPx o.Prefix n) xs = decide (cmpPx xs[i].Prefix n = 0) := by simp only [bsF, e1, List.getElem?_eq_getElem hb]
        refine drawP (tabEnv [] _) [⟨[], allD 49, true⟩, ⟨[], allD 49, true⟩, ⟨[], allD 49, true⟩, ⟨[], allD 49, true⟩, ⟨[], allD 49, true⟩, ⟨[], allD 49, true⟩, ⟨[], allD 49, true⟩, ⟨[], allD 49, true⟩, ⟨[], allD 49, true⟩, ⟨[], allD 49, true⟩, ⟨[.op 0 0 0], allD 49, true⟩, ⟨[], allD 49, false⟩, ⟨[], allD 49, true⟩, ⟨[], allD 49, true⟩, ⟨[], allD 49, true⟩, ⟨[], allD 49, true⟩] h0 hm (tabEnv_ok (tab_cons (ok_findRow1 k xs[i] n) tab_nil)) (by kernel_rfl) (by kernel_rfl) ?_
        simp [hb, hd, hlen, hlt, e1, e2]
      · have e2 : bsF (fun o : GRow => cmpPx o.Prefix n) xs = false := by simp only [bsF, e1, List.getElem?_eq_none (Nat.le_of_not_lt hb)]
        refine drawP E0 [⟨[], allD 49, true⟩, ⟨[], allD 49, true⟩, ⟨[], allD 49, true⟩, ⟨[], allD 49, true⟩, ⟨[], allD 49, true⟩, ⟨[], allD 49, true⟩, ⟨[], allD 49, true⟩, ⟨[], allD 49, true⟩, ⟨[], allD 49, true⟩, ⟨[], allD 49, true⟩, ⟨[.op 0 0 0], allD 49, true⟩, ⟨[], allD 49, false⟩, ⟨[], allD 49, true⟩, ⟨[], allD 49, true⟩, ⟨[], allD 49, true⟩, ⟨[], allD 49, true⟩] h0 hm (E0_ok _) (by kernel_rfl) (by kernel_rfl) ?_
        simp [hb, e1, e2]
theorem ok_Clone_Offer (k : Nat) (xs : List GOffer) (hx : xs.length ≤ 1048576) : CallOK Tryz.prog 168 [.c (rd k xs.length (xs.flatMap (GOffer.ci k)))] (.c (.sl 0 81 xs.length (xs.flatMap (GOffer.ci k)))) [.c (rd k xs.length (xs.flatMap (GOffer.ci k)))] := by
  refine okS (fn := Tryz.f168) [] h0 Tryz.func168 (by kernel_rfl) rfl Tryz.ntmps168 Tryz.results168 (by simp) ?_
  cases xs with
  | nil => simp
  | cons y ys =>
    simp only [List.length_cons] at hx
    have hb : (ys.length + 1) * 88 ≤ 140737488355328 ∧ ys.length + 1 ≤ 9223372036854775807 := by omega
    have hb2 : ys.length + 1 ≤ 9223372036854775807 := by omega
    have hb1 : (ys.length + 1) * 88 ≤ 140737488355328 := by omega
    have he : ys.length * 7 + 1 + 1 + 1 + 1 + 1 + 1 + 1 = (ys.length + 1) * 7 := by omega
    have ht : List.take ((ys.length + 1) * 7) (pi y.Peer :: pi y.Attrs.Origin :: rd k y.Attrs.Path.length (y.Attrs.Path.map pi) :: pi y.Attrs.Next :: pi y.Attrs.Med :: pi y.Attrs.Pref :: rd k y.Attrs.Comms.length (y.Attrs.Comms.map pi) :: ys.flatMap (GOffer.ci k)) = (pi y.Peer :: pi y.Attrs.Origin :: rd k y.Attrs.Path.length (y.Attrs.Path.map pi) :: pi y.Attrs.Next :: pi y.Attrs.Med :: pi y.Attrs.Pref :: rd k y.Attrs.Comms.length (y.Attrs.Comms.map pi) :: ys.flatMap (GOffer.ci k)) := GOffer.tkRi k (y :: ys)
    simp [hb1, hb2, he, ht]
theorem ok_IndexFunc_Offer (k q g : Nat) (caps : List (List PT)) (p : GOffer → Bool) (xs : List GOffer) (ha : xs.length ≤ 140737488351232)
    (hg : ∀ x ∈ xs, CallOK Tryz.prog g (.agg (GOffer.ci k x) :: caps.map (PV.ip q)) (.c (pb (p x))) (.agg (GOffer.ci k x) :: caps.map (PV.ip q))) :
    CallOK Tryz.prog 189 [.c (rd k xs.length (xs.flatMap (GOffer.ci k))), .c (.fn q g caps)] (.c (pi (idxOf p xs))) [.c (rd k xs.length (xs.flatMap (GOffer.ci k))), .c (.fn q g caps)] := by
  refine okS (fn := Tryz.f189) [] h0 Tryz.func189 (by kernel_rfl) rfl Tryz.ntmps189 Tryz.results189 (by simp) ?_
  simp
  refine loopS [0, 1, 7, 8] [] (fun n st => ∃ (i : Nat), i + n = xs.length ∧ (∀ (j : Nat) (hj : j < i) (hj' : j < xs.length), p xs[j] = false) ∧ st = ⟨slOf 19 [(0, .t (rd k xs.length (xs.flatMap (GOffer.ci k)))), (1, .t (.fn q g caps)), (7, .t (pi xs.length)), (8, .t (pi i))], ofL []⟩) xs.length ?_ ?_
  · rintro Inv hI
    simp
    subst hI
    exact ⟨0, by omega, by intro j hj; omega, rfl⟩
  · rintro Inv hI n st ⟨i, hi, hall, rfl⟩
    refine ewr_sound (M := []) h0 ?_
    simp
    refine brn_app (fun h => ?_) (fun h => ?_)
    · simp at h
      have hd := fm_drop (GOffer.ci k) 7 (fun _ => rfl) xs i h
      have hlen := fm_len (GOffer.ci k) 7 (fun _ => rfl) xs
      have hlt : i * 7 < xs.length * 7 := by omega
      simp [h, hd, hlen, hlt]
      refine Inv_intro (hg _ (List.getElem_mem h)) ?_
      simp
      refine brn_app (fun h2 => ?_) (fun h2 => ?_)
      · simp
        exact (idxOf_hit p xs i h h2 fun j hj => hall j hj (by omega)).symm
      · simp
        subst hI
        refine Less_mk (n - 1) (by omega) ⟨i + 1, by omega, ?_, by rw [wrNext i (by omega)]⟩
        intro j hj hj'
        by_cases hji : j = i
        · subst hji; exact h2
        · exact hall j (by omega) hj'
    · simp at h
      simp
      exact (idxOf_no p xs fun j hj => hall j (by omega) hj).symm
theorem idxOf_find {α : Type} (p : α → Bool) (xs : List α) : (idxOf p xs = -1 ∧ xs.findIdx? p = none) ∨ ∃ (i : Nat) (h : i < xs.length), idxOf p xs = i ∧ xs.findIdx? p = some i := by
  unfold idxOf
  cases h : xs.findIdx? p with
  | none => exact .inl ⟨rfl, rfl⟩
  | some i =>
    have h' := h
    rw [List.findIdx?_eq_some_iff_getElem] at h'
    exact .inr ⟨i, h'.1, rfl, rfl⟩
theorem put7 {α : Type} (C : List α) (a b c d e f g : α) (i j : Nat) (h : i * 7 + 7 ≤ C.length) (hij : i < j) : (C.take (i * 7) ++ a :: b :: c :: d :: e :: f :: g :: C.drop (i * 7 + 7)).length = C.length ∧ (C.take (i * 7) ++ a :: b :: c :: d :: e :: f :: g :: C.drop (i * 7 + 7)).take ((i + 1) * 7) = C.take (i * 7) ++ [a, b, c, d, e, f, g] ∧ (C.take (i * 7) ++ a :: b :: c :: d :: e :: f :: g :: C.drop (i * 7 + 7)).drop ((j + 1) * 7) = C.drop ((j + 1) * 7) := by
  have hl : (C.take (i * 7)).length = i * 7 := by rw [List.length_take]; omega
  have e1 : (i + 1) * 7 = (C.take (i * 7)).length + 7 := by omega
  refine ⟨?_, ?_, ?_⟩
  · simp only [List.length_append, List.length_cons, List.length_drop, hl]
    omega
  · rw [e1, List.take_length_add_append]
    rfl
  · have e2 : (j + 1) * 7 = (C.take (i * 7)).length + (7 + (j - i) * 7) := by omega
    rw [e2, List.drop_length_add_append, ← List.drop_drop]
    show List.drop ((j - i) * 7) (C.drop (i * 7 + 7)) = _
    rw [List.drop_drop, hl]
    congr 1
    omega
theorem ok_DeleteFunc_Offer (k q g : Nat) (caps : List (List PT)) (p : GOffer → Bool) (xs : List GOffer) (ha : xs.length ≤ 140737488351232)
    (hg : ∀ k, ∀ x ∈ xs, CallOK Tryz.prog g (.agg (GOffer.ci k x) :: caps.map (PV.ip q)) (.c (pb (p x))) (.agg (GOffer.ci k x) :: caps.map (PV.ip q))) :
    CallOK Tryz.prog 167 [.c (.sl 0 81 xs.length (xs.flatMap (GOffer.ci k))), .c (.fn q g caps)] (.c (.sl 0 81 (xs.filter fun x => !p x).length ((xs.filter fun x => !p x).flatMap (GOffer.ci k)))) [.c .hole, .c (.fn q g caps)] := by
  refine okS (fn := Tryz.f167) [] h0 Tryz.func167 (by kernel_rfl) rfl Tryz.ntmps167 Tryz.results167 (by simp) ?_
  simp
  refine Inv_intro (ok_IndexFunc_Offer 0 q g caps p xs ha (hg 0)) ?_
  simp
  rcases idxOf_find p xs with ⟨e, hf⟩ | ⟨i0, hi0, e, hf⟩
  · rw [e]
    have hall : xs.filter (fun x => !p x) = xs := by
      rw [List.findIdx?_eq_none_iff] at hf
      exact List.filter_eq_self.2 fun x hx => by simp [hf x hx]
    rw [hall]
    simp
  · rw [e]
    have hne : ¬ (i0 : Int) = -1 := by omega
    have hw0 : IntKind.wrap .i64 ((i0 : Int) + 1) = ((i0 + 1 : Nat) : Int) := wrNext i0 (by omega)
    simp [hne, hw0]
    refine loopS [0, 1, 5, 6] [.arg 0 0] (fun m st => ∃ (j i : Nat) (C : List PT), j + m = xs.length ∧ i < j ∧ ((xs.take j).filter fun x => !p x).length = i ∧ C.length = xs.length * 7 ∧ C.take (i * 7) = ((xs.take j).filter fun x => !p x).flatMap (GOffer.ci k) ∧ C.drop (j * 7) = (xs.drop j).flatMap (GOffer.ci k) ∧ st = ⟨slOf 42 [(0, .ref ⟨.arg 0 0, []⟩ 0 xs.length), (1, .t (.fn q g caps)), (5, .t (pi i)), (6, .t (pi j))], ofL [(.arg 0 0, .sl 0 81 xs.length C)]⟩) (xs.length - (i0 + 1)) ?_ ?_
    · rintro Inv hI
      have hfirst : (xs.take (i0 + 1)).filter (fun x => !p x) = xs.take i0 := by
        rw [List.findIdx?_eq_some_iff_getElem] at hf
        obtain ⟨h1, h2, h3⟩ := hf
        rw [take_step xs i0 hi0, List.filter_append]
        have e1 : (xs.take i0).filter (fun x => !p x) = xs.take i0 := by
          refine List.filter_eq_self.2 fun x hx => ?_
          obtain ⟨j, hj, rfl⟩ := List.mem_iff_getElem.1 hx
          have hj' : j < i0 := by rw [List.length_take] at hj; omega
          rw [List.getElem_take]
          simpa using h3 j hj'
        rw [e1]
        simp [h2]
      simp
      subst hI
      refine ⟨i0 + 1, i0, xs.flatMap (GOffer.ci k), by omega, by omega, by rw [hfirst, List.length_take]; omega, fm_len (GOffer.ci k) 7 (fun _ => rfl) xs, ?_, ?_, ?_⟩
      · rw [hfirst]; exact fm_take (GOffer.ci k) 7 (fun _ => rfl) xs i0
      · exact fm_dropAll (GOffer.ci k) 7 (fun _ => rfl) xs (i0 + 1)
      · rfl
    · rintro Inv hI m st ⟨j, i, C, hj, hlt, hi, hCl, hCt, hCd0, rfl⟩
      refine ewr_sound (M := []) h0 ?_
      simp
      refine brn_app (fun a => ?_) (fun a => ?_)
      · simp at a
        have hCd : C.drop (j * 7) = GOffer.ci k xs[j] ++ (xs.drop (j + 1)).flatMap (GOffer.ci k) := by
          rw [hCd0, drop_step _ j a, List.flatMap_cons]
        have hCn : C.drop ((j + 1) * 7) = (xs.drop (j + 1)).flatMap (GOffer.ci k) := by
          have : (j + 1) * 7 = j * 7 + 7 := by omega
          rw [this, ← List.drop_drop, hCd]
          rfl
        have hb : j * 7 + 7 ≤ xs.length * 7 := by omega
        have hfs : (xs.take (j + 1)).filter (fun x => !p x) = (xs.take j).filter (fun x => !p x) ++ (if p xs[j] = true then [] else [xs[j]]) := by
          rw [take_step xs j a, List.filter_append]
          cases hpx : p xs[j] <;> simp [hpx]
        simp [a, hCl, hCd, hb]
        refine Inv_intro (hg _ _ (List.getElem_mem a)) ?_
        simp
        refine brn_app (fun b => ?_) (fun b => ?_)
        · simp at b
          rw [if_neg (by simp [b])] at hfs
          have hib : i * 7 < xs.length * 7 := by omega
          have hib2 : i < xs.length := by omega
          have hib3 : i * 7 + 7 ≤ xs.length * 7 := by omega
          simp [hCl, hib, hib2, hib3]
          subst hI
          obtain ⟨g1, g2, g3⟩ := put7 C (pi xs[j].Peer) (pi xs[j].Attrs.Origin) (rd k xs[j].Attrs.Path.length (xs[j].Attrs.Path.map pi)) (pi xs[j].Attrs.Next) (pi xs[j].Attrs.Med) (pi xs[j].Attrs.Pref) (rd k xs[j].Attrs.Comms.length (xs[j].Attrs.Comms.map pi)) i j (by omega) hlt
          refine Less_mk (m - 1) (by omega) ⟨j + 1, i + 1, _, by omega, by omega, by rw [hfs, List.length_append, hi]; rfl, g1.trans hCl, ?_, ?_, ?_⟩
          · rw [g2, hCt, hfs, List.flatMap_append]
            simp
          · rw [g3, hCn]
          · rw [wrNext i (by omega), wrNext j (by omega)]
        · simp at b
          rw [if_pos b, List.append_nil] at hfs
          simp
          subst hI
          refine Less_mk (m - 1) (by omega) ⟨j + 1, i, C, by omega, by omega, by rw [hfs, hi], hCl, ?_, hCn, ?_⟩
          · rw [hCt, hfs]
          · rw [wrNext j (by omega)]
      · simp at a
        have hjn : j = xs.length := by omega
        subst hjn
        rw [List.take_length] at hi hCt
        have hil : i ≤ xs.length := by omega
        have hCtl : (C.take (i * 7)).length = i * 7 := by rw [List.length_take]; omega
        have hz0 : ¬ xs.length - i = 0 := by omega
        have hz1 : i * 7 + (xs.length - i) * 7 ≤ C.length := by omega
        have hz2 : i * 7 ≤ min (i * 7) C.length + ((xs.length - i) * 7 + (C.length - (i * 7 + (xs.length - i) * 7))) := by omega
        have hTT : ∀ Y, List.take (i * 7) (C.take (i * 7) ++ Y) = C.take (i * 7) := fun Y => List.take_left' hCtl
        rw [hi, ← hCt]
        simp [hil, hz0, hz1, hz2, hTT]
end Go.V
