/- What functions of the seat's program do, each proved of its code, under the bounds that its theorem names. -/
import Derived.Test.YtdelgkhoahmnfaaGreatTac
set_option linter.all false
namespace Go.V
open Go.Proofs
set_option maxHeartbeats 1000000
set_option maxRecDepth 10000
set_option linter.unusedSimpArgs false
set_option linter.unusedVariables false
theorem ok_toUpdate (k : Nat) (x : GUpdate) (hwt : GUpdate.wt x ≤ 1048576) : CallOK Tryz.prog 26 [.agg (GUpdate.ci k x)] (.agg (GUpdate.co x)) [.agg (GUpdate.ci k x)] := by
  unfold GUpdate.wt at hwt
  refine okS (fn := Tryz.f26) [] h0 Tryz.func26 (by kernel_rfl) rfl Tryz.ntmps26 Tryz.results26 (by simp) ?_
  simp
  refine Inv_intro (ok_toPrefixS k x.Gone (by omega)) ?_
  simp
  refine Inv_intro (ok_toAttrs k x.Attrs (by omega)) ?_
  simp
  refine Inv_intro (ok_toPrefixS k x.Come (by omega)) ?_
  simp
theorem ok_toUpdateS (k : Nat) (xs : List GUpdate) (hwt : wt_UpdateS xs ≤ 1048576) : CallOK Tryz.prog 33 [.c (rd k xs.length (xs.flatMap (GUpdate.ci k)))] (.c (.sl 0 54 xs.length (xs.flatMap GUpdate.co))) [.c (rd k xs.length (xs.flatMap (GUpdate.ci k)))] := by
  have hl := len_wt_UpdateS xs
  refine okS (fn := Tryz.f33) [] h0 Tryz.func33 (by kernel_rfl) rfl Tryz.ntmps33 Tryz.results33 (by simp) ?_
  have hb1 : (xs.length : Int) ≤ 281474976710656 := by omega
  have hb2 : 128 * (xs.length : Int) ≤ 281474976710656 := by omega
  simp [hb1, hb2]
  refine loopS [0, 3, 4] [.op 1 2 0] (fun n st => ∃ (i : Nat), i + n = xs.length ∧ st = ⟨slOf 23 [(0, .t (rd k xs.length (xs.flatMap (GUpdate.ci k)))), (3, .ref ⟨.op 1 2 0, []⟩ 0 xs.length), (4, .t (pi i))], ofL [(.op 1 2 0, .sl 0 54 xs.length (((xs.take i).flatMap GUpdate.co) ++ (List.replicate n [.sl 0 nilE 0 [], .raw (.int .i64 0), .sl 0 nilE 0 [], .raw (.int .i64 0), .raw (.int .i64 0), .raw (.int .i64 0), .sl 0 nilE 0 [], .sl 0 nilE 0 []]).flatten))]⟩) xs.length ?_ ?_
  · rintro Inv hI
    simp
    subst hI
    exact ⟨0, by omega, by simp⟩
  · rintro Inv hI n st ⟨i, hi, rfl⟩
    have hA := fm_take_len GUpdate.co 8 (fun _ => rfl) xs i (by omega)
    generalize hAe : ((xs.take i).flatMap GUpdate.co) = A at hA ⊢
    refine ewr_sound (M := []) h0 ?_
    simp
    refine brn_app (fun h => ?_) (fun h => ?_)
    · simp at h
      obtain ⟨m, rfl⟩ : ∃ m, n = m + 1 := ⟨n - 1, by omega⟩
      have hd := fm_drop (GUpdate.ci k) 8 (fun _ => rfl) xs i h
      have hlen := fm_len (GUpdate.ci k) 8 (fun _ => rfl) xs
      have hlt : i * 8 < xs.length * 8 := by omega
      simp [h, hd, hlen, hlt]
      refine Inv_intro (ok_toUpdate k xs[i] (by have := mem_wt_UpdateS (List.getElem_mem h); omega)) ?_
      simp [h, hA, List.replicate_succ]
      have e3 : ((xs.take (i + 1)).flatMap GUpdate.co) = A ++ GUpdate.co xs[i] := by rw [take_step xs i h, List.flatMap_append, hAe, List.flatMap_cons, List.flatMap_nil, List.append_nil]
      subst hI
      refine Less_mk m (by omega) ⟨i + 1, by omega, ?_⟩
      rw [wrNext i (by omega), e3, List.append_assoc]
      all_goals rfl
    · simp at h
      have hn : n = 0 := by omega
      subst hn
      have ht : List.take i xs = xs := List.take_of_length_le (by omega)
      have ht2 : List.take (xs.length * 8) (xs.flatMap GUpdate.co) = (xs.flatMap GUpdate.co) := List.take_of_length_le (by rw [fm_len GUpdate.co 8 (fun _ => rfl)]; exact Nat.le_refl _)
      have hlo := fm_len GUpdate.co 8 (fun _ => rfl) xs
      rw [← hAe, ht]
      simp [ht2, hlo, -List.length_flatMap]
structure GRoute where
  Prefix : GPrefix
  Attrs : GAttrs
  deriving DecidableEq
def GRoute.co (x : GRoute) : List PT := [pi x.Prefix.Addr, pi x.Prefix.Len, pi x.Attrs.Origin, .sl 0 3 x.Attrs.Path.length (x.Attrs.Path.map pi), pi x.Attrs.Next, pi x.Attrs.Med, pi x.Attrs.Pref, .sl 0 3 x.Attrs.Comms.length (x.Attrs.Comms.map pi)]
def GRoute.ci (k : Nat) (x : GRoute) : List PT := [pi x.Prefix.Addr, pi x.Prefix.Len, pi x.Attrs.Origin, rd k x.Attrs.Path.length (x.Attrs.Path.map pi), pi x.Attrs.Next, pi x.Attrs.Med, pi x.Attrs.Pref, rd k x.Attrs.Comms.length (x.Attrs.Comms.map pi)]
attribute [simp] GRoute.co GRoute.ci
theorem GRoute.len_i (k : Nat) (x : GRoute) : (x.ci k).length = 8 := rfl
theorem GRoute.un1 (x : GRoute) : PT.unownL x.co = x.ci 0 := by simp [rd]
theorem GRoute.uni1 (k : Nat) (x : GRoute) : PT.unownL (x.ci k) = x.ci 0 := by simp [rd]
theorem GRoute.un (xs : List GRoute) : PT.unownL (xs.flatMap GRoute.co) = xs.flatMap (GRoute.ci 0) := by
  rw [unownL_fm]
  congr 1
  funext x
  exact GRoute.un1 x
theorem GRoute.uni (k : Nat) (xs : List GRoute) : PT.unownL (xs.flatMap (GRoute.ci k)) = xs.flatMap (GRoute.ci 0) := by
  rw [unownL_fm]
  congr 1
  funext x
  exact GRoute.uni1 k x
theorem GRoute.nt (xs : List GRoute) : PT.noTmpL (xs.flatMap GRoute.co) = true := noTmpL_fm _ xs fun x => by simp
theorem GRoute.nti (k : Nat) (xs : List GRoute) : PT.noTmpL (xs.flatMap (GRoute.ci (k + 1))) = true := noTmpL_fm _ xs fun x => by simp [rd]
attribute [simp] GRoute.un GRoute.uni GRoute.nt GRoute.nti
theorem GRoute.lenR (xs : List GRoute) : (xs.flatMap GRoute.co).length = xs.length * 8 := fm_len _ 8 (fun _ => rfl) xs
theorem GRoute.lenRi (k : Nat) (xs : List GRoute) : (xs.flatMap (GRoute.ci k)).length = xs.length * 8 := fm_len _ 8 (fun _ => rfl) xs
theorem GRoute.tkR (xs : List GRoute) : (xs.flatMap GRoute.co).take (xs.length * 8) = xs.flatMap GRoute.co := List.take_of_length_le (by rw [GRoute.lenR]; exact Nat.le_refl _)
theorem GRoute.tkRi (k : Nat) (xs : List GRoute) : (xs.flatMap (GRoute.ci k)).take (xs.length * 8) = xs.flatMap (GRoute.ci k) := List.take_of_length_le (by rw [GRoute.lenRi]; exact Nat.le_refl _)
attribute [simp high] GRoute.lenR GRoute.tkR GRoute.lenRi GRoute.tkRi
def GRoute.wt (x : GRoute) : Nat := GAttrs.wt x.Attrs
def GRoute.fits (x : GRoute) : Prop := GAttrs.fits x.Attrs
def GRoute.lens (x : GRoute) : Prop := GAttrs.lens x.Attrs
def GRoute.mark (x : GRoute) (k : Int) : GRoute × Int := (⟨⟨k, (k + 1)⟩, ⟨((k + 1) + 1), (mk_IntS x.Attrs.Path (((k + 1) + 1) + 1)).1, (mk_IntS x.Attrs.Path (((k + 1) + 1) + 1)).2, ((mk_IntS x.Attrs.Path (((k + 1) + 1) + 1)).2 + 1), (((mk_IntS x.Attrs.Path (((k + 1) + 1) + 1)).2 + 1) + 1), (mk_IntS x.Attrs.Comms ((((mk_IntS x.Attrs.Path (((k + 1) + 1) + 1)).2 + 1) + 1) + 1)).1⟩⟩, (mk_IntS x.Attrs.Comms ((((mk_IntS x.Attrs.Path (((k + 1) + 1) + 1)).2 + 1) + 1) + 1)).2)
def GRoute.cn (x : GRoute) : Nat := 1 + 1 + 1 + cn_IntS x.Attrs.Path + 1 + 1 + 1 + cn_IntS x.Attrs.Comms
theorem GRoute.mark_snd (x : GRoute) (k : Int) : (GRoute.mark x k).2 = k + GRoute.cn x := by
  simp only [GRoute.mark, GRoute.cn, mk_IntS_snd] <;> omega
def GRoute.markT (x : GRoute) (k : Int) : GRoute × Int := (⟨⟨x.Prefix.Addr, x.Prefix.Len⟩, ⟨x.Attrs.Origin, (mk_IntS x.Attrs.Path k).1, x.Attrs.Next, x.Attrs.Med, x.Attrs.Pref, (mk_IntS x.Attrs.Comms (mk_IntS x.Attrs.Path k).2).1⟩⟩, (mk_IntS x.Attrs.Comms (mk_IntS x.Attrs.Path k).2).2)
def GRoute.cnT (x : GRoute) : Nat := cn_IntS x.Attrs.Path + cn_IntS x.Attrs.Comms
theorem GRoute.markT_snd (x : GRoute) (k : Int) : (GRoute.markT x k).2 = k + GRoute.cnT x := by
  simp only [GRoute.markT, GRoute.cnT, mk_IntS_snd] <;> omega
def inR (n lo hi : Int) : Bool := decide (lo ≤ n ∧ n ≤ hi)
def szP (n : Int) : Int := 2 ^ (32 - n).toNat
theorem shl_pow (m : Nat) (h : m ≤ 32) : IntKind.wrap .i64 (1 * 2 ^ min m IntKind.i64.bits) = 2 ^ m := by
  have : ∀ m : Fin 33, IntKind.wrap .i64 (1 * 2 ^ min m.1 IntKind.i64.bits) = 2 ^ m.1 := by decide
  exact this ⟨m, by omega⟩
theorem pow_ne (m : Nat) : ¬ (2 : Int) ^ m = 0 := by
  have : (0 : Int) < 2 ^ m := Int.pow_pos (by decide)
  omega
def goodPx (p : GPrefix) : Bool := inR p.Len 0 32 && (inR p.Addr 0 4294967295 && decide (p.Addr.tmod (szP p.Len) = 0))
def cmpI (a b : Int) : Int := if a < b then -1 else if b < a then 1 else 0
def cmpPx (p q : GPrefix) : Int := if cmpI p.Addr q.Addr = 0 then cmpI p.Len q.Len else cmpI p.Addr q.Addr
def orI : List Int → Int
  | [] => 0
  | x :: xs => if x = 0 then orI xs else x
def isAsnB (n : Int) : Bool := inR n 1 65535
def isValB (n : Int) : Bool := inR n 0 1000000
def adjI (q : Option Int) (x : Int) : Bool := match q with
  | none => true
  | some q => decide (q < x)
def commsG : Option Int → List Int → Bool
  | _, [] => true
  | q, x :: xs => isValB x && adjI q x && commsG (some x) xs
def goodCm (l : List Int) : Bool := commsG none l && decide (l.length ≤ 6)
def goodPa (l : List Int) : Bool := decide (l.length ≤ 10) && l.all isAsnB
def goodA (a : GAttrs) : Bool := inR a.Origin 0 2 && (goodPa a.Path && (inR a.Next 0 4294967295 && (isValB a.Med && (isValB a.Pref && goodCm a.Comms))))
def prevI (l : List Int) (i : Nat) : Option Int := if i = 0 then none else l[i - 1]?
theorem prevI_next (l : List Int) (i : Nat) (h : i < l.length) : prevI l (i + 1) = some l[i] := by simp [prevI, h]
def attrOK (a : GAttrs) : Prop := a.Path.length ≤ 140737488351232 ∧ a.Comms.length ≤ 140737488351232
/-- Where a condition holds first, or -1. -/
def idxOf {α : Type} (p : α → Bool) (xs : List α) : Int := match xs.findIdx? p with | some i => i | none => -1
theorem idxOf_hit {α : Type} (p : α → Bool) (xs : List α) (i : Nat) (h : i < xs.length) (hp : p xs[i] = true) (hall : ∀ (j : Nat) (hj : j < i), p (xs[j]'(by omega)) = false) : idxOf p xs = i := by
  unfold idxOf
  rw [(List.findIdx?_eq_some_iff_getElem (i := i)).2 ⟨h, hp, fun j hj => by simp [hall j hj]⟩]
theorem idxOf_no {α : Type} (p : α → Bool) (xs : List α) (hall : ∀ (j : Nat) (hj : j < xs.length), p xs[j] = false) : idxOf p xs = -1 := by
  unfold idxOf
  rw [List.findIdx?_eq_none_iff.2 (fun s hs => by
    obtain ⟨j, hj, rfl⟩ := List.getElem_of_mem hs
    simp [hall j hj])]
theorem idxOf_any {α : Type} (p : α → Bool) (xs : List α) : decide (0 ≤ idxOf p xs) = xs.any p := by
  unfold idxOf
  cases h : xs.findIdx? p with
  | none =>
    rw [List.findIdx?_eq_none_iff] at h
    simp
    exact fun x hx => by simpa using h x hx
  | some i =>
    rw [List.findIdx?_eq_some_iff_getElem] at h
    obtain ⟨h1, h2, _⟩ := h
    simp
    exact ⟨_, List.getElem_mem h1, h2⟩
def hasI (l : List Int) (n : Int) : Bool := l.any fun x => decide (x = n)
theorem ok_Index_Int (k : Nat) (xs : List Int) (v : Int) (ha : xs.length ≤ 140737488351232) : CallOK Tryz.prog 190 [.c (rd k xs.length (xs.map pi)), .c (pi v)] (.c (pi (idxOf (fun x => decide (x = v)) xs))) [.c (rd k xs.length (xs.map pi)), .c (pi v)] := by
  refine okS (fn := Tryz.f190) [] h0 Tryz.func190 (by kernel_rfl) rfl Tryz.ntmps190 Tryz.results190 (by simp) ?_
  simp
  refine loopS [0, 1, 6, 7, 8] [] (fun n st => ∃ (i : Nat), i + n = xs.length ∧ (∀ (j : Nat) (hj : j < i) (hj' : j < xs.length), decide (xs[j] = v) = false) ∧ st = ⟨slOf 19 [(0, .t (rd k xs.length (xs.map pi))), (1, .t (pi v)), (6, .t (rd k xs.length (xs.map pi))), (7, .t (pi xs.length)), (8, .t (pi i))], ofL []⟩) xs.length ?_ ?_
  · rintro Inv hI
    simp
    subst hI
    exact ⟨0, by omega, by intro j hj; omega, rfl⟩
  · rintro Inv hI n st ⟨i, hi, hall, rfl⟩
    refine ewr_sound (M := []) h0 ?_
    simp
    refine brn_app (fun h => ?_) (fun h => ?_)
    · simp at h
      simp [h]
      refine brn_app (fun h2 => ?_) (fun h2 => ?_)
      · simp at h2
        simp
        exact (idxOf_hit (fun x => decide (x = v)) xs i h (by simp [h2]) fun j hj => hall j hj (by omega)).symm
      · simp at h2
        simp
        subst hI
        refine Less_mk (n - 1) (by omega) ⟨i + 1, by omega, ?_, by rw [wrNext i (by omega)]⟩
        intro j hj hj'
        by_cases hji : j = i
        · subst hji; simp; exact fun e => h2 e.symm
        · exact hall j (by omega) hj'
    · simp at h
      simp
      exact (idxOf_no (fun x => decide (x = v)) xs fun j hj => hall j (by omega) hj).symm
theorem ok_Contains_Int (k : Nat) (xs : List Int) (v : Int) (ha : xs.length ≤ 140737488351232) : CallOK Tryz.prog 170 [.c (rd k xs.length (xs.map pi)), .c (pi v)] (.c (pb (hasI xs v))) [.c (rd k xs.length (xs.map pi)), .c (pi v)] := by
  refine okS (fn := Tryz.f170) [] h0 Tryz.func170 (by kernel_rfl) rfl Tryz.ntmps170 Tryz.results170 (by simp) ?_
  simp
  refine Inv_intro (ok_Index_Int k xs v ha) ?_
  simp [idxOf_any, hasI]
theorem hasI_drop {l : List Int} {n : Int} {i : Nat} (h : i < l.length) : hasI (l.drop i) n = (decide (l[i] = n) || hasI (l.drop (i + 1)) n) := by
  unfold hasI
  rw [List.drop_eq_getElem_cons h, List.any_cons]
theorem ok_l1Has (k : Nat) (xs : List Int) (v : Int) (ha : xs.length ≤ 140737488351232) : CallOK Tryz.prog 114 [.c (rd k xs.length (xs.map pi)), .c (pi v)] (.c (pb (hasI xs v))) [.c (rd k xs.length (xs.map pi)), .c (pi v)] := by
  refine okS (fn := Tryz.f114) [] h0 Tryz.func114 (by kernel_rfl) rfl Tryz.ntmps114 Tryz.results114 (by simp) ?_
  simp
  refine loopS [1, 7, 8, 9] [] (fun n st => ∃ (i : Nat), i + n = xs.length ∧ hasI (xs.drop i) v = hasI xs v ∧ st = ⟨slOf 17 [(1, .t (pi v)), (7, .t (rd k xs.length (xs.map pi))), (8, .t (pi xs.length)), (9, .t (pi i))], ofL []⟩) xs.length ?_ ?_
  · rintro Inv hI
    simp
    subst hI
    exact ⟨0, by omega, rfl, rfl⟩
  · rintro Inv hI n st ⟨i, hi, hall, rfl⟩
    refine ewr_sound (M := []) h0 ?_
    simp
    refine brn_app (fun h => ?_) (fun h => ?_)
    · simp at h
      rw [hasI_drop h] at hall
      simp [h]
      refine brn_app (fun h2 => ?_) (fun h2 => ?_)
      · simp at h2
        rw [decide_eq_true h2, Bool.true_or] at hall
        simp [← hall]
      · simp at h2
        rw [decide_eq_false h2, Bool.false_or] at hall
        simp
        subst hI
        exact Less_mk (n - 1) (by omega) ⟨i + 1, by omega, hall, by rw [wrNext i (by omega)]⟩
    · simp at h
      rw [List.drop_eq_nil_of_le (by omega)] at hall
      have h2 : hasI xs v = false := by rw [← hall]; rfl
      simp [h2]
def ordO (a b : GOffer) : Int := if a.Peer = b.Peer then 0 else orI [cmpI b.Attrs.Pref a.Attrs.Pref, cmpI a.Attrs.Path.length b.Attrs.Path.length, cmpI a.Attrs.Origin b.Attrs.Origin, cmpI a.Attrs.Med b.Attrs.Med, cmpI a.Attrs.Next b.Attrs.Next, cmpI a.Peer b.Peer]
theorem or_cons (u v : Int) (r : List Int) : orI (cmpI u v :: r) < 0 ↔ u < v ∨ (u = v ∧ orI r < 0) := by
  have e : orI (cmpI u v :: r) = if cmpI u v = 0 then orI r else cmpI u v := rfl
  rw [e]
  unfold cmpI
  by_cases h1 : u < v
  · simp [h1]
  · by_cases h2 : v < u
    · simp [h1, h2]
      omega
    · have : u = v := by omega
      subst this
      simp
theorem ord_neg {a b : GOffer} (h : a.Peer ≠ b.Peer) : ordO a b < 0 ↔ b.Attrs.Pref < a.Attrs.Pref ∨ (b.Attrs.Pref = a.Attrs.Pref ∧ ((a.Attrs.Path.length : Int) < b.Attrs.Path.length ∨ ((a.Attrs.Path.length : Int) = b.Attrs.Path.length ∧ (a.Attrs.Origin < b.Attrs.Origin ∨ (a.Attrs.Origin = b.Attrs.Origin ∧ (a.Attrs.Med < b.Attrs.Med ∨ (a.Attrs.Med = b.Attrs.Med ∧ (a.Attrs.Next < b.Attrs.Next ∨ (a.Attrs.Next = b.Attrs.Next ∧ a.Peer < b.Peer))))))))) := by
  unfold ordO
  rw [if_neg h]
  simp only [or_cons]
  have : ¬ orI [] < 0 := by simp [orI]
  simp only [this, and_false, or_false]
theorem ord_trans {a b c : GOffer} (h1 : a.Peer ≠ b.Peer) (h2 : b.Peer ≠ c.Peer) (h3 : a.Peer ≠ c.Peer) (hab : ordO a b < 0) (hbc : ordO b c < 0) : ordO a c < 0 := by
  rw [ord_neg h1] at hab
  rw [ord_neg h2] at hbc
  rw [ord_neg h3]
  omega
theorem ord_total {a b : GOffer} (h : a.Peer ≠ b.Peer) (hab : ¬ ordO a b < 0) : ordO b a < 0 := by
  rw [ord_neg h] at hab
  rw [ord_neg (Ne.symm h)]
  omega
def insRv (x : GOffer) : List GOffer → List GOffer
  | [] => [x]
  | y :: r => if ordO x y < 0 then y :: insRv x r else x :: y :: r
def sortRv (l : List GOffer) : List GOffer := l.foldl (fun acc x => insRv x acc) []
def bestO (l : List GOffer) : Option GOffer := l.foldl (fun b x => match b with
  | none => some x
  | some y => if ordO x y < 0 then some x else some y) none
theorem insRv_mem {x : GOffer} : ∀ {r : List GOffer} {y : GOffer}, y ∈ insRv x r ↔ y = x ∨ y ∈ r
  | [], y => by simp [insRv]
  | z :: r, y => by
    unfold insRv
    split
    · simp only [List.mem_cons, insRv_mem (r := r)]
      exact or_left_comm
    · simp only [List.mem_cons]
theorem insRv_len (x : GOffer) : ∀ r : List GOffer, (insRv x r).length = r.length + 1
  | [] => rfl
  | z :: r => by
    unfold insRv
    split
    · simp only [List.length_cons, insRv_len x r]
    · simp only [List.length_cons]
theorem insRv_last {x : GOffer} : ∀ {r : List GOffer}, (insRv x r).getLast? = if ∀ y ∈ r, ordO x y < 0 then some x else r.getLast?
  | [] => by simp [insRv]
  | z :: r => by
    unfold insRv
    by_cases h : ordO x z < 0
    · rw [if_pos h]
      have hne : insRv x r ≠ [] := fun e => by have := insRv_len x r; rw [e] at this; simp at this
      rw [List.getLast?_cons, insRv_last (r := r)]
      by_cases h2 : ∀ y ∈ r, ordO x y < 0
      · rw [if_pos h2, if_pos (by intro y hy; rcases List.mem_cons.1 hy with rfl | hy; exact h; exact h2 y hy)]
        rfl
      · rw [if_neg h2, if_neg (fun hh => h2 fun y hy => hh y (List.mem_cons_of_mem _ hy)), List.getLast?_cons]
    · rw [if_neg h, if_neg (fun hh => h (hh z List.mem_cons_self))]
      rfl
def distO (l : List GOffer) : Prop := l.Pairwise fun a b => a.Peer ≠ b.Peer
theorem best_fold : ∀ (l acc : List GOffer) (m : Option GOffer), distO l → (∀ x ∈ l, ∀ y ∈ acc, x.Peer ≠ y.Peer) → acc.getLast? = m → (∀ z, m = some z → z ∈ acc ∧ ∀ y ∈ acc, y = z ∨ (y.Peer ≠ z.Peer ∧ ordO z y < 0)) →
    (l.foldl (fun acc x => insRv x acc) acc).getLast? = l.foldl (fun b x => match b with
      | none => some x
      | some y => if ordO x y < 0 then some x else some y) m
  | [], acc, m, _, _, h, _ => h
  | x :: l, acc, m, hd, hx, hl, hm => by
    obtain ⟨hd1, hd2⟩ := List.pairwise_cons.1 hd
    simp only [List.foldl_cons]
    have hxa : ∀ y ∈ acc, x.Peer ≠ y.Peer := hx x List.mem_cons_self
    refine best_fold l (insRv x acc) _ hd2 ?_ ?_ ?_
    · intro y hy z hz
      rcases insRv_mem.1 hz with rfl | hz
      · exact Ne.symm (hd1 y hy)
      · exact hx y (List.mem_cons_of_mem _ hy) z hz
    · rw [insRv_last]
      cases m with
      | none =>
        have : acc = [] := by
          cases acc with
          | nil => rfl
          | cons a b => simp [List.getLast?_cons] at hl
        subst this
        simp
      | some z =>
        obtain ⟨hz, hall⟩ := hm z rfl
        simp only
        by_cases h : ordO x z < 0
        · rw [if_pos h, if_pos]
          intro y hy
          rcases hall y hy with rfl | ⟨hne, hzy⟩
          · exact h
          · exact ord_trans (hxa z hz) (Ne.symm hne) (hxa y hy) h hzy
        · rw [if_neg h, if_neg (fun hh => h (hh z hz))]
          exact hl
    · intro z hz
      cases m with
      | none =>
        have : acc = [] := by
          cases acc with
          | nil => rfl
          | cons a b => simp [List.getLast?_cons] at hl
        subst this
        simp only [Option.some.injEq] at hz
        subst hz
        refine ⟨by simp [insRv], fun y hy => .inl (by simpa [insRv] using hy)⟩
      | some w =>
        obtain ⟨hw, hall⟩ := hm w rfl
        simp only at hz
        by_cases h : ordO x w < 0
        · rw [if_pos h] at hz
          cases hz
          refine ⟨insRv_mem.2 (.inl rfl), fun y hy => ?_⟩
          rcases insRv_mem.1 hy with rfl | hy
          · exact .inl rfl
          · right
            refine ⟨Ne.symm (hxa y hy), ?_⟩
            rcases hall y hy with rfl | ⟨hne, hzy⟩
            · exact h
            · exact ord_trans (hxa w hw) (Ne.symm hne) (hxa y hy) h hzy
        · rw [if_neg h] at hz
          cases hz
          refine ⟨insRv_mem.2 (.inr hw), fun y hy => ?_⟩
          rcases insRv_mem.1 hy with rfl | hy
          · exact .inr ⟨hxa _ hw, ord_total (hxa _ hw) h⟩
          · exact hall y hy
theorem best_sort {l : List GOffer} (h : distO l) : (sortRv l).getLast? = bestO l := best_fold l [] none h (by simp) rfl (by simp)
def isPeerB (n : Int) : Bool := inR n 0 5
def goodO (o : GOffer) : Bool := isPeerB o.Peer && goodA o.Attrs
def adjO (q : Option GOffer) (x : GOffer) : Bool := match q with
  | none => true
  | some q => decide (q.Peer < x.Peer)
def offersG : Option GOffer → List GOffer → Bool
  | _, [] => true
  | q, x :: xs => goodO x && adjO q x && offersG (some x) xs
def goodOs (l : List GOffer) : Bool := offersG none l
def prevO (l : List GOffer) (i : Nat) : Option GOffer := if i = 0 then none else l[i - 1]?
theorem prevO_next (l : List GOffer) (i : Nat) (h : i < l.length) : prevO l (i + 1) = some l[i] := by simp [prevO, h]
def offersOK (l : List GOffer) : Prop := l.length ≤ 140737488351232 ∧ ∀ o ∈ l, attrOK o.Attrs
def goodRow (x : GRow) : Bool := goodPx x.Prefix && (decide (x.Offers.length ≠ 0) && goodOs x.Offers)
def adjW (q : Option GRow) (x : GRow) : Bool := match q with
  | none => true
  | some q => decide (cmpPx q.Prefix x.Prefix < 0)
def rowsG : Option GRow → List GRow → Bool
  | _, [] => true
  | q, x :: xs => goodRow x && adjW q x && rowsG (some x) xs
def prevW (l : List GRow) (i : Nat) : Option GRow := if i = 0 then none else l[i - 1]?
theorem prevW_next (l : List GRow) (i : Nat) (h : i < l.length) : prevW l (i + 1) = some l[i] := by simp [prevW, h]
def goodRib (r : GRib) : Bool := isAsnB r.Own && (decide (r.Rows.length ≤ 20) && rowsG none r.Rows)
def ribOK (r : GRib) : Prop := r.Rows.length ≤ 140737488351232 ∧ ∀ x ∈ r.Rows, offersOK x.Offers
theorem offers_pw : ∀ (l : List GOffer) (q : Option GOffer), offersG q l = true → (∀ z, q = some z → ∀ x ∈ l, z.Peer < x.Peer) ∧ l.Pairwise (fun a b => a.Peer < b.Peer) ∧ ∀ x ∈ l, goodO x = true
  | [], q, _ => ⟨by simp, List.Pairwise.nil, by simp⟩
  | x :: l, q, h => by
    simp only [offersG, Bool.and_eq_true] at h
    obtain ⟨⟨h1, h2⟩, h3⟩ := h
    obtain ⟨g1, g2, g3⟩ := offers_pw l (some x) h3
    refine ⟨?_, List.pairwise_cons.2 ⟨g1 x rfl, g2⟩, ?_⟩
    · rintro z rfl y hy
      simp only [adjO, decide_eq_true_eq] at h2
      rcases List.mem_cons.1 hy with rfl | hy
      · exact h2
      · have := g1 x rfl y hy
        omega
    · intro y hy
      rcases List.mem_cons.1 hy with rfl | hy
      · exact h1
      · exact g3 y hy
theorem offers_mk : ∀ (l : List GOffer) (q : Option GOffer), (∀ z, q = some z → ∀ x ∈ l, z.Peer < x.Peer) → l.Pairwise (fun a b => a.Peer < b.Peer) → (∀ x ∈ l, goodO x = true) → offersG q l = true
  | [], q, _, _, _ => rfl
  | x :: l, q, h1, h2, h3 => by
    obtain ⟨p1, p2⟩ := List.pairwise_cons.1 h2
    simp only [offersG, Bool.and_eq_true]
    refine ⟨⟨h3 x List.mem_cons_self, ?_⟩, offers_mk l (some x) (fun z hz y hy => by cases hz; exact p1 y hy) p2 fun y hy => h3 y (List.mem_cons_of_mem _ hy)⟩
    cases q with
    | none => rfl
    | some z => simp only [adjO, decide_eq_true_eq]; exact h1 z rfl x List.mem_cons_self
theorem goodOs_filter {l : List GOffer} (p : GOffer → Bool) (h : goodOs l = true) : goodOs (l.filter p) = true := by
  obtain ⟨_, h2, h3⟩ := offers_pw l none h
  exact offers_mk _ none (by simp) (h2.filter p) fun x hx => h3 x (List.mem_filter.1 hx).1
theorem pw_len : ∀ (l : List GOffer) (m : Int), l.Pairwise (fun a b => a.Peer < b.Peer) → (∀ x ∈ l, m ≤ x.Peer ∧ x.Peer ≤ 5) → m ≤ 6 → (l.length : Int) ≤ 6 - m
  | [], m, _, _, hm => by simp; omega
  | x :: l, m, h1, h2, hm => by
    obtain ⟨p1, p2⟩ := List.pairwise_cons.1 h1
    have hx := h2 x List.mem_cons_self
    have := pw_len l (x.Peer + 1) p2 (fun y hy => ⟨by have := p1 y hy; omega, (h2 y (List.mem_cons_of_mem _ hy)).2⟩) (by omega)
    simp only [List.length_cons]
    omega
theorem goodOs_len {l : List GOffer} (h : goodOs l = true) : l.length ≤ 6 := by
  obtain ⟨_, h2, h3⟩ := offers_pw l none h
  have := pw_len l 0 h2 (fun x hx => by
    have := h3 x hx
    simp only [goodO, isPeerB, inR, Bool.and_eq_true, decide_eq_true_eq] at this
    exact this.1) (by omega)
  omega
theorem goodOs_dist {l : List GOffer} (h : goodOs l = true) : distO l := by
  obtain ⟨_, h2, _⟩ := offers_pw l none h
  exact h2.imp fun h => by omega
theorem bestO_some : ∀ (l : List GOffer) (m : Option GOffer), (m ≠ none ∨ l ≠ []) → ∃ o, l.foldl (fun b x => match b with
      | none => some x
      | some y => if ordO x y < 0 then some x else some y) m = some o ∧ (o ∈ l ∨ m = some o)
  | [], m, h => by
    cases m with
    | none => simp at h
    | some y => exact ⟨y, rfl, .inr rfl⟩
  | x :: l, m, _ => by
    simp only [List.foldl_cons]
    cases m with
    | none =>
      obtain ⟨o, h1, h2⟩ := bestO_some l (some x) (.inl (by simp))
      refine ⟨o, h1, .inl ?_⟩
      rcases h2 with h2 | h2
      · exact List.mem_cons_of_mem _ h2
      · cases h2; exact List.mem_cons_self
    | some y =>
      simp only
      by_cases hxy : ordO x y < 0
      · rw [if_pos hxy]
        obtain ⟨o, h1, h2⟩ := bestO_some l (some x) (.inl (by simp))
        refine ⟨o, h1, .inl ?_⟩
        rcases h2 with h2 | h2
        · exact List.mem_cons_of_mem _ h2
        · cases h2; exact List.mem_cons_self
      · rw [if_neg hxy]
        obtain ⟨o, h1, h2⟩ := bestO_some l (some y) (.inl (by simp))
        refine ⟨o, h1, ?_⟩
        rcases h2 with h2 | h2
        · exact .inl (List.mem_cons_of_mem _ h2)
        · exact .inr h2
theorem bestO_mem {l : List GOffer} (h : l ≠ []) : ∃ o, bestO l = some o ∧ o ∈ l := by
  obtain ⟨o, h1, h2⟩ := bestO_some l none (.inr h)
  exact ⟨o, h1, h2.elim id (by simp)⟩
def restO (asn : Int) (l : List GOffer) : List GOffer := l.filter fun o => !hasI o.Attrs.Path asn
/-- The peer of the best one, where all is well. -/
def bstO (l : List GOffer) : Option GOffer := if goodOs l = true then bestO l else none
def bstBy (asn : Int) (l : List GOffer) : Option GOffer := if goodOs l = true ∧ isAsnB asn = true then bestO (restO asn l) else none
def peerOf (o : Option GOffer) : Int := match o with
  | some o => o.Peer
  | none => 0
theorem cmpPx_lt (p q : GPrefix) : cmpPx p q < 0 ↔ (p.Addr < q.Addr ∨ (p.Addr = q.Addr ∧ p.Len < q.Len)) := by
  unfold cmpPx cmpI
  by_cases h1 : p.Addr < q.Addr
  · simp [h1]
  · by_cases h2 : q.Addr < p.Addr
    · simp [h1, h2]; omega
    · have h3 : p.Addr = q.Addr := by omega
      by_cases h4 : p.Len < q.Len
      · simp [h3, h4]
      · by_cases h5 : q.Len < p.Len <;> simp [h3, h4, h5]
theorem px_ext (p q : GPrefix) : p = q ↔ p.Addr = q.Addr ∧ p.Len = q.Len := by
  obtain ⟨pa, pl⟩ := p
  obtain ⟨qa, ql⟩ := q
  simp
theorem cmpPx_eq (p q : GPrefix) : cmpPx p q = 0 ↔ p = q := by
  rw [px_ext]
  unfold cmpPx cmpI
  by_cases h1 : p.Addr < q.Addr
  · simp [h1]; omega
  · by_cases h2 : q.Addr < p.Addr
    · simp [h1, h2]; omega
    · have h3 : p.Addr = q.Addr := by omega
      by_cases h4 : p.Len < q.Len
      · simp [h3, h4]; omega
      · by_cases h5 : q.Len < p.Len
        · simp [h3, h4, h5]; omega
        · simp [h3, h4, h5]; omega
theorem ltP_trans {p q r : GPrefix} (h1 : cmpPx p q < 0) (h2 : cmpPx q r < 0) : cmpPx p r < 0 := by
  rw [cmpPx_lt] at *
  omega
theorem ltP_irr (p : GPrefix) : ¬ cmpPx p p < 0 := by rw [cmpPx_lt]; omega
def srtP (l : List GPrefix) : Prop := l.Pairwise (fun a b => cmpPx a b < 0)
end Go.V
