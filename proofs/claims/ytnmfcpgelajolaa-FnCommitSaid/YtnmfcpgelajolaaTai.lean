/- What functions of the seat's program do, each proved of its code, under the bounds that its theorem names. -/
import Derived.Test.YtnmfcpgelajolaaTah
set_option linter.all false
namespace Go.V
open Go.Proofs
set_option maxHeartbeats 1000000
set_option maxRecDepth 10000
set_option linter.unusedSimpArgs false
set_option linter.unusedVariables false
theorem ok_sGoodConfig (k : Nat) (l : List GLeaf) (hl : confOK l) : CallOK Try.prog 64 [.c (rd k l.length (l.flatMap (GLeaf.ci k)))] (.c (pb (goodC l))) [.c (rd k l.length (l.flatMap (GLeaf.ci k)))] := by
  obtain ⟨hll, hlx⟩ := hl
  refine okS (fn := Try.f64) [] h0 Try.func64 (by kernel_rfl) rfl Try.ntmps64 Try.results64 (by simp) ?_
  simp
  refine loopS [0, 5, 6, 7] [] (fun n st => ∃ (i : Nat), i + n = l.length ∧ goodG (prevC l i) (l.drop i) = goodG none l ∧ st = ⟨slOf 51 [(0, .t (rd k l.length (l.flatMap (GLeaf.ci k)))), (5, .t (rd k l.length (l.flatMap (GLeaf.ci k)))), (6, .t (pi l.length)), (7, .t (pi i))], ofL []⟩) l.length ?_ ?_
  · rintro Inv hI
    simp
    subst hI
    exact ⟨0, by omega, rfl, rfl⟩
  · rintro Inv hI n st ⟨i, hi, hg, rfl⟩
    refine ewr_sound (M := []) h0 ?_
    simp
    refine brn_app (fun a => ?_) (fun a => ?_)
    · simp at a
      have hx := hlx l[i] (List.getElem_mem a)
      obtain ⟨⟨hx1, hx2⟩, hx3⟩ := hx
      rw [drop_step _ i a, goodG] at hg
      have hd := fm_drop (GLeaf.ci k) 2 (fun _ => rfl) l i a
      have hlen := fm_len (GLeaf.ci k) 2 (fun _ => rfl) l
      have hlt : i * 2 < l.length * 2 := by omega
      have en : prevC l (i + 1) = some l[i] := prevC_next l i a
      simp [a, hd, hlen, hlt]
      refine Inv_intro (ok_l15Path k l[i].Path hx1 hx2) ?_
      simp
      cases c1 : isP l[i].Path with
      | false =>
        have hk : okLeaf l[i] = false := by simp [okLeaf, c1]
        rw [hk, Bool.false_and, Bool.false_and] at hg
        simp [goodC, ← hg]
      | true =>
        simp
        refine Inv_intro (ok_l15Word l[i].Value hx3) ?_
        simp
        cases c2 : isW l[i].Value with
        | false =>
          have hk : okLeaf l[i] = false := by simp [okLeaf, c2]
          rw [hk, Bool.false_and, Bool.false_and] at hg
          simp [goodC, ← hg]
        | true =>
          have hk : okLeaf l[i] = true := by simp [okLeaf, c1, c2]
          rw [hk, Bool.true_and] at hg
          simp
          by_cases c0 : i = 0
          · have e0 : ¬ 0 < i := by omega
            have ep : prevC l i = none := by simp [prevC, c0]
            rw [ep, adjC, Bool.true_and] at hg
            refine drawP (tabEnv [] _) [⟨[], allD 51, true⟩, ⟨[], allD 51, true⟩, ⟨[], allD 51, true⟩, ⟨[], allD 51, true⟩, ⟨[], allD 51, true⟩, ⟨[], allD 51, true⟩, ⟨[], allD 51, true⟩, ⟨[], allD 51, true⟩, ⟨[], allD 51, true⟩, ⟨[.op 3 3 0], allD 51, true⟩, ⟨[.op 3 3 0], allD 51, true⟩, ⟨[], allD 51, false⟩, ⟨[], allD 51, true⟩, ⟨[], allD 51, true⟩, ⟨[], allD 51, true⟩, ⟨[], allD 51, true⟩, ⟨[], allD 51, true⟩, ⟨[], allD 51, true⟩, ⟨[], allD 51, true⟩, ⟨[], allD 51, true⟩, ⟨[.op 3 3 0], allD 51, true⟩, ⟨[.op 3 3 0], allD 51, true⟩, ⟨[], allD 51, false⟩, ⟨[], allD 51, true⟩, ⟨[], allD 51, true⟩] h0 hm (tabEnv_ok tab_nil) (by kernel_rfl) (by kernel_rfl) ?_
            simp [e0]
            subst hI
            exact Less_mk (n - 1) (by omega) ⟨i + 1, by omega, by rw [en]; exact hg, by rw [wrNext i (by omega)]⟩
          · obtain ⟨j, hj⟩ : ∃ j, i = j + 1 := ⟨i - 1, by omega⟩
            have aj : j < l.length := by omega
            have ep : prevC l i = some l[j] := by subst hj; exact prevC_next l j aj
            obtain ⟨⟨hy1, hy2⟩, hy3⟩ := hlx l[j] (List.getElem_mem aj)
            have hdj := fm_drop (GLeaf.ci k) 2 (fun _ => rfl) l j aj
            have hltj : j * 2 < l.length * 2 := by omega
            have hw : IntKind.wrap .i64 ((i : Int) - 1) = j := (wrap64 (by omega) (by omega)).trans (by omega)
            have e0 : 0 < i := by omega
            rw [ep, adjC] at hg
            refine drawP (tabEnv [] _) [⟨[], allD 51, true⟩, ⟨[], allD 51, true⟩, ⟨[], allD 51, true⟩, ⟨[], allD 51, true⟩, ⟨[], allD 51, true⟩, ⟨[], allD 51, true⟩, ⟨[], allD 51, true⟩, ⟨[], allD 51, true⟩, ⟨[], allD 51, true⟩, ⟨[.op 3 3 0], allD 51, true⟩, ⟨[.op 3 3 0], allD 51, true⟩, ⟨[], allD 51, false⟩, ⟨[], allD 51, true⟩, ⟨[], allD 51, true⟩, ⟨[], allD 51, true⟩, ⟨[], allD 51, true⟩, ⟨[], allD 51, true⟩, ⟨[], allD 51, true⟩, ⟨[], allD 51, true⟩, ⟨[], allD 51, true⟩, ⟨[.op 3 3 0], allD 51, true⟩, ⟨[.op 3 3 0], allD 51, true⟩, ⟨[], allD 51, false⟩, ⟨[], allD 51, true⟩, ⟨[], allD 51, true⟩] h0 hm (tabEnv_ok (tab_cons (ok_l15Less k k l[j].Path l[i].Path hy1 hx1) (tab_cons (ok_l15Begins k k l[j].Path l[i].Path hy1 hx1) tab_nil))) (by kernel_rfl) (by kernel_rfl) ?_
            cases c3 : lessP l[j].Path l[i].Path with
            | false =>
              rw [c3, Bool.false_and, Bool.false_and] at hg
              simp [c3, e0, hw, aj, hdj, hlen, hltj, goodC, ← hg]
            | true =>
              cases c4 : begP l[j].Path l[i].Path with
              | true =>
                rw [c3, c4] at hg
                have hg' : false = goodG none l := hg
                simp [c3, c4, e0, hw, aj, hdj, hlen, hltj, goodC, ← hg']
              | false =>
                rw [c3, c4] at hg
                have hg' : goodG (some l[i]) (l.drop (i + 1)) = goodG none l := hg
                simp [c3, c4, e0, hw, aj, hdj, hlen, hltj]
                subst hI
                exact Less_mk (n - 1) (by omega) ⟨i + 1, by omega, by rw [en]; exact hg', by rw [wrNext i (by omega)]⟩
    · simp at a
      rw [List.drop_of_length_le (by omega)] at hg
      have hg' : true = goodG none l := by rw [← hg]; cases prevC l i <;> rfl
      simp [goodC, ← hg']
      omega
theorem strs_ok {p : List ByteArray} (h : wt_StringS p ≤ 1048576) : strsOK p := by
  have := len_wt_StringS p
  refine ⟨by omega, fun s hs => ?_⟩
  have := mem_wt_StringS hs
  omega
theorem leaf_ok {x : GLeaf} (h : GLeaf.wt x ≤ 1048576) : leafOK x := by
  unfold GLeaf.wt at h
  exact ⟨strs_ok (by omega), by omega⟩
theorem conf_ok {l : List GLeaf} (h : wt_LeafS l ≤ 1048576) : confOK l := by
  have := len_wt_LeafS l
  refine ⟨by omega, fun x hx => leaf_ok ?_⟩
  have := mem_wt_LeafS hx
  omega
theorem conf_len {l : List GLeaf} (h : wt_LeafS l ≤ 1048576) : l.length ≤ 1048576 ∧ ∀ x ∈ l, x.Path.length ≤ 1048576 := by
  have := len_wt_LeafS l
  refine ⟨by omega, fun x hx => ?_⟩
  have := mem_wt_LeafS hx
  have := len_wt_StringS x.Path
  unfold GLeaf.wt at *
  omega
def rGoodConfig (v0 : List GLeaf) : Bool := goodC v0
theorem law_iGoodConfig (v0 : List GLeaf) (h0 : wt_LeafS v0 ≤ 1048576) : CallOK Try.prog 21 [.c (rd 0 v0.length (v0.flatMap (GLeaf.ci 0)))] (.c (pb (rGoodConfig v0))) [.c (rd 0 v0.length (v0.flatMap (GLeaf.ci 0)))] := ok_iGoodConfig 0 v0 (conf_ok h0)
theorem law_sGoodConfig (v0 : List GLeaf) (h0 : wt_LeafS v0 ≤ 1048576) : CallOK Try.prog 64 [.c (rd 0 v0.length (v0.flatMap (GLeaf.ci 0)))] (.c (pb (rGoodConfig v0))) [.c (rd 0 v0.length (v0.flatMap (GLeaf.ci 0)))] := ok_sGoodConfig 0 v0 (conf_ok h0)
theorem store_ok {s : GStore} (h : GStore.wt s ≤ 1048576) : storeOK s := by
  unfold GStore.wt at h
  exact ⟨conf_ok (by omega), conf_ok (by omega), by have := len_wt_LeafSS s.History; omega, fun l hl => conf_ok (by have := mem_wt_LeafSS hl; omega)⟩
def rGoodStore (v0 : GStore) : Bool := goodS v0
theorem law_iGoodStore (v0 : GStore) (h0 : GStore.wt v0 ≤ 1048576) : CallOK Try.prog 11 [.agg (GStore.ci 0 v0)] (.c (pb (rGoodStore v0))) [.agg (GStore.ci 0 v0)] := ok_iGoodStore 0 v0 (store_ok h0)
theorem idxOf_cases {α : Type} (p : α → Bool) (xs : List α) : (idxOf p xs = -1 ∧ xs.find? p = none) ∨ ∃ (i : Nat) (h : i < xs.length), idxOf p xs = i ∧ xs.find? p = some xs[i] := by
  unfold idxOf
  cases h : xs.findIdx? p with
  | none =>
    rw [List.findIdx?_eq_none_iff] at h
    exact .inl ⟨rfl, List.find?_eq_none.2 fun x hx => by simp [h x hx]⟩
  | some i =>
    rw [List.findIdx?_eq_some_iff_getElem] at h
    obtain ⟨h1, h2, h3⟩ := h
    exact .inr ⟨i, h1, rfl, List.find?_eq_some_iff_getElem.2 ⟨h2, i, h1, rfl, fun j hj => by simpa using h3 j hj⟩⟩
def atP (p : List ByteArray) (x : GLeaf) : Bool := decide (x.Path = p)
theorem fmap_snoc {α β : Type} (f : α → Bool) (g : α → β) (l : List α) (i : Nat) (h : i < l.length) : ((l.take (i + 1)).filter f).map g = ((l.take i).filter f).map g ++ (if f l[i] = true then [g l[i]] else []) := by
  rw [take_step l i h, List.filter_append, List.map_append]
  congr 1
  by_cases hb : f l[i] = true <;> simp [hb]
theorem fmap_len {α β : Type} (f : α → Bool) (g : α → β) (l : List α) : ((l.filter f).map g).length ≤ l.length := by
  rw [List.length_map]
  exact List.length_filter_le _ _
def goneC (b : List GLeaf) (x : GLeaf) : Bool := (b.find? (atP x.Path)).isNone
def delCo (x : GLeaf) : GCommand := ⟨false, x.Path, ByteArray.empty⟩
def freshC (a : List GLeaf) (x : GLeaf) : Bool := match a.find? (atP x.Path) with
  | some y => !decide (y.Value = x.Value)
  | none => true
def setCo (x : GLeaf) : GCommand := ⟨true, x.Path, x.Value⟩
def diffL (a b : List GLeaf) : List GCommand := (a.filter (goneC b)).map delCo ++ (b.filter (freshC a)).map setCo
def hasV (l : List GLeaf) (p : List ByteArray) : ByteArray := match l.find? (atP p) with
  | some x => x.Value
  | none => ⟨#[]⟩
theorem goodG_all : ∀ (q : Option GLeaf) (l : List GLeaf), goodG q l = true → ∀ x ∈ l, okLeaf x = true
  | _, [], _, _, hx => by simp at hx
  | q, y :: l, h, x, hx => by
    simp only [goodG, Bool.and_eq_true] at h
    rcases List.mem_cons.1 hx with rfl | hx
    · exact h.1.1
    · exact goodG_all _ l h.2 x hx
theorem goodC_all {l : List GLeaf} (h : goodC l = true) : ∀ x ∈ l, okLeaf x = true := by
  simp only [goodC, Bool.and_eq_true] at h
  exact goodG_all _ l h.1
theorem isW_ne {s : ByteArray} (h : isW s = true) : s ≠ ⟨#[]⟩ := by
  rintro rfl
  have : isW ⟨#[]⟩ = false := rfl
  rw [this] at h
  cases h
theorem okLeaf_val {x : GLeaf} (h : okLeaf x = true) : x.Value ≠ ⟨#[]⟩ := by
  simp only [okLeaf, Bool.and_eq_true] at h
  exact isW_ne h.2
theorem okLeaf_path {x : GLeaf} (h : okLeaf x = true) : x.Path ≠ [] := by
  simp only [okLeaf, isP, Bool.and_eq_true, decide_eq_true_eq] at h
  intro e
  rw [e] at h
  have := h.1.1.1
  simp at this
theorem hasV_gone {b : List GLeaf} (hb : goodC b = true) (x : GLeaf) : (hasV b x.Path = ⟨#[]⟩) = (goneC b x = true) := by
  unfold hasV goneC
  cases h : b.find? (atP x.Path) with
  | none => simp
  | some y =>
    have := okLeaf_val (goodC_all hb y (List.mem_of_find?_eq_some h))
    simp [this]
theorem hasV_fresh {a : List GLeaf} {x : GLeaf} (hx : x.Value ≠ ⟨#[]⟩) : (hasV a x.Path = x.Value) = (freshC a x = false) := by
  unfold hasV freshC
  cases h : a.find? (atP x.Path) with
  | none =>
    simp
    exact fun e => hx e.symm
  | some y => simp
theorem delL_snoc (p : List ByteArray) (l : List GLeaf) (i : Nat) (h : i < l.length) : delL p (l.take (i + 1)) = delL p (l.take i) ++ (if begP p l[i].Path = true then [] else [l[i]]) := by
  unfold delL
  rw [take_step l i h, List.filter_append]
  by_cases hb : begP p l[i].Path = true <;> simp [hb, begL]
theorem ok_sDeleteAt (k k' : Nat) (l : List GLeaf) (p : List ByteArray) (hl : l.length ≤ 1048576) (hx : ∀ x ∈ l, x.Path.length ≤ 1048576) (hlo : confOK l) (hp : strsOK p) : CallOK Try.prog 39 [.c (rd k l.length (l.flatMap (GLeaf.ci k))), .c (rd k' p.length (p.map ps))] (.tup [.c (.sl 0 58 (rDeleteAt l p).1.length ((rDeleteAt l p).1.flatMap GLeaf.co)), .c (pb (rDeleteAt l p).2)]) [.c (rd k l.length (l.flatMap (GLeaf.ci k))), .c (rd k' p.length (p.map ps))] := by
  refine okS (fn := Try.f39) [] h0 Try.func39 (by kernel_rfl) rfl Try.ntmps39 Try.results39 (by simp) ?_
  simp
  refine Inv_intro (ok_sGoodConfig k l hlo) ?_
  simp
  cases c1 : goodC l with
  | false => simp [rDeleteAt, c1]
  | true =>
    simp
    refine Inv_intro (ok_l15Path k' p hp.1 hp.2) ?_
    simp
    cases c2 : isP p with
    | false => simp [rDeleteAt, c2]
    | true =>
      simp
      refine Inv_intro (ok_l15Own k l hl hx) ?_
      have hll := delL_len p l
      have er : rDeleteAt l p = if (delL p l).length = l.length then ([], false) else (delL p l, true) := by
        unfold rDeleteAt
        by_cases h : (delL p l).length = l.length <;> simp [c1, c2, h]
      rw [er]
      simp
      refine ewp_nil 6 (.op 8 3 0) 58 (by decide) rfl rfl rfl ?_
      refine loopS [0, 1, 6, 18, 19, 20] [.op 8 3 0, .op 4 1 0] (fun n st => ∃ (i : Nat) (C : List PT), i + n = l.length ∧ C.length = l.length * 2 ∧ C.drop (i * 2) = (l.drop i).flatMap GLeaf.co ∧ st = ⟨slOf 40 [(0, .t (rd k l.length (l.flatMap (GLeaf.ci k)))), (1, .t (rd k' p.length (p.map ps))), (6, .ref ⟨.op 8 3 0, []⟩ 0 (delL p (l.take i)).length), (18, .ref ⟨.op 4 1 0, []⟩ 0 l.length), (19, .t (pi l.length)), (20, .t (pi i))], ofL [(.op 8 3 0, .sl 0 58 (delL p (l.take i)).length ((delL p (l.take i)).flatMap GLeaf.co)), (.op 4 1 0, .sl 0 58 l.length C)]⟩) l.length ?_ ?_
      · rintro Inv hI
        simp
        subst hI
        exact ⟨0, l.flatMap GLeaf.co, by omega, fm_len GLeaf.co 2 (fun _ => rfl) l, rfl, rfl⟩
      · rintro Inv hI n st ⟨i, C, hi, hCl, hCd0, rfl⟩
        have hO : (delL p (l.take i)).length ≤ i := Nat.le_trans (delL_len _ _) (by simp; omega)
        have hS := delL_snoc p l i
        have hfin : i = l.length → delL p (l.take i) = delL p l := by rintro rfl; rw [List.take_length]
        generalize hOe : delL p (l.take i) = O at hO hS hfin ⊢
        have hA := fm_len GLeaf.co 2 (fun _ => rfl) O
        have hAm : ∀ y, (O ++ [y]).flatMap GLeaf.co = O.flatMap GLeaf.co ++ GLeaf.co y := fun y => by simp
        refine ewr_sound (M := []) h0 ?_
        simp
        refine brn_app (fun a => ?_) (fun a => ?_)
        · simp at a
          have hS' := hS a
          have hCd : C.drop (i * 2) = .sl 0 9 l[i].Path.length (l[i].Path.map ps) :: ps l[i].Value :: (l.drop (i + 1)).flatMap GLeaf.co := by
            rw [hCd0, drop_step _ i a, List.flatMap_cons]
            rfl
          have hCg : ∀ h : i * 2 < C.length, C[i * 2] = .sl 0 9 l[i].Path.length (l[i].Path.map ps) := by
            intro h
            rw [List.drop_eq_getElem_cons h] at hCd
            exact (List.cons.inj hCd).1
          have hCn : C.drop ((i + 1) * 2) = (l.drop (i + 1)).flatMap GLeaf.co := by
            have : (i + 1) * 2 = i * 2 + 2 := by omega
            rw [this, ← List.drop_drop, hCd]
            rfl
          have hb : i * 2 + 2 ≤ l.length * 2 := by omega
          have hp1 := hx _ (List.getElem_mem a)
          simp [a, hCl, hCd, hCg, hb]
          refine Inv_intro (ok_l15Begins k' 0 p l[i].Path hp.1 (by omega)) ?_
          simp
          refine brn_app (fun b => ?_) (fun b => ?_)
          · simp at b
            rw [if_neg (by simp [b])] at hS'
            generalize hAe : O.flatMap GLeaf.co = A at hA hAm ⊢
            have ht : A.take (O.length * 2) = A := List.take_of_length_le (by omega)
            have hb1 : (O.length + 1) * 40 ≤ 140737488355328 := by omega
            have hb2 : O.length + 1 ≤ 9223372036854775807 := by omega
            simp [hA, ht, hb1, hb2]
            subst hI
            refine Less_mk (n - 1) (by omega) ⟨i + 1, C.set (i * 2) .hole, by omega, by rw [List.length_set]; exact hCl, by rw [set_drop C _ _ _ (by omega), hCn], ?_⟩
            rw [hS', wrNext i (by omega), hAm, List.length_append]
            rfl
          · simp at b
            rw [if_pos b, List.append_nil] at hS'
            simp
            subst hI
            refine Less_mk (n - 1) (by omega) ⟨i + 1, C.set (i * 2) .hole, by omega, by rw [List.length_set]; exact hCl, by rw [set_drop C _ _ _ (by omega), hCn], ?_⟩
            rw [hS', wrNext i (by omega)]
        · simp at a
          have hin : i = l.length := by omega
          have hfin := hfin hin
          subst hfin
          simp
          refine brn_app (fun b => ?_) (fun b => ?_)
          · simp at b
            have h : (delL p l).length = l.length := by omega
            simp [h]
          · simp at b
            have h : ¬ (delL p l).length = l.length := by omega
            have ht : ((delL p l).flatMap GLeaf.co).take ((delL p l).length * 2) = (delL p l).flatMap GLeaf.co := List.take_of_length_le (by omega)
            simp [h, hA, ht]
theorem ofL_mv (n : Nat) (l : List (Id × PT)) (i : Id) (t : PT) (h : ((l.take n).all fun p => !decide (p.1 = i)) = true) : ofL ((i, t) :: l) = ofL (l.take n ++ (i, t) :: l.drop n) := by
  induction n generalizing l with
  | zero => rfl
  | succ n ih => cases l with
    | nil => rfl
    | cons p l =>
      obtain ⟨j, y⟩ := p
      simp at h
      have ih := ih l (by simpa using h.2)
      show ofL ((i, t) :: (j, y) :: l) = ofL ((j, y) :: (l.take n ++ (i, t) :: l.drop n))
      have e : ofL ((j, y) :: (l.take n ++ (i, t) :: l.drop n)) = ofL ((j, y) :: (i, t) :: l) := by
        funext q
        simp only [ofL]
        rw [← ih]
        rfl
      rw [e]
      funext q
      by_cases c : q = i
      · subst c
        have h1 := h.1
        simp [ofL, Ne.symm h1]
      · simp [ofL, c]
theorem ofL_sw2 {a b c : Id} {x y z : PT} (h : b ≠ c) : ofL [(a, x), (c, z), (b, y)] = ofL [(a, x), (b, y), (c, z)] := by
  funext q
  by_cases e : q = c
  · subst e
    simp [ofL, h.symm]
  · simp [ofL, e]
theorem ok_l15Put (m : List GLeaf) (x : GLeaf) (hm' : confOK m) (hl : m.length ≤ 1048576) (hx : x.Path.length ≤ 140737488351232) : CallOK Try.prog 66 [.c (.sl 0 58 m.length (m.flatMap GLeaf.co)), .agg x.co] (.c (.sl 0 58 (putL x.Path x.Value m).length ((putL x.Path x.Value m).flatMap GLeaf.co))) [.c (.sl 0 58 m.length ((m.flatMap GLeaf.co).map PT.hollow)), .agg [.hole, ps x.Value]] := by
  refine okS (fn := Try.f66) [] h0 Try.func66 (by kernel_rfl) rfl Try.ntmps66 Try.results66 (by simp) ?_
  simp
  refine loopS [0, 3, 5] [.arg 0 0, .op 0 0 0] (fun n st => ∃ (k : Nat), k + n = m.length ∧ (∀ (j : Nat) (hj : j < k) (hj' : j < m.length), cmpP m[j].Path x.Path < 0) ∧ st = ⟨slOf 37 [(0, .ref ⟨.arg 0 0, []⟩ 0 m.length), (3, .ptr ⟨.op 0 0 0, []⟩ 0), (5, .t (pi k))], ofL [(.arg 0 0, .sl 0 58 m.length (m.flatMap GLeaf.co)), (.arg 1 0, .hole), (.op 0 0 0, .sl 0 58 1 x.co)]⟩) m.length ?_ ?_
  · rintro Inv hI
    simp
    subst hI
    exact ⟨0, by omega, by intro j hj; omega, rfl⟩
  · rintro Inv hI n st ⟨k, hk, hall, rfl⟩
    have hml := hm'.1
    have hat : ∀ (h : k < m.length), 0 ≤ cmpP m[k].Path x.Path → atI x.Path m = k := fun h h2 => bsI_eq _ m k (by omega) hall fun _ => h2
    have hat2 : k = m.length → atI x.Path m = k := fun h => bsI_eq _ m k (by omega) hall fun h2 => by omega
    have hcm := fm_len GLeaf.co 2 (fun _ => rfl) m
    refine ewr_sound (M := []) h0 ?_
    simp
    by_cases c1 : k < m.length
    · have c1' : (k : Int) < m.length := by omega
      have hd := fm_drop GLeaf.co 2 (fun _ => rfl) m k c1
      have hlt : k * 2 < m.length * 2 := by omega
      have hCg : ∀ h : k * 2 < (m.flatMap GLeaf.co).length, (m.flatMap GLeaf.co)[k * 2] = .sl 0 9 m[k].Path.length (m[k].Path.map ps) := by
        intro h
        have hd2 := hd
        rw [List.drop_eq_getElem_cons h] at hd2
        exact (List.cons.inj hd2).1
      refine drawP (tabEnv [] _) [⟨[], allD 37, true⟩, ⟨[.arg 0 0], allD 37, true⟩, ⟨[.arg 0 0], allD 37, true⟩, ⟨[], allD 37, true⟩, ⟨[], allD 37, true⟩, ⟨[.arg 0 0], allD 37, true⟩, ⟨[], allD 37, true⟩, ⟨[.arg 0 0], allD 37, true⟩, ⟨[.arg 0 0], allD 37, true⟩, ⟨[.arg 0 0], allD 37, true⟩, ⟨[.op 0 0 0], allD 37, true⟩, ⟨[.op 0 0 0], allD 37, true⟩, ⟨[.arg 0 0, .op 0 0 0], [7, 8, 9, 10, 11, 12, 13, 14, 15, 16, 17, 18, 19, 20], false⟩, ⟨[], allD 37, true⟩] h0 hm (tabEnv_ok (tab_cons (ok_l15Less 0 0 m[k].Path x.Path (hm'.2 _ (List.getElem_mem c1)).1.1 hx) tab_nil)) (by kernel_rfl) (by kernel_rfl) ?_
      simp [c1, c1', hd, hcm, hlt, hCg]
      cases c2 : lessP m[k].Path x.Path with
      | true =>
        have h2 := (cmpP_neg _ _).2 c2
        simp
        subst hI
        refine Less_mk (n - 1) (by omega) ⟨k + 1, by omega, ?_, ?_⟩
        · intro j hj hj'
          rcases Nat.lt_or_ge j k with h' | h'
          · exact hall j h' hj'
          · have : j = k := by omega
            subst this
            exact h2
        · rw [wrNext k (by omega), ofL_sw2 (by decide)]
          rfl
      | false =>
        have h2 : 0 ≤ cmpP m[k].Path x.Path := Int.not_lt.1 fun hc => by rw [(cmpP_neg _ _).1 hc] at c2; cases c2
        have hat := hat c1 h2
        have hkl : k ≤ m.length := by omega
        have hpc := putL_co x.Path x.Value m
        have hpl := putL_len x.Path x.Value m
        rw [hat] at hpc
        rw [hpc, hpl]
        generalize m.flatMap GLeaf.co = F at *
        have hb1 : k * 2 ≤ m.length * 2 := by omega
        have hb2 : k * 40 ≤ 140737488355328 := by omega
        have hb3 : k ≤ 9223372036854775807 := by omega
        have hb4 : (k + 1) * 40 ≤ 140737488355328 := by omega
        have hb5 : k + 1 ≤ 9223372036854775807 := by omega
        have hb6 : (m.length + 1) * 40 ≤ 140737488355328 := by omega
        have hb7 : m.length ≤ 9223372036854775806 := by omega
        have hTl : (F.take (k * 2)).length = k * 2 := by rw [List.length_take]; omega
        have hmk : ¬ m.length - k = 0 := by omega
        by_cases hk0 : k = 0
        · subst hk0
          have hmn : ¬ m = [] := by rintro rfl; simp at c1
          have hd1 : m.length * 2 ≤ F.length := by omega
          have hd2 : (1 + m.length) * 40 ≤ 140737488355328 := by omega
          have hd3 : 1 + m.length ≤ 9223372036854775807 := by omega
          have hTF : F.take (m.length * 2) = F := List.take_of_length_le (by omega)
          have hHF : (F.map PT.hollow).take (m.length * 2) ++ F.drop (m.length * 2) = F.map PT.hollow := by rw [List.take_of_length_le (by rw [List.length_map]; omega), List.drop_of_length_le (by omega), List.append_nil]
          have hnn : 1 + m.length = m.length + 1 := by omega
          have hD0 : F.drop (m.length * 2) = [] := List.drop_of_length_le (by omega)
          have hr1 : (m.length + 1) * 2 ≤ m.length * 2 + 1 + 1 := by omega
          have hr2 : ∀ a b : PT, List.take ((m.length + 1) * 2) (a :: b :: F) = a :: b :: F := fun a b => List.take_of_length_le (by simp only [List.length_cons]; omega)
          simp [hkl, hmn, hd1, hd2, hd3, hTF, hHF, hnn, hb6, hb7, hD0, hcm, hr1, hr2]
        · have he1 : k * 2 + (m.length - k) * 2 ≤ m.length * 2 := by omega
          have he2 : (k + 1 + (m.length - k)) * 40 ≤ 140737488355328 := by omega
          have he3 : k + 1 + (m.length - k) ≤ 9223372036854775807 := by omega
          have hTT : (F.take (k * 2)).take (k * 2) = F.take (k * 2) := List.take_of_length_le (by omega)
          have hDD : (F.drop (k * 2)).take ((m.length - k) * 2) = F.drop (k * 2) := List.take_of_length_le (by rw [List.length_drop]; omega)
          have hHF : (F.map PT.hollow).take (k * 2) ++ (((F.map PT.hollow).drop (k * 2)).take ((m.length - k) * 2) ++ F.drop (k * 2 + (m.length - k) * 2)) = F.map PT.hollow := by rw [List.drop_of_length_le (l := F) (by omega), List.append_nil, List.take_of_length_le (l := (F.map PT.hollow).drop (k * 2)) (by rw [List.length_drop, List.length_map]; omega), List.take_append_drop]
          have hnn : k + 1 + (m.length - k) = m.length + 1 := by omega
          have hD0 : F.drop (k * 2 + (m.length - k) * 2) = [] := List.drop_of_length_le (by omega)
          have hr1 : (m.length + 1) * 2 ≤ k * 2 + (m.length * 2 - k * 2 + 1 + 1) := by omega
          have hr2 : ∀ a b : PT, List.take ((m.length + 1) * 2) (F.take (k * 2) ++ a :: b :: F.drop (k * 2)) = F.take (k * 2) ++ a :: b :: F.drop (k * 2) := fun a b => List.take_of_length_le (by simp only [List.length_append, List.length_cons, List.length_drop, hTl]; omega)
          simp [hkl, hk0, hb1, hb2, hb3, hb4, hb5, hb6, hb7, hcm, hTl, hmk, he1, he2, he3, hTT, hDD, hHF, hnn, hD0, hr1, hr2]
    · have c1' : ¬ (k : Int) < m.length := by omega
      refine drawP (tabEnv [] _) [⟨[], allD 37, true⟩, ⟨[.arg 0 0], allD 37, true⟩, ⟨[.arg 0 0], allD 37, true⟩, ⟨[], allD 37, true⟩, ⟨[], allD 37, true⟩, ⟨[.arg 0 0], allD 37, true⟩, ⟨[], allD 37, true⟩, ⟨[.arg 0 0], allD 37, true⟩, ⟨[.arg 0 0], allD 37, true⟩, ⟨[.arg 0 0], allD 37, true⟩, ⟨[.op 0 0 0], allD 37, true⟩, ⟨[.op 0 0 0], allD 37, true⟩, ⟨[.arg 0 0, .op 0 0 0], [7, 8, 9, 10, 11, 12, 13, 14, 15, 16, 17, 18, 19, 20], false⟩, ⟨[], allD 37, true⟩] h0 hm (tabEnv_ok tab_nil) (by kernel_rfl) (by kernel_rfl) ?_
      simp [c1, c1']
      have hkn : k = m.length := by omega
      have hat := hat2 hkn
      have hpc := putL_co x.Path x.Value m
      have hpl := putL_len x.Path x.Value m
      rw [hat] at hpc
      rw [hpc, hpl]
      subst hkn
      generalize m.flatMap GLeaf.co = F at *
      have hb2 : m.length * 40 ≤ 140737488355328 := by omega
      have hb3 : m.length ≤ 9223372036854775807 := by omega
      have hb6 : (m.length + 1) * 40 ≤ 140737488355328 := by omega
      have hb7 : m.length ≤ 9223372036854775806 := by omega
      have hTF : F.take (m.length * 2) = F := List.take_of_length_le (by omega)
      have hD0 : F.drop (m.length * 2) = [] := List.drop_of_length_le (by omega)
      have hHT : (F.map PT.hollow).take (m.length * 2) = F.map PT.hollow := List.take_of_length_le (by rw [List.length_map]; omega)
      by_cases hk0 : m = []
      · subst hk0
        have hF0 : F = [] := List.length_eq_zero_iff.1 (by simpa using hcm)
        subst hF0
        simp
      · have hk1 : ¬ m.length = 0 := fun e => hk0 (List.length_eq_zero_iff.1 e)
        simp [hk0, hk1, hb2, hb3, hb6, hb7, hcm, hTF, hD0, hHT]
theorem keptL_len (p : List ByteArray) (l : List GLeaf) : (keptL p l).length ≤ l.length := List.length_filter_le _ _
theorem keptL_snoc (p : List ByteArray) (l : List GLeaf) (i : Nat) (h : i < l.length) : keptL p (l.take (i + 1)) = keptL p (l.take i) ++ (if clashB p l[i] = true then [] else [l[i]]) := by
  unfold keptL
  rw [take_step l i h, List.filter_append]
  by_cases hb : clashB p l[i] = true <;> simp [hb]
theorem ok_sSetAt (k k' : Nat) (l : List GLeaf) (p : List ByteArray) (v : ByteArray) (hl : l.length ≤ 1048576) (hx : ∀ x ∈ l, x.Path.length ≤ 1048576) (hlo : confOK l) (hp : strsOK p) (hp1 : p.length ≤ 1048576) (hv : v.size ≤ 140737488355328) : CallOK Try.prog 38 [.c (rd k l.length (l.flatMap (GLeaf.ci k))), .c (rd k' p.length (p.map ps)), .c (ps v)] (.tup [.c (.sl 0 58 (rSetAt l p v).1.length ((rSetAt l p v).1.flatMap GLeaf.co)), .c (pb (rSetAt l p v).2)]) [.c (rd k l.length (l.flatMap (GLeaf.ci k))), .c (rd k' p.length (p.map ps)), .c (ps v)] := by
  refine okS (fn := Try.f38) [(66, [2,2])] h0 Try.func38 (by kernel_rfl) rfl Try.ntmps38 Try.results38 (by simp) ?_
  simp
  refine Inv_intro (ok_sGoodConfig k l hlo) ?_
  simp
  cases c1 : goodC l with
  | false => simp [rSetAt, c1]
  | true =>
    simp
    refine Inv_intro (ok_l15Path k' p hp.1 hp.2) ?_
    simp
    cases c2 : isP p with
    | false => simp [rSetAt, c2]
    | true =>
      simp
      refine Inv_intro (ok_l15Word v hv) ?_
      simp
      cases c3 : isW v with
      | false => simp [rSetAt, c3]
      | true =>
        simp
        refine Inv_intro (ok_l15Own k l hl hx) ?_
        simp
        refine ewp_nil 8 (.op 8 3 0) 58 (by decide) rfl rfl rfl ?_
        refine loopS [1, 2, 8, 25, 26, 27] [.op 8 3 0, .op 4 1 0] (fun n st => ∃ (i : Nat) (C : List PT), i + n = l.length ∧ C.length = l.length * 2 ∧ C.drop (i * 2) = (l.drop i).flatMap GLeaf.co ∧ st = ⟨slOf 59 [(1, .t (rd k' p.length (p.map ps))), (2, .t (ps v)), (8, .ref ⟨.op 8 3 0, []⟩ 0 (keptL p (l.take i)).length), (25, .ref ⟨.op 4 1 0, []⟩ 0 l.length), (26, .t (pi l.length)), (27, .t (pi i))], ofL [(.op 8 3 0, .sl 0 58 (keptL p (l.take i)).length ((keptL p (l.take i)).flatMap GLeaf.co)), (.op 4 1 0, .sl 0 58 l.length C)]⟩) l.length ?_ ?_
        · rintro Inv hI
          simp
          subst hI
          exact ⟨0, l.flatMap GLeaf.co, by omega, fm_len GLeaf.co 2 (fun _ => rfl) l, rfl, rfl⟩
        · rintro Inv hI n st ⟨i, C, hi, hCl, hCd0, rfl⟩
          have hO : (keptL p (l.take i)).length ≤ i := Nat.le_trans (keptL_len _ _) (by simp; omega)
          have hS := keptL_snoc p l i
          have hfin : i = l.length → keptL p (l.take i) = keptL p l := by rintro rfl; rw [List.take_length]
          generalize hOe : keptL p (l.take i) = O at hO hS hfin ⊢
          have hA := fm_len GLeaf.co 2 (fun _ => rfl) O
          have hAm : ∀ y, (O ++ [y]).flatMap GLeaf.co = O.flatMap GLeaf.co ++ GLeaf.co y := fun y => by simp
          refine ewr_sound (M := [(66, [2, 2])]) h0 ?_
          simp
          refine brn_app (fun a => ?_) (fun a => ?_)
          · simp at a
            have hS' := hS a
            have hCd : C.drop (i * 2) = .sl 0 9 l[i].Path.length (l[i].Path.map ps) :: ps l[i].Value :: (l.drop (i + 1)).flatMap GLeaf.co := by
              rw [hCd0, drop_step _ i a, List.flatMap_cons]
              rfl
            have hCg : ∀ h : i * 2 < C.length, C[i * 2] = .sl 0 9 l[i].Path.length (l[i].Path.map ps) := by
              intro h
              rw [List.drop_eq_getElem_cons h] at hCd
              exact (List.cons.inj hCd).1
            have hCn : C.drop ((i + 1) * 2) = (l.drop (i + 1)).flatMap GLeaf.co := by
              have : (i + 1) * 2 = i * 2 + 2 := by omega
              rw [this, ← List.drop_drop, hCd]
              rfl
            have hb : i * 2 + 2 ≤ l.length * 2 := by omega
            have hp1 := hx _ (List.getElem_mem a)
            simp [a, hCl, hCd, hCg, hb]
            refine Inv_intro (ok_l15Begins 0 k' l[i].Path p (by omega) hp.1) ?_
            cases b1 : begP l[i].Path p with
            | true =>
              have hb : clashB p l[i] = true := by simp [clashB, b1]
              rw [if_pos hb, List.append_nil] at hS'
              simp
              subst hI
              refine Less_mk (n - 1) (by omega) ⟨i + 1, C.set (i * 2) .hole, by omega, by rw [List.length_set]; exact hCl, by rw [set_drop C _ _ _ (by omega), hCn], ?_⟩
              rw [hS', wrNext i (by omega)]
            | false =>
              simp
              refine Inv_intro (ok_l15Begins k' 0 p l[i].Path hp.1 (by omega)) ?_
              cases b2 : begP p l[i].Path with
              | true =>
                have hb : clashB p l[i] = true := by simp [clashB, b2]
                rw [if_pos hb, List.append_nil] at hS'
                simp
                subst hI
                refine Less_mk (n - 1) (by omega) ⟨i + 1, C.set (i * 2) .hole, by omega, by rw [List.length_set]; exact hCl, by rw [set_drop C _ _ _ (by omega), hCn], ?_⟩
                rw [hS', wrNext i (by omega)]
              | false =>
                have hb : ¬ clashB p l[i] = true := by simp [clashB, b1, b2]
                rw [if_neg hb] at hS'
                generalize hAe : O.flatMap GLeaf.co = A at hA hAm ⊢
                have ht : A.take (O.length * 2) = A := List.take_of_length_le (by omega)
                have hb1 : (O.length + 1) * 40 ≤ 140737488355328 := by omega
                have hb2 : O.length + 1 ≤ 9223372036854775807 := by omega
                simp [hA, ht, hb1, hb2]
                subst hI
                refine Less_mk (n - 1) (by omega) ⟨i + 1, C.set (i * 2) .hole, by omega, by rw [List.length_set]; exact hCl, by rw [set_drop C _ _ _ (by omega), hCn], ?_⟩
                rw [hS', wrNext i (by omega), hAm, List.length_append]
                rfl
          · simp at a
            have hin : i = l.length := by omega
            have hfin := hfin hin
            have hOl : O.length ≤ l.length := by omega
            subst hfin
            have ht : ((keptL p l).flatMap GLeaf.co).take ((keptL p l).length * 2) = (keptL p l).flatMap GLeaf.co := List.take_of_length_le (by omega)
            have hpe : ¬ p = [] := by
              rintro rfl
              simp [isP] at c2
            have hq1 : p.length * 16 ≤ 140737488355328 := by omega
            have hq2 : p.length ≤ 9223372036854775807 := by omega
            have hput := ok_l15Put (keptL p l) ⟨p, v⟩ (kept_conf hlo) (by omega) hp.1
            have hsl : putL p v (keptL p l) = setC p v l := rfl
            rw [hsl] at hput
            have hso := set_conf (p := p) (v := v) hlo hl hp hv
            simp [hpe, hq1, hq2, hA, ht]
            refine Inv_intro hput ?_
            simp
            refine Inv_intro (ok_sGoodConfig 0 (setC p v l) hso) ?_
            simp
            cases c4 : goodC (setC p v l) with
            | false => simp [rSetAt, c4]
            | true =>
              have er : rSetAt l p v = (setC p v l, true) := by simp [rSetAt, c1, c2, c3, c4]
              rw [er]
              simp
end Go.V
