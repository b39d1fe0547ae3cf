/- What functions of the seat's program do, each proved of its code, under the bounds that its theorem names. -/
import Derived.Test.YtildjkidohpmbaaTab
set_option linter.all false
namespace Go.V
open Go.Proofs
set_option maxHeartbeats 1000000
set_option maxRecDepth 10000
set_option linter.unusedSimpArgs false
set_option linter.unusedVariables false
theorem ok_iGoodConfig (k : Nat) (l : List GLeaf) (hl : confOK l) : CallOK Try.prog 44 [.c (rd k l.length (l.flatMap (GLeaf.ci k)))] (.c (pb (goodC l))) [.c (rd k l.length (l.flatMap (GLeaf.ci k)))] := by
  obtain ⟨hll, hlx⟩ := hl
  refine okS (fn := Try.f44) [] h0 Try.func44 (by kernel_rfl) rfl Try.ntmps44 Try.results44 (by simp) ?_
  simp
  refine loopS [0, 5, 6, 7] [] (fun n st => ∃ (i : Nat), i + n = l.length ∧ goodG (prevC l i) (l.drop i) = goodG none l ∧ st = ⟨slOf 53 [(0, .t (rd k l.length (l.flatMap (GLeaf.ci k)))), (5, .t (rd k l.length (l.flatMap (GLeaf.ci k)))), (6, .t (pi l.length)), (7, .t (pi i))], ofL []⟩) l.length ?_ ?_
  · rintro Inv hI
    simp
    subst hI
    exact ⟨0, by omega, rfl, rfl⟩
  · rintro Inv hI n st ⟨i, hi, hg, rfl⟩
    refine ewr_sound (M := []) h0 ?_
    simp
    refine brn_app (fun a => ?_) (fun a => ?_)
    · simp at a
      have hx := hlx l[i] (List.getElem_mem a)
      obtain ⟨⟨hx1, hx2⟩, hx3⟩ := hx
      rw [drop_step _ i a, goodG] at hg
      have hd := fm_drop (GLeaf.ci k) 2 (fun _ => rfl) l i a
      have hlen := fm_len (GLeaf.ci k) 2 (fun _ => rfl) l
      have hlt : i * 2 < l.length * 2 := by omega
      have en : prevC l (i + 1) = some l[i] := prevC_next l i a
      by_cases c0 : i = 0
      · have e0 : ¬ 0 < i := by omega
        have ep : prevC l i = none := by simp [prevC, c0]
        rw [ep, adjC, Bool.and_true] at hg
        simp [a, hd, hlen, hlt]
        refine drawP (tabEnv [] _) [⟨[.op 3 3 0], allD 53, true⟩, ⟨[.op 3 3 0], allD 53, true⟩, ⟨[], allD 53, false⟩, ⟨[], allD 53, true⟩, ⟨[], allD 53, true⟩, ⟨[.op 3 3 0], allD 53, true⟩, ⟨[.op 3 3 0], allD 53, true⟩, ⟨[], allD 53, false⟩, ⟨[], allD 53, true⟩, ⟨[], allD 53, true⟩, ⟨[], allD 53, true⟩, ⟨[], allD 53, true⟩, ⟨[], allD 53, true⟩, ⟨[], allD 53, true⟩, ⟨[], allD 53, true⟩, ⟨[], allD 53, true⟩, ⟨[], allD 53, true⟩, ⟨[], allD 53, true⟩, ⟨[], allD 53, true⟩, ⟨[], allD 53, true⟩, ⟨[.op 3 3 0], allD 53, true⟩, ⟨[.op 3 3 0], allD 53, true⟩, ⟨[], allD 53, false⟩, ⟨[], allD 53, true⟩, ⟨[], allD 53, true⟩, ⟨[], allD 53, true⟩, ⟨[], allD 53, true⟩, ⟨[], allD 53, true⟩, ⟨[], allD 53, true⟩, ⟨[], allD 53, true⟩, ⟨[], allD 53, true⟩, ⟨[.op 3 3 0], allD 53, true⟩, ⟨[.op 3 3 0], allD 53, true⟩, ⟨[], allD 53, false⟩, ⟨[], allD 53, true⟩, ⟨[], allD 53, true⟩, ⟨[], allD 53, true⟩] h0 hm (tabEnv_ok (tab_cons (ok_areWords k l[i].Path hx1 hx2) (tab_cons (ok_isWord l[i].Value hx3) tab_nil))) (by kernel_rfl) (by kernel_rfl) ?_
        cases c1 : isP l[i].Path with
        | false =>
          have hk : okLeaf l[i] = false := by simp [okLeaf, c1]
          rw [hk, Bool.false_and] at hg
          simp [c1, goodC, ← hg]
        | true =>
          cases c2 : isW l[i].Value with
          | false =>
            have hk : okLeaf l[i] = false := by simp [okLeaf, c2]
            rw [hk, Bool.false_and] at hg
            simp [c1, c2, goodC, ← hg]
          | true =>
            have hk : okLeaf l[i] = true := by simp [okLeaf, c1, c2]
            rw [hk, Bool.true_and] at hg
            simp [c1, c2, e0]
            subst hI
            exact Less_mk (n - 1) (by omega) ⟨i + 1, by omega, by rw [en]; exact hg, by rw [wrNext i (by omega)]⟩
      · obtain ⟨j, hj⟩ : ∃ j, i = j + 1 := ⟨i - 1, by omega⟩
        have aj : j < l.length := by omega
        have ep : prevC l i = some l[j] := by subst hj; exact prevC_next l j aj
        obtain ⟨⟨hy1, hy2⟩, hy3⟩ := hlx l[j] (List.getElem_mem aj)
        have hdj := fm_drop (GLeaf.ci k) 2 (fun _ => rfl) l j aj
        have hltj : j * 2 < l.length * 2 := by omega
        have hw : IntKind.wrap .i64 ((i : Int) - 1) = j := (wrap64 (by omega) (by omega)).trans (by omega)
        have e0 : 0 < i := by omega
        rw [ep, adjC] at hg
        have hcl := cmpP_less l[j].Path l[i].Path
        simp [a, hd, hlen, hlt]
        refine drawP (tabEnv [] _) [⟨[.op 3 3 0], allD 53, true⟩, ⟨[.op 3 3 0], allD 53, true⟩, ⟨[], allD 53, false⟩, ⟨[], allD 53, true⟩, ⟨[], allD 53, true⟩, ⟨[.op 3 3 0], allD 53, true⟩, ⟨[.op 3 3 0], allD 53, true⟩, ⟨[], allD 53, false⟩, ⟨[], allD 53, true⟩, ⟨[], allD 53, true⟩, ⟨[], allD 53, true⟩, ⟨[], allD 53, true⟩, ⟨[], allD 53, true⟩, ⟨[], allD 53, true⟩, ⟨[], allD 53, true⟩, ⟨[], allD 53, true⟩, ⟨[], allD 53, true⟩, ⟨[], allD 53, true⟩, ⟨[], allD 53, true⟩, ⟨[], allD 53, true⟩, ⟨[.op 3 3 0], allD 53, true⟩, ⟨[.op 3 3 0], allD 53, true⟩, ⟨[], allD 53, false⟩, ⟨[], allD 53, true⟩, ⟨[], allD 53, true⟩, ⟨[], allD 53, true⟩, ⟨[], allD 53, true⟩, ⟨[], allD 53, true⟩, ⟨[], allD 53, true⟩, ⟨[], allD 53, true⟩, ⟨[], allD 53, true⟩, ⟨[.op 3 3 0], allD 53, true⟩, ⟨[.op 3 3 0], allD 53, true⟩, ⟨[], allD 53, false⟩, ⟨[], allD 53, true⟩, ⟨[], allD 53, true⟩, ⟨[], allD 53, true⟩] h0 hm (tabEnv_ok (tab_cons (ok_areWords k l[i].Path hx1 hx2) (tab_cons (ok_isWord l[i].Value hx3) (tab_cons (ok_cmpP k k l[j].Path l[i].Path hy1 hx1) (tab_cons (ok_begins k k l[j].Path l[i].Path hy1 hx1) tab_nil))))) (by kernel_rfl) (by kernel_rfl) ?_
        cases c1 : isP l[i].Path with
        | false =>
          have hk : okLeaf l[i] = false := by simp [okLeaf, c1]
          rw [hk, Bool.false_and, Bool.false_and] at hg
          simp [c1, goodC, ← hg]
        | true =>
          cases c2 : isW l[i].Value with
          | false =>
            have hk : okLeaf l[i] = false := by simp [okLeaf, c2]
            rw [hk, Bool.false_and, Bool.false_and] at hg
            simp [c1, c2, goodC, ← hg]
          | true =>
            have hk : okLeaf l[i] = true := by simp [okLeaf, c1, c2]
            rw [hk, Bool.true_and] at hg
            cases c3 : lessP l[j].Path l[i].Path with
            | false =>
              rw [c3, Bool.false_and, Bool.false_and] at hg
              have c3' : 0 ≤ cmpP l[j].Path l[i].Path := by simpa [c3] using hcl
              simp [c1, c2, c3', e0, hw, aj, hdj, hlen, hltj, goodC, ← hg]
            | true =>
              have c3' : ¬ 0 ≤ cmpP l[j].Path l[i].Path := by simpa [c3] using hcl
              cases c4 : begP l[j].Path l[i].Path with
              | true =>
                rw [c3, c4] at hg
                have hg' : false = goodG none l := hg
                simp [c1, c2, c3', c4, e0, hw, aj, hdj, hlen, hltj, goodC, ← hg']
              | false =>
                rw [c3, c4] at hg
                have hg' : goodG (some l[i]) (l.drop (i + 1)) = goodG none l := hg
                simp [c1, c2, c3', c4, e0, hw, aj, hdj, hlen, hltj]
                subst hI
                exact Less_mk (n - 1) (by omega) ⟨i + 1, by omega, by rw [en]; exact hg', by rw [wrNext i (by omega)]⟩
    · simp at a
      rw [List.drop_of_length_le (by omega)] at hg
      have hg' : true = goodG none l := by rw [← hg]; cases prevC l i <;> rfl
      simp [goodC, ← hg']
      omega
theorem ok_sGoodConfig (k : Nat) (l : List GLeaf) (hl : confOK l) : CallOK Try.prog 81 [.c (rd k l.length (l.flatMap (GLeaf.ci k)))] (.c (pb (goodC l))) [.c (rd k l.length (l.flatMap (GLeaf.ci k)))] := by
  obtain ⟨hll, hlx⟩ := hl
  refine okS (fn := Try.f81) [] h0 Try.func81 (by kernel_rfl) rfl Try.ntmps81 Try.results81 (by simp) ?_
  simp
  refine loopS [0, 5, 6, 7] [] (fun n st => ∃ (i : Nat), i + n = l.length ∧ goodG (prevC l i) (l.drop i) = goodG none l ∧ st = ⟨slOf 51 [(0, .t (rd k l.length (l.flatMap (GLeaf.ci k)))), (5, .t (rd k l.length (l.flatMap (GLeaf.ci k)))), (6, .t (pi l.length)), (7, .t (pi i))], ofL []⟩) l.length ?_ ?_
  · rintro Inv hI
    simp
    subst hI
    exact ⟨0, by omega, rfl, rfl⟩
  · rintro Inv hI n st ⟨i, hi, hg, rfl⟩
    refine ewr_sound (M := []) h0 ?_
    simp
    refine brn_app (fun a => ?_) (fun a => ?_)
    · simp at a
      have hx := hlx l[i] (List.getElem_mem a)
      obtain ⟨⟨hx1, hx2⟩, hx3⟩ := hx
      rw [drop_step _ i a, goodG] at hg
      have hd := fm_drop (GLeaf.ci k) 2 (fun _ => rfl) l i a
      have hlen := fm_len (GLeaf.ci k) 2 (fun _ => rfl) l
      have hlt : i * 2 < l.length * 2 := by omega
      have en : prevC l (i + 1) = some l[i] := prevC_next l i a
      simp [a, hd, hlen, hlt]
      refine Inv_intro (ok_l15Path k l[i].Path hx1 hx2) ?_
      simp
      cases c1 : isP l[i].Path with
      | false =>
        have hk : okLeaf l[i] = false := by simp [okLeaf, c1]
        rw [hk, Bool.false_and, Bool.false_and] at hg
        simp [goodC, ← hg]
      | true =>
        simp
        refine Inv_intro (ok_l15Word l[i].Value hx3) ?_
        simp
        cases c2 : isW l[i].Value with
        | false =>
          have hk : okLeaf l[i] = false := by simp [okLeaf, c2]
          rw [hk, Bool.false_and, Bool.false_and] at hg
          simp [goodC, ← hg]
        | true =>
          have hk : okLeaf l[i] = true := by simp [okLeaf, c1, c2]
          rw [hk, Bool.true_and] at hg
          simp
          by_cases c0 : i = 0
          · have e0 : ¬ 0 < i := by omega
            have ep : prevC l i = none := by simp [prevC, c0]
            rw [ep, adjC, Bool.true_and] at hg
            refine drawP (tabEnv [] _) [⟨[], allD 51, true⟩, ⟨[], allD 51, true⟩, ⟨[], allD 51, true⟩, ⟨[], allD 51, true⟩, ⟨[], allD 51, true⟩, ⟨[], allD 51, true⟩, ⟨[], allD 51, true⟩, ⟨[], allD 51, true⟩, ⟨[], allD 51, true⟩, ⟨[.op 3 3 0], allD 51, true⟩, ⟨[.op 3 3 0], allD 51, true⟩, ⟨[], allD 51, false⟩, ⟨[], allD 51, true⟩, ⟨[], allD 51, true⟩, ⟨[], allD 51, true⟩, ⟨[], allD 51, true⟩, ⟨[], allD 51, true⟩, ⟨[], allD 51, true⟩, ⟨[], allD 51, true⟩, ⟨[], allD 51, true⟩, ⟨[.op 3 3 0], allD 51, true⟩, ⟨[.op 3 3 0], allD 51, true⟩, ⟨[], allD 51, false⟩, ⟨[], allD 51, true⟩, ⟨[], allD 51, true⟩] h0 hm (tabEnv_ok tab_nil) (by kernel_rfl) (by kernel_rfl) ?_
            simp [e0]
            subst hI
            exact Less_mk (n - 1) (by omega) ⟨i + 1, by omega, by rw [en]; exact hg, by rw [wrNext i (by omega)]⟩
          · obtain ⟨j, hj⟩ : ∃ j, i = j + 1 := ⟨i - 1, by omega⟩
            have aj : j < l.length := by omega
            have ep : prevC l i = some l[j] := by subst hj; exact prevC_next l j aj
            obtain ⟨⟨hy1, hy2⟩, hy3⟩ := hlx l[j] (List.getElem_mem aj)
            have hdj := fm_drop (GLeaf.ci k) 2 (fun _ => rfl) l j aj
            have hltj : j * 2 < l.length * 2 := by omega
            have hw : IntKind.wrap .i64 ((i : Int) - 1) = j := (wrap64 (by omega) (by omega)).trans (by omega)
            have e0 : 0 < i := by omega
            rw [ep, adjC] at hg
            refine drawP (tabEnv [] _) [⟨[], allD 51, true⟩, ⟨[], allD 51, true⟩, ⟨[], allD 51, true⟩, ⟨[], allD 51, true⟩, ⟨[], allD 51, true⟩, ⟨[], allD 51, true⟩, ⟨[], allD 51, true⟩, ⟨[], allD 51, true⟩, ⟨[], allD 51, true⟩, ⟨[.op 3 3 0], allD 51, true⟩, ⟨[.op 3 3 0], allD 51, true⟩, ⟨[], allD 51, false⟩, ⟨[], allD 51, true⟩, ⟨[], allD 51, true⟩, ⟨[], allD 51, true⟩, ⟨[], allD 51, true⟩, ⟨[], allD 51, true⟩, ⟨[], allD 51, true⟩, ⟨[], allD 51, true⟩, ⟨[], allD 51, true⟩, ⟨[.op 3 3 0], allD 51, true⟩, ⟨[.op 3 3 0], allD 51, true⟩, ⟨[], allD 51, false⟩, ⟨[], allD 51, true⟩, ⟨[], allD 51, true⟩] h0 hm (tabEnv_ok (tab_cons (ok_l15Less k k l[j].Path l[i].Path hy1 hx1) (tab_cons (ok_l15Begins k k l[j].Path l[i].Path hy1 hx1) tab_nil))) (by kernel_rfl) (by kernel_rfl) ?_
            cases c3 : lessP l[j].Path l[i].Path with
            | false =>
              rw [c3, Bool.false_and, Bool.false_and] at hg
              simp [c3, e0, hw, aj, hdj, hlen, hltj, goodC, ← hg]
            | true =>
              cases c4 : begP l[j].Path l[i].Path with
              | true =>
                rw [c3, c4] at hg
                have hg' : false = goodG none l := hg
                simp [c3, c4, e0, hw, aj, hdj, hlen, hltj, goodC, ← hg']
              | false =>
                rw [c3, c4] at hg
                have hg' : goodG (some l[i]) (l.drop (i + 1)) = goodG none l := hg
                simp [c3, c4, e0, hw, aj, hdj, hlen, hltj]
                subst hI
                exact Less_mk (n - 1) (by omega) ⟨i + 1, by omega, by rw [en]; exact hg', by rw [wrNext i (by omega)]⟩
    · simp at a
      rw [List.drop_of_length_le (by omega)] at hg
      have hg' : true = goodG none l := by rw [← hg]; cases prevC l i <;> rfl
      simp [goodC, ← hg']
      omega
abbrev cLeafSo (xs : List GLeaf) : PT := .sl 0 103 xs.length (xs.flatMap GLeaf.co)
abbrev cLeafSi (k : Nat) (xs : List GLeaf) : PT := rd k xs.length (xs.flatMap (GLeaf.ci k))
def wt_LeafS (xs : List GLeaf) : Nat := wtR GLeaf.wt xs
theorem len_wt_LeafS (xs : List GLeaf) : xs.length ≤ wt_LeafS xs := by unfold wt_LeafS wtR; omega
theorem mem_wt_LeafS {xs : List GLeaf} {x : GLeaf} (h : x ∈ xs) : GLeaf.wt x ≤ wt_LeafS xs := by
  have := wt_mem GLeaf.wt h
  unfold wt_LeafS wtR
  omega
def fits_LeafS (xs : List GLeaf) : Prop := xs.length ≤ 140737488351232 ∧ ∀ x ∈ xs, GLeaf.fits x
def lens_LeafS (xs : List GLeaf) : Prop := xs.length ≤ 140737488351232 ∧ ∀ x ∈ xs, GLeaf.lens x
def mk_LeafS (xs : List GLeaf) (k : Int) : List GLeaf × Int := mkR GLeaf.mark xs k
def cn_LeafS (xs : List GLeaf) : Nat := cnR GLeaf.cn xs
theorem mk_LeafS_len (xs : List GLeaf) (k : Int) : (mk_LeafS xs k).1.length = xs.length := mkR_len _ xs k
attribute [simp] mk_LeafS_len
theorem mk_LeafS_snd (xs : List GLeaf) (k : Int) : (mk_LeafS xs k).2 = k + cn_LeafS xs := mkR_snd (GLeaf.mark_snd) xs k
theorem lens_of_LeafS {xs : List GLeaf} (h : wt_LeafS xs ≤ 1048576) : lens_LeafS xs := by
  have hl := len_wt_LeafS xs
  exact ⟨by omega, fun x hx => lens_of_Leaf (by have := mem_wt_LeafS hx; omega)⟩
theorem cn_le_LeafS (xs : List GLeaf) : cn_LeafS xs ≤ 32 * wt_LeafS xs := cnR_le (fun x => by have := cnE_le_Leaf x; omega) xs
theorem strs_ok {p : List ByteArray} (h : wt_StringS p ≤ 1048576) : strsOK p := by
  have := len_wt_StringS p
  refine ⟨by omega, fun s hs => ?_⟩
  have := mem_wt_StringS hs
  omega
theorem leaf_ok {x : GLeaf} (h : GLeaf.wt x ≤ 1048576) : leafOK x := by
  unfold GLeaf.wt at h
  exact ⟨strs_ok (by omega), by omega⟩
theorem conf_ok {l : List GLeaf} (h : wt_LeafS l ≤ 1048576) : confOK l := by
  have := len_wt_LeafS l
  refine ⟨by omega, fun x hx => leaf_ok ?_⟩
  have := mem_wt_LeafS hx
  omega
theorem conf_len {l : List GLeaf} (h : wt_LeafS l ≤ 1048576) : l.length ≤ 1048576 ∧ ∀ x ∈ l, x.Path.length ≤ 1048576 := by
  have := len_wt_LeafS l
  refine ⟨by omega, fun x hx => ?_⟩
  have := mem_wt_LeafS hx
  have := len_wt_StringS x.Path
  unfold GLeaf.wt at *
  omega
def rGoodConfig (v0 : List GLeaf) : Bool := goodC v0
theorem law_iGoodConfig (v0 : List GLeaf) (h0 : wt_LeafS v0 ≤ 1048576) : CallOK Try.prog 44 [.c (rd 0 v0.length (v0.flatMap (GLeaf.ci 0)))] (.c (pb (rGoodConfig v0))) [.c (rd 0 v0.length (v0.flatMap (GLeaf.ci 0)))] := ok_iGoodConfig 0 v0 (conf_ok h0)
theorem law_sGoodConfig (v0 : List GLeaf) (h0 : wt_LeafS v0 ≤ 1048576) : CallOK Try.prog 81 [.c (rd 0 v0.length (v0.flatMap (GLeaf.ci 0)))] (.c (pb (rGoodConfig v0))) [.c (rd 0 v0.length (v0.flatMap (GLeaf.ci 0)))] := ok_sGoodConfig 0 v0 (conf_ok h0)
theorem begP_len : ∀ a b : List ByteArray, (begP a b && decide (a.length = b.length)) = decide (a = b)
  | [], [] => rfl
  | [], _ :: _ => rfl
  | _ :: _, [] => rfl
  | a :: us, b :: vs => by
    have := begP_len us vs
    simp only [begP, List.length_cons, Nat.add_right_cancel_iff, List.cons.injEq, Bool.and_assoc, this]
    simp
theorem ok_l15SamePath (k k' : Nat) (xs ys : List ByteArray) (ha : xs.length ≤ 140737488351232) (hb : ys.length ≤ 140737488351232) : CallOK Try.prog 131 [.c (rd k xs.length (xs.map ps)), .c (rd k' ys.length (ys.map ps))] (.c (pb (decide (xs = ys)))) [.c (rd k xs.length (xs.map ps)), .c (rd k' ys.length (ys.map ps))] := by
  refine okS (fn := Try.f131) [] h0 Try.func131 (by kernel_rfl) rfl Try.ntmps131 Try.results131 (by simp) ?_
  simp
  refine Inv_intro (ok_l15Begins k k' xs ys ha hb) ?_
  simp
  rw [← begP_len]
  cases begP xs ys with
  | false => simp
  | true =>
    simp
    omega
def hasV (l : List GLeaf) (p : List ByteArray) : ByteArray := match l.find? (atP p) with
  | some x => x.Value
  | none => ⟨#[]⟩
theorem ok_l15Has (k k' : Nat) (l : List GLeaf) (p : List ByteArray) (hl : confOK l) (hp : p.length ≤ 140737488351232) : CallOK Try.prog 112 [.c (rd k l.length (l.flatMap (GLeaf.ci k))), .c (rd k' p.length (p.map ps))] (.c (ps (hasV l p))) [.c (rd k l.length (l.flatMap (GLeaf.ci k))), .c (rd k' p.length (p.map ps))] := by
  have hll := hl.1
  refine okS (fn := Try.f112) [] h0 Try.func112 (by kernel_rfl) rfl Try.ntmps112 Try.results112 (by simp) ?_
  simp
  refine loopS [1, 7, 8, 9] [] (fun n st => ∃ (i : Nat), i + n = l.length ∧ (l.drop i).find? (atP p) = l.find? (atP p) ∧ st = ⟨slOf 20 [(1, .t (rd k' p.length (p.map ps))), (7, .t (rd k l.length (l.flatMap (GLeaf.ci k)))), (8, .t (pi l.length)), (9, .t (pi i))], ofL []⟩) l.length ?_ ?_
  · rintro Inv hI
    simp
    subst hI
    exact ⟨0, by omega, rfl, rfl⟩
  · rintro Inv hI n st ⟨i, hi, hf, rfl⟩
    refine ewr_sound (M := []) h0 ?_
    simp
    refine brn_app (fun a => ?_) (fun a => ?_)
    · simp at a
      have hx := hl.2 l[i] (List.getElem_mem a)
      rw [drop_step _ i a, List.find?_cons] at hf
      have hd := fm_drop (GLeaf.ci k) 2 (fun _ => rfl) l i a
      have hlen := fm_len (GLeaf.ci k) 2 (fun _ => rfl) l
      have hlt : i * 2 < l.length * 2 := by omega
      simp [a, hd, hlen, hlt]
      refine Inv_intro (ok_l15SamePath k k' l[i].Path p hx.1.1 hp) ?_
      simp
      refine brn_app (fun b => ?_) (fun b => ?_)
      · have b' : atP p l[i] = true := b
        rw [b'] at hf
        have hf' : some l[i] = l.find? (atP p) := hf
        simp [hasV, ← hf']
      · have b' : atP p l[i] = false := b
        rw [b'] at hf
        simp
        subst hI
        exact Less_mk (n - 1) (by omega) ⟨i + 1, by omega, hf, by rw [wrNext i (by omega)]⟩
    · simp at a
      rw [List.drop_of_length_le (by omega), List.find?_nil] at hf
      simp [hasV, ← hf]
theorem goodG_all : ∀ (q : Option GLeaf) (l : List GLeaf), goodG q l = true → ∀ x ∈ l, okLeaf x = true
  | _, [], _, _, hx => by simp at hx
  | q, y :: l, h, x, hx => by
    simp only [goodG, Bool.and_eq_true] at h
    rcases List.mem_cons.1 hx with rfl | hx
    · exact h.1.1
    · exact goodG_all _ l h.2 x hx
theorem goodC_all {l : List GLeaf} (h : goodC l = true) : ∀ x ∈ l, okLeaf x = true := by
  simp only [goodC, Bool.and_eq_true] at h
  exact goodG_all _ l h.1
theorem isW_ne {s : ByteArray} (h : isW s = true) : s ≠ ⟨#[]⟩ := by
  rintro rfl
  have : isW ⟨#[]⟩ = false := rfl
  rw [this] at h
  cases h
theorem okLeaf_val {x : GLeaf} (h : okLeaf x = true) : x.Value ≠ ⟨#[]⟩ := by
  simp only [okLeaf, Bool.and_eq_true] at h
  exact isW_ne h.2
theorem okLeaf_path {x : GLeaf} (h : okLeaf x = true) : x.Path ≠ [] := by
  simp only [okLeaf, isP, Bool.and_eq_true, decide_eq_true_eq] at h
  intro e
  rw [e] at h
  have := h.1.1.1
  simp at this
theorem hasV_gone {b : List GLeaf} (hb : goodC b = true) (x : GLeaf) : (hasV b x.Path = ⟨#[]⟩) = (goneC b x = true) := by
  unfold hasV goneC
  cases h : b.find? (atP x.Path) with
  | none => simp
  | some y =>
    have := okLeaf_val (goodC_all hb y (List.mem_of_find?_eq_some h))
    simp [this]
theorem hasV_fresh {a : List GLeaf} {x : GLeaf} (hx : x.Value ≠ ⟨#[]⟩) : (hasV a x.Path = x.Value) = (freshC a x = false) := by
  unfold hasV freshC
  cases h : a.find? (atP x.Path) with
  | none =>
    simp
    exact fun e => hx e.symm
  | some y => simp
theorem ok_l15Diff (k k' : Nat) (a b : List GLeaf) (ha : a.length ≤ 1048576) (hax : ∀ x ∈ a, x.Path.length ≤ 1048576) (hb : b.length ≤ 1048576) (hbx : ∀ x ∈ b, x.Path.length ≤ 1048576) (hao : confOK a) (hbo : confOK b) (ga : goodC a = true) (gb : goodC b = true) : CallOK Try.prog 82 [.c (rd k a.length (a.flatMap (GLeaf.ci k))), .c (rd k' b.length (b.flatMap (GLeaf.ci k')))] (.c (.sl 0 65 (diffL a b).length ((diffL a b).flatMap GCommand.co))) [.c (rd k a.length (a.flatMap (GLeaf.ci k))), .c (rd k' b.length (b.flatMap (GLeaf.ci k')))] := by
  refine okS (fn := Try.f82) [] h0 Try.func82 (by kernel_rfl) rfl Try.ntmps82 Try.results82 (by simp) ?_
  simp
  refine ewp_nil 5 (.op 6 7 0) 65 (by decide) rfl rfl rfl ?_
  refine loopS [0, 1, 5, 10, 11, 12] [.op 6 7 0] (fun n st => ∃ (i : Nat), i + n = a.length ∧ st = ⟨slOf 55 [(0, .t (rd k a.length (a.flatMap (GLeaf.ci k)))), (1, .t (rd k' b.length (b.flatMap (GLeaf.ci k')))), (5, .ref ⟨.op 6 7 0, []⟩ 0 (((a.take i).filter (goneC b)).map delCo).length), (10, .t (rd k a.length (a.flatMap (GLeaf.ci k)))), (11, .t (pi a.length)), (12, .t (pi i))], ofL [(.op 6 7 0, .sl 0 65 (((a.take i).filter (goneC b)).map delCo).length ((((a.take i).filter (goneC b)).map delCo).flatMap GCommand.co))]⟩) a.length ?_ ?_
  · rintro Inv hI
    simp
    subst hI
    exact ⟨0, by omega, by simp⟩
  · rintro Inv hI n st ⟨i, hi, rfl⟩
    have hO : (((a.take i).filter (goneC b)).map delCo).length ≤ i := Nat.le_trans (fmap_len _ _ _) (by simp; omega)
    have hS := fmap_snoc (goneC b) delCo a i
    generalize hOe : ((a.take i).filter (goneC b)).map delCo = O at hO hS ⊢
    have hA := fm_len GCommand.co 3 (fun _ => rfl) O
    have hAm : ∀ y, (O ++ [y]).flatMap GCommand.co = O.flatMap GCommand.co ++ GCommand.co y := fun y => by simp
    generalize hAe : O.flatMap GCommand.co = A at hA hAm ⊢
    refine ewr_sound (M := []) h0 ?_
    simp
    refine brn_app (fun c => ?_) (fun c => ?_)
    · simp at c
      have hd := fm_drop (GLeaf.ci k) 2 (fun _ => rfl) a i c
      have hlen := fm_len (GLeaf.ci k) 2 (fun _ => rfl) a
      have hlt : i * 2 < a.length * 2 := by omega
      have hp1 := hax _ (List.getElem_mem c)
      have hpn := okLeaf_path (goodC_all ga _ (List.getElem_mem c))
      have hS' := hS c
      have hb1 : (O.length + 1) * 48 ≤ 140737488355328 := by omega
      have hb2 : O.length ≤ 9223372036854775806 := by omega
      have hp3 : a[i].Path.length * 16 ≤ 140737488355328 := by omega
      have hp4 : a[i].Path.length ≤ 9223372036854775807 := by omega
      have ht : A.take (O.length * 3) = A := List.take_of_length_le (by omega)
      have hv := hasV_gone gb a[i]
      simp [c, hd, hlen, hlt]
      refine Inv_intro (ok_l15Has k' k b a[i].Path hbo (by omega)) ?_
      simp
      refine brn_app (fun d => ?_) (fun d => ?_)
      · have hg : goneC b a[i] = true := by
          simp at d
          rw [← hv]
          exact d
        simp [hpn, hp3, hp4, hA, hb1, hb2, ht]
        rw [hg] at hS'
        subst hI
        refine Less_mk (n - 1) (by omega) ⟨i + 1, by omega, ?_⟩
        rw [wrNext i (by omega), hS']
        simp [hAm, hAe, delCo]
      · have hg : goneC b a[i] = false := by
          simp at d
          cases e : goneC b a[i] with
          | false => rfl
          | true => exact absurd (hv.mpr e) d
        simp
        rw [hg] at hS'
        subst hI
        refine Less_mk (n - 1) (by omega) ⟨i + 1, by omega, ?_⟩
        rw [wrNext i (by omega), hS']
        simp [hAe]
    · simp at c
      have ht : List.take i a = a := List.take_of_length_le (by omega)
      rw [ht] at hOe
      simp
      refine ewp_sw (.op 6 7 0) (.op 12 9 0) rfl rfl ?_
      simp
      refine loopS [0, 5, 30, 31, 32] [.op 12 9 0] (fun n st => ∃ (i : Nat), i + n = b.length ∧ st = ⟨slOf 55 [(0, .t (rd k a.length (a.flatMap (GLeaf.ci k)))), (5, .ref ⟨.op 12 9 0, []⟩ 0 (O.length + (((b.take i).filter (freshC a)).map setCo).length)), (30, .t (rd k' b.length (b.flatMap (GLeaf.ci k')))), (31, .t (pi b.length)), (32, .t (pi i))], ofL [(.op 12 9 0, .sl 0 65 (O.length + (((b.take i).filter (freshC a)).map setCo).length) (A ++ (((b.take i).filter (freshC a)).map setCo).flatMap GCommand.co))]⟩) b.length ?_ ?_
      · rintro Inv hI
        simp
        subst hI
        exact ⟨0, by omega, by simp⟩
      · rintro Inv hI n st ⟨i, hi, rfl⟩
        have hO2 : (((b.take i).filter (freshC a)).map setCo).length ≤ i := Nat.le_trans (fmap_len _ _ _) (by simp; omega)
        have hS2 := fmap_snoc (freshC a) setCo b i
        generalize hOe2 : ((b.take i).filter (freshC a)).map setCo = O2 at hO2 hS2 ⊢
        have hA2 := fm_len GCommand.co 3 (fun _ => rfl) O2
        have hAm2 : ∀ y, (O2 ++ [y]).flatMap GCommand.co = O2.flatMap GCommand.co ++ GCommand.co y := fun y => by simp
        generalize hAe2 : O2.flatMap GCommand.co = A2 at hA2 hAm2 ⊢
        have hAA : (A ++ A2).length = (O.length + O2.length) * 3 := by simp [hA, hA2]; omega
        generalize hAX : A ++ A2 = X at hAA ⊢
        refine ewr_sound (M := []) h0 ?_
        simp
        refine brn_app (fun c2 => ?_) (fun c2 => ?_)
        · simp at c2
          have hd := fm_drop (GLeaf.ci k') 2 (fun _ => rfl) b i c2
          have hlen := fm_len (GLeaf.ci k') 2 (fun _ => rfl) b
          have hlt : i * 2 < b.length * 2 := by omega
          have hp1 := hbx _ (List.getElem_mem c2)
          have hok := goodC_all gb _ (List.getElem_mem c2)
          have hpn := okLeaf_path hok
          have hS' := hS2 c2
          have hb1 : (O.length + O2.length + 1) * 48 ≤ 140737488355328 := by omega
          have hb2 : O.length + O2.length ≤ 9223372036854775806 := by omega
          have hp3 : b[i].Path.length * 16 ≤ 140737488355328 := by omega
          have hp4 : b[i].Path.length ≤ 9223372036854775807 := by omega
          have ht2 : X.take ((O.length + O2.length) * 3) = X := List.take_of_length_le (by omega)
          have hv := hasV_fresh (a := a) (okLeaf_val hok)
          have next : ∀ B : Bool, freshC a b[i] = B → ∀ X' m, X' = X ++ (if B = true then GCommand.co (setCo b[i]) else []) → m = O.length + O2.length + (if B = true then 1 else 0) → Less Inv n ⟨slOf 55 [(0, .t (rd k a.length (a.flatMap (GLeaf.ci k)))), (5, .ref ⟨.op 12 9 0, []⟩ 0 m), (30, .t (rd k' b.length (b.flatMap (GLeaf.ci k')))), (31, .t (pi b.length)), (32, .t (pi (IntKind.wrap .i64 ((i : Int) + 1))))], ofL [(.op 12 9 0, .sl 0 65 m X')]⟩ := by
            rintro B hB X' m rfl rfl
            rw [hB] at hS'
            subst hI
            refine Less_mk (n - 1) (by omega) ⟨i + 1, by omega, ?_⟩
            rw [wrNext i (by omega), hS', ← hAX]
            cases B <;> simp [hAm2, hAe2, Nat.add_assoc]
          simp [c2, hd, hlen, hlt]
          refine drawP (tabEnv [] _) [⟨[], allD 55, true⟩, ⟨[.op 10 2 0], allD 55, true⟩, ⟨[.op 10 2 0], allD 55, true⟩, ⟨[], allD 55, false⟩, ⟨[.op 10 2 0], allD 55, true⟩, ⟨[.op 10 2 0], allD 55, true⟩, ⟨[], allD 55, true⟩] h0 hm (tabEnv_ok (tab_cons (ok_l15Has k k' a b[i].Path hao (by omega)) tab_nil)) (by kernel_rfl) (by kernel_rfl) ?_
          simp
          refine brn_app (fun d => ?_) (fun d => ?_)
          · simp at d
            have hB : freshC a b[i] = true := by
              cases e : freshC a b[i] with
              | true => rfl
              | false => exact absurd (hv.mpr e) d
            simp
            refine drawP (tabEnv [] _) [⟨[.op 12 9 0], allD 55, true⟩, ⟨[], allD 55, false⟩, ⟨[.op 10 2 0], allD 55, true⟩, ⟨[.op 10 2 0], allD 55, true⟩, ⟨[.op 12 1 0], [43, 44, 45, 46, 47, 48, 49, 50, 51, 52, 5], false⟩, ⟨[.op 10 2 0], allD 55, true⟩, ⟨[.op 10 2 0], allD 55, true⟩, ⟨[.op 12 4 0], allD 55, true⟩, ⟨[.op 12 4 0, .op 12 7 0], [43, 44, 45, 46, 47, 48, 49, 50, 51, 52, 5], false⟩, ⟨[.op 12 9 0, .op 12 8 0], [43, 44, 45, 46, 47, 48, 49, 50, 51, 52, 5], false⟩, ⟨[.op 12 9 0], allD 55, true⟩] h0 hm (tabEnv_ok tab_nil) (by kernel_rfl) (by kernel_rfl) ?_
            simp [hAA, hb1, hb2, ht2, hpn, hp3, hp4]
            exact next true hB _ _ (by simp [setCo]) rfl
          · simp at d
            have hB : freshC a b[i] = false := by rw [← hv]; exact d
            simp
            exact next false hB _ _ (by simp) rfl
        · simp at c2
          have ht : List.take i b = b := List.take_of_length_le (by omega)
          rw [ht] at hOe2
          have hD : diffL a b = O ++ O2 := by rw [diffL, hOe, hOe2]
          have hX' : (diffL a b).flatMap GCommand.co = X := by rw [hD, List.flatMap_append, hAe, hAe2, hAX]
          have hm' : (diffL a b).length = O.length + O2.length := by rw [hD, List.length_append]
          have htX : X.take ((O.length + O2.length) * 3) = X := List.take_of_length_le (by omega)
          rw [hX', hm']
          simp [hAA, htX]
abbrev cCommandSo (xs : List GCommand) : PT := .sl 0 65 xs.length (xs.flatMap GCommand.co)
abbrev cCommandSi (k : Nat) (xs : List GCommand) : PT := rd k xs.length (xs.flatMap (GCommand.ci k))
def wt_CommandS (xs : List GCommand) : Nat := wtR GCommand.wt xs
theorem len_wt_CommandS (xs : List GCommand) : xs.length ≤ wt_CommandS xs := by unfold wt_CommandS wtR; omega
theorem mem_wt_CommandS {xs : List GCommand} {x : GCommand} (h : x ∈ xs) : GCommand.wt x ≤ wt_CommandS xs := by
  have := wt_mem GCommand.wt h
  unfold wt_CommandS wtR
  omega
def fits_CommandS (xs : List GCommand) : Prop := xs.length ≤ 140737488351232 ∧ ∀ x ∈ xs, GCommand.fits x
def lens_CommandS (xs : List GCommand) : Prop := xs.length ≤ 140737488351232 ∧ ∀ x ∈ xs, GCommand.lens x
def mk_CommandS (xs : List GCommand) (k : Int) : List GCommand × Int := mkR GCommand.mark xs k
def cn_CommandS (xs : List GCommand) : Nat := cnR GCommand.cn xs
theorem mk_CommandS_len (xs : List GCommand) (k : Int) : (mk_CommandS xs k).1.length = xs.length := mkR_len _ xs k
attribute [simp] mk_CommandS_len
theorem mk_CommandS_snd (xs : List GCommand) (k : Int) : (mk_CommandS xs k).2 = k + cn_CommandS xs := mkR_snd (GCommand.mark_snd) xs k
theorem lens_of_CommandS {xs : List GCommand} (h : wt_CommandS xs ≤ 1048576) : lens_CommandS xs := by
  have hl := len_wt_CommandS xs
  exact ⟨by omega, fun x hx => lens_of_Command (by have := mem_wt_CommandS hx; omega)⟩
theorem cn_le_CommandS (xs : List GCommand) : cn_CommandS xs ≤ 32 * wt_CommandS xs := cnR_le (fun x => by have := cnE_le_Command x; omega) xs
end Go.V
