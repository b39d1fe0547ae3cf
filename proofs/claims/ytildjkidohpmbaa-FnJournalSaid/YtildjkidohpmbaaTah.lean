/- What functions of the seat's program do, each proved of its code, under the bounds that its theorem names. -/
import Derived.Test.YtildjkidohpmbaaTag
import Derived.Deep.AppendSrc
import Derived.Laws.Externs
import Derived.Laws.IdiomCopy
import Derived.Lib.AppendZeros
import Derived.Lib.AppendZerosOnto
import Derived.Lib.JoinLaws
import Derived.Lib.Overlaps
import Derived.Lib.SliceRun
import Derived.Lib.Walk
import Derived.WalkKit
set_option linter.all false
namespace Go.V
open Go.Proofs
set_option maxHeartbeats 1000000
set_option maxRecDepth 10000
set_option linter.unusedSimpArgs false
set_option linter.unusedVariables false
theorem wlen_le (s : ByteArray) : wlen s ≤ s.size := by
  unfold wlen
  have := List.Sublist.length_le (List.takeWhile_sublist (fun b : UInt8 => wb b.toNat) (l := s.data.toList))
  simpa using this
theorem tw_all {α : Type} (p : α → Bool) : ∀ l : List α, ((l.takeWhile p).length = l.length) = (l.all p = true)
  | [] => by simp
  | x :: l => by
    rw [List.takeWhile_cons, List.all_cons]
    cases h : p x with
    | true => simpa using tw_all p l
    | false => simp
theorem word_all (s : ByteArray) : decide (s.extract 0 (wlen s) = s) = wAll s := by
  have h := wlen_le s
  have hA := tw_all (fun b : UInt8 => wb b.toNat) s.data.toList
  have hl : s.data.toList.length = s.size := by simp
  rw [hl] at hA
  have hB : (s.extract 0 (wlen s) = s) = (wlen s = s.size) := by
    apply propext
    constructor
    · intro e
      have := congrArg ByteArray.size e
      simp at this
      omega
    · intro e
      rw [e]
      exact ext_all s
  rw [Bool.eq_iff_iff, decide_eq_true_eq, hB, wAll, ← hA]
  rfl
theorem ok_isWord (s : ByteArray) (hs : s.size ≤ 140737488355328) : CallOK Try.prog 90 [.c (ps s)] (.c (pb (isW s))) [.c (ps s)] := by
  refine okS (fn := Try.f90) [] h0 Try.func90 (by kernel_rfl) rfl Try.ntmps90 Try.results90 (by simp) ?_
  simp
  refine Inv_intro (ok_within _ _ _) ?_
  simp
  refine gT (fun a => ?_) (fun a => ?_)
  · simp [a]
    refine Inv_intro (ok_wordAt s hs) ?_
    simp [isW, word_all, a]
  · simp [a, isW]
theorem ok_areWords1 (s : ByteArray) (hs : s.size ≤ 140737488355328) : CallOK Try.prog 116 [.c (ps s)] (.c (pb (!isW s))) [.c (ps s)] := by
  refine okS (fn := Try.f116) [] h0 Try.func116 (by kernel_rfl) rfl Try.ntmps116 Try.results116 (by simp) ?_
  simp
  refine Inv_intro (ok_isWord s hs) ?_
  simp
theorem ok_areWords (k : Nat) (p : List ByteArray) (hl : p.length ≤ 140737488351232) (hs : ∀ s ∈ p, s.size ≤ 140737488355328) : CallOK Try.prog 89 [.c (rd k p.length (p.map ps))] (.c (pb (isP p))) [.c (rd k p.length (p.map ps))] := by
  refine okS (fn := Try.f89) [] h0 Try.func89 (by kernel_rfl) rfl Try.ntmps89 Try.results89 (by simp) ?_
  simp
  refine Inv_intro (ok_within _ _ _) ?_
  simp
  refine gT (fun a => ?_) (fun a => ?_)
  · simp [a]
    refine Inv_intro (ok_ContainsFunc_String k 0 116 [] (fun s => !isW s) p hl fun x hx => ok_areWords1 x (hs x hx)) ?_
    simp [isP, any_not, a]
  · simp [a, isP]
theorem ok_l15Word (s : ByteArray) (hs : s.size ≤ 140737488355328) : CallOK Try.prog 93 [.c (ps s)] (.c (pb (isW s))) [.c (ps s)] := by
  refine okS (fn := Try.f93) [] h0 Try.func93 (by kernel_rfl) rfl Try.ntmps93 Try.results93 (by simp) ?_
  simp
  refine loopS [0, 3] [] (fun n st => ∃ (i : Nat), i + n = s.size ∧ (s.data.toList.drop i).all (fun b => wb b.toNat) = wAll s ∧ st = ⟨slOf 18 [(0, .t (ps s)), (3, .t (pi i))], ofL []⟩) s.size ?_ ?_
  · rintro Inv hI
    simp
    subst hI
    exact ⟨0, by omega, rfl, rfl⟩
  · rintro Inv hI n st ⟨i, hi, hw, rfl⟩
    refine ewr_sound (M := []) h0 ?_
    simp
    refine brn_app (fun a => ?_) (fun a => ?_)
    · simp at a
      have hl : i < s.data.toList.length := by simpa using a
      rw [List.drop_eq_getElem_cons hl, List.all_cons] at hw
      rw [← byteAt_list s i a] at hw
      simp [a]
      refine Inv_intro (ok_l15Byte _) ?_
      simp
      refine brn_app (fun b => ?_) (fun b => ?_)
      · simp at b
        rw [b, Bool.false_and] at hw
        simp [isW, ← hw]
      · simp at b
        rw [b, Bool.true_and] at hw
        simp
        subst hI
        exact Less_mk (n - 1) (by omega) ⟨i + 1, by omega, hw, by rw [wrNext i (by omega)]⟩
    · simp at a
      rw [List.drop_of_length_le (by simp; omega), List.all_nil] at hw
      simp
      refine Inv_intro (ok_l1In _ _ _) ?_
      simp [isW, ← hw]
theorem ok_l15Path (k : Nat) (p : List ByteArray) (hl : p.length ≤ 140737488351232) (hs : ∀ s ∈ p, s.size ≤ 140737488355328) : CallOK Try.prog 92 [.c (rd k p.length (p.map ps))] (.c (pb (isP p))) [.c (rd k p.length (p.map ps))] := by
  refine okS (fn := Try.f92) [] h0 Try.func92 (by kernel_rfl) rfl Try.ntmps92 Try.results92 (by simp) ?_
  simp
  refine loopS [0, 5, 6, 7] [] (fun n st => ∃ (i : Nat), i + n = p.length ∧ (p.drop i).all isW = p.all isW ∧ st = ⟨slOf 18 [(0, .t (rd k p.length (p.map ps))), (5, .t (rd k p.length (p.map ps))), (6, .t (pi p.length)), (7, .t (pi i))], ofL []⟩) p.length ?_ ?_
  · rintro Inv hI
    simp
    subst hI
    exact ⟨0, by omega, rfl, rfl⟩
  · rintro Inv hI n st ⟨i, hi, hw, rfl⟩
    refine ewr_sound (M := []) h0 ?_
    simp
    refine brn_app (fun a => ?_) (fun a => ?_)
    · simp at a
      rw [drop_step _ i a, List.all_cons] at hw
      simp [a]
      refine Inv_intro (ok_l15Word _ (hs _ (List.getElem_mem a))) ?_
      simp
      refine brn_app (fun b => ?_) (fun b => ?_)
      · simp at b
        rw [b, Bool.false_and] at hw
        simp [isP, ← hw]
      · simp at b
        rw [b, Bool.true_and] at hw
        simp
        subst hI
        exact Less_mk (n - 1) (by omega) ⟨i + 1, by omega, hw, by rw [wrNext i (by omega)]⟩
    · simp at a
      rw [List.drop_of_length_le (by omega), List.all_nil] at hw
      simp
      refine Inv_intro (ok_l1In _ _ _) ?_
      simp [isP, ← hw]
theorem ok_iGoodConfig (k : Nat) (l : List GLeaf) (hl : confOK l) : CallOK Try.prog 44 [.c (rd k l.length (l.flatMap (GLeaf.ci k)))] (.c (pb (goodC l))) [.c (rd k l.length (l.flatMap (GLeaf.ci k)))] := by
  obtain ⟨hll, hlx⟩ := hl
  refine okS (fn := Try.f44) [] h0 Try.func44 (by kernel_rfl) rfl Try.ntmps44 Try.results44 (by simp) ?_
  simp
  refine loopS [0, 5, 6, 7] [] (fun n st => ∃ (i : Nat), i + n = l.length ∧ goodG (prevC l i) (l.drop i) = goodG none l ∧ st = ⟨slOf 53 [(0, .t (rd k l.length (l.flatMap (GLeaf.ci k)))), (5, .t (rd k l.length (l.flatMap (GLeaf.ci k)))), (6, .t (pi l.length)), (7, .t (pi i))], ofL []⟩) l.length ?_ ?_
  · rintro Inv hI
    simp
    subst hI
    exact ⟨0, by omega, rfl, rfl⟩
  · rintro Inv hI n st ⟨i, hi, hg, rfl⟩
    refine ewr_sound (M := []) h0 ?_
    simp
    refine brn_app (fun a => ?_) (fun a => ?_)
    · simp at a
      have hx := hlx l[i] (List.getElem_mem a)
      obtain ⟨⟨hx1, hx2⟩, hx3⟩ := hx
      rw [drop_step _ i a, goodG] at hg
      have hd := fm_drop (GLeaf.ci k) 2 (fun _ => rfl) l i a
      have hlen := fm_len (GLeaf.ci k) 2 (fun _ => rfl) l
      have hlt : i * 2 < l.length * 2 := by omega
      have en : prevC l (i + 1) = some l[i] := prevC_next l i a
      by_cases c0 : i = 0
      · have e0 : ¬ 0 < i := by omega
        have ep : prevC l i = none := by simp [prevC, c0]
        rw [ep, adjC, Bool.and_true] at hg
        simp [a, hd, hlen, hlt]
        refine drawP (tabEnv [] _) [⟨[.op 3 3 0], allD 53, true⟩, ⟨[.op 3 3 0], allD 53, true⟩, ⟨[], allD 53, false⟩, ⟨[], allD 53, true⟩, ⟨[], allD 53, true⟩, ⟨[.op 3 3 0], allD 53, true⟩, ⟨[.op 3 3 0], allD 53, true⟩, ⟨[], allD 53, false⟩, ⟨[], allD 53, true⟩, ⟨[], allD 53, true⟩, ⟨[], allD 53, true⟩, ⟨[], allD 53, true⟩, ⟨[], allD 53, true⟩, ⟨[], allD 53, true⟩, ⟨[], allD 53, true⟩, ⟨[], allD 53, true⟩, ⟨[], allD 53, true⟩, ⟨[], allD 53, true⟩, ⟨[], allD 53, true⟩, ⟨[], allD 53, true⟩, ⟨[.op 3 3 0], allD 53, true⟩, ⟨[.op 3 3 0], allD 53, true⟩, ⟨[], allD 53, false⟩, ⟨[], allD 53, true⟩, ⟨[], allD 53, true⟩, ⟨[], allD 53, true⟩, ⟨[], allD 53, true⟩, ⟨[], allD 53, true⟩, ⟨[], allD 53, true⟩, ⟨[], allD 53, true⟩, ⟨[], allD 53, true⟩, ⟨[.op 3 3 0], allD 53, true⟩, ⟨[.op 3 3 0], allD 53, true⟩, ⟨[], allD 53, false⟩, ⟨[], allD 53, true⟩, ⟨[], allD 53, true⟩, ⟨[], allD 53, true⟩] h0 hm (tabEnv_ok (tab_cons (ok_areWords k l[i].Path hx1 hx2) (tab_cons (ok_isWord l[i].Value hx3) tab_nil))) (by kernel_rfl) (by kernel_rfl) ?_
        cases c1 : isP l[i].Path with
        | false =>
          have hk : okLeaf l[i] = false := by simp [okLeaf, c1]
          rw [hk, Bool.false_and] at hg
          simp [c1, goodC, ← hg]
        | true =>
          cases c2 : isW l[i].Value with
          | false =>
            have hk : okLeaf l[i] = false := by simp [okLeaf, c2]
            rw [hk, Bool.false_and] at hg
            simp [c1, c2, goodC, ← hg]
          | true =>
            have hk : okLeaf l[i] = true := by simp [okLeaf, c1, c2]
            rw [hk, Bool.true_and] at hg
            simp [c1, c2, e0]
            subst hI
            exact Less_mk (n - 1) (by omega) ⟨i + 1, by omega, by rw [en]; exact hg, by rw [wrNext i (by omega)]⟩
      · obtain ⟨j, hj⟩ : ∃ j, i = j + 1 := ⟨i - 1, by omega⟩
        have aj : j < l.length := by omega
        have ep : prevC l i = some l[j] := by subst hj; exact prevC_next l j aj
        obtain ⟨⟨hy1, hy2⟩, hy3⟩ := hlx l[j] (List.getElem_mem aj)
        have hdj := fm_drop (GLeaf.ci k) 2 (fun _ => rfl) l j aj
        have hltj : j * 2 < l.length * 2 := by omega
        have hw : IntKind.wrap .i64 ((i : Int) - 1) = j := (wrap64 (by omega) (by omega)).trans (by omega)
        have e0 : 0 < i := by omega
        rw [ep, adjC] at hg
        have hcl := cmpP_less l[j].Path l[i].Path
        simp [a, hd, hlen, hlt]
        refine drawP (tabEnv [] _) [⟨[.op 3 3 0], allD 53, true⟩, ⟨[.op 3 3 0], allD 53, true⟩, ⟨[], allD 53, false⟩, ⟨[], allD 53, true⟩, ⟨[], allD 53, true⟩, ⟨[.op 3 3 0], allD 53, true⟩, ⟨[.op 3 3 0], allD 53, true⟩, ⟨[], allD 53, false⟩, ⟨[], allD 53, true⟩, ⟨[], allD 53, true⟩, ⟨[], allD 53, true⟩, ⟨[], allD 53, true⟩, ⟨[], allD 53, true⟩, ⟨[], allD 53, true⟩, ⟨[], allD 53, true⟩, ⟨[], allD 53, true⟩, ⟨[], allD 53, true⟩, ⟨[], allD 53, true⟩, ⟨[], allD 53, true⟩, ⟨[], allD 53, true⟩, ⟨[.op 3 3 0], allD 53, true⟩, ⟨[.op 3 3 0], allD 53, true⟩, ⟨[], allD 53, false⟩, ⟨[], allD 53, true⟩, ⟨[], allD 53, true⟩, ⟨[], allD 53, true⟩, ⟨[], allD 53, true⟩, ⟨[], allD 53, true⟩, ⟨[], allD 53, true⟩, ⟨[], allD 53, true⟩, ⟨[], allD 53, true⟩, ⟨[.op 3 3 0], allD 53, true⟩, ⟨[.op 3 3 0], allD 53, true⟩, ⟨[], allD 53, false⟩, ⟨[], allD 53, true⟩, ⟨[], allD 53, true⟩, ⟨[], allD 53, true⟩] h0 hm (tabEnv_ok (tab_cons (ok_areWords k l[i].Path hx1 hx2) (tab_cons (ok_isWord l[i].Value hx3) (tab_cons (ok_cmpP k k l[j].Path l[i].Path hy1 hx1) (tab_cons (ok_begins k k l[j].Path l[i].Path hy1 hx1) tab_nil))))) (by kernel_rfl) (by kernel_rfl) ?_
        cases c1 : isP l[i].Path with
        | false =>
          have hk : okLeaf l[i] = false := by simp [okLeaf, c1]
          rw [hk, Bool.false_and, Bool.false_and] at hg
          simp [c1, goodC, ← hg]
        | true =>
          cases c2 : isW l[i].Value with
          | false =>
            have hk : okLeaf l[i] = false := by simp [okLeaf, c2]
            rw [hk, Bool.false_and, Bool.false_and] at hg
            simp [c1, c2, goodC, ← hg]
          | true =>
            have hk : okLeaf l[i] = true := by simp [okLeaf, c1, c2]
            rw [hk, Bool.true_and] at hg
            cases c3 : lessP l[j].Path l[i].Path with
            | false =>
              rw [c3, Bool.false_and, Bool.false_and] at hg
              have c3' : 0 ≤ cmpP l[j].Path l[i].Path := by simpa [c3] using hcl
              simp [c1, c2, c3', e0, hw, aj, hdj, hlen, hltj, goodC, ← hg]
            | true =>
              have c3' : ¬ 0 ≤ cmpP l[j].Path l[i].Path := by simpa [c3] using hcl
              cases c4 : begP l[j].Path l[i].Path with
              | true =>
                rw [c3, c4] at hg
                have hg' : false = goodG none l := hg
                simp [c1, c2, c3', c4, e0, hw, aj, hdj, hlen, hltj, goodC, ← hg']
              | false =>
                rw [c3, c4] at hg
                have hg' : goodG (some l[i]) (l.drop (i + 1)) = goodG none l := hg
                simp [c1, c2, c3', c4, e0, hw, aj, hdj, hlen, hltj]
                subst hI
                exact Less_mk (n - 1) (by omega) ⟨i + 1, by omega, by rw [en]; exact hg', by rw [wrNext i (by omega)]⟩
    · simp at a
      rw [List.drop_of_length_le (by omega)] at hg
      have hg' : true = goodG none l := by rw [← hg]; cases prevC l i <;> rfl
      simp [goodC, ← hg']
      omega
theorem ok_ownConfig (k : Nat) (l : List GLeaf) (hl : l.length ≤ 1048576) (hx : ∀ x ∈ l, x.Path.length ≤ 1048576) : CallOK Try.prog 83 [.c (rd k l.length (l.flatMap (GLeaf.ci k)))] (.c (.sl 0 103 l.length (l.flatMap GLeaf.co))) [.c (rd k l.length (l.flatMap (GLeaf.ci k)))] := by
  refine okS (fn := Try.f83) [] h0 Try.func83 (by kernel_rfl) rfl Try.ntmps83 Try.results83 (by simp) ?_
  simp
  refine ewp_sw (.op 1 0 0) (.op 5 8 0) rfl rfl ?_
  simp
  refine loopS [3, 7, 8, 9] [.op 5 8 0] (fun n st => ∃ (i : Nat), i + n = l.length ∧ st = ⟨slOf 24 [(3, .ref ⟨.op 5 8 0, []⟩ 0 i), (7, .t (rd k l.length (l.flatMap (GLeaf.ci k)))), (8, .t (pi l.length)), (9, .t (pi i))], ofL [(.op 5 8 0, .sl 0 103 i ((l.take i).flatMap GLeaf.co))]⟩) l.length ?_ ?_
  · rintro Inv hI
    simp
    subst hI
    exact ⟨0, by omega, by simp⟩
  · rintro Inv hI n st ⟨i, hi, rfl⟩
    have hA := fm_take_len GLeaf.co 2 (fun _ => rfl) l i (by omega)
    generalize hAe : ((l.take i).flatMap GLeaf.co) = A at hA ⊢
    refine ewr_sound (M := []) h0 ?_
    simp
    refine brn_app (fun a => ?_) (fun a => ?_)
    · simp at a
      have hd := fm_drop (GLeaf.ci k) 2 (fun _ => rfl) l i a
      have hlen := fm_len (GLeaf.ci k) 2 (fun _ => rfl) l
      have hlt : i * 2 < l.length * 2 := by omega
      have hb1 : (i + 1) * 40 ≤ 140737488355328 := by omega
      have hb2 : i ≤ 9223372036854775806 := by omega
      have hp := hx _ (List.getElem_mem a)
      have hp1 : l[i].Path.length * 16 ≤ 140737488355328 := by omega
      have hp2 : l[i].Path.length ≤ 9223372036854775807 := by omega
      have ht : A.take (i * 2) = A := List.take_of_length_le (by omega)
      have e3 : ((l.take (i + 1)).flatMap GLeaf.co) = A ++ GLeaf.co l[i] := by rw [take_step l i a, List.flatMap_append, hAe, List.flatMap_cons, List.flatMap_nil, List.append_nil]
      simp [a, hd, hlen, hlt]
      refine drawP (tabEnv [] _) [⟨[.op 5 8 0], allD 24, true⟩, ⟨[.op 4 2 0], allD 24, true⟩, ⟨[.op 4 2 0], allD 24, true⟩, ⟨[], allD 24, false⟩, ⟨[.op 4 2 0], allD 24, true⟩, ⟨[.op 4 2 0], allD 24, true⟩, ⟨[.op 5 3 0], allD 24, true⟩, ⟨[.op 5 3 0, .op 5 6 0], [13, 14, 15, 16, 17, 18, 19, 20, 21, 3], false⟩, ⟨[.op 5 8 0, .op 5 7 0], [13, 14, 15, 16, 17, 18, 19, 20, 21, 3], false⟩, ⟨[.op 5 8 0], allD 24, true⟩] h0 hm (tabEnv_ok (tab_cons (ok_Clone_String k l[i].Path hp) tab_nil)) (by kernel_rfl) (by kernel_rfl) ?_
      simp [hA, hb1, hb2, ht]
      subst hI
      refine Less_mk (n - 1) (by omega) ⟨i + 1, by omega, ?_⟩
      rw [wrNext i (by omega), e3]
      all_goals simp
    · simp at a
      have hn : n = 0 := by omega
      subst hn
      have ht : List.take i l = l := List.take_of_length_le (by omega)
      have hil : i = l.length := by omega
      rw [← hAe, ht, hil]
      simp
def begL (p : List ByteArray) (x : GLeaf) : Bool := begP p x.Path
def delL (p : List ByteArray) (l : List GLeaf) : List GLeaf := l.filter fun x => !begL p x
theorem delL_len (p : List ByteArray) (l : List GLeaf) : (delL p l).length ≤ l.length := List.length_filter_le _ _
def rDeleteAt (l : List GLeaf) (p : List ByteArray) : List GLeaf × Bool := if (goodC l && isP p && !decide ((delL p l).length = l.length)) = true then (delL p l, true) else ([], false)
theorem ok_DeleteAt1 (q k k' : Nat) (x : GLeaf) (p : List ByteArray) (hx : x.Path.length ≤ 140737488351232) (hp : p.length ≤ 140737488351232) : CallOK Try.prog 115 [.agg (GLeaf.ci k x), .ip q [rd k' p.length (p.map ps)]] (.c (pb (begL p x))) [.agg (GLeaf.ci k x), .ip q [rd k' p.length (p.map ps)]] := by
  refine okS (fn := Try.f115) [] h0 Try.func115 (by kernel_rfl) rfl Try.ntmps115 Try.results115 (by simp) ?_
  simp
  refine Inv_intro (ok_begins k' k p x.Path hp hx) ?_
  simp [begL]
theorem ok_iDeleteAt (k k' : Nat) (l : List GLeaf) (p : List ByteArray) (hl : l.length ≤ 1048576) (hx : ∀ x ∈ l, x.Path.length ≤ 1048576) (hlo : confOK l) (hp : strsOK p) : CallOK Try.prog 85 [.c (rd k l.length (l.flatMap (GLeaf.ci k))), .c (rd k' p.length (p.map ps))] (.tup [.c (.sl 0 103 (rDeleteAt l p).1.length ((rDeleteAt l p).1.flatMap GLeaf.co)), .c (pb (rDeleteAt l p).2)]) [.c (rd k l.length (l.flatMap (GLeaf.ci k))), .c (rd k' p.length (p.map ps))] := by
  refine okS (fn := Try.f85) [(114, [2])] h0 Try.func85 (by kernel_rfl) rfl Try.ntmps85 Try.results85 (by simp) ?_
  simp
  refine Inv_intro (ok_iGoodConfig k l hlo) ?_
  simp
  cases c1 : goodC l with
  | false => simp [rDeleteAt, c1]
  | true =>
    simp
    refine Inv_intro (ok_areWords k' p hp.1 hp.2) ?_
    simp
    cases c2 : isP p with
    | false => simp [rDeleteAt, c2]
    | true =>
      simp
      refine Inv_intro (ok_ownConfig k l hl hx) ?_
      simp
      refine Inv_intro (ok_DeleteFunc_Leaf 1 115 [[rd 0 p.length (p.map ps)]] (begL p) l hlo.1 (fun x hx => ok_DeleteAt1 1 0 0 x p (hlo.2 x hx).1.1 hp.1)) ?_
      have hdl : l.filter (fun x => !begL p x) = delL p l := rfl
      have hll := delL_len p l
      rw [hdl]
      simp
      refine brn_app (fun a => ?_) (fun a => ?_)
      · simp at a
        have h : (delL p l).length = l.length := by omega
        simp [rDeleteAt, h]
      · simp at a
        have h : ¬ (delL p l).length = l.length := by omega
        have er : rDeleteAt l p = (delL p l, true) := by simp [rDeleteAt, c1, c2, h]
        rw [er]
        simp
theorem ok_setAt2 (k k' : Nat) (x : GLeaf) (p : List ByteArray) (hx : x.Path.length ≤ 140737488351232) (hp : p.length ≤ 140737488351232) : CallOK Try.prog 134 [.agg (GLeaf.ci k x), .c (rd k' p.length (p.map ps))] (.c (pi (cmpP x.Path p))) [.agg (GLeaf.ci k x), .c (rd k' p.length (p.map ps))] := by
  refine okS (fn := Try.f134) [] h0 Try.func134 (by kernel_rfl) rfl Try.ntmps134 Try.results134 (by simp) ?_
  simp
  refine Inv_intro (ok_cmpP k k' x.Path p hx hp) ?_
  simp
def clashB (p : List ByteArray) (x : GLeaf) : Bool := begP x.Path p || begP p x.Path
theorem ok_setAt1 (q k k' : Nat) (x : GLeaf) (p : List ByteArray) (hx : x.Path.length ≤ 140737488351232) (hp : p.length ≤ 140737488351232) : CallOK Try.prog 132 [.agg (GLeaf.ci k x), .ip q [rd k' p.length (p.map ps)]] (.c (pb (clashB p x))) [.agg (GLeaf.ci k x), .ip q [rd k' p.length (p.map ps)]] := by
  refine okS (fn := Try.f132) [] h0 Try.func132 (by kernel_rfl) rfl Try.ntmps132 Try.results132 (by simp) ?_
  simp
  refine Inv_intro (ok_begins k k' x.Path p hx hp) ?_
  simp
  cases h : begP x.Path p with
  | true => simp [clashB, h]
  | false =>
    simp
    refine Inv_intro (ok_begins k' k p x.Path hp hx) ?_
    simp [clashB, h]
theorem ok_BS_Leaf (k k' : Nat) (xs : List GLeaf) (p : List ByteArray) (hl : confOK xs) (hp : p.length ≤ 140737488351232) (hmono : ∀ (i j : Nat) (hij : i < j) (hj : j < xs.length), cmpP xs[j].Path p < 0 → cmpP xs[i].Path p < 0) :
    CallOK Try.prog 133 [.c (rd k xs.length (xs.flatMap (GLeaf.ci k))), .c (rd k' p.length (p.map ps)), .c (.fn 0 134 [])] (.tup [.c (pi (bsI (fun o : GLeaf => cmpP o.Path p) xs)), .c (pb (bsF (fun o : GLeaf => cmpP o.Path p) xs))]) [.c (rd k xs.length (xs.flatMap (GLeaf.ci k))), .c (rd k' p.length (p.map ps)), .c (.fn 0 134 [])] := by
  refine okS (fn := Try.f133) [] h0 Try.func133 (by kernel_rfl) rfl Try.ntmps133 Try.results133 (by simp) ?_
  simp
  have hxl := hl.1
  refine loopS [0, 1, 2, 8, 9, 10] [] (fun m st => ∃ (i j : Nat), i + m = j ∧ j ≤ xs.length ∧ (∀ (q : Nat) (hq : q < i) (hl : q < xs.length), cmpP xs[q].Path p < 0) ∧ (∀ (q : Nat) (hq : j ≤ q) (hl : q < xs.length), 0 ≤ cmpP xs[q].Path p) ∧ st = ⟨slOf 49 [(0, .t (rd k xs.length (xs.flatMap (GLeaf.ci k)))), (1, .t (rd k' p.length (p.map ps))), (2, .t (.fn 0 134 [])), (8, .t (pi xs.length)), (9, .t (pi i)), (10, .t (pi j))], ofL []⟩) xs.length ?_ ?_
  · rintro Inv hI
    simp
    subst hI
    exact ⟨0, xs.length, by omega, by omega, by intro q hq; omega, by intro q hq h; omega, rfl⟩
  · rintro Inv hI m st ⟨i, j, hm, hj, hlo, hhi, rfl⟩
    refine ewr_sound (M := []) h0 ?_
    simp
    refine brn_app (fun a => ?_) (fun a => ?_)
    · simp at a
      have hw0 : IntKind.wrap .i64 ((i : Int) + j) = (i : Int) + j := wrap64 (by omega) (by omega)
      have hw := half_u64 i j (by omega)
      obtain ⟨h, hh⟩ : ∃ h, h = (i + j) / 2 := ⟨_, rfl⟩
      rw [← hh] at hw
      have hb : h < xs.length := by omega
      have hd := fm_drop (GLeaf.ci k) 2 (fun _ => rfl) xs h hb
      have hlen := fm_len (GLeaf.ci k) 2 (fun _ => rfl) xs
      have hlt : h * 2 < xs.length * 2 := by omega
      simp [hw0, hw, hb, hd, hlen, hlt]
      refine Inv_intro (ok_setAt2 k k' xs[h] p (hl.2 _ (List.getElem_mem hb)).1.1 hp) ?_
      simp
      refine brn_app (fun b => ?_) (fun b => ?_)
      · simp at b
        have hn1 : IntKind.wrap .i64 ((h : Int) + 1) = ((h + 1 : Nat) : Int) := wrNext h (by omega)
        simp
        subst hI
        refine Less_mk (j - (h + 1)) (by omega) ⟨h + 1, j, by omega, hj, ?_, hhi, by rw [hn1]⟩
        intro q hq hql
        rcases Nat.lt_or_ge q h with h' | h'
        · exact hmono q h h' hb b
        · have : q = h := by omega
          subst this
          exact b
      · simp at b
        simp
        subst hI
        refine Less_mk (h - i) (by omega) ⟨i, h, by omega, by omega, hlo, ?_, rfl⟩
        intro q hq hql
        rcases Nat.eq_or_lt_of_le hq with h' | h'
        · subst h'
          exact b
        · exact Int.not_lt.1 fun hc => by have := hmono h q h' hql hc; omega
    · simp at a
      have hij : i = j := by omega
      subst hij
      have e1 : bsI (fun o : GLeaf => cmpP o.Path p) xs = i := bsI_eq _ xs i hj hlo fun h => hhi i (Nat.le_refl _) h
      simp
      by_cases hb : i < xs.length
      · have hd := fm_drop (GLeaf.ci k) 2 (fun _ => rfl) xs i hb
        have hlen := fm_len (GLeaf.ci k) 2 (fun _ => rfl) xs
        have hlt : i * 2 < xs.length * 2 := by omega
        have e2 : bsF (fun o : GLeaf => cmpP o.Path p) xs = decide (cmpP xs[i].Path p = 0) := by simp only [bsF, e1, List.getElem?_eq_getElem hb]
        simp [hb, hd, hlen, hlt]
        refine Inv_intro (ok_setAt2 k k' xs[i] p (hl.2 _ (List.getElem_mem hb)).1.1 hp) ?_
        simp [e1, e2]
      · have e2 : bsF (fun o : GLeaf => cmpP o.Path p) xs = false := by simp only [bsF, e1, List.getElem?_eq_none (Nat.le_of_not_lt hb)]
        simp [hb, e1, e2]
theorem bless_trans : ∀ a b c : List UInt8, Op.bytesLess a b = true → Op.bytesLess b c = true → Op.bytesLess a c = true
  | [], [], _, h, _ => by simp [Op.bytesLess] at h
  | [], _ :: _, [], _, h => by simp [Op.bytesLess] at h
  | [], _ :: _, _ :: _, _, _ => by simp [Op.bytesLess]
  | _ :: _, [], _, h, _ => by simp [Op.bytesLess] at h
  | _ :: _, _ :: _, [], _, h => by simp [Op.bytesLess] at h
  | a :: ar, b :: br, c :: cr, h1, h2 => by
    have ih := bless_trans ar br cr
    unfold Op.bytesLess at h1 h2 ⊢
    simp only [Bool.or_eq_true, Bool.and_eq_true, decide_eq_true_eq, beq_iff_eq] at h1 h2 ⊢
    rcases h1 with h1 | ⟨rfl, h1⟩
    · rcases h2 with h2 | ⟨rfl, h2⟩
      · exact .inl (UInt8.lt_trans h1 h2)
      · exact .inl h1
    · rcases h2 with h2 | ⟨rfl, h2⟩
      · exact .inl h2
      · exact .inr ⟨rfl, ih h1 h2⟩
theorem sLt_trans {u v w : ByteArray} (h1 : sLt u v = true) (h2 : sLt v w = true) : sLt u w = true := bless_trans _ _ _ h1 h2
theorem lessP_trans : ∀ a b c : List ByteArray, lessP a b = true → lessP b c = true → lessP a c = true
  | [], [], _, h, _ => by simp [lessP] at h
  | [], _ :: _, [], _, h => by simp [lessP] at h
  | [], _ :: _, _ :: _, _, _ => by simp [lessP]
  | _ :: _, [], _, h, _ => by simp [lessP] at h
  | _ :: _, _ :: _, [], _, h => by simp [lessP] at h
  | a :: ar, b :: br, c :: cr, h1, h2 => by
    have ih := lessP_trans ar br cr
    unfold lessP at h1 h2 ⊢
    by_cases e1 : a = b
    · subst e1
      rw [if_pos rfl] at h1
      by_cases e2 : a = c
      · subst e2
        rw [if_pos rfl] at h2
        rw [if_pos rfl]
        exact ih h1 h2
      · rw [if_neg e2] at h2
        rw [if_neg e2]
        exact h2
    · rw [if_neg e1] at h1
      by_cases e2 : b = c
      · subst e2
        rw [if_neg e1]
        exact h1
      · rw [if_neg e2] at h2
        have h3 := sLt_trans h1 h2
        have e3 : ¬ a = c := by
          rintro rfl
          rw [sl_irr] at h3
          cases h3
        rw [if_neg e3]
        exact h3
theorem goodG_pair : ∀ (l : List GLeaf) (q : Option GLeaf), goodG q l = true → l.Pairwise (fun x y => lessP x.Path y.Path = true) ∧ ∀ y, q = some y → ∀ x ∈ l, lessP y.Path x.Path = true
  | [], q, _ => ⟨List.Pairwise.nil, fun _ _ _ h => absurd h (by simp)⟩
  | x :: l, q, h => by
    simp only [goodG, Bool.and_eq_true] at h
    obtain ⟨h1, h2⟩ := goodG_pair l (some x) h.2
    have hx := h2 x rfl
    refine ⟨List.pairwise_cons.2 ⟨hx, h1⟩, ?_⟩
    rintro y rfl z hz
    have hyx : lessP y.Path x.Path = true := by
      have := h.1.2
      simp only [adjC, Bool.and_eq_true] at this
      exact this.1
    rcases List.mem_cons.1 hz with rfl | hz
    · exact hyx
    · exact lessP_trans _ _ _ hyx (hx z hz)
theorem goodC_pair {l : List GLeaf} (h : goodC l = true) : l.Pairwise (fun x y => lessP x.Path y.Path = true) := by
  simp only [goodC, Bool.and_eq_true] at h
  exact (goodG_pair l none h.1).1
theorem cmpP_neg (a b : List ByteArray) : cmpP a b < 0 ↔ lessP a b = true := by
  have h := cmpP_less a b
  constructor
  · intro hc
    have : decide (0 ≤ cmpP a b) = false := by simp; omega
    rw [this] at h
    simpa using h.symm
  · intro hl
    rw [hl] at h
    simp at h
    omega
theorem pair_mono {m : List GLeaf} (h : m.Pairwise (fun x y => lessP x.Path y.Path = true)) (p : List ByteArray) (i j : Nat) (hij : i < j) (hj : j < m.length) : cmpP m[j].Path p < 0 → cmpP m[i].Path p < 0 := by
  rw [cmpP_neg, cmpP_neg]
  exact lessP_trans _ _ _ (List.pairwise_iff_getElem.1 h i j (by omega) hj hij)
theorem alloc_kp (bs : List Nat) (w : World) (blk : Obj) : Kp bs w (w.alloc blk) := ⟨rfl, rfl, rfl, by show w.heap.size ≤ (w.heap.push blk).size; rw [Array.size_push]; omega, fun k hk _ => by
  show (w.heap.push blk)[k]? = w.heap[k]?
  rw [Array.getElem?_push]
  rw [if_neg (by omega)]⟩
theorem alloc_at (w : World) (blk : Obj) : (w.alloc blk).heap[w.heap.size]? = some blk := by
  show (w.heap.push blk)[w.heap.size]? = some blk
  simp
/-- The cells of a row behind an insertion. -/
def insV (S i : Nat) (cv vv : List Value) : List Value := cv.take (i * S) ++ vv ++ cv.drop (i * S)
theorem insV_len (S i : Nat) (cv vv : List Value) : (insV S i cv vv).length = cv.length + vv.length := by
  unfold insV
  simp only [List.length_append, List.length_take, List.length_drop]
  omega
theorem insV_at (S i : Nat) (cv vv : List Value) (hv : vv.length = S) (hi : i * S ≤ cv.length) (j : Nat) : (insV S i cv vv)[j]? = if j < i * S then cv[j]? else if j < i * S + S then vv[j - i * S]? else cv[j - S]? := by
  have hl : (cv.take (i * S)).length = i * S := by rw [List.length_take]; omega
  unfold insV
  rw [List.append_assoc, List.getElem?_append, hl]
  split
  · rename_i h
    rw [List.getElem?_take, if_pos h]
  · rename_i h
    rw [List.getElem?_append, hv]
    split
    · rw [if_pos (by omega)]
    · rw [if_neg (by omega), List.getElem?_drop]
      congr 1
      omega
theorem getv {l : List Value} {j : Nat} {u : Value} (h : l[j]? = some u) : j < l.length := (List.getElem?_eq_some_iff.1 h).1
/-- A road of slices.Insert: at the end. -/
theorem ins_end (base : Option Addr) (vb n c vc : Nat) (w w1 : World) (r : Value) (hn : n ≤ c)
    (hr : ∀ ty, (Builtin.append_ #[58, 58] ty #[.slice base n c, .slice (some ⟨vb, 0, none⟩) 1 vc]).run Try.prog w = .ok r w1) :
    Calls Try.prog 135 #[.slice base n c, .int .i64 n, .slice (some ⟨vb, 0, none⟩) 1 vc] w fun e w' => e = .returned r ∧ w' = w1 := by
  have mixed : Try.prog.follows .mixedOrders = true := by kernel_rfl
  have tS : Try.prog.underlying 58 = some (.slice 103) := by kernel_rfl
  have uS := run_underlying tS
  have zE : ∀ w, (Go.sizeOf 103).run Try.prog w = .ok 2 w := fun w => by kernel_rfl
  have zS : ∀ w, (Go.sizeOf 58).run Try.prog w = .ok 1 w := fun w => by kernel_rfl
  have aS : ∀ w, (isAgg 58).run Try.prog w = .ok false w := fun w => by kernel_rfl
  have t3 : Try.prog.underlying 3 = some (.int .i64) := by kernel_rfl
  have u3 := run_underlying t3
  have a3 : ∀ w, (isAgg 3).run Try.prog w = .ok false w := fun w => by kernel_rfl
  have z3 : ∀ w, (Go.sizeOf 3).run Try.prog w = .ok 1 w := fun w => by kernel_rfl
  go_enter Try.func135, Try.ntmps135
  go_wp2_with (at_builtin; refine Lib.wpList_append_run _ rfl _ _ _ _ rfl _ _ rfl rfl _ _ (hr _) ?_)
  all_goals (go_ret; exact ⟨rfl, rfl⟩)
theorem run_copy_n {P : Program} (w : World) (dT sT ty elem : TypeId) (b o dLen dCap : Nat) (a : Addr) (sLen sCap sz : Nat) (cs : List Value)
    (hu : P.underlying dT = some (.slice elem)) (hs : (P.info? elem).map (·.size) = some sz) (hn : cs.length = Nat.min sLen dLen * sz)
    (hsrc : ∀ j v, cs[j]? = some v → w.cell? (a.add j) = some v) (hc : ∀ j, j < cs.length → (w.cell? ⟨b, o + j, none⟩).isSome = true) (hf : ∀ j, j < cs.length → w.frozen? ⟨b, o + j, none⟩ = false) (h1 : ∀ v ∈ cs, v.oneCell' = true) :
    (Builtin.copy_ #[dT, sT] ty #[.slice (some ⟨b, o, none⟩) dLen dCap, .slice (some a) sLen sCap]).run P w = .ok (goInt (Nat.min sLen dLen)) (w.setCells b o cs) := by
  have hl := run_loadCells_list (P := P) w a cs hsrc
  have hst := run_storeCells_cells (P := P) b o cs 0 w (by simpa using hc) (by simpa using hf) h1
  cases hq : P.info? elem with
  | none => simp [hq] at hs
  | some i =>
    have hi : i.size = sz := by simpa [hq] using hs
    simp [Builtin.copy_, run_underlying hu, Builtin.lenOf, Builtin.firstCells, sizeOf, typeInfo, hq, hi, ← hn, hl, hst]
end Go.V
