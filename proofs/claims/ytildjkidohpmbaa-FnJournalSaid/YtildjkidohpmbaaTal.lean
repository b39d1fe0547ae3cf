/- What functions of the seat's program do, each proved of its code, under the bounds that its theorem names. -/
import Derived.Test.YtildjkidohpmbaaTak
set_option linter.all false
namespace Go.V
open Go.Proofs
set_option maxHeartbeats 1000000
set_option maxRecDepth 10000
set_option linter.unusedSimpArgs false
set_option linter.unusedVariables false
theorem okD_wt2 {d : GDisk} {m : Nat} (h : okD d m) (hm : m ≤ 1000) : GDisk.wt d ≤ 1048576 := by
  obtain ⟨a, b, c, e⟩ := h
  have h1 : wtR ByteArray.size d.Sectors ≤ d.Sectors.length * (20 + 1) := wtR_leC ByteArray.size 20 d.Sectors b
  have h2 : wtR GWrite.wt d.Waiting ≤ d.Waiting.length * (20 + 1) := wtR_leC GWrite.wt 20 d.Waiting fun w hw => (e w hw).2
  unfold GDisk.wt
  show wtR ByteArray.size d.Sectors + wtR GWrite.wt d.Waiting ≤ 1048576
  omega
theorem good_wt {d : GDisk} (h : goodDisk d = true) : GDisk.wt d ≤ 1048576 := okD_wt2 (good_okD h) (by decide)
theorem saves_wt {l : List ByteArray} (h : savesOK l) : wt_StringS l ≤ 1048576 := by
  have := wtR_leC ByteArray.size 100 l h.2
  have := h.1
  show wtR ByteArray.size l ≤ 1048576
  omega
theorem sec_drop (l : List ByteArray) (i : Nat) (h : i < l.length) : List.drop i (l.map ps) = ps (secAt l i) :: List.drop (i + 1) (l.map ps) := by
  rw [List.drop_eq_getElem_cons (by rw [List.length_map]; exact h), List.getElem_map, secAt_get l i h]
theorem ok_FnJournal (code : List Int) (hc : codeOK code) : CallOK Try.prog 3 [.c (rd 1 code.length (code.map pu))] (.c (pb true)) [.c (rd 1 code.length (code.map pu))] := by
  obtain ⟨l, done, kept, ⟨hl, hl1, hd, hk⟩, hdraw⟩ := ok_DrawPlaySaves code hc
  have hwl := saves_wt hl
  have hwk : wt_BoolS kept ≤ 1048576 := by
    have : wt_BoolS kept = kept.length := by simp [wt_BoolS, wtR]
    omega
  have hi := law_iPlaySaves l done kept hwl hwk
  have hs := law_sPlaySaves l done kept hwl hwk
  have hlt : List.take l.length (l.map ps) = l.map ps := List.take_of_length_le (by rw [List.length_map]; exact Nat.le_refl _)
  have hkt : List.take kept.length (kept.map pb) = kept.map pb := List.take_of_length_le (by rw [List.length_map]; exact Nat.le_refl _)
  refine okS (fn := Try.f3) [] h0 Try.func3 (by kernel_rfl) rfl Try.ntmps3 Try.results3 (by simp) ?_
  simp
  by_cases hbig : code.length ≤ 1048576
  · have d1 : ¬ (1048576 : Int) < (code.length : Int) := by omega
    simp [d1]
    refine Inv_intro hdraw ?_
    simp [hlt, hkt]
    refine Inv_intro hi ?_
    simp [hlt, hkt]
    refine Inv_intro hs ?_
    simp
    cases hr2 : (rPlaySaves l done kept).2 with
    | false =>
      have e : rPlaySaves l done kept = (⟨[], []⟩, false) := by
        unfold rPlaySaves at hr2 ⊢
        split at hr2
        · rename_i h
          rw [if_pos h]
          split at hr2
          · cases hr2
          · rfl
        · rename_i h; rw [if_neg h]
      rw [e]
      simp
      refine Inv_intro (ok_sameDisks 0 0 ⟨[], []⟩ (Nat.zero_le _) (Nat.zero_le _)) ?_
      simp
    | true =>
      have e : rPlaySaves l done kept = ((rPlaySaves l done kept).1, true) := by rw [← hr2]
      generalize (rPlaySaves l done kept).1 = d at e
      obtain ⟨n1, n2, hg, hw, hload⟩ := play_last e
      have hD := good_okD hg
      have hL := law_iLoadFrom d (good_wt hg)
      have hG := ok_iGoodDisk 0 d (by have := hD.1; omega) (by have := hD.2.2.1; omega)
      have eL : rLoadFrom d = loadR d.Sectors := by unfold rLoadFrom; rw [if_pos hg]
      rw [hg] at hG
      rw [eL] at hL
      refine Inv_intro (ok_sameDisks 0 0 d (by have := hD.1; omega) (by have := hD.2.2.1; omega)) ?_
      simp
      refine Inv_intro hL ?_
      rw [hload]
      clear hL hload eL e hr2 hi hs hdraw
      obtain ⟨m, hm⟩ : ∃ m, l.length = m + 1 := ⟨l.length - 1, by omega⟩
      have hdr := sec_drop l m (by omega)
      have em : l.length - 1 = m := by omega
      have w1 : IntKind.i64.wrap ((l.length : Int) - 1) = (m : Int) := by rw [wrap64 (by omega) (by omega)]; omega
      have hml : m < l.length := by omega
      have hml2 : (m : Int) < (l.length : Int) := by omega
      have hlast : m = 0 ∨ ∃ j, m = j + 1 := by cases m with
        | zero => exact .inl rfl
        | succ j => exact .inr ⟨j, rfl⟩
      have em2 : (l.length : Int) - 1 = (m : Int) := by omega
      have hsec := secAt_get l m hml
      rw [em]
      by_cases cA : done = 7 ∨ (done = 6 ∧ kp kept 0 = true)
      · rw [if_pos cA]
        simp
        refine Inv_intro hG ?_
        simp [hw, w1]
        rcases cA with rfl | ⟨rfl, hkp⟩
        · simp [hml, hml2, hdr, hsec]
        · cases kept with
          | nil => simp [kp] at hkp
          | cons k0 ks =>
            have hk0 : k0 = true := by simpa [kp] using hkp
            subst hk0
            simp [hml, hml2, hdr, hsec]
      · rw [if_neg cA, em2]
        have c7 : ¬ done = 7 := fun h => cA (.inl h)
        rcases hlast with rfl | ⟨j, rfl⟩
        · have e0 : lastT l 0 = ⟨#[]⟩ := rfl
          rw [e0]
          simp
          refine Inv_intro hG ?_
          simp [hw, w1, c7]
          by_cases c6 : done = 6
          · cases kept with
            | nil => simp [c6]
            | cons k0 ks =>
              have hk0 : k0 = false := by
                cases k0 with
                | false => rfl
                | true => exact absurd (.inr ⟨c6, rfl⟩) cA
              subst hk0
              simp [c6]
          · simp [c6]
        · have hj : j < l.length := by omega
          have hj2 : (j : Int) < (l.length : Int) := by omega
          have hdr2 := sec_drop l j hj
          have hsec2 := secAt_get l j hj
          have e0 : lastT l (j + 1) = secAt l j := rfl
          have w4 : IntKind.i64.wrap (((j + 1 : Nat) : Int) - 1) = (j : Int) := by rw [wrap64 (by omega) (by omega)]; omega
          have j1 : (0 : Int) < ((j + 1 : Nat) : Int) := by omega
          rw [e0]
          rw [hsec2] at hdr2 ⊢
          generalize ((j + 1 : Nat) : Int) = J at *
          simp
          refine Inv_intro hG ?_
          simp [hw, w1, c7]
          by_cases c6 : done = 6
          · cases kept with
            | nil => simp [c6, hj, hj2, hdr2, w4, j1]
            | cons k0 ks =>
              have hk0 : k0 = false := by
                cases k0 with
                | false => rfl
                | true => exact absurd (.inr ⟨c6, rfl⟩) cA
              subst hk0
              simp [c6, hj, hj2, hdr2, w4, j1]
          · simp [c6, hj, hj2, hdr2, w4, j1]
  · have d1 : (1048576 : Int) < (code.length : Int) := by omega
    simp [d1]
end Go.V
