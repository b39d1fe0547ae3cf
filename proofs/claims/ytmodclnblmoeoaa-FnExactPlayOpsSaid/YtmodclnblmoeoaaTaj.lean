/- What functions of the seat's program do, each proved of its code, under the bounds that its theorem names. -/
import Derived.Test.YtmodclnblmoeoaaTai
set_option linter.all false
namespace Go.V
open Go.Proofs
set_option maxHeartbeats 1000000
set_option maxRecDepth 10000
set_option linter.unusedSimpArgs false
set_option linter.unusedVariables false
def hasV (l : List GLeaf) (p : List ByteArray) : ByteArray := match l.find? (atP p) with
  | some x => x.Value
  | none => ⟨#[]⟩
theorem ok_l15Has (k k' : Nat) (l : List GLeaf) (p : List ByteArray) (hl : confOK l) (hp : p.length ≤ 140737488351232) : CallOK Try.prog 127 [.c (rd k l.length (l.flatMap (GLeaf.ci k))), .c (rd k' p.length (p.map ps))] (.c (ps (hasV l p))) [.c (rd k l.length (l.flatMap (GLeaf.ci k))), .c (rd k' p.length (p.map ps))] := by
  have hll := hl.1
  refine okS (fn := Try.f127) [] h0 Try.func127 (by kernel_rfl) rfl Try.ntmps127 Try.results127 (by simp) ?_
  simp
  refine loopS [1, 7, 8, 9] [] (fun n st => ∃ (i : Nat), i + n = l.length ∧ (l.drop i).find? (atP p) = l.find? (atP p) ∧ st = ⟨slOf 20 [(1, .t (rd k' p.length (p.map ps))), (7, .t (rd k l.length (l.flatMap (GLeaf.ci k)))), (8, .t (pi l.length)), (9, .t (pi i))], ofL []⟩) l.length ?_ ?_
  · rintro Inv hI
    simp
    subst hI
    exact ⟨0, by omega, rfl, rfl⟩
  · rintro Inv hI n st ⟨i, hi, hf, rfl⟩
    refine ewr_sound (M := []) h0 ?_
    simp
    refine brn_app (fun a => ?_) (fun a => ?_)
    · simp at a
      have hx := hl.2 l[i] (List.getElem_mem a)
      rw [drop_step _ i a, List.find?_cons] at hf
      have hd := fm_drop (GLeaf.ci k) 2 (fun _ => rfl) l i a
      have hlen := fm_len (GLeaf.ci k) 2 (fun _ => rfl) l
      have hlt : i * 2 < l.length * 2 := by omega
      simp [a, hd, hlen, hlt]
      refine Inv_intro (ok_l15SamePath k k' l[i].Path p hx.1.1 hp) ?_
      simp
      refine brn_app (fun b => ?_) (fun b => ?_)
      · have b' : atP p l[i] = true := b
        rw [b'] at hf
        have hf' : some l[i] = l.find? (atP p) := hf
        simp [hasV, ← hf']
      · have b' : atP p l[i] = false := b
        rw [b'] at hf
        simp
        subst hI
        exact Less_mk (n - 1) (by omega) ⟨i + 1, by omega, hf, by rw [wrNext i (by omega)]⟩
    · simp at a
      rw [List.drop_of_length_le (by omega), List.find?_nil] at hf
      simp [hasV, ← hf]
theorem goodG_all : ∀ (q : Option GLeaf) (l : List GLeaf), goodG q l = true → ∀ x ∈ l, okLeaf x = true
  | _, [], _, _, hx => by simp at hx
  | q, y :: l, h, x, hx => by
    simp only [goodG, Bool.and_eq_true] at h
    rcases List.mem_cons.1 hx with rfl | hx
    · exact h.1.1
    · exact goodG_all _ l h.2 x hx
theorem goodC_all {l : List GLeaf} (h : goodC l = true) : ∀ x ∈ l, okLeaf x = true := by
  simp only [goodC, Bool.and_eq_true] at h
  exact goodG_all _ l h.1
theorem isW_ne {s : ByteArray} (h : isW s = true) : s ≠ ⟨#[]⟩ := by
  rintro rfl
  have : isW ⟨#[]⟩ = false := rfl
  rw [this] at h
  cases h
theorem okLeaf_val {x : GLeaf} (h : okLeaf x = true) : x.Value ≠ ⟨#[]⟩ := by
  simp only [okLeaf, Bool.and_eq_true] at h
  exact isW_ne h.2
theorem okLeaf_path {x : GLeaf} (h : okLeaf x = true) : x.Path ≠ [] := by
  simp only [okLeaf, isP, Bool.and_eq_true, decide_eq_true_eq] at h
  intro e
  rw [e] at h
  have := h.1.1.1
  simp at this
theorem hasV_gone {b : List GLeaf} (hb : goodC b = true) (x : GLeaf) : (hasV b x.Path = ⟨#[]⟩) = (goneC b x = true) := by
  unfold hasV goneC
  cases h : b.find? (atP x.Path) with
  | none => simp
  | some y =>
    have := okLeaf_val (goodC_all hb y (List.mem_of_find?_eq_some h))
    simp [this]
theorem hasV_fresh {a : List GLeaf} {x : GLeaf} (hx : x.Value ≠ ⟨#[]⟩) : (hasV a x.Path = x.Value) = (freshC a x = false) := by
  unfold hasV freshC
  cases h : a.find? (atP x.Path) with
  | none =>
    simp
    exact fun e => hx e.symm
  | some y => simp
theorem ok_l15Diff (k k' : Nat) (a b : List GLeaf) (ha : a.length ≤ 1048576) (hax : ∀ x ∈ a, x.Path.length ≤ 1048576) (hb : b.length ≤ 1048576) (hbx : ∀ x ∈ b, x.Path.length ≤ 1048576) (hao : confOK a) (hbo : confOK b) (ga : goodC a = true) (gb : goodC b = true) : CallOK Try.prog 91 [.c (rd k a.length (a.flatMap (GLeaf.ci k))), .c (rd k' b.length (b.flatMap (GLeaf.ci k')))] (.c (.sl 0 28 (diffL a b).length ((diffL a b).flatMap GCommand.co))) [.c (rd k a.length (a.flatMap (GLeaf.ci k))), .c (rd k' b.length (b.flatMap (GLeaf.ci k')))] := by
  refine okS (fn := Try.f91) [] h0 Try.func91 (by kernel_rfl) rfl Try.ntmps91 Try.results91 (by simp) ?_
  simp
  refine ewp_nil 5 (.op 6 7 0) 28 (by decide) rfl rfl rfl ?_
  refine loopS [0, 1, 5, 10, 11, 12] [.op 6 7 0] (fun n st => ∃ (i : Nat), i + n = a.length ∧ st = ⟨slOf 55 [(0, .t (rd k a.length (a.flatMap (GLeaf.ci k)))), (1, .t (rd k' b.length (b.flatMap (GLeaf.ci k')))), (5, .ref ⟨.op 6 7 0, []⟩ 0 (((a.take i).filter (goneC b)).map delCo).length), (10, .t (rd k a.length (a.flatMap (GLeaf.ci k)))), (11, .t (pi a.length)), (12, .t (pi i))], ofL [(.op 6 7 0, .sl 0 28 (((a.take i).filter (goneC b)).map delCo).length ((((a.take i).filter (goneC b)).map delCo).flatMap GCommand.co))]⟩) a.length ?_ ?_
  · rintro Inv hI
    simp
    subst hI
    exact ⟨0, by omega, by simp⟩
  · rintro Inv hI n st ⟨i, hi, rfl⟩
    have hO : (((a.take i).filter (goneC b)).map delCo).length ≤ i := Nat.le_trans (fmap_len _ _ _) (by simp; omega)
    have hS := fmap_snoc (goneC b) delCo a i
    generalize hOe : ((a.take i).filter (goneC b)).map delCo = O at hO hS ⊢
    have hA := fm_len GCommand.co 3 (fun _ => rfl) O
    have hAm : ∀ y, (O ++ [y]).flatMap GCommand.co = O.flatMap GCommand.co ++ GCommand.co y := fun y => by simp
    generalize hAe : O.flatMap GCommand.co = A at hA hAm ⊢
    refine ewr_sound (M := []) h0 ?_
    simp
    refine brn_app (fun c => ?_) (fun c => ?_)
    · simp at c
      have hd := fm_drop (GLeaf.ci k) 2 (fun _ => rfl) a i c
      have hlen := fm_len (GLeaf.ci k) 2 (fun _ => rfl) a
      have hlt : i * 2 < a.length * 2 := by omega
      have hp1 := hax _ (List.getElem_mem c)
      have hpn := okLeaf_path (goodC_all ga _ (List.getElem_mem c))
      have hS' := hS c
      have hb1 : (O.length + 1) * 48 ≤ 140737488355328 := by omega
      have hb2 : O.length ≤ 9223372036854775806 := by omega
      have hp3 : a[i].Path.length * 16 ≤ 140737488355328 := by omega
      have hp4 : a[i].Path.length ≤ 9223372036854775807 := by omega
      have ht : A.take (O.length * 3) = A := List.take_of_length_le (by omega)
      have hv := hasV_gone gb a[i]
      simp [c, hd, hlen, hlt]
      refine Inv_intro (ok_l15Has k' k b a[i].Path hbo (by omega)) ?_
      simp
      refine brn_app (fun d => ?_) (fun d => ?_)
      · have hg : goneC b a[i] = true := by
          simp at d
          rw [← hv]
          exact d
        simp [hpn, hp3, hp4, hA, hb1, hb2, ht]
        rw [hg] at hS'
        subst hI
        refine Less_mk (n - 1) (by omega) ⟨i + 1, by omega, ?_⟩
        rw [wrNext i (by omega), hS']
        simp [hAm, hAe, delCo]
      · have hg : goneC b a[i] = false := by
          simp at d
          cases e : goneC b a[i] with
          | false => rfl
          | true => exact absurd (hv.mpr e) d
        simp
        rw [hg] at hS'
        subst hI
        refine Less_mk (n - 1) (by omega) ⟨i + 1, by omega, ?_⟩
        rw [wrNext i (by omega), hS']
        simp [hAe]
    · simp at c
      have ht : List.take i a = a := List.take_of_length_le (by omega)
      rw [ht] at hOe
      simp
      refine ewp_sw (.op 6 7 0) (.op 12 9 0) rfl rfl ?_
      simp
      refine loopS [0, 5, 30, 31, 32] [.op 12 9 0] (fun n st => ∃ (i : Nat), i + n = b.length ∧ st = ⟨slOf 55 [(0, .t (rd k a.length (a.flatMap (GLeaf.ci k)))), (5, .ref ⟨.op 12 9 0, []⟩ 0 (O.length + (((b.take i).filter (freshC a)).map setCo).length)), (30, .t (rd k' b.length (b.flatMap (GLeaf.ci k')))), (31, .t (pi b.length)), (32, .t (pi i))], ofL [(.op 12 9 0, .sl 0 28 (O.length + (((b.take i).filter (freshC a)).map setCo).length) (A ++ (((b.take i).filter (freshC a)).map setCo).flatMap GCommand.co))]⟩) b.length ?_ ?_
      · rintro Inv hI
        simp
        subst hI
        exact ⟨0, by omega, by simp⟩
      · rintro Inv hI n st ⟨i, hi, rfl⟩
        have hO2 : (((b.take i).filter (freshC a)).map setCo).length ≤ i := Nat.le_trans (fmap_len _ _ _) (by simp; omega)
        have hS2 := fmap_snoc (freshC a) setCo b i
        generalize hOe2 : ((b.take i).filter (freshC a)).map setCo = O2 at hO2 hS2 ⊢
        have hA2 := fm_len GCommand.co 3 (fun _ => rfl) O2
        have hAm2 : ∀ y, (O2 ++ [y]).flatMap GCommand.co = O2.flatMap GCommand.co ++ GCommand.co y := fun y => by simp
        generalize hAe2 : O2.flatMap GCommand.co = A2 at hA2 hAm2 ⊢
        have hAA : (A ++ A2).length = (O.length + O2.length) * 3 := by simp [hA, hA2]; omega
        generalize hAX : A ++ A2 = X at hAA ⊢
        refine ewr_sound (M := []) h0 ?_
        simp
        refine brn_app (fun c2 => ?_) (fun c2 => ?_)
        · simp at c2
          have hd := fm_drop (GLeaf.ci k') 2 (fun _ => rfl) b i c2
          have hlen := fm_len (GLeaf.ci k') 2 (fun _ => rfl) b
          have hlt : i * 2 < b.length * 2 := by omega
          have hp1 := hbx _ (List.getElem_mem c2)
          have hok := goodC_all gb _ (List.getElem_mem c2)
          have hpn := okLeaf_path hok
          have hS' := hS2 c2
          have hb1 : (O.length + O2.length + 1) * 48 ≤ 140737488355328 := by omega
          have hb2 : O.length + O2.length ≤ 9223372036854775806 := by omega
          have hp3 : b[i].Path.length * 16 ≤ 140737488355328 := by omega
          have hp4 : b[i].Path.length ≤ 9223372036854775807 := by omega
          have ht2 : X.take ((O.length + O2.length) * 3) = X := List.take_of_length_le (by omega)
          have hv := hasV_fresh (a := a) (okLeaf_val hok)
          have next : ∀ B : Bool, freshC a b[i] = B → ∀ X' m, X' = X ++ (if B = true then GCommand.co (setCo b[i]) else []) → m = O.length + O2.length + (if B = true then 1 else 0) → Less Inv n ⟨slOf 55 [(0, .t (rd k a.length (a.flatMap (GLeaf.ci k)))), (5, .ref ⟨.op 12 9 0, []⟩ 0 m), (30, .t (rd k' b.length (b.flatMap (GLeaf.ci k')))), (31, .t (pi b.length)), (32, .t (pi (IntKind.wrap .i64 ((i : Int) + 1))))], ofL [(.op 12 9 0, .sl 0 28 m X')]⟩ := by
            rintro B hB X' m rfl rfl
            rw [hB] at hS'
            subst hI
            refine Less_mk (n - 1) (by omega) ⟨i + 1, by omega, ?_⟩
            rw [wrNext i (by omega), hS', ← hAX]
            cases B <;> simp [hAm2, hAe2, Nat.add_assoc]
          simp [c2, hd, hlen, hlt]
          refine drawP (tabEnv [] _) [⟨[], allD 55, true⟩, ⟨[.op 10 2 0], allD 55, true⟩, ⟨[.op 10 2 0], allD 55, true⟩, ⟨[], allD 55, false⟩, ⟨[.op 10 2 0], allD 55, true⟩, ⟨[.op 10 2 0], allD 55, true⟩, ⟨[], allD 55, true⟩] h0 hm (tabEnv_ok (tab_cons (ok_l15Has k k' a b[i].Path hao (by omega)) tab_nil)) (by kernel_rfl) (by kernel_rfl) ?_
          simp
          refine brn_app (fun d => ?_) (fun d => ?_)
          · simp at d
            have hB : freshC a b[i] = true := by
              cases e : freshC a b[i] with
              | true => rfl
              | false => exact absurd (hv.mpr e) d
            simp
            refine drawP (tabEnv [] _) [⟨[.op 12 9 0], allD 55, true⟩, ⟨[], allD 55, false⟩, ⟨[.op 10 2 0], allD 55, true⟩, ⟨[.op 10 2 0], allD 55, true⟩, ⟨[.op 12 1 0], [43, 44, 45, 46, 47, 48, 49, 50, 51, 52, 5], false⟩, ⟨[.op 10 2 0], allD 55, true⟩, ⟨[.op 10 2 0], allD 55, true⟩, ⟨[.op 12 4 0], allD 55, true⟩, ⟨[.op 12 4 0, .op 12 7 0], [43, 44, 45, 46, 47, 48, 49, 50, 51, 52, 5], false⟩, ⟨[.op 12 9 0, .op 12 8 0], [43, 44, 45, 46, 47, 48, 49, 50, 51, 52, 5], false⟩, ⟨[.op 12 9 0], allD 55, true⟩] h0 hm (tabEnv_ok tab_nil) (by kernel_rfl) (by kernel_rfl) ?_
            simp [hAA, hb1, hb2, ht2, hpn, hp3, hp4]
            exact next true hB _ _ (by simp [setCo]) rfl
          · simp at d
            have hB : freshC a b[i] = false := by rw [← hv]; exact d
            simp
            exact next false hB _ _ (by simp) rfl
        · simp at c2
          have ht : List.take i b = b := List.take_of_length_le (by omega)
          rw [ht] at hOe2
          have hD : diffL a b = O ++ O2 := by rw [diffL, hOe, hOe2]
          have hX' : (diffL a b).flatMap GCommand.co = X := by rw [hD, List.flatMap_append, hAe, hAe2, hAX]
          have hm' : (diffL a b).length = O.length + O2.length := by rw [hD, List.length_append]
          have htX : X.take ((O.length + O2.length) * 3) = X := List.take_of_length_le (by omega)
          rw [hX', hm']
          simp [hAA, htX]
theorem ok_IndexFunc_LeafS (k q g : Nat) (caps : List (List PT)) (p : (List GLeaf) → Bool) (xs : List (List GLeaf)) (ha : xs.length ≤ 140737488351232)
    (hg : ∀ x ∈ xs, CallOK Try.prog g (.c (rd k x.length (x.flatMap (GLeaf.ci k))) :: caps.map (PV.ip q)) (.c (pb (p x))) (.c (rd k x.length (x.flatMap (GLeaf.ci k))) :: caps.map (PV.ip q))) :
    CallOK Try.prog 160 [.c (rd k xs.length (xs.map (cLeafSi k))), .c (.fn q g caps)] (.c (pi (idxOf p xs))) [.c (rd k xs.length (xs.map (cLeafSi k))), .c (.fn q g caps)] := by
  refine okS (fn := Try.f160) [] h0 Try.func160 (by kernel_rfl) rfl Try.ntmps160 Try.results160 (by simp) ?_
  simp
  refine loopS [0, 1, 7, 8] [] (fun n st => ∃ (i : Nat), i + n = xs.length ∧ (∀ (j : Nat) (hj : j < i) (hj' : j < xs.length), p xs[j] = false) ∧ st = ⟨slOf 19 [(0, .t (rd k xs.length (xs.map (cLeafSi k)))), (1, .t (.fn q g caps)), (7, .t (pi xs.length)), (8, .t (pi i))], ofL []⟩) xs.length ?_ ?_
  · rintro Inv hI
    simp
    subst hI
    exact ⟨0, by omega, by intro j hj; omega, rfl⟩
  · rintro Inv hI n st ⟨i, hi, hall, rfl⟩
    refine ewr_sound (M := []) h0 ?_
    simp
    refine brn_app (fun h => ?_) (fun h => ?_)
    · simp at h
      simp [h]
      refine Inv_intro (hg _ (List.getElem_mem h)) ?_
      simp
      refine brn_app (fun h2 => ?_) (fun h2 => ?_)
      · simp
        exact (idxOf_hit p xs i h h2 fun j hj => hall j hj (by omega)).symm
      · simp
        subst hI
        refine Less_mk (n - 1) (by omega) ⟨i + 1, by omega, ?_, by rw [wrNext i (by omega)]⟩
        intro j hj hj'
        by_cases hji : j = i
        · subst hji; exact h2
        · exact hall j (by omega) hj'
    · simp at h
      simp
      exact (idxOf_no p xs fun j hj => hall j (by omega) hj).symm
theorem ok_ContainsFunc_LeafS (k q g : Nat) (caps : List (List PT)) (p : (List GLeaf) → Bool) (xs : List (List GLeaf)) (ha : xs.length ≤ 140737488351232)
    (hg : ∀ x ∈ xs, CallOK Try.prog g (.c (rd k x.length (x.flatMap (GLeaf.ci k))) :: caps.map (PV.ip q)) (.c (pb (p x))) (.c (rd k x.length (x.flatMap (GLeaf.ci k))) :: caps.map (PV.ip q))) :
    CallOK Try.prog 130 [.c (rd k xs.length (xs.map (cLeafSi k))), .c (.fn q g caps)] (.c (pb (xs.any p))) [.c (rd k xs.length (xs.map (cLeafSi k))), .c (.fn q g caps)] := by
  refine okS (fn := Try.f130) [] h0 Try.func130 (by kernel_rfl) rfl Try.ntmps130 Try.results130 (by simp) ?_
  simp
  refine Inv_intro (ok_IndexFunc_LeafS k q g caps p xs ha hg) ?_
  simp [idxOf_any]
def storeOK (s : GStore) : Prop := confOK s.Candidate ∧ confOK s.Running ∧ s.History.length ≤ 140737488351232 ∧ ∀ l ∈ s.History, confOK l
def goodS (s : GStore) : Bool := goodC s.Candidate && goodC s.Running && decide ((1 : Int) ≤ s.History.length ∧ (s.History.length : Int) ≤ 10) && s.History.all goodC && decide (0 ≤ s.Left ∧ s.Left ≤ 100) && (decide (s.Left = 0) == decide (s.Running = s.History.headD []))
theorem ok_GoodStore1 (k : Nat) (l : List GLeaf) (hl : confOK l) : CallOK Try.prog 131 [.c (rd k l.length (l.flatMap (GLeaf.ci k)))] (.c (pb (!goodC l))) [.c (rd k l.length (l.flatMap (GLeaf.ci k)))] := by
  refine okS (fn := Try.f131) [] h0 Try.func131 (by kernel_rfl) rfl Try.ntmps131 Try.results131 (by simp) ?_
  simp
  refine Inv_intro (ok_iGoodConfig k l hl) ?_
  simp
theorem head_cells (k : Nat) (h : List (List GLeaf)) (l : List GLeaf) (t : List (List GLeaf)) (e : h = l :: t) : h.map (cLeafSi k) = cLeafSi k l :: t.map (cLeafSi k) := by rw [e]; rfl
theorem ok_iGoodStore (k : Nat) (s : GStore) (hs : storeOK s) : CallOK Try.prog 96 [.agg (GStore.ci k s)] (.c (pb (goodS s))) [.agg (GStore.ci k s)] := by
  obtain ⟨h1, h2, h3, h4⟩ := hs
  refine okS (fn := Try.f96) [] h0 Try.func96 (by kernel_rfl) rfl Try.ntmps96 Try.results96 (by simp) ?_
  simp
  refine Inv_intro (ok_iGoodConfig k s.Candidate h1) ?_
  simp
  cases c1 : goodC s.Candidate with
  | false => simp [goodS, c1]
  | true =>
    simp
    refine Inv_intro (ok_iGoodConfig k s.Running h2) ?_
    simp
    cases c2 : goodC s.Running with
    | false => simp [goodS, c2]
    | true =>
      simp
      refine Inv_intro (ok_within _ _ _) ?_
      simp
      by_cases c3 : (1 : Int) ≤ s.History.length ∧ (s.History.length : Int) ≤ 10
      · simp [c3.1, c3.2]
        refine Inv_intro (ok_ContainsFunc_LeafS k 0 131 [] (fun l => !goodC l) s.History h3 fun l hl => ok_GoodStore1 k l (h4 l hl)) ?_
        rw [any_not]
        simp
        cases c4 : s.History.all goodC with
        | false => simp [goodS, c4]
        | true =>
          obtain ⟨l, t, e⟩ : ∃ l t, s.History = l :: t := by
            cases hh : s.History with
            | nil => rw [hh] at c3; simp at c3
            | cons l t => exact ⟨l, t, rfl⟩
          have hl : confOK l := h4 l (by rw [e]; simp)
          have hc := head_cells k s.History l t e
          have hlen : 0 < s.History.length := by rw [e]; simp
          simp
          refine drawP (tabEnv [] _) [⟨[.op 0 0 0], allD 41, true⟩, ⟨[.op 0 0 0], allD 41, true⟩, ⟨[], allD 41, false⟩, ⟨[], allD 41, true⟩, ⟨[.op 0 0 0], allD 41, true⟩, ⟨[.op 0 0 0], allD 41, true⟩, ⟨[], allD 41, true⟩, ⟨[.op 0 0 0], allD 41, true⟩, ⟨[.op 0 0 0], allD 41, true⟩, ⟨[.op 0 0 0], allD 41, true⟩, ⟨[.op 0 0 0], allD 41, true⟩, ⟨[], allD 41, true⟩, ⟨[], allD 41, true⟩, ⟨[], allD 41, false⟩, ⟨[], allD 41, true⟩, ⟨[], allD 41, true⟩, ⟨[], allD 41, true⟩] h0 hm (tabEnv_ok (tab_cons (ok_within s.Left 0 100) (tab_cons (ok_sameConfig k k s.Running l h2 hl) tab_nil))) (by kernel_rfl) (by kernel_rfl) ?_
          by_cases c5 : 0 ≤ s.Left ∧ s.Left ≤ 100
          · have eg : goodS s = (decide (s.Left = 0) == decide (s.Running = l)) := by
              unfold goodS
              rw [c1, c2, c4, decide_eq_true c3, decide_eq_true c5, e]
              simp
            simp [c5.1, c5.2, hc, hlen, eg]
          · have eg : goodS s = false := by
              unfold goodS
              rw [decide_eq_false c5]
              simp
            have c5' : (decide (0 ≤ s.Left) && decide (s.Left ≤ 100)) = false := by simpa using c5
            simp [c5', eg]
      · have eg : goodS s = false := by
          unfold goodS
          rw [decide_eq_false c3]
          simp
        have c3' : (decide ((1 : Int) ≤ s.History.length) && decide ((s.History.length : Int) ≤ 10)) = false := by simpa using c3
        have c3b : (!decide ((1 : Int) ≤ s.History.length) || !decide ((s.History.length : Int) ≤ 10)) = true := by rw [← Bool.not_and, c3']; rfl
        simp [c3', c3b, eg]
theorem delL_snoc (p : List ByteArray) (l : List GLeaf) (i : Nat) (h : i < l.length) : delL p (l.take (i + 1)) = delL p (l.take i) ++ (if begP p l[i].Path = true then [] else [l[i]]) := by
  unfold delL
  rw [take_step l i h, List.filter_append]
  by_cases hb : begP p l[i].Path = true <;> simp [hb, begL]
theorem ok_sDeleteAt (k k' : Nat) (l : List GLeaf) (p : List ByteArray) (hl : l.length ≤ 1048576) (hx : ∀ x ∈ l, x.Path.length ≤ 1048576) (hlo : confOK l) (hp : strsOK p) : CallOK Try.prog 31 [.c (rd k l.length (l.flatMap (GLeaf.ci k))), .c (rd k' p.length (p.map ps))] (.tup [.c (.sl 0 103 (rDeleteAt l p).1.length ((rDeleteAt l p).1.flatMap GLeaf.co)), .c (pb (rDeleteAt l p).2)]) [.c (rd k l.length (l.flatMap (GLeaf.ci k))), .c (rd k' p.length (p.map ps))] := by
  refine okS (fn := Try.f31) [] h0 Try.func31 (by kernel_rfl) rfl Try.ntmps31 Try.results31 (by simp) ?_
  simp
  refine Inv_intro (ok_sGoodConfig k l hlo) ?_
  simp
  cases c1 : goodC l with
  | false => simp [rDeleteAt, c1]
  | true =>
    simp
    refine Inv_intro (ok_l15Path k' p hp.1 hp.2) ?_
    simp
    cases c2 : isP p with
    | false => simp [rDeleteAt, c2]
    | true =>
      simp
      refine Inv_intro (ok_l15Own k l hl hx) ?_
      have hll := delL_len p l
      have er : rDeleteAt l p = if (delL p l).length = l.length then ([], false) else (delL p l, true) := by
        unfold rDeleteAt
        by_cases h : (delL p l).length = l.length <;> simp [c1, c2, h]
      rw [er]
      simp
      refine ewp_nil 6 (.op 8 3 0) 103 (by decide) rfl rfl rfl ?_
      refine loopS [0, 1, 6, 18, 19, 20] [.op 8 3 0, .op 4 1 0] (fun n st => ∃ (i : Nat) (C : List PT), i + n = l.length ∧ C.length = l.length * 2 ∧ C.drop (i * 2) = (l.drop i).flatMap GLeaf.co ∧ st = ⟨slOf 40 [(0, .t (rd k l.length (l.flatMap (GLeaf.ci k)))), (1, .t (rd k' p.length (p.map ps))), (6, .ref ⟨.op 8 3 0, []⟩ 0 (delL p (l.take i)).length), (18, .ref ⟨.op 4 1 0, []⟩ 0 l.length), (19, .t (pi l.length)), (20, .t (pi i))], ofL [(.op 8 3 0, .sl 0 103 (delL p (l.take i)).length ((delL p (l.take i)).flatMap GLeaf.co)), (.op 4 1 0, .sl 0 103 l.length C)]⟩) l.length ?_ ?_
      · rintro Inv hI
        simp
        subst hI
        exact ⟨0, l.flatMap GLeaf.co, by omega, fm_len GLeaf.co 2 (fun _ => rfl) l, rfl, rfl⟩
      · rintro Inv hI n st ⟨i, C, hi, hCl, hCd0, rfl⟩
        have hO : (delL p (l.take i)).length ≤ i := Nat.le_trans (delL_len _ _) (by simp; omega)
        have hS := delL_snoc p l i
        have hfin : i = l.length → delL p (l.take i) = delL p l := by rintro rfl; rw [List.take_length]
        generalize hOe : delL p (l.take i) = O at hO hS hfin ⊢
        have hA := fm_len GLeaf.co 2 (fun _ => rfl) O
        have hAm : ∀ y, (O ++ [y]).flatMap GLeaf.co = O.flatMap GLeaf.co ++ GLeaf.co y := fun y => by simp
        refine ewr_sound (M := []) h0 ?_
        simp
        refine brn_app (fun a => ?_) (fun a => ?_)
        · simp at a
          have hS' := hS a
          have hCd : C.drop (i * 2) = .sl 0 9 l[i].Path.length (l[i].Path.map ps) :: ps l[i].Value :: (l.drop (i + 1)).flatMap GLeaf.co := by
            rw [hCd0, drop_step _ i a, List.flatMap_cons]
            rfl
          have hCg : ∀ h : i * 2 < C.length, C[i * 2] = .sl 0 9 l[i].Path.length (l[i].Path.map ps) := by
            intro h
            rw [List.drop_eq_getElem_cons h] at hCd
            exact (List.cons.inj hCd).1
          have hCn : C.drop ((i + 1) * 2) = (l.drop (i + 1)).flatMap GLeaf.co := by
            have : (i + 1) * 2 = i * 2 + 2 := by omega
            rw [this, ← List.drop_drop, hCd]
            rfl
          have hb : i * 2 + 2 ≤ l.length * 2 := by omega
          have hp1 := hx _ (List.getElem_mem a)
          simp [a, hCl, hCd, hCg, hb]
          refine Inv_intro (ok_l15Begins k' 0 p l[i].Path hp.1 (by omega)) ?_
          simp
          refine brn_app (fun b => ?_) (fun b => ?_)
          · simp at b
            rw [if_neg (by simp [b])] at hS'
            generalize hAe : O.flatMap GLeaf.co = A at hA hAm ⊢
            have ht : A.take (O.length * 2) = A := List.take_of_length_le (by omega)
            have hb1 : (O.length + 1) * 40 ≤ 140737488355328 := by omega
            have hb2 : O.length + 1 ≤ 9223372036854775807 := by omega
            simp [hA, ht, hb1, hb2]
            subst hI
            refine Less_mk (n - 1) (by omega) ⟨i + 1, C.set (i * 2) .hole, by omega, by rw [List.length_set]; exact hCl, by rw [set_drop C _ _ _ (by omega), hCn], ?_⟩
            rw [hS', wrNext i (by omega), hAm, List.length_append]
            rfl
          · simp at b
            rw [if_pos b, List.append_nil] at hS'
            simp
            subst hI
            refine Less_mk (n - 1) (by omega) ⟨i + 1, C.set (i * 2) .hole, by omega, by rw [List.length_set]; exact hCl, by rw [set_drop C _ _ _ (by omega), hCn], ?_⟩
            rw [hS', wrNext i (by omega)]
        · simp at a
          have hin : i = l.length := by omega
          have hfin := hfin hin
          subst hfin
          simp
          refine brn_app (fun b => ?_) (fun b => ?_)
          · simp at b
            have h : (delL p l).length = l.length := by omega
            simp [h]
          · simp at b
            have h : ¬ (delL p l).length = l.length := by omega
            have ht : ((delL p l).flatMap GLeaf.co).take ((delL p l).length * 2) = (delL p l).flatMap GLeaf.co := List.take_of_length_le (by omega)
            simp [h, hA, ht]
theorem ofL_mv (n : Nat) (l : List (Id × PT)) (i : Id) (t : PT) (h : ((l.take n).all fun p => !decide (p.1 = i)) = true) : ofL ((i, t) :: l) = ofL (l.take n ++ (i, t) :: l.drop n) := by
  induction n generalizing l with
  | zero => rfl
  | succ n ih => cases l with
    | nil => rfl
    | cons p l =>
      obtain ⟨j, y⟩ := p
      simp at h
      have ih := ih l (by simpa using h.2)
      show ofL ((i, t) :: (j, y) :: l) = ofL ((j, y) :: (l.take n ++ (i, t) :: l.drop n))
      have e : ofL ((j, y) :: (l.take n ++ (i, t) :: l.drop n)) = ofL ((j, y) :: (i, t) :: l) := by
        funext q
        simp only [ofL]
        rw [← ih]
        rfl
      rw [e]
      funext q
      by_cases c : q = i
      · subst c
        have h1 := h.1
        simp [ofL, Ne.symm h1]
      · simp [ofL, c]
theorem ofL_sw2 {a b c : Id} {x y z : PT} (h : b ≠ c) : ofL [(a, x), (c, z), (b, y)] = ofL [(a, x), (b, y), (c, z)] := by
  funext q
  by_cases e : q = c
  · subst e
    simp [ofL, h.symm]
  · simp [ofL, e]
theorem ok_l15Put (m : List GLeaf) (x : GLeaf) (hm' : confOK m) (hl : m.length ≤ 1048576) (hx : x.Path.length ≤ 140737488351232) : CallOK Try.prog 103 [.c (.sl 0 103 m.length (m.flatMap GLeaf.co)), .agg x.co] (.c (.sl 0 103 (putL x.Path x.Value m).length ((putL x.Path x.Value m).flatMap GLeaf.co))) [.c (.sl 0 103 m.length ((m.flatMap GLeaf.co).map PT.hollow)), .agg [.hole, ps x.Value]] := by
  refine okS (fn := Try.f103) [] h0 Try.func103 (by kernel_rfl) rfl Try.ntmps103 Try.results103 (by simp) ?_
  simp
  refine loopS [0, 3, 5] [.arg 0 0, .op 0 0 0] (fun n st => ∃ (k : Nat), k + n = m.length ∧ (∀ (j : Nat) (hj : j < k) (hj' : j < m.length), cmpP m[j].Path x.Path < 0) ∧ st = ⟨slOf 37 [(0, .ref ⟨.arg 0 0, []⟩ 0 m.length), (3, .ptr ⟨.op 0 0 0, []⟩ 0), (5, .t (pi k))], ofL [(.arg 0 0, .sl 0 103 m.length (m.flatMap GLeaf.co)), (.arg 1 0, .hole), (.op 0 0 0, .sl 0 103 1 x.co)]⟩) m.length ?_ ?_
  · rintro Inv hI
    simp
    subst hI
    exact ⟨0, by omega, by intro j hj; omega, rfl⟩
  · rintro Inv hI n st ⟨k, hk, hall, rfl⟩
    have hml := hm'.1
    have hat : ∀ (h : k < m.length), 0 ≤ cmpP m[k].Path x.Path → atI x.Path m = k := fun h h2 => bsI_eq _ m k (by omega) hall fun _ => h2
    have hat2 : k = m.length → atI x.Path m = k := fun h => bsI_eq _ m k (by omega) hall fun h2 => by omega
    have hcm := fm_len GLeaf.co 2 (fun _ => rfl) m
    refine ewr_sound (M := []) h0 ?_
    simp
    by_cases c1 : k < m.length
    · have c1' : (k : Int) < m.length := by omega
      have hd := fm_drop GLeaf.co 2 (fun _ => rfl) m k c1
      have hlt : k * 2 < m.length * 2 := by omega
      have hCg : ∀ h : k * 2 < (m.flatMap GLeaf.co).length, (m.flatMap GLeaf.co)[k * 2] = .sl 0 9 m[k].Path.length (m[k].Path.map ps) := by
        intro h
        have hd2 := hd
        rw [List.drop_eq_getElem_cons h] at hd2
        exact (List.cons.inj hd2).1
      refine drawP (tabEnv [] _) [⟨[], allD 37, true⟩, ⟨[.arg 0 0], allD 37, true⟩, ⟨[.arg 0 0], allD 37, true⟩, ⟨[], allD 37, true⟩, ⟨[], allD 37, true⟩, ⟨[.arg 0 0], allD 37, true⟩, ⟨[], allD 37, true⟩, ⟨[.arg 0 0], allD 37, true⟩, ⟨[.arg 0 0], allD 37, true⟩, ⟨[.arg 0 0], allD 37, true⟩, ⟨[.op 0 0 0], allD 37, true⟩, ⟨[.op 0 0 0], allD 37, true⟩, ⟨[.arg 0 0, .op 0 0 0], [7, 8, 9, 10, 11, 12, 13, 14, 15, 16, 17, 18, 19, 20], false⟩, ⟨[], allD 37, true⟩] h0 hm (tabEnv_ok (tab_cons (ok_l15Less 0 0 m[k].Path x.Path (hm'.2 _ (List.getElem_mem c1)).1.1 hx) tab_nil)) (by kernel_rfl) (by kernel_rfl) ?_
      simp [c1, c1', hd, hcm, hlt, hCg]
      cases c2 : lessP m[k].Path x.Path with
      | true =>
        have h2 := (cmpP_neg _ _).2 c2
        simp
        subst hI
        refine Less_mk (n - 1) (by omega) ⟨k + 1, by omega, ?_, ?_⟩
        · intro j hj hj'
          rcases Nat.lt_or_ge j k with h' | h'
          · exact hall j h' hj'
          · have : j = k := by omega
            subst this
            exact h2
        · rw [wrNext k (by omega), ofL_sw2 (by decide)]
          rfl
      | false =>
        have h2 : 0 ≤ cmpP m[k].Path x.Path := Int.not_lt.1 fun hc => by rw [(cmpP_neg _ _).1 hc] at c2; cases c2
        have hat := hat c1 h2
        have hkl : k ≤ m.length := by omega
        have hpc := putL_co x.Path x.Value m
        have hpl := putL_len x.Path x.Value m
        rw [hat] at hpc
        rw [hpc, hpl]
        generalize m.flatMap GLeaf.co = F at *
        have hb1 : k * 2 ≤ m.length * 2 := by omega
        have hb2 : k * 40 ≤ 140737488355328 := by omega
        have hb3 : k ≤ 9223372036854775807 := by omega
        have hb4 : (k + 1) * 40 ≤ 140737488355328 := by omega
        have hb5 : k + 1 ≤ 9223372036854775807 := by omega
        have hb6 : (m.length + 1) * 40 ≤ 140737488355328 := by omega
        have hb7 : m.length ≤ 9223372036854775806 := by omega
        have hTl : (F.take (k * 2)).length = k * 2 := by rw [List.length_take]; omega
        have hmk : ¬ m.length - k = 0 := by omega
        by_cases hk0 : k = 0
        · subst hk0
          have hmn : ¬ m = [] := by rintro rfl; simp at c1
          have hd1 : m.length * 2 ≤ F.length := by omega
          have hd2 : (1 + m.length) * 40 ≤ 140737488355328 := by omega
          have hd3 : 1 + m.length ≤ 9223372036854775807 := by omega
          have hTF : F.take (m.length * 2) = F := List.take_of_length_le (by omega)
          have hHF : (F.map PT.hollow).take (m.length * 2) ++ F.drop (m.length * 2) = F.map PT.hollow := by rw [List.take_of_length_le (by rw [List.length_map]; omega), List.drop_of_length_le (by omega), List.append_nil]
          have hnn : 1 + m.length = m.length + 1 := by omega
          have hD0 : F.drop (m.length * 2) = [] := List.drop_of_length_le (by omega)
          have hr1 : (m.length + 1) * 2 ≤ m.length * 2 + 1 + 1 := by omega
          have hr2 : ∀ a b : PT, List.take ((m.length + 1) * 2) (a :: b :: F) = a :: b :: F := fun a b => List.take_of_length_le (by simp only [List.length_cons]; omega)
          simp [hkl, hmn, hd1, hd2, hd3, hTF, hHF, hnn, hb6, hb7, hD0, hcm, hr1, hr2]
        · have he1 : k * 2 + (m.length - k) * 2 ≤ m.length * 2 := by omega
          have he2 : (k + 1 + (m.length - k)) * 40 ≤ 140737488355328 := by omega
          have he3 : k + 1 + (m.length - k) ≤ 9223372036854775807 := by omega
          have hTT : (F.take (k * 2)).take (k * 2) = F.take (k * 2) := List.take_of_length_le (by omega)
          have hDD : (F.drop (k * 2)).take ((m.length - k) * 2) = F.drop (k * 2) := List.take_of_length_le (by rw [List.length_drop]; omega)
          have hHF : (F.map PT.hollow).take (k * 2) ++ (((F.map PT.hollow).drop (k * 2)).take ((m.length - k) * 2) ++ F.drop (k * 2 + (m.length - k) * 2)) = F.map PT.hollow := by rw [List.drop_of_length_le (l := F) (by omega), List.append_nil, List.take_of_length_le (l := (F.map PT.hollow).drop (k * 2)) (by rw [List.length_drop, List.length_map]; omega), List.take_append_drop]
          have hnn : k + 1 + (m.length - k) = m.length + 1 := by omega
          have hD0 : F.drop (k * 2 + (m.length - k) * 2) = [] := List.drop_of_length_le (by omega)
          have hr1 : (m.length + 1) * 2 ≤ k * 2 + (m.length * 2 - k * 2 + 1 + 1) := by omega
          have hr2 : ∀ a b : PT, List.take ((m.length + 1) * 2) (F.take (k * 2) ++ a :: b :: F.drop (k * 2)) = F.take (k * 2) ++ a :: b :: F.drop (k * 2) := fun a b => List.take_of_length_le (by simp only [List.length_append, List.length_cons, List.length_drop, hTl]; omega)
          simp [hkl, hk0, hb1, hb2, hb3, hb4, hb5, hb6, hb7, hcm, hTl, hmk, he1, he2, he3, hTT, hDD, hHF, hnn, hD0, hr1, hr2]
    · have c1' : ¬ (k : Int) < m.length := by omega
      refine drawP (tabEnv [] _) [⟨[], allD 37, true⟩, ⟨[.arg 0 0], allD 37, true⟩, ⟨[.arg 0 0], allD 37, true⟩, ⟨[], allD 37, true⟩, ⟨[], allD 37, true⟩, ⟨[.arg 0 0], allD 37, true⟩, ⟨[], allD 37, true⟩, ⟨[.arg 0 0], allD 37, true⟩, ⟨[.arg 0 0], allD 37, true⟩, ⟨[.arg 0 0], allD 37, true⟩, ⟨[.op 0 0 0], allD 37, true⟩, ⟨[.op 0 0 0], allD 37, true⟩, ⟨[.arg 0 0, .op 0 0 0], [7, 8, 9, 10, 11, 12, 13, 14, 15, 16, 17, 18, 19, 20], false⟩, ⟨[], allD 37, true⟩] h0 hm (tabEnv_ok tab_nil) (by kernel_rfl) (by kernel_rfl) ?_
      simp [c1, c1']
      have hkn : k = m.length := by omega
      have hat := hat2 hkn
      have hpc := putL_co x.Path x.Value m
      have hpl := putL_len x.Path x.Value m
      rw [hat] at hpc
      rw [hpc, hpl]
      subst hkn
      generalize m.flatMap GLeaf.co = F at *
      have hb2 : m.length * 40 ≤ 140737488355328 := by omega
      have hb3 : m.length ≤ 9223372036854775807 := by omega
      have hb6 : (m.length + 1) * 40 ≤ 140737488355328 := by omega
      have hb7 : m.length ≤ 9223372036854775806 := by omega
      have hTF : F.take (m.length * 2) = F := List.take_of_length_le (by omega)
      have hD0 : F.drop (m.length * 2) = [] := List.drop_of_length_le (by omega)
      have hHT : (F.map PT.hollow).take (m.length * 2) = F.map PT.hollow := List.take_of_length_le (by rw [List.length_map]; omega)
      by_cases hk0 : m = []
      · subst hk0
        have hF0 : F = [] := List.length_eq_zero_iff.1 (by simpa using hcm)
        subst hF0
        simp
      · have hk1 : ¬ m.length = 0 := fun e => hk0 (List.length_eq_zero_iff.1 e)
        simp [hk0, hk1, hb2, hb3, hb6, hb7, hcm, hTF, hD0, hHT]
end Go.V
