/- What functions of the seat's program do, each proved of its code, under the bounds that its theorem names. -/
import Derived.Test.YtildjkidohpmbaaTaj
set_option linter.all false
namespace Go.V
open Go.Proofs
set_option maxHeartbeats 1000000
set_option maxRecDepth 10000
set_option linter.unusedSimpArgs false
set_option linter.unusedVariables false
theorem begP_len : ∀ a b : List ByteArray, (begP a b && decide (a.length = b.length)) = decide (a = b)
  | [], [] => rfl
  | [], _ :: _ => rfl
  | _ :: _, [] => rfl
  | a :: us, b :: vs => by
    have := begP_len us vs
    simp only [begP, List.length_cons, Nat.add_right_cancel_iff, List.cons.injEq, Bool.and_assoc, this]
    simp
theorem ok_l15SamePath (k k' : Nat) (xs ys : List ByteArray) (ha : xs.length ≤ 140737488351232) (hb : ys.length ≤ 140737488351232) : CallOK Try.prog 131 [.c (rd k xs.length (xs.map ps)), .c (rd k' ys.length (ys.map ps))] (.c (pb (decide (xs = ys)))) [.c (rd k xs.length (xs.map ps)), .c (rd k' ys.length (ys.map ps))] := by
  refine okS (fn := Try.f131) [] h0 Try.func131 (by kernel_rfl) rfl Try.ntmps131 Try.results131 (by simp) ?_
  simp
  refine Inv_intro (ok_l15Begins k k' xs ys ha hb) ?_
  simp
  rw [← begP_len]
  cases begP xs ys with
  | false => simp
  | true =>
    simp
    omega
def hasV (l : List GLeaf) (p : List ByteArray) : ByteArray := match l.find? (atP p) with
  | some x => x.Value
  | none => ⟨#[]⟩
theorem ok_l15Has (k k' : Nat) (l : List GLeaf) (p : List ByteArray) (hl : confOK l) (hp : p.length ≤ 140737488351232) : CallOK Try.prog 112 [.c (rd k l.length (l.flatMap (GLeaf.ci k))), .c (rd k' p.length (p.map ps))] (.c (ps (hasV l p))) [.c (rd k l.length (l.flatMap (GLeaf.ci k))), .c (rd k' p.length (p.map ps))] := by
  have hll := hl.1
  refine okS (fn := Try.f112) [] h0 Try.func112 (by kernel_rfl) rfl Try.ntmps112 Try.results112 (by simp) ?_
  simp
  refine loopS [1, 7, 8, 9] [] (fun n st => ∃ (i : Nat), i + n = l.length ∧ (l.drop i).find? (atP p) = l.find? (atP p) ∧ st = ⟨slOf 20 [(1, .t (rd k' p.length (p.map ps))), (7, .t (rd k l.length (l.flatMap (GLeaf.ci k)))), (8, .t (pi l.length)), (9, .t (pi i))], ofL []⟩) l.length ?_ ?_
  · rintro Inv hI
    simp
    subst hI
    exact ⟨0, by omega, rfl, rfl⟩
  · rintro Inv hI n st ⟨i, hi, hf, rfl⟩
    refine ewr_sound (M := []) h0 ?_
    simp
    refine brn_app (fun a => ?_) (fun a => ?_)
    · simp at a
      have hx := hl.2 l[i] (List.getElem_mem a)
      rw [drop_step _ i a, List.find?_cons] at hf
      have hd := fm_drop (GLeaf.ci k) 2 (fun _ => rfl) l i a
      have hlen := fm_len (GLeaf.ci k) 2 (fun _ => rfl) l
      have hlt : i * 2 < l.length * 2 := by omega
      simp [a, hd, hlen, hlt]
      refine Inv_intro (ok_l15SamePath k k' l[i].Path p hx.1.1 hp) ?_
      simp
      refine brn_app (fun b => ?_) (fun b => ?_)
      · have b' : atP p l[i] = true := b
        rw [b'] at hf
        have hf' : some l[i] = l.find? (atP p) := hf
        simp [hasV, ← hf']
      · have b' : atP p l[i] = false := b
        rw [b'] at hf
        simp
        subst hI
        exact Less_mk (n - 1) (by omega) ⟨i + 1, by omega, hf, by rw [wrNext i (by omega)]⟩
    · simp at a
      rw [List.drop_of_length_le (by omega), List.find?_nil] at hf
      simp [hasV, ← hf]
theorem goodG_all : ∀ (q : Option GLeaf) (l : List GLeaf), goodG q l = true → ∀ x ∈ l, okLeaf x = true
  | _, [], _, _, hx => by simp at hx
  | q, y :: l, h, x, hx => by
    simp only [goodG, Bool.and_eq_true] at h
    rcases List.mem_cons.1 hx with rfl | hx
    · exact h.1.1
    · exact goodG_all _ l h.2 x hx
theorem goodC_all {l : List GLeaf} (h : goodC l = true) : ∀ x ∈ l, okLeaf x = true := by
  simp only [goodC, Bool.and_eq_true] at h
  exact goodG_all _ l h.1
theorem isW_ne {s : ByteArray} (h : isW s = true) : s ≠ ⟨#[]⟩ := by
  rintro rfl
  have : isW ⟨#[]⟩ = false := rfl
  rw [this] at h
  cases h
theorem okLeaf_val {x : GLeaf} (h : okLeaf x = true) : x.Value ≠ ⟨#[]⟩ := by
  simp only [okLeaf, Bool.and_eq_true] at h
  exact isW_ne h.2
theorem okLeaf_path {x : GLeaf} (h : okLeaf x = true) : x.Path ≠ [] := by
  simp only [okLeaf, isP, Bool.and_eq_true, decide_eq_true_eq] at h
  intro e
  rw [e] at h
  have := h.1.1.1
  simp at this
theorem hasV_gone {b : List GLeaf} (hb : goodC b = true) (x : GLeaf) : (hasV b x.Path = ⟨#[]⟩) = (goneC b x = true) := by
  unfold hasV goneC
  cases h : b.find? (atP x.Path) with
  | none => simp
  | some y =>
    have := okLeaf_val (goodC_all hb y (List.mem_of_find?_eq_some h))
    simp [this]
theorem hasV_fresh {a : List GLeaf} {x : GLeaf} (hx : x.Value ≠ ⟨#[]⟩) : (hasV a x.Path = x.Value) = (freshC a x = false) := by
  unfold hasV freshC
  cases h : a.find? (atP x.Path) with
  | none =>
    simp
    exact fun e => hx e.symm
  | some y => simp
theorem ok_l15Diff (k k' : Nat) (a b : List GLeaf) (ha : a.length ≤ 1048576) (hax : ∀ x ∈ a, x.Path.length ≤ 1048576) (hb : b.length ≤ 1048576) (hbx : ∀ x ∈ b, x.Path.length ≤ 1048576) (hao : confOK a) (hbo : confOK b) (ga : goodC a = true) (gb : goodC b = true) : CallOK Try.prog 82 [.c (rd k a.length (a.flatMap (GLeaf.ci k))), .c (rd k' b.length (b.flatMap (GLeaf.ci k')))] (.c (.sl 0 65 (diffL a b).length ((diffL a b).flatMap GCommand.co))) [.c (rd k a.length (a.flatMap (GLeaf.ci k))), .c (rd k' b.length (b.flatMap (GLeaf.ci k')))] := by
  refine okS (fn := Try.f82) [] h0 Try.func82 (by kernel_rfl) rfl Try.ntmps82 Try.results82 (by simp) ?_
  simp
  refine ewp_nil 5 (.op 6 7 0) 65 (by decide) rfl rfl rfl ?_
  refine loopS [0, 1, 5, 10, 11, 12] [.op 6 7 0] (fun n st => ∃ (i : Nat), i + n = a.length ∧ st = ⟨slOf 55 [(0, .t (rd k a.length (a.flatMap (GLeaf.ci k)))), (1, .t (rd k' b.length (b.flatMap (GLeaf.ci k')))), (5, .ref ⟨.op 6 7 0, []⟩ 0 (((a.take i).filter (goneC b)).map delCo).length), (10, .t (rd k a.length (a.flatMap (GLeaf.ci k)))), (11, .t (pi a.length)), (12, .t (pi i))], ofL [(.op 6 7 0, .sl 0 65 (((a.take i).filter (goneC b)).map delCo).length ((((a.take i).filter (goneC b)).map delCo).flatMap GCommand.co))]⟩) a.length ?_ ?_
  · rintro Inv hI
    simp
    subst hI
    exact ⟨0, by omega, by simp⟩
  · rintro Inv hI n st ⟨i, hi, rfl⟩
    have hO : (((a.take i).filter (goneC b)).map delCo).length ≤ i := Nat.le_trans (fmap_len _ _ _) (by simp; omega)
    have hS := fmap_snoc (goneC b) delCo a i
    generalize hOe : ((a.take i).filter (goneC b)).map delCo = O at hO hS ⊢
    have hA := fm_len GCommand.co 3 (fun _ => rfl) O
    have hAm : ∀ y, (O ++ [y]).flatMap GCommand.co = O.flatMap GCommand.co ++ GCommand.co y := fun y => by simp
    generalize hAe : O.flatMap GCommand.co = A at hA hAm ⊢
    refine ewr_sound (M := []) h0 ?_
    simp
    refine brn_app (fun c => ?_) (fun c => ?_)
    · simp at c
      have hd := fm_drop (GLeaf.ci k) 2 (fun _ => rfl) a i c
      have hlen := fm_len (GLeaf.ci k) 2 (fun _ => rfl) a
      have hlt : i * 2 < a.length * 2 := by omega
      have hp1 := hax _ (List.getElem_mem c)
      have hpn := okLeaf_path (goodC_all ga _ (List.getElem_mem c))
      have hS' := hS c
      have hb1 : (O.length + 1) * 48 ≤ 140737488355328 := by omega
      have hb2 : O.length ≤ 9223372036854775806 := by omega
      have hp3 : a[i].Path.length * 16 ≤ 140737488355328 := by omega
      have hp4 : a[i].Path.length ≤ 9223372036854775807 := by omega
      have ht : A.take (O.length * 3) = A := List.take_of_length_le (by omega)
      have hv := hasV_gone gb a[i]
      simp [c, hd, hlen, hlt]
      refine Inv_intro (ok_l15Has k' k b a[i].Path hbo (by omega)) ?_
      simp
      refine brn_app (fun d => ?_) (fun d => ?_)
      · have hg : goneC b a[i] = true := by
          simp at d
          rw [← hv]
          exact d
        simp [hpn, hp3, hp4, hA, hb1, hb2, ht]
        rw [hg] at hS'
        subst hI
        refine Less_mk (n - 1) (by omega) ⟨i + 1, by omega, ?_⟩
        rw [wrNext i (by omega), hS']
        simp [hAm, hAe, delCo]
      · have hg : goneC b a[i] = false := by
          simp at d
          cases e : goneC b a[i] with
          | false => rfl
          | true => exact absurd (hv.mpr e) d
        simp
        rw [hg] at hS'
        subst hI
        refine Less_mk (n - 1) (by omega) ⟨i + 1, by omega, ?_⟩
        rw [wrNext i (by omega), hS']
        simp [hAe]
    · simp at c
      have ht : List.take i a = a := List.take_of_length_le (by omega)
      rw [ht] at hOe
      simp
      refine ewp_sw (.op 6 7 0) (.op 12 9 0) rfl rfl ?_
      simp
      refine loopS [0, 5, 30, 31, 32] [.op 12 9 0] (fun n st => ∃ (i : Nat), i + n = b.length ∧ st = ⟨slOf 55 [(0, .t (rd k a.length (a.flatMap (GLeaf.ci k)))), (5, .ref ⟨.op 12 9 0, []⟩ 0 (O.length + (((b.take i).filter (freshC a)).map setCo).length)), (30, .t (rd k' b.length (b.flatMap (GLeaf.ci k')))), (31, .t (pi b.length)), (32, .t (pi i))], ofL [(.op 12 9 0, .sl 0 65 (O.length + (((b.take i).filter (freshC a)).map setCo).length) (A ++ (((b.take i).filter (freshC a)).map setCo).flatMap GCommand.co))]⟩) b.length ?_ ?_
      · rintro Inv hI
        simp
        subst hI
        exact ⟨0, by omega, by simp⟩
      · rintro Inv hI n st ⟨i, hi, rfl⟩
        have hO2 : (((b.take i).filter (freshC a)).map setCo).length ≤ i := Nat.le_trans (fmap_len _ _ _) (by simp; omega)
        have hS2 := fmap_snoc (freshC a) setCo b i
        generalize hOe2 : ((b.take i).filter (freshC a)).map setCo = O2 at hO2 hS2 ⊢
        have hA2 := fm_len GCommand.co 3 (fun _ => rfl) O2
        have hAm2 : ∀ y, (O2 ++ [y]).flatMap GCommand.co = O2.flatMap GCommand.co ++ GCommand.co y := fun y => by simp
        generalize hAe2 : O2.flatMap GCommand.co = A2 at hA2 hAm2 ⊢
        have hAA : (A ++ A2).length = (O.length + O2.length) * 3 := by simp [hA, hA2]; omega
        generalize hAX : A ++ A2 = X at hAA ⊢
        refine ewr_sound (M := []) h0 ?_
        simp
        refine brn_app (fun c2 => ?_) (fun c2 => ?_)
        · simp at c2
          have hd := fm_drop (GLeaf.ci k') 2 (fun _ => rfl) b i c2
          have hlen := fm_len (GLeaf.ci k') 2 (fun _ => rfl) b
          have hlt : i * 2 < b.length * 2 := by omega
          have hp1 := hbx _ (List.getElem_mem c2)
          have hok := goodC_all gb _ (List.getElem_mem c2)
          have hpn := okLeaf_path hok
          have hS' := hS2 c2
          have hb1 : (O.length + O2.length + 1) * 48 ≤ 140737488355328 := by omega
          have hb2 : O.length + O2.length ≤ 9223372036854775806 := by omega
          have hp3 : b[i].Path.length * 16 ≤ 140737488355328 := by omega
          have hp4 : b[i].Path.length ≤ 9223372036854775807 := by omega
          have ht2 : X.take ((O.length + O2.length) * 3) = X := List.take_of_length_le (by omega)
          have hv := hasV_fresh (a := a) (okLeaf_val hok)
          have next : ∀ B : Bool, freshC a b[i] = B → ∀ X' m, X' = X ++ (if B = true then GCommand.co (setCo b[i]) else []) → m = O.length + O2.length + (if B = true then 1 else 0) → Less Inv n ⟨slOf 55 [(0, .t (rd k a.length (a.flatMap (GLeaf.ci k)))), (5, .ref ⟨.op 12 9 0, []⟩ 0 m), (30, .t (rd k' b.length (b.flatMap (GLeaf.ci k')))), (31, .t (pi b.length)), (32, .t (pi (IntKind.wrap .i64 ((i : Int) + 1))))], ofL [(.op 12 9 0, .sl 0 65 m X')]⟩ := by
            rintro B hB X' m rfl rfl
            rw [hB] at hS'
            subst hI
            refine Less_mk (n - 1) (by omega) ⟨i + 1, by omega, ?_⟩
            rw [wrNext i (by omega), hS', ← hAX]
            cases B <;> simp [hAm2, hAe2, Nat.add_assoc]
          simp [c2, hd, hlen, hlt]
          refine drawP (tabEnv [] _) [⟨[], allD 55, true⟩, ⟨[.op 10 2 0], allD 55, true⟩, ⟨[.op 10 2 0], allD 55, true⟩, ⟨[], allD 55, false⟩, ⟨[.op 10 2 0], allD 55, true⟩, ⟨[.op 10 2 0], allD 55, true⟩, ⟨[], allD 55, true⟩] h0 hm (tabEnv_ok (tab_cons (ok_l15Has k k' a b[i].Path hao (by omega)) tab_nil)) (by kernel_rfl) (by kernel_rfl) ?_
          simp
          refine brn_app (fun d => ?_) (fun d => ?_)
          · simp at d
            have hB : freshC a b[i] = true := by
              cases e : freshC a b[i] with
              | true => rfl
              | false => exact absurd (hv.mpr e) d
            simp
            refine drawP (tabEnv [] _) [⟨[.op 12 9 0], allD 55, true⟩, ⟨[], allD 55, false⟩, ⟨[.op 10 2 0], allD 55, true⟩, ⟨[.op 10 2 0], allD 55, true⟩, ⟨[.op 12 1 0], [43, 44, 45, 46, 47, 48, 49, 50, 51, 52, 5], false⟩, ⟨[.op 10 2 0], allD 55, true⟩, ⟨[.op 10 2 0], allD 55, true⟩, ⟨[.op 12 4 0], allD 55, true⟩, ⟨[.op 12 4 0, .op 12 7 0], [43, 44, 45, 46, 47, 48, 49, 50, 51, 52, 5], false⟩, ⟨[.op 12 9 0, .op 12 8 0], [43, 44, 45, 46, 47, 48, 49, 50, 51, 52, 5], false⟩, ⟨[.op 12 9 0], allD 55, true⟩] h0 hm (tabEnv_ok tab_nil) (by kernel_rfl) (by kernel_rfl) ?_
            simp [hAA, hb1, hb2, ht2, hpn, hp3, hp4]
            exact next true hB _ _ (by simp [setCo]) rfl
          · simp at d
            have hB : freshC a b[i] = false := by rw [← hv]; exact d
            simp
            exact next false hB _ _ (by simp) rfl
        · simp at c2
          have ht : List.take i b = b := List.take_of_length_le (by omega)
          rw [ht] at hOe2
          have hD : diffL a b = O ++ O2 := by rw [diffL, hOe, hOe2]
          have hX' : (diffL a b).flatMap GCommand.co = X := by rw [hD, List.flatMap_append, hAe, hAe2, hAX]
          have hm' : (diffL a b).length = O.length + O2.length := by rw [hD, List.length_append]
          have htX : X.take ((O.length + O2.length) * 3) = X := List.take_of_length_le (by omega)
          rw [hX', hm']
          simp [hAA, htX]
abbrev cLeafSSo (xs : List (List GLeaf)) : PT := .sl 0 58 xs.length (xs.map (cLeafSo))
abbrev cLeafSSi (k : Nat) (xs : List (List GLeaf)) : PT := rd k xs.length (xs.map (cLeafSi k))
theorem un_LeafSS (xs : List (List GLeaf)) : PT.unownL (xs.map (cLeafSo)) = (xs.map (cLeafSi 0)) := by
  rw [unownL_map]
  congr 1
  funext r
  simp [cLeafSo, cLeafSi, rd]
theorem uni_LeafSS (k : Nat) (xs : List (List GLeaf)) : PT.unownL (xs.map (cLeafSi k)) = (xs.map (cLeafSi 0)) := by
  rw [unownL_map]
  congr 1
  funext r
  simp [cLeafSo, cLeafSi, rd]
theorem nt_LeafSS (xs : List (List GLeaf)) : PT.noTmpL (xs.map (cLeafSo)) = true := noTmpL_map _ xs fun r => by simp [cLeafSo]
theorem nti_LeafSS (k : Nat) (xs : List (List GLeaf)) : PT.noTmpL (xs.map (cLeafSi (k + 1))) = true := noTmpL_map _ xs fun r => by simp [cLeafSi, rd]
attribute [simp] un_LeafSS uni_LeafSS nt_LeafSS nti_LeafSS
def wt_LeafSS (xs : List (List GLeaf)) : Nat := wtR wt_LeafS xs
theorem len_wt_LeafSS (xs : List (List GLeaf)) : xs.length ≤ wt_LeafSS xs := by unfold wt_LeafSS wtR; omega
theorem mem_wt_LeafSS {xs : List (List GLeaf)} {x : (List GLeaf)} (h : x ∈ xs) : wt_LeafS x ≤ wt_LeafSS xs := by
  have := wt_mem wt_LeafS h
  unfold wt_LeafSS wtR
  omega
def fits_LeafSS (xs : List (List GLeaf)) : Prop := xs.length ≤ 140737488351232 ∧ ∀ x ∈ xs, fits_LeafS x
def lens_LeafSS (xs : List (List GLeaf)) : Prop := xs.length ≤ 140737488351232 ∧ ∀ x ∈ xs, lens_LeafS x
def mk_LeafSS (xs : List (List GLeaf)) (k : Int) : List (List GLeaf) × Int := mkR mk_LeafS xs k
def cn_LeafSS (xs : List (List GLeaf)) : Nat := cnR cn_LeafS xs
theorem mk_LeafSS_len (xs : List (List GLeaf)) (k : Int) : (mk_LeafSS xs k).1.length = xs.length := mkR_len _ xs k
attribute [simp] mk_LeafSS_len
theorem mk_LeafSS_snd (xs : List (List GLeaf)) (k : Int) : (mk_LeafSS xs k).2 = k + cn_LeafSS xs := mkR_snd (mk_LeafS_snd) xs k
theorem lens_of_LeafSS {xs : List (List GLeaf)} (h : wt_LeafSS xs ≤ 1048576) : lens_LeafSS xs := by
  have hl := len_wt_LeafSS xs
  exact ⟨by omega, fun x hx => lens_of_LeafS (by have := mem_wt_LeafSS hx; omega)⟩
theorem cn_le_LeafSS (xs : List (List GLeaf)) : cn_LeafSS xs ≤ 32 * wt_LeafSS xs := cnR_le (fun x => by have := cn_le_LeafS x; omega) xs
structure GStore where
  Candidate : (List GLeaf)
  Running : (List GLeaf)
  History : (List (List GLeaf))
  Left : Int
  deriving DecidableEq
def GStore.co (x : GStore) : List PT := [.sl 0 103 x.Candidate.length (x.Candidate.flatMap GLeaf.co), .sl 0 103 x.Running.length (x.Running.flatMap GLeaf.co), .sl 0 58 x.History.length (x.History.map (cLeafSo)), pi x.Left]
def GStore.ci (k : Nat) (x : GStore) : List PT := [rd k x.Candidate.length (x.Candidate.flatMap (GLeaf.ci k)), rd k x.Running.length (x.Running.flatMap (GLeaf.ci k)), rd k x.History.length (x.History.map (cLeafSi k)), pi x.Left]
attribute [simp] GStore.co GStore.ci
theorem GStore.len_o (x : GStore) : x.co.length = 4 := rfl
theorem GStore.len_i (k : Nat) (x : GStore) : (x.ci k).length = 4 := rfl
theorem GStore.un1 (x : GStore) : PT.unownL x.co = x.ci 0 := by simp [rd]
theorem GStore.uni1 (k : Nat) (x : GStore) : PT.unownL (x.ci k) = x.ci 0 := by simp [rd]
theorem GStore.un (xs : List GStore) : PT.unownL (xs.flatMap GStore.co) = xs.flatMap (GStore.ci 0) := by
  rw [unownL_fm]
  congr 1
  funext x
  exact GStore.un1 x
theorem GStore.uni (k : Nat) (xs : List GStore) : PT.unownL (xs.flatMap (GStore.ci k)) = xs.flatMap (GStore.ci 0) := by
  rw [unownL_fm]
  congr 1
  funext x
  exact GStore.uni1 k x
theorem GStore.nt (xs : List GStore) : PT.noTmpL (xs.flatMap GStore.co) = true := noTmpL_fm _ xs fun x => by simp
theorem GStore.nti (k : Nat) (xs : List GStore) : PT.noTmpL (xs.flatMap (GStore.ci (k + 1))) = true := noTmpL_fm _ xs fun x => by simp [rd]
attribute [simp] GStore.un GStore.uni GStore.nt GStore.nti
theorem GStore.lenR (xs : List GStore) : (xs.flatMap GStore.co).length = xs.length * 4 := fm_len _ 4 (fun _ => rfl) xs
theorem GStore.lenRi (k : Nat) (xs : List GStore) : (xs.flatMap (GStore.ci k)).length = xs.length * 4 := fm_len _ 4 (fun _ => rfl) xs
theorem GStore.tkR (xs : List GStore) : (xs.flatMap GStore.co).take (xs.length * 4) = xs.flatMap GStore.co := List.take_of_length_le (by rw [GStore.lenR]; exact Nat.le_refl _)
theorem GStore.tkRi (k : Nat) (xs : List GStore) : (xs.flatMap (GStore.ci k)).take (xs.length * 4) = xs.flatMap (GStore.ci k) := List.take_of_length_le (by rw [GStore.lenRi]; exact Nat.le_refl _)
attribute [simp high] GStore.lenR GStore.tkR GStore.lenRi GStore.tkRi
def GStore.wt (x : GStore) : Nat := wt_LeafS x.Candidate + wt_LeafS x.Running + wt_LeafSS x.History
def GStore.fits (x : GStore) : Prop := fits_LeafS x.Candidate ∧ fits_LeafS x.Running ∧ fits_LeafSS x.History
def GStore.lens (x : GStore) : Prop := lens_LeafS x.Candidate ∧ lens_LeafS x.Running ∧ lens_LeafSS x.History
def GStore.mark (x : GStore) (k : Int) : GStore × Int := (⟨(mk_LeafS x.Candidate k).1, (mk_LeafS x.Running (mk_LeafS x.Candidate k).2).1, (mk_LeafSS x.History (mk_LeafS x.Running (mk_LeafS x.Candidate k).2).2).1, (mk_LeafSS x.History (mk_LeafS x.Running (mk_LeafS x.Candidate k).2).2).2⟩, ((mk_LeafSS x.History (mk_LeafS x.Running (mk_LeafS x.Candidate k).2).2).2 + 1))
def GStore.cn (x : GStore) : Nat := cn_LeafS x.Candidate + cn_LeafS x.Running + cn_LeafSS x.History + 1
theorem GStore.mark_snd (x : GStore) (k : Int) : (GStore.mark x k).2 = k + GStore.cn x := by
  simp only [GStore.mark, GStore.cn, mk_LeafSS_snd, mk_LeafS_snd] <;> omega
def GStore.markT (x : GStore) (k : Int) : GStore × Int := (⟨(mk_LeafS x.Candidate k).1, (mk_LeafS x.Running (mk_LeafS x.Candidate k).2).1, (mk_LeafSS x.History (mk_LeafS x.Running (mk_LeafS x.Candidate k).2).2).1, x.Left⟩, (mk_LeafSS x.History (mk_LeafS x.Running (mk_LeafS x.Candidate k).2).2).2)
def GStore.cnT (x : GStore) : Nat := cn_LeafS x.Candidate + cn_LeafS x.Running + cn_LeafSS x.History
theorem GStore.markT_snd (x : GStore) (k : Int) : (GStore.markT x k).2 = k + GStore.cnT x := by
  simp only [GStore.markT, GStore.cnT, mk_LeafSS_snd, mk_LeafS_snd] <;> omega
theorem lens_of_Store {x : GStore} (h : GStore.wt x ≤ 1048576) : GStore.lens x := by
  unfold GStore.wt at h
  exact ⟨lens_of_LeafS (by omega), lens_of_LeafS (by omega), lens_of_LeafSS (by omega)⟩
theorem cn_le_Store (x : GStore) : GStore.cnT x ≤ 32 * GStore.wt x := by
  unfold GStore.cnT GStore.wt
  have := cn_le_LeafS x.Candidate
  have := cn_le_LeafS x.Running
  have := cn_le_LeafSS x.History
  omega
theorem cnE_le_Store (x : GStore) : GStore.cn x ≤ 32 * GStore.wt x + 16 := by
  unfold GStore.cn GStore.wt
  have := cn_le_LeafS x.Candidate
  have := cn_le_LeafS x.Running
  have := cn_le_LeafSS x.History
  omega
def storeOK (s : GStore) : Prop := confOK s.Candidate ∧ confOK s.Running ∧ s.History.length ≤ 140737488351232 ∧ ∀ l ∈ s.History, confOK l
def goodS (s : GStore) : Bool := goodC s.Candidate && goodC s.Running && decide ((1 : Int) ≤ s.History.length ∧ (s.History.length : Int) ≤ 10) && s.History.all goodC && decide (0 ≤ s.Left ∧ s.Left ≤ 100) && (decide (s.Left = 0) == decide (s.Running = s.History.headD []))
theorem head_cells (k : Nat) (h : List (List GLeaf)) (l : List GLeaf) (t : List (List GLeaf)) (e : h = l :: t) : h.map (cLeafSi k) = cLeafSi k l :: t.map (cLeafSi k) := by rw [e]; rfl
structure GOp where
  Kind : Int
  Path : (List ByteArray)
  Value : ByteArray
  N : Int
  deriving DecidableEq
def GOp.co (x : GOp) : List PT := [pi x.Kind, .sl 0 9 x.Path.length (x.Path.map ps), ps x.Value, pi x.N]
def GOp.ci (k : Nat) (x : GOp) : List PT := [pi x.Kind, rd k x.Path.length (x.Path.map ps), ps x.Value, pi x.N]
attribute [simp] GOp.co GOp.ci
theorem GOp.len_o (x : GOp) : x.co.length = 4 := rfl
theorem GOp.len_i (k : Nat) (x : GOp) : (x.ci k).length = 4 := rfl
theorem GOp.un1 (x : GOp) : PT.unownL x.co = x.ci 0 := by simp [rd]
theorem GOp.uni1 (k : Nat) (x : GOp) : PT.unownL (x.ci k) = x.ci 0 := by simp [rd]
theorem GOp.un (xs : List GOp) : PT.unownL (xs.flatMap GOp.co) = xs.flatMap (GOp.ci 0) := by
  rw [unownL_fm]
  congr 1
  funext x
  exact GOp.un1 x
theorem GOp.uni (k : Nat) (xs : List GOp) : PT.unownL (xs.flatMap (GOp.ci k)) = xs.flatMap (GOp.ci 0) := by
  rw [unownL_fm]
  congr 1
  funext x
  exact GOp.uni1 k x
theorem GOp.nt (xs : List GOp) : PT.noTmpL (xs.flatMap GOp.co) = true := noTmpL_fm _ xs fun x => by simp
theorem GOp.nti (k : Nat) (xs : List GOp) : PT.noTmpL (xs.flatMap (GOp.ci (k + 1))) = true := noTmpL_fm _ xs fun x => by simp [rd]
attribute [simp] GOp.un GOp.uni GOp.nt GOp.nti
theorem GOp.lenR (xs : List GOp) : (xs.flatMap GOp.co).length = xs.length * 4 := fm_len _ 4 (fun _ => rfl) xs
theorem GOp.lenRi (k : Nat) (xs : List GOp) : (xs.flatMap (GOp.ci k)).length = xs.length * 4 := fm_len _ 4 (fun _ => rfl) xs
theorem GOp.tkR (xs : List GOp) : (xs.flatMap GOp.co).take (xs.length * 4) = xs.flatMap GOp.co := List.take_of_length_le (by rw [GOp.lenR]; exact Nat.le_refl _)
theorem GOp.tkRi (k : Nat) (xs : List GOp) : (xs.flatMap (GOp.ci k)).take (xs.length * 4) = xs.flatMap (GOp.ci k) := List.take_of_length_le (by rw [GOp.lenRi]; exact Nat.le_refl _)
attribute [simp high] GOp.lenR GOp.tkR GOp.lenRi GOp.tkRi
def GOp.wt (x : GOp) : Nat := wt_StringS x.Path + x.Value.size
def GOp.fits (x : GOp) : Prop := fits_StringS x.Path ∧ x.Value.size ≤ 140737488351232
def GOp.lens (x : GOp) : Prop := lens_StringS x.Path
def GOp.mark (x : GOp) (k : Int) : GOp × Int := (⟨k, (mk_StringS x.Path (k + 1)).1, mtext (mk_StringS x.Path (k + 1)).2, ((mk_StringS x.Path (k + 1)).2 + 1)⟩, (((mk_StringS x.Path (k + 1)).2 + 1) + 1))
def GOp.cn (x : GOp) : Nat := 1 + cn_StringS x.Path + 1 + 1
theorem GOp.mark_snd (x : GOp) (k : Int) : (GOp.mark x k).2 = k + GOp.cn x := by
  simp only [GOp.mark, GOp.cn, mk_StringS_snd] <;> omega
def GOp.markT (x : GOp) (k : Int) : GOp × Int := (⟨x.Kind, (mk_StringS x.Path k).1, x.Value, x.N⟩, (mk_StringS x.Path k).2)
def GOp.cnT (x : GOp) : Nat := cn_StringS x.Path
theorem GOp.markT_snd (x : GOp) (k : Int) : (GOp.markT x k).2 = k + GOp.cnT x := by
  simp only [GOp.markT, GOp.cnT, mk_StringS_snd] <;> omega
theorem lens_of_Op {x : GOp} (h : GOp.wt x ≤ 1048576) : GOp.lens x := by
  unfold GOp.wt at h
  exact lens_of_StringS (by omega)
theorem cn_le_Op (x : GOp) : GOp.cnT x ≤ 32 * GOp.wt x := by
  unfold GOp.cnT GOp.wt
  have := cn_le_StringS x.Path
  omega
theorem cnE_le_Op (x : GOp) : GOp.cn x ≤ 32 * GOp.wt x + 16 := by
  unfold GOp.cn GOp.wt
  have := cn_le_StringS x.Path
  omega
def isOpB (o : GOp) : Bool := decide (1 ≤ o.Kind ∧ o.Kind ≤ 8) && (decide (o.Kind = 1 ∨ o.Kind = 2) || decide (o.Path.length = 0)) && (decide (o.Kind = 1) || decide (o.Value = ⟨#[]⟩)) && (decide (o.Kind = 4 ∨ o.Kind = 6) || decide (o.N = 0))
def opOK (o : GOp) : Prop := strsOK o.Path ∧ o.Path.length ≤ 1048576 ∧ o.Value.size ≤ 140737488355328
def textB (o : GOp) : Bool := decide (o.Path.length = 0) && decide (o.Value = ⟨#[]⟩)
def l16OpB (o : GOp) : Bool :=
  if o.Kind = 1 then decide (o.N = 0) && isP o.Path && isW o.Value
  else if o.Kind = 2 then decide (o.N = 0) && isP o.Path && decide (o.Value = ⟨#[]⟩)
  else if o.Kind = 4 then textB o && decide (1 ≤ o.N ∧ o.N ≤ 100)
  else if o.Kind = 6 then textB o && decide (0 ≤ o.N ∧ o.N ≤ 9)
  else if o.Kind = 3 ∨ o.Kind = 5 ∨ o.Kind = 7 ∨ o.Kind = 8 then textB o && decide (o.N = 0)
  else false
theorem ci_inj : ∀ {a b : List GLeaf} {k : Nat}, a.flatMap (GLeaf.ci k) = b.flatMap (GLeaf.ci k) → a = b
  | [], [], _, _ => rfl
  | [], y :: b, k, h => by simp at h
  | x :: a, [], k, h => by simp at h
  | x :: a, y :: b, k, h => by
    simp only [List.flatMap_cons, GLeaf.ci, List.cons_append, List.nil_append, List.cons.injEq] at h
    obtain ⟨h1, h2, h3⟩ := h
    have e1 : x.Path = y.Path := by
      simp only [rd, PT.sl.injEq] at h1
      have h4 := h1.2.2.2
      exact List.map_inj_right (fun u v huv => by simpa [ps] using huv) |>.1 h4
    have e2 : x.Value = y.Value := by simpa [ps] using h2
    rw [ci_inj h3]
    cases x; cases y
    simp only at e1 e2
    rw [e1, e2]
def storeB (s : GStore) : Prop := boundC s.Candidate ∧ boundC s.Running ∧ s.History.length ≤ 1048576 ∧ ∀ h ∈ s.History, boundC h
def confirmS (s : GStore) : GStore := if s.History.head? = some s.Running then { s with Left := 0 } else { s with Left := 0, History := (s.Running :: s.History).take 10 }
def stepSp (s : GStore) (o : GOp) : GStore × Bool :=
  if l16OpB o = false then (s, false)
  else if o.Kind = 1 then (⟨(rSetAt s.Candidate o.Path o.Value).1, s.Running, s.History, s.Left⟩, (rSetAt s.Candidate o.Path o.Value).2)
  else if o.Kind = 2 then (⟨(rDeleteAt s.Candidate o.Path).1, s.Running, s.History, s.Left⟩, (rDeleteAt s.Candidate o.Path).2)
  else if o.Kind = 3 then (confirmS ⟨s.Candidate, s.Candidate, s.History, s.Left⟩, true)
  else if o.Kind = 4 then (⟨s.Candidate, s.Candidate, s.History, if s.Candidate = s.History.headD [] then 0 else o.N⟩, true)
  else if o.Kind = 5 then (if s.Left = 0 then (s, false) else (confirmS s, true))
  else if o.Kind = 6 then (if (s.History.length : Int) ≤ o.N then (s, false) else (⟨s.History.getD o.N.toNat [], s.Running, s.History, s.Left⟩, true))
  else if o.Kind = 7 then (⟨s.Running, s.Running, s.History, s.Left⟩, true)
  else (if s.Left = 0 then (s, false) else (⟨s.Candidate, (if s.Left - 1 = 0 then s.History.headD [] else s.Running), s.History, s.Left - 1⟩, true))
def zeroS : GStore := ⟨[], [], [], 0⟩
def stepI (s : GStore) (o : GOp) : GStore × Bool :=
  if isOpB o = false then (zeroS, false)
  else if o.Kind = 1 then (⟨(rSetAt s.Candidate o.Path o.Value).1, s.Running, s.History, s.Left⟩, (rSetAt s.Candidate o.Path o.Value).2)
  else if o.Kind = 2 then (⟨(rDeleteAt s.Candidate o.Path).1, s.Running, s.History, s.Left⟩, (rDeleteAt s.Candidate o.Path).2)
  else if o.Kind = 3 then (confirmS ⟨s.Candidate, s.Candidate, s.History, s.Left⟩, true)
  else if o.Kind = 4 then (⟨s.Candidate, s.Candidate, s.History, if s.Candidate = s.History.headD [] then 0 else o.N⟩, decide (1 ≤ o.N ∧ o.N ≤ 100))
  else if o.Kind = 5 then (confirmS s, decide (0 < s.Left))
  else if o.Kind = 6 then (if 0 ≤ o.N ∧ o.N ≤ (s.History.length : Int) - 1 then (⟨s.History.getD o.N.toNat [], s.Running, s.History, s.Left⟩, true) else (zeroS, false))
  else if o.Kind = 7 then (⟨s.Running, s.Running, s.History, s.Left⟩, true)
  else if o.Kind = 8 then (⟨s.Candidate, (if s.Left - 1 = 0 then s.History.headD [] else s.Running), s.History, s.Left - 1⟩, decide (0 < s.Left))
  else (s, true)
theorem wtR_leC {α : Type} (f : α → Nat) (b : Nat) : ∀ l : List α, (∀ x ∈ l, f x ≤ b) → wtR f l ≤ l.length * (b + 1)
  | [], _ => by simp [wtR]
  | x :: l, h => by
    have ih := wtR_leC f b l fun y hy => h y (by simp [hy])
    have hx := h x (by simp)
    simp only [wtR, List.map_cons, List.sum_cons, List.length_cons] at ih ⊢
    rw [Nat.succ_mul]
    omega
theorem isW_size {w : ByteArray} (h : isW w = true) : w.size ≤ 8 := by
  simp only [isW, Bool.and_eq_true, decide_eq_true_eq] at h
  omega
def smC (l : List GLeaf) : Prop := l.length ≤ 30 ∧ ∀ x ∈ l, okLeaf x = true
theorem goodC_sm {l : List GLeaf} (h : goodC l = true) : smC l := by
  refine ⟨?_, goodC_all h⟩
  simp only [goodC, Bool.and_eq_true, decide_eq_true_eq] at h
  exact h.2
theorem smC_wt {l : List GLeaf} (h : smC l) : wt_LeafS l ≤ 2000 := by
  have hl := h.1
  have h1 : wtR GLeaf.wt l ≤ l.length * (53 + 1) := by
    refine wtR_leC GLeaf.wt 53 l fun x hx => ?_
    have ho := h.2 x hx
    simp only [okLeaf, Bool.and_eq_true, isP, decide_eq_true_eq] at ho
    obtain ⟨⟨h2, h3⟩, h4⟩ := ho
    have h5 := isW_size h4
    have h6 : wtR ByteArray.size x.Path ≤ x.Path.length * (8 + 1) := wtR_leC ByteArray.size 8 x.Path fun w hw => isW_size (List.all_eq_true.1 h3 w hw)
    unfold GLeaf.wt
    show wtR ByteArray.size x.Path + x.Value.size ≤ 53
    omega
  show wtR GLeaf.wt l ≤ 2000
  omega
def invS (s : GStore) : Prop := smC s.Candidate ∧ smC s.Running ∧ 1 ≤ s.History.length ∧ s.History.length ≤ 10 ∧ (∀ l ∈ s.History, smC l) ∧ (0 ≤ s.Left ∧ s.Left ≤ 100)
theorem goodS_inv {s : GStore} (h : goodS s = true) : invS s := by
  simp only [goodS, Bool.and_eq_true, decide_eq_true_eq, List.all_eq_true] at h
  obtain ⟨⟨⟨⟨⟨h1, h2⟩, h3⟩, h4⟩, h5⟩, h6⟩ := h
  exact ⟨goodC_sm h1, goodC_sm h2, by omega, by omega, fun l hl => goodC_sm (h4 l hl), h5⟩
theorem invS_wt {s : GStore} (h : invS s) : GStore.wt s ≤ 1048576 := by
  obtain ⟨h1, h2, h3, h4, h5, _⟩ := h
  have a1 := smC_wt h1
  have a2 := smC_wt h2
  have a3 : wtR wt_LeafS s.History ≤ s.History.length * (2000 + 1) := wtR_leC wt_LeafS 2000 s.History fun l hl => smC_wt (h5 l hl)
  unfold GStore.wt
  show wt_LeafS s.Candidate + wt_LeafS s.Running + wtR wt_LeafS s.History ≤ 1048576
  omega
theorem wt_storeB {s : GStore} (h : GStore.wt s ≤ 1048576) : storeB s := by
  unfold GStore.wt at h
  have key : ∀ l : List GLeaf, wt_LeafS l ≤ 1048576 → boundC l := fun l hl => ⟨(conf_len hl).1, fun x hx => ⟨(conf_len hl).2 x hx, (conf_ok hl).2 x hx⟩⟩
  exact ⟨key _ (by omega), key _ (by omega), by have := len_wt_LeafSS s.History; omega, fun l hl => key _ (by have := mem_wt_LeafSS hl; omega)⟩
theorem wt_opOK {o : GOp} (h : GOp.wt o ≤ 1048576) : opOK o := by
  unfold GOp.wt at h
  have := len_wt_StringS o.Path
  exact ⟨strs_ok (by omega), by omega, by omega⟩
theorem step_agree {s : GStore} (o : GOp) (hs : invS s) : (stepSp s o).2 = (stepI s o).2 ∧ ((stepI s o).2 = true → (stepSp s o).1 = (stepI s o).1) := by
  obtain ⟨h1, h2, h3, h4, h5, h6⟩ := hs
  obtain ⟨C, R, H, F⟩ := s
  obtain ⟨K, Pa, V, N⟩ := o
  simp only at h1 h2 h3 h4 h5 h6
  by_cases k1 : K = 1
  · subst k1
    cases c1 : isP Pa <;> cases c2 : isW V <;> by_cases c3 : N = 0 <;> simp [stepSp, stepI, isOpB, l16OpB, rSetAt, c1, c2, c3, zeroS]
  by_cases k2 : K = 2
  · subst k2
    cases c1 : isP Pa <;> by_cases c2 : V = ⟨#[]⟩ <;> by_cases c3 : N = 0 <;> simp [stepSp, stepI, isOpB, l16OpB, rDeleteAt, c1, c2, c3, zeroS]
  by_cases k3 : K = 3
  · subst k3
    by_cases c1 : Pa = [] <;> by_cases c2 : V = ⟨#[]⟩ <;> by_cases c3 : N = 0 <;> simp [stepSp, stepI, isOpB, l16OpB, textB, c1, c2, c3, zeroS]
  by_cases k4 : K = 4
  · subst k4
    by_cases c1 : Pa = [] <;> by_cases c2 : V = ⟨#[]⟩ <;> by_cases c3 : 1 ≤ N ∧ N ≤ 100 <;> simp [stepSp, stepI, isOpB, l16OpB, textB, c1, c2, c3, zeroS]
  by_cases k5 : K = 5
  · subst k5
    by_cases c1 : Pa = [] <;> by_cases c2 : V = ⟨#[]⟩ <;> by_cases c3 : N = 0 <;> by_cases c4 : F = 0 <;> simp [stepSp, stepI, isOpB, l16OpB, textB, c1, c2, c3, c4, zeroS]
    omega
  by_cases k6 : K = 6
  · subst k6
    by_cases c1 : Pa = [] <;> by_cases c2 : V = ⟨#[]⟩ <;> by_cases c3 : 0 ≤ N ∧ N ≤ 9
    all_goals
      by_cases c4 : (H.length : Int) ≤ N
      · have c5 : ¬ (0 ≤ N ∧ N ≤ (H.length : Int) - 1) := by omega
        have c6 : ¬ N ≤ (H.length : Int) - 1 := by omega
        simp [c6, stepSp, stepI, isOpB, l16OpB, textB, c1, c2, c3, c4, c5, zeroS]
      · by_cases c5 : 0 ≤ N ∧ N ≤ (H.length : Int) - 1
        · first
          | (exfalso; omega)
          | simp [stepSp, stepI, isOpB, l16OpB, textB, c1, c2, c3, c4, c5, zeroS]
        · first
          | (exfalso; omega)
          | simp [stepSp, stepI, isOpB, l16OpB, textB, c1, c2, c3, c4, c5, zeroS]
  by_cases k7 : K = 7
  · subst k7
    by_cases c1 : Pa = [] <;> by_cases c2 : V = ⟨#[]⟩ <;> by_cases c3 : N = 0 <;> simp [stepSp, stepI, isOpB, l16OpB, textB, c1, c2, c3, zeroS]
  by_cases k8 : K = 8
  · subst k8
    by_cases c1 : Pa = [] <;> by_cases c2 : V = ⟨#[]⟩ <;> by_cases c3 : N = 0 <;> by_cases c4 : F = 0 <;> simp [stepSp, stepI, isOpB, l16OpB, textB, c1, c2, c3, c4, zeroS]
    omega
  · have c1 : ¬ (1 ≤ K ∧ K ≤ 8) := by omega
    simp [stepSp, stepI, isOpB, l16OpB, k1, k2, k3, k4, k5, k6, k7, k8, c1]
theorem headD_mem {H : List (List GLeaf)} (h : 1 ≤ H.length) : H.headD [] ∈ H := by
  cases H with
  | nil => simp at h
  | cons x H => simp
theorem confirmS_inv {s : GStore} (h1 : smC s.Candidate) (h2 : smC s.Running) (h3 : 1 ≤ s.History.length) (h4 : s.History.length ≤ 10) (h5 : ∀ l ∈ s.History, smC l) : invS (confirmS s) := by
  obtain ⟨C, R, H, F⟩ := s
  simp only at h1 h2 h3 h4 h5
  have h0 : (0 : Int) ≤ 0 ∧ (0 : Int) ≤ 100 := by decide
  unfold confirmS
  split
  · exact ⟨h1, h2, h3, h4, h5, h0⟩
  · refine ⟨h1, h2, ?_, ?_, ?_, h0⟩
    · simp only [List.take_succ_cons, List.length_cons]; omega
    · simp only [List.length_take]; omega
    · intro l hl
      have := List.mem_of_mem_take hl
      rcases List.mem_cons.1 this with rfl | h
      · exact h2
      · exact h5 l h
theorem step_inv {s : GStore} {o : GOp} (hs : invS s) (ho : (stepI s o).2 = true) : invS (stepI s o).1 := by
  have hs' := hs
  obtain ⟨h1, h2, h3, h4, h5, h6⟩ := hs
  have hhd := h5 _ (headD_mem h3)
  obtain ⟨C, R, H, F⟩ := s
  obtain ⟨K, Pa, V, N⟩ := o
  simp only at h1 h2 h3 h4 h5 h6 hhd
  unfold stepI at ho ⊢
  simp only at ho ⊢
  split at ho
  · simp at ho
  rename_i c0
  rw [if_neg c0]
  split at ho
  · rename_i k
    rw [if_pos k]
    refine ⟨?_, h2, h3, h4, h5, h6⟩
    unfold rSetAt at ho ⊢
    split at ho
    · rename_i hg
      rw [if_pos hg]
      simp only [Bool.and_eq_true] at hg
      exact goodC_sm hg.2
    · simp at ho
  rename_i k1
  rw [if_neg k1]
  split at ho
  · rename_i k
    rw [if_pos k]
    refine ⟨?_, h2, h3, h4, h5, h6⟩
    unfold rDeleteAt at ho ⊢
    split at ho
    · rename_i hg
      rw [if_pos hg]
      exact ⟨Nat.le_trans (delL_len _ _) h1.1, fun x hx => h1.2 x (List.mem_filter.1 hx).1⟩
    · simp at ho
  rename_i k2
  rw [if_neg k2]
  split at ho
  · rename_i k
    rw [if_pos k]
    exact confirmS_inv h1 h1 h3 h4 h5
  rename_i k3
  rw [if_neg k3]
  split at ho
  · rename_i k
    rw [if_pos k]
    simp only [decide_eq_true_eq] at ho
    refine ⟨h1, h1, h3, h4, h5, ?_⟩
    show 0 ≤ (if C = H.headD [] then (0 : Int) else N) ∧ (if C = H.headD [] then (0 : Int) else N) ≤ 100
    split <;> omega
  rename_i k4
  rw [if_neg k4]
  split at ho
  · rename_i k
    rw [if_pos k]
    exact confirmS_inv h1 h2 h3 h4 h5
  rename_i k5
  rw [if_neg k5]
  split at ho
  · rename_i k
    rw [if_pos k]
    split at ho
    · rename_i hN
      rw [if_pos hN]
      refine ⟨?_, h2, h3, h4, h5, h6⟩
      have hlt : N.toNat < H.length := by omega
      show smC (H.getD N.toNat [])
      rw [List.getD_eq_getElem?_getD, List.getElem?_eq_getElem hlt]
      exact h5 _ (List.getElem_mem hlt)
    · simp at ho
  rename_i k6
  rw [if_neg k6]
  split at ho
  · rename_i k
    rw [if_pos k]
    exact ⟨h2, h2, h3, h4, h5, h6⟩
  rename_i k7
  rw [if_neg k7]
  split at ho
  · rename_i k
    rw [if_pos k]
    simp only [decide_eq_true_eq] at ho
    refine ⟨h1, ?_, h3, h4, h5, by show 0 ≤ F - 1 ∧ F - 1 ≤ 100; omega⟩
    show smC (if F - 1 = 0 then H.headD [] else R)
    split
    · exact hhd
    · exact h2
  rename_i k8
  rw [if_neg k8]
  exact hs'
def rStepStore (v0 : GStore) (v1 : GOp) : GStore × Bool := if goodS v0 = true ∧ (stepI v0 v1).2 = true then ((stepI v0 v1).1, true) else (zeroS, false)
theorem rStepStore_ok (v0 : GStore) (v1 : GOp) (hv0 : GStore.wt v0 ≤ 1048576) (hv1 : GOp.wt v1 ≤ 1048576) : (rStepStore v0 v1).1.lens ∧ GStore.cnT (rStepStore v0 v1).1 ≤ 1152921504606846976 := by
  have key : GStore.wt (rStepStore v0 v1).1 ≤ 1048576 := by
    unfold rStepStore
    split
    · rename_i h; exact invS_wt (step_inv (goodS_inv h.1) h.2)
    · decide
  exact ⟨lens_of_Store key, by have := cn_le_Store (rStepStore v0 v1).1; omega⟩
end Go.V
