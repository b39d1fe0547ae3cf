/- What functions of the seat's program do, each proved of its code, under the bounds that its theorem names. -/
import Derived.Test.YtildjkidohpmbaaTai
set_option linter.all false
namespace Go.V
open Go.Proofs
set_option maxHeartbeats 1000000
set_option maxRecDepth 10000
set_option linter.unusedSimpArgs false
set_option linter.unusedVariables false
theorem beg_le : ∀ a b : List ByteArray, begP a b = true → lessP b a = false
  | [], [], _ => rfl
  | [], _ :: _, _ => rfl
  | _ :: _, [], h => by simp [begP] at h
  | x :: us, y :: vs, h => by
    simp only [begP, Bool.and_eq_true, decide_eq_true_eq] at h
    obtain ⟨rfl, h⟩ := h
    unfold lessP
    rw [if_pos rfl]
    exact beg_le us vs h
theorem less_irr : ∀ a : List ByteArray, lessP a a = false
  | [] => rfl
  | x :: us => by unfold lessP; rw [if_pos rfl]; exact less_irr us
theorem beg_self : ∀ a : List ByteArray, begP a a = true
  | [] => rfl
  | x :: us => by simp [begP, beg_self us]
theorem apart_back {a b : List ByteArray} (h : apartP a b) : begP b a = false := by
  cases e : begP b a with
  | false => rfl
  | true => have := beg_le b a e; rw [h.1] at this; cases this
theorem goodC_of {l : List GLeaf} (ho : ∀ x ∈ l, okLeaf x = true) (hp : l.Pairwise (fun x y => apartP x.Path y.Path)) (hl : l.length ≤ 30) : goodC l = true := by
  simp only [goodC, Bool.and_eq_true, decide_eq_true_eq]
  exact ⟨goodG_of l none ho hp (fun y hy => by cases hy), hl⟩
theorem goodC_pw {l : List GLeaf} (h : goodC l = true) : l.Pairwise (fun x y => apartP x.Path y.Path) := by
  simp only [goodC, Bool.and_eq_true] at h
  exact (goodG_pw l none h.1).1
theorem goodC_len {l : List GLeaf} (h : goodC l = true) : l.length ≤ 30 := by
  simp only [goodC, Bool.and_eq_true, decide_eq_true_eq] at h
  exact h.2
theorem goodC_sub {l m : List GLeaf} (h : goodC l = true) (hs : m.Sublist l) : goodC m = true :=
  goodC_of (fun x hx => goodC_all h x (hs.subset hx)) ((goodC_pw h).sublist hs) (Nat.le_trans hs.length_le (goodC_len h))
def doR : List GLeaf → List GCommand → Option (List GLeaf)
  | o, [] => some o
  | o, c :: cs => if (doStep o c).2 = true then doR (doStep o c).1 cs else none
theorem doR_app : ∀ (cs : List GCommand) (o : List GLeaf) (ds : List GCommand), doR o (cs ++ ds) = (doR o cs).bind (fun o' => doR o' ds)
  | [], o, ds => rfl
  | c :: cs, o, ds => by
    simp only [List.cons_append, doR]
    split
    · exact doR_app cs _ ds
    · rfl
theorem doI_doR (l : List GLeaf) (cs : List GCommand) : ∀ i, i ≤ cs.length → doI l cs i = doR l (cs.take i)
  | 0, _ => rfl
  | i + 1, h => by
    have ih := doI_doR l cs i (by omega)
    rw [take_step cs i (by omega), doR_app, ← ih]
    rw [doI]
    cases doI l cs i with
    | none => rfl
    | some o =>
      rw [List.getElem?_eq_getElem (by omega)]
      rfl
def stayC (b : List GLeaf) (x : GLeaf) : Bool := !goneC b x
theorem del_phase (b : List GLeaf) : ∀ (a2 a1 : List GLeaf), goodC (a1 ++ a2) = true → doR (a1.filter (stayC b) ++ a2) ((a2.filter (goneC b)).map delCo) = some ((a1 ++ a2).filter (stayC b))
  | [], a1, h => by simp [doR]
  | x :: t, a1, h => by
    have ih := del_phase b t (a1 ++ [x]) (by simpa using h)
    have e1 : a1 ++ x :: t = (a1 ++ [x]) ++ t := by simp
    rw [e1]
    cases g : goneC b x with
    | false =>
      have g2 : stayC b x = true := by simp [stayC, g]
      rw [List.filter_cons_of_neg (by simp [g])]
      rw [← ih]
      simp [g2]
    | true =>
      have g2 : stayC b x = false := by simp [stayC, g]
      have hpw := List.pairwise_append.1 (goodC_pw h)
      have hx := List.pairwise_cons.1 hpw.2.1
      have hg : goodC (a1.filter (stayC b) ++ x :: t) = true := goodC_sub h (List.Sublist.append (List.filter_sublist) (List.Sublist.refl _))
      have hd : delL x.Path (a1.filter (stayC b) ++ x :: t) = a1.filter (stayC b) ++ t := by
        unfold delL
        rw [List.filter_append, List.filter_cons_of_neg (by simp [begL, beg_self])]
        congr 1
        · refine List.filter_eq_self.2 fun y hy => ?_
          simp [begL, apart_back (hpw.2.2 y (List.mem_filter.1 hy).1 x (List.mem_cons_self ..))]
        · refine List.filter_eq_self.2 fun y hy => ?_
          simp [begL, (hx.1 y hy).2]
      have hok := goodC_all h x (by simp)
      simp only [okLeaf, Bool.and_eq_true] at hok
      have hs : doStep (a1.filter (stayC b) ++ x :: t) (delCo x) = (a1.filter (stayC b) ++ t, true) := by
        unfold doStep
        have q1 : ¬ (delCo x).Set = true := by simp [delCo]
        have q2 : (delCo x).Value = ⟨#[]⟩ := rfl
        have q3 : (delCo x).Path = x.Path := rfl
        rw [if_neg q1, if_pos q2, q3]
        unfold rDeleteAt
        rw [hd, if_pos]
        simp [hg, hok.1]
      rw [List.filter_cons_of_pos g, List.map_cons]
      unfold doR
      rw [hs, if_pos rfl, ← ih]
      simp [g2]
def oldC (a : List GLeaf) (y : GLeaf) : Option GLeaf := a.find? (atP y.Path)
theorem oldC_some {a : List GLeaf} {x y : GLeaf} (h : oldC a y = some x) : x.Path = y.Path ∧ x ∈ a := by
  have h1 := List.find?_some h
  simp only [atP, decide_eq_true_eq] at h1
  exact ⟨h1, List.mem_of_find?_eq_some h⟩
theorem mid_good {a b1 b2 : List GLeaf} (ha : goodC a = true) (h : goodC (b1 ++ b2) = true) : goodC (b1 ++ b2.filterMap (oldC a)) = true := by
  have hp := List.pairwise_append.1 (goodC_pw h)
  refine goodC_of ?_ ?_ ?_
  · intro x hx
    rcases List.mem_append.1 hx with hx | hx
    · exact goodC_all h x (List.mem_append_left _ hx)
    · obtain ⟨y, hy, hyx⟩ := List.mem_filterMap.1 hx
      exact goodC_all ha x (oldC_some hyx).2
  · refine List.pairwise_append.2 ⟨hp.1, ?_, ?_⟩
    · rw [List.pairwise_filterMap]
      refine hp.2.1.imp ?_
      intro y z hyz x hx w hw
      rw [(oldC_some hx).1, (oldC_some hw).1]
      exact hyz
    · intro x hx z hz
      obtain ⟨y, hy, hyz⟩ := List.mem_filterMap.1 hz
      rw [(oldC_some hyz).1]
      exact hp.2.2 x hx y hy
  · have h1 := goodC_len h
    have h2 := List.length_filterMap_le (oldC a) b2
    simp only [List.length_append] at h1 ⊢
    omega
theorem cmp_neg {a b : List ByteArray} (h : lessP a b = true) : cmpP a b < 0 := by
  have := cmpP_less a b
  rw [h] at this
  simpa using this
theorem cmp_nonneg {a b : List ByteArray} (h : lessP a b = false) : 0 ≤ cmpP a b := by
  have := cmpP_less a b
  rw [h] at this
  simpa using this
theorem less_asym {a b : List ByteArray} (h : lessP a b = true) : lessP b a = false := by
  cases e : lessP b a with
  | false => rfl
  | true => have := lessP_trans _ _ _ h e; rw [less_irr] at this; cases this
theorem putL_mid {p : List ByteArray} {v : ByteArray} {l m : List GLeaf} (hl : ∀ x ∈ l, lessP x.Path p = true) (hm : ∀ x ∈ m, lessP p x.Path = true) : putL p v (l ++ m) = l ++ [⟨p, v⟩] ++ m := by
  have e : atI p (l ++ m) = l.length := by
    refine bsI_eq _ _ _ (by simp) ?_ ?_
    · intro i hi h2
      rw [List.getElem_append_left hi]
      exact cmp_neg (hl _ (List.getElem_mem hi))
    · intro h2
      rw [List.getElem_append_right (Nat.le_refl _)]
      exact cmp_nonneg (less_asym (hm _ (List.getElem_mem _)))
  unfold putL
  rw [e, List.take_left, List.drop_left]
theorem set_phase {a : List GLeaf} (ha : goodC a = true) : ∀ (b2 b1 : List GLeaf), goodC (b1 ++ b2) = true → doR (b1 ++ b2.filterMap (oldC a)) ((b2.filter (freshC a)).map setCo) = some (b1 ++ b2)
  | [], b1, h => by simp [doR]
  | y :: t, b1, h => by
    have h' : goodC ((b1 ++ [y]) ++ t) = true := by simpa using h
    have ih := set_phase ha t (b1 ++ [y]) h'
    have e1 : b1 ++ y :: t = (b1 ++ [y]) ++ t := by simp
    rw [e1]
    cases f : freshC a y with
    | false =>
      have g : oldC a y = some y := by
        unfold freshC at f
        unfold oldC
        split at f
        · rename_i x hx
          rw [hx]
          have h1 := (oldC_some hx).1
          simp at f
          obtain ⟨P, V⟩ := x
          obtain ⟨P', V'⟩ := y
          simp only at h1 f
          rw [h1, f]
        · cases f
      rw [List.filter_cons_of_neg (by simp [f]), List.filterMap_cons_some g, ← ih]
      simp
    | true =>
      have hpw := List.pairwise_append.1 (goodC_pw h)
      have hx := List.pairwise_cons.1 hpw.2.1
      have hok := goodC_all h y (by simp)
      simp only [okLeaf, Bool.and_eq_true] at hok
      have hF : ∀ z ∈ t.filterMap (oldC a), apartP y.Path z.Path := by
        intro z hz
        obtain ⟨w, hw, hwz⟩ := List.mem_filterMap.1 hz
        rw [(oldC_some hwz).1]
        exact hx.1 w hw
      have hk : keptL y.Path (b1 ++ (y :: t).filterMap (oldC a)) = b1 ++ t.filterMap (oldC a) := by
        have k1 : keptL y.Path b1 = b1 := List.filter_eq_self.2 fun z hz => by
          have := hpw.2.2 z hz y (List.mem_cons_self ..)
          simp [clashB, this.2, apart_back this]
        have k2 : keptL y.Path (t.filterMap (oldC a)) = t.filterMap (oldC a) := List.filter_eq_self.2 fun z hz => by
          have := hF z hz
          simp [clashB, this.2, apart_back this]
        unfold keptL at k1 k2 ⊢
        rw [List.filter_append, k1]
        congr 1
        cases g : oldC a y with
        | none => rw [List.filterMap_cons_none g, k2]
        | some x =>
          rw [List.filterMap_cons_some g, List.filter_cons_of_neg, k2]
          simp [clashB, (oldC_some g).1, beg_self]
      have hset : setC y.Path y.Value (b1 ++ (y :: t).filterMap (oldC a)) = (b1 ++ [y]) ++ t.filterMap (oldC a) := by
        unfold setC
        rw [hk, putL_mid (fun z hz => (hpw.2.2 z hz y (List.mem_cons_self ..)).1) (fun z hz => (hF z hz).1)]
      have hs : doStep (b1 ++ (y :: t).filterMap (oldC a)) (setCo y) = ((b1 ++ [y]) ++ t.filterMap (oldC a), true) := by
        unfold doStep
        rw [if_pos (show (setCo y).Set = true from rfl)]
        show rSetAt _ y.Path y.Value = _
        unfold rSetAt
        rw [hset, if_pos]
        simp only [mid_good ha h, mid_good ha h', hok.1, hok.2, Bool.and_self]
      rw [List.filter_cons_of_pos f, List.map_cons]
      unfold doR
      rw [hs, if_pos rfl, ih]
theorem sort_ext : ∀ l m : List GLeaf, l.Pairwise (fun x y => lessP x.Path y.Path = true) → m.Pairwise (fun x y => lessP x.Path y.Path = true) → (∀ x, x ∈ l ↔ x ∈ m) → l = m
  | [], m, _, _, h => by
    cases m with
    | nil => rfl
    | cons y m => have := (h y).2 (List.mem_cons_self ..); cases this
  | x :: l, [], _, _, h => by have := (h x).1 (List.mem_cons_self ..); cases this
  | x :: l, y :: m, hl, hm', h => by
    obtain ⟨l1, l2⟩ := List.pairwise_cons.1 hl
    obtain ⟨m1, m2⟩ := List.pairwise_cons.1 hm'
    have e : x = y := by
      rcases List.mem_cons.1 ((h x).1 (List.mem_cons_self ..)) with e | e
      · exact e
      · rcases List.mem_cons.1 ((h y).2 (List.mem_cons_self ..)) with e2 | e2
        · exact e2.symm
        · have := less_asym (l1 y e2)
          rw [m1 x e] at this
          cases this
    subst e
    rw [sort_ext l m l2 m2]
    intro z
    constructor
    · intro hz
      rcases List.mem_cons.1 ((h z).1 (List.mem_cons_of_mem _ hz)) with e | e
      · subst e
        have := l1 z hz
        rw [less_irr] at this
        cases this
      · exact e
    · intro hz
      rcases List.mem_cons.1 ((h z).2 (List.mem_cons_of_mem _ hz)) with e | e
      · subst e
        have := m1 z hz
        rw [less_irr] at this
        cases this
      · exact e
theorem path_inj {a : List GLeaf} (ha : goodC a = true) {x y : GLeaf} (hx : x ∈ a) (hy : y ∈ a) (h : x.Path = y.Path) : x = y := by
  have hp := goodC_pw ha
  clear ha
  induction a with
  | nil => cases hx
  | cons z a ih =>
    obtain ⟨h1, h2⟩ := List.pairwise_cons.1 hp
    rcases List.mem_cons.1 hx with hx | hx
    · rcases List.mem_cons.1 hy with hy | hy
      · rw [hx, hy]
      · have := (h1 y hy).1
        rw [← hx, h, less_irr] at this
        cases this
    · rcases List.mem_cons.1 hy with hy | hy
      · have := (h1 x hx).1
        rw [h, hy, less_irr] at this
        cases this
      · exact ih hx hy h2
theorem stay_old {a b : List GLeaf} (ha : goodC a = true) (hb : goodC b = true) : a.filter (stayC b) = b.filterMap (oldC a) := by
  have h1 := goodC_pw (mid_good (b1 := []) ha (by simpa using hb))
  simp only [List.nil_append] at h1
  refine sort_ext _ _ (((goodC_pw ha).filter _).imp fun h => h.1) (h1.imp fun h => h.1) ?_
  intro x
  rw [List.mem_filter, List.mem_filterMap]
  constructor
  · rintro ⟨hx, hs⟩
    unfold stayC goneC at hs
    cases hf : b.find? (atP x.Path) with
    | none => rw [hf] at hs; simp at hs
    | some y =>
      have hy := oldC_some (a := b) (y := x) hf
      refine ⟨y, hy.2, ?_⟩
      unfold oldC
      cases hg : a.find? (atP y.Path) with
      | none =>
        have := List.find?_eq_none.1 hg x hx
        simp [atP, hy.1] at this
      | some z =>
        have hz := oldC_some (a := a) (y := y) hg
        rw [path_inj ha hz.2 hx (by rw [hz.1, hy.1])]
  · rintro ⟨y, hy, hyx⟩
    obtain ⟨h1, h2⟩ := oldC_some hyx
    refine ⟨h2, ?_⟩
    unfold stayC goneC
    cases hg : b.find? (atP x.Path) with
    | none =>
      have := List.find?_eq_none.1 hg y hy
      simp [atP, h1] at this
    | some z => rfl
theorem do_diff {a b : List GLeaf} (ha : goodC a = true) (hb : goodC b = true) : rDoCommands a (diffL a b) = (b, true) := by
  have h1 := del_phase b a [] (by simpa using ha)
  have h2 := set_phase ha b [] (by simpa using hb)
  simp only [List.nil_append, List.filter_nil] at h1 h2
  have h3 : doR a (diffL a b) = some b := by
    unfold diffL
    rw [doR_app, h1, stay_old ha hb]
    exact h2
  have hlen : (diffL a b).length ≤ 80 := by
    have e1 := goodC_len ha
    have e2 := goodC_len hb
    have e3 := fmap_len (goneC b) delCo a
    have e4 := fmap_len (freshC a) setCo b
    unfold diffL
    rw [List.length_append]
    omega
  unfold rDoCommands
  rw [if_pos ⟨ha, hlen⟩, doI_doR _ _ _ (Nat.le_refl _), List.take_length, h3]
theorem diff_nil {a b : List GLeaf} (ha : goodC a = true) (hb : goodC b = true) : diffL a b = [] ↔ a = b := by
  constructor
  · intro h
    have h1 := do_diff ha hb
    rw [h] at h1
    unfold rDoCommands at h1
    rw [if_pos ⟨ha, by simp⟩] at h1
    simpa [doI] using h1
  · rintro rfl
    unfold diffL
    rw [List.append_eq_nil_iff, List.map_eq_nil_iff, List.map_eq_nil_iff, List.filter_eq_nil_iff, List.filter_eq_nil_iff]
    have key : ∀ x ∈ a, a.find? (atP x.Path) = some x := by
      intro x hx
      cases hg : a.find? (atP x.Path) with
      | none =>
        have := List.find?_eq_none.1 hg x hx
        simp [atP] at this
      | some z =>
        have hz := oldC_some (a := a) (y := x) hg
        rw [path_inj ha hz.2 hx hz.1]
    refine ⟨fun x hx => ?_, fun x hx => ?_⟩
    · simp [goneC, key x hx]
    · simp [freshC, key x hx]
theorem step_good2 {o : List GLeaf} {c : GCommand} (h : (doStep o c).2 = true) : goodC (doStep o c).1 = true := by
  unfold doStep at h ⊢
  split at h
  · rename_i hs
    rw [if_pos hs]
    unfold rSetAt at h ⊢
    split at h
    · rename_i hg
      rw [if_pos hg]
      simp only [Bool.and_eq_true] at hg
      exact hg.2
    · cases h
  · rename_i hs
    rw [if_neg hs]
    split at h
    · rename_i hv
      rw [if_pos hv]
      unfold rDeleteAt at h ⊢
      split at h
      · rename_i hg
        rw [if_pos hg]
        simp only [Bool.and_eq_true] at hg
        exact goodC_sub hg.1.1 List.filter_sublist
      · cases h
    · cases h
theorem doI_good {l : List GLeaf} {cs : List GCommand} (hl : goodC l = true) : ∀ (i : Nat) (o : List GLeaf), doI l cs i = some o → goodC o = true
  | 0, o, h => by cases h; exact hl
  | i + 1, o, h => by
    unfold doI at h
    split at h
    · cases h
    · split at h
      · cases h
      · split at h
        · rename_i hs
          cases h
          exact step_good2 hs
        · cases h
theorem do_good {l : List GLeaf} {cs : List GCommand} (h : (rDoCommands l cs).2 = true) : goodC (rDoCommands l cs).1 = true := by
  unfold rDoCommands at h ⊢
  split at h
  · rename_i hc
    rw [if_pos hc]
    split at h
    · rename_i o ho
      exact doI_good hc.1 _ o ho
    · cases h
  · cases h
theorem do_conf {l : List GLeaf} {cs : List GCommand} (h0 : wt_LeafS l ≤ 1048576) (h1 : wt_CommandS cs ≤ 1048576) : confOK (rDoCommands l cs).1 := by
  obtain ⟨b1, b2, b3⟩ := do_bound h0 h1
  unfold rDoCommands
  split
  · split
    · rename_i o ho
      exact boundC_conf (doI_bound b1 b2 _ o ho)
    · exact ⟨Nat.zero_le _, fun x hx => absurd hx (by simp)⟩
  · exact ⟨Nat.zero_le _, fun x hx => absurd hx (by simp)⟩
theorem ok_sameTexts (k k' : Nat) (p : List ByteArray) (hp : p.length ≤ 140737488351232) : CallOK Try.prog 25 [.c (rd k p.length (p.map ps)), .c (rd k' p.length (p.map ps))] (.c (pb true)) [.c (rd k p.length (p.map ps)), .c (rd k' p.length (p.map ps))] := by
  refine okS (fn := Try.f25) [] h0 Try.func25 (by kernel_rfl) rfl Try.ntmps25 Try.results25 (by simp) ?_
  simp
  refine loopS [0, 1, 11, 12, 13] [] (fun m st => ∃ (i : Nat), i + m = p.length ∧ st = ⟨slOf 26 [(0, .t (rd k p.length (p.map ps))), (1, .t (rd k' p.length (p.map ps))), (11, .t (rd k p.length (p.map ps))), (12, .t (pi p.length)), (13, .t (pi i))], ofL []⟩) p.length ?_ ?_
  · rintro Inv hI
    simp
    subst hI
    exact ⟨0, by omega, rfl⟩
  · rintro Inv hI m st ⟨i, hi, rfl⟩
    refine ewr_sound (M := []) h0 ?_
    simp
    refine brn_app (fun a => ?_) (fun a => ?_)
    · simp at a
      simp
      refine drawP (tabEnv [] []) [⟨[], allD 26, true⟩, ⟨[], allD 26, true⟩, ⟨[], allD 26, true⟩, ⟨[], allD 26, true⟩, ⟨[], allD 26, true⟩, ⟨[], allD 26, true⟩, ⟨[], allD 26, true⟩, ⟨[], allD 26, true⟩, ⟨[], allD 26, true⟩] h0 hm (tabEnv_ok tab_nil) (by kernel_rfl) (by kernel_rfl) ?_
      simp [a]
      subst hI
      exact Less_mk (m - 1) (by omega) ⟨i + 1, by omega, by rw [wrNext i (by omega)]⟩
    · simp
theorem ok_sameLeaves (k k' : Nat) (l : List GLeaf) (hl : confOK l) : CallOK Try.prog 38 [.c (rd k l.length (l.flatMap (GLeaf.ci k))), .c (rd k' l.length (l.flatMap (GLeaf.ci k')))] (.c (pb true)) [.c (rd k l.length (l.flatMap (GLeaf.ci k))), .c (rd k' l.length (l.flatMap (GLeaf.ci k')))] := by
  obtain ⟨hl1, hl2⟩ := hl
  refine okS (fn := Try.f38) [] h0 Try.func38 (by kernel_rfl) rfl Try.ntmps38 Try.results38 (by simp) ?_
  simp
  refine loopS [0, 1, 11, 12, 13] [] (fun m st => ∃ (i : Nat), i + m = l.length ∧ st = ⟨slOf 42 [(0, .t (rd k l.length (l.flatMap (GLeaf.ci k)))), (1, .t (rd k' l.length (l.flatMap (GLeaf.ci k')))), (11, .t (rd k l.length (l.flatMap (GLeaf.ci k)))), (12, .t (pi l.length)), (13, .t (pi i))], ofL []⟩) l.length ?_ ?_
  · rintro Inv hI
    simp
    subst hI
    exact ⟨0, by omega, rfl⟩
  · rintro Inv hI m st ⟨i, hi, rfl⟩
    refine ewr_sound (M := []) h0 ?_
    simp
    refine brn_app (fun a => ?_) (fun a => ?_)
    · simp at a
      have hd := fm_drop (GLeaf.ci k) 2 (fun _ => rfl) l i a
      have hlen := fm_len (GLeaf.ci k) 2 (fun _ => rfl) l
      have hd' := fm_drop (GLeaf.ci k') 2 (fun _ => rfl) l i a
      have hlen' := fm_len (GLeaf.ci k') 2 (fun _ => rfl) l
      have hlt : i * 2 < l.length * 2 := by omega
      have hx := (hl2 _ (List.getElem_mem a)).1.1
      simp
      refine drawP (tabEnv [] _) [⟨[], allD 42, true⟩, ⟨[], allD 42, true⟩, ⟨[], allD 42, true⟩, ⟨[], allD 42, true⟩, ⟨[], allD 42, true⟩, ⟨[], allD 42, true⟩, ⟨[], allD 42, true⟩, ⟨[], allD 42, true⟩, ⟨[], allD 42, true⟩, ⟨[], allD 42, true⟩, ⟨[], allD 42, true⟩, ⟨[], allD 42, true⟩, ⟨[], allD 42, true⟩, ⟨[], allD 42, true⟩, ⟨[], allD 42, true⟩, ⟨[], allD 42, true⟩, ⟨[], allD 42, true⟩, ⟨[], allD 42, true⟩, ⟨[], allD 42, true⟩, ⟨[], allD 42, true⟩, ⟨[], allD 42, true⟩, ⟨[], allD 42, true⟩, ⟨[], allD 42, false⟩, ⟨[], allD 42, true⟩, ⟨[], allD 42, true⟩] h0 hm (tabEnv_ok (tab_cons (ok_sameTexts k k' l[i].Path hx) tab_nil)) (by kernel_rfl) (by kernel_rfl) ?_
      simp [a, hd, hlen, hd', hlen', hlt]
      subst hI
      exact Less_mk (m - 1) (by omega) ⟨i + 1, by omega, by rw [wrNext i (by omega)]⟩
    · simp
theorem ok_sameTextsG (k k' : Nat) (xs ys : List ByteArray) (ha : xs.length ≤ 140737488351232) (hb : ys.length ≤ 140737488351232) : CallOK Try.prog 25 [.c (rd k xs.length (xs.map ps)), .c (rd k' ys.length (ys.map ps))] (.c (pb (decide (xs = ys)))) [.c (rd k xs.length (xs.map ps)), .c (rd k' ys.length (ys.map ps))] := by
  refine okS (fn := Try.f25) [] h0 Try.func25 (by kernel_rfl) rfl Try.ntmps25 Try.results25 (by simp) ?_
  simp
  refine brn_app (fun h => ?_) (fun h => ?_)
  · simp at h
    simp
    rintro rfl
    exact h rfl
  · simp at h
    have hl : ys.length = xs.length := by omega
    simp
    refine loopS [0, 1, 11, 12, 13] [] (fun n st => ∃ (i : Nat), i + n = xs.length ∧ (xs.drop i = ys.drop i ↔ xs = ys) ∧ st = ⟨slOf 26 [(0, .t (rd k xs.length (xs.map ps))), (1, .t (rd k' ys.length (ys.map ps))), (11, .t (rd k xs.length (xs.map ps))), (12, .t (pi xs.length)), (13, .t (pi i))], ofL []⟩) xs.length ?_ ?_
    · rintro Inv hI
      simp
      subst hI
      exact ⟨0, by omega, by simp, rfl⟩
    · rintro Inv hI n st ⟨i, hi, htk, rfl⟩
      refine ewr_sound (M := []) h0 ?_
      simp
      refine brn_app (fun h => ?_) (fun h => ?_)
      · simp at h
        have hib : i < ys.length := by omega
        rw [drop_step xs i h, drop_step ys i hib, List.cons.injEq] at htk
        simp
        refine drawP (tabEnv [] []) [⟨[], allD 26, true⟩, ⟨[], allD 26, true⟩, ⟨[], allD 26, true⟩, ⟨[], allD 26, true⟩, ⟨[], allD 26, true⟩, ⟨[], allD 26, true⟩, ⟨[], allD 26, true⟩, ⟨[], allD 26, true⟩, ⟨[], allD 26, true⟩] h0 hm (tabEnv_ok tab_nil) (by kernel_rfl) (by kernel_rfl) ?_
        simp [h, hib]
        refine brn_app (fun h2 => ?_) (fun h2 => ?_)
        · simp at h2
          simp
          intro he
          exact h2 (htk.2 he).1
        · simp at h2
          simp
          subst hI
          exact Less_mk (n - 1) (by omega) ⟨i + 1, by omega, ⟨fun h4 => htk.1 ⟨h2, h4⟩, fun h4 => (htk.2 h4).2⟩, by rw [wrNext i (by omega)]⟩
      · simp at h
        rw [List.drop_of_length_le (by omega), List.drop_of_length_le (by omega)] at htk
        simp
        exact htk.1 rfl
theorem leaf_eq {x y : GLeaf} : x = y ↔ x.Value = y.Value ∧ x.Path = y.Path := by
  cases x
  cases y
  simp only [GLeaf.mk.injEq]
  exact And.comm
theorem ok_sameLeavesG (k k' : Nat) (xs ys : List GLeaf) (ha : confOK xs) (hb : confOK ys) : CallOK Try.prog 38 [.c (rd k xs.length (xs.flatMap (GLeaf.ci k))), .c (rd k' ys.length (ys.flatMap (GLeaf.ci k')))] (.c (pb (decide (xs = ys)))) [.c (rd k xs.length (xs.flatMap (GLeaf.ci k))), .c (rd k' ys.length (ys.flatMap (GLeaf.ci k')))] := by
  obtain ⟨ha, hax⟩ := ha
  obtain ⟨hb, hbx⟩ := hb
  refine okS (fn := Try.f38) [] h0 Try.func38 (by kernel_rfl) rfl Try.ntmps38 Try.results38 (by simp) ?_
  simp
  refine brn_app (fun h => ?_) (fun h => ?_)
  · simp at h
    simp
    rintro rfl
    exact h rfl
  · simp at h
    have hl : ys.length = xs.length := by omega
    simp
    refine loopS [0, 1, 11, 12, 13] [] (fun n st => ∃ (i : Nat), i + n = xs.length ∧ (xs.drop i = ys.drop i ↔ xs = ys) ∧ st = ⟨slOf 42 [(0, .t (rd k xs.length (xs.flatMap (GLeaf.ci k)))), (1, .t (rd k' ys.length (ys.flatMap (GLeaf.ci k')))), (11, .t (rd k xs.length (xs.flatMap (GLeaf.ci k)))), (12, .t (pi xs.length)), (13, .t (pi i))], ofL []⟩) xs.length ?_ ?_
    · rintro Inv hI
      simp
      subst hI
      exact ⟨0, by omega, by simp, rfl⟩
    · rintro Inv hI n st ⟨i, hi, htk, rfl⟩
      refine ewr_sound (M := []) h0 ?_
      simp
      refine brn_app (fun h => ?_) (fun h => ?_)
      · simp at h
        have hib : i < ys.length := by omega
        rw [drop_step xs i h, drop_step ys i hib, List.cons.injEq] at htk
        have hd := fm_drop (GLeaf.ci k) 2 (fun _ => rfl) xs i h
        have hd' := fm_drop (GLeaf.ci k') 2 (fun _ => rfl) ys i hib
        have hlen := fm_len (GLeaf.ci k) 2 (fun _ => rfl) xs
        have hlen' := fm_len (GLeaf.ci k') 2 (fun _ => rfl) ys
        have hlt : i * 2 < xs.length * 2 := by omega
        have hlt' : i * 2 < ys.length * 2 := by omega
        have hE := ok_sameTextsG k k' xs[i].Path ys[i].Path (hax _ (List.getElem_mem h)).1.1 (hbx _ (List.getElem_mem hib)).1.1
        rw [leaf_eq] at htk
        generalize xs[i] = x at *
        generalize ys[i] = y at *
        simp
        by_cases hv : x.Value = y.Value
        · refine drawP (tabEnv [] _) [⟨[], allD 42, true⟩, ⟨[], allD 42, true⟩, ⟨[], allD 42, true⟩, ⟨[], allD 42, true⟩, ⟨[], allD 42, true⟩, ⟨[], allD 42, true⟩, ⟨[], allD 42, true⟩, ⟨[], allD 42, true⟩, ⟨[], allD 42, true⟩, ⟨[], allD 42, true⟩, ⟨[], allD 42, true⟩, ⟨[], allD 42, true⟩, ⟨[], allD 42, true⟩, ⟨[], allD 42, true⟩, ⟨[], allD 42, true⟩, ⟨[], allD 42, true⟩, ⟨[], allD 42, true⟩, ⟨[], allD 42, true⟩, ⟨[], allD 42, true⟩, ⟨[], allD 42, true⟩, ⟨[], allD 42, true⟩, ⟨[], allD 42, true⟩, ⟨[], allD 42, false⟩, ⟨[], allD 42, true⟩, ⟨[], allD 42, true⟩] h0 hm (tabEnv_ok (tab_cons hE tab_nil)) (by kernel_rfl) (by kernel_rfl) ?_
          simp [h, hib, hd, hd', hlen, hlen', hlt, hlt', hv]
          refine brn_app (fun h2 => ?_) (fun h2 => ?_)
          · simp at h2
            simp
            intro he
            exact h2 (htk.2 he).1.2
          · simp at h2
            simp
            subst hI
            exact Less_mk (n - 1) (by omega) ⟨i + 1, by omega, ⟨fun h4 => htk.1 ⟨⟨hv, h2⟩, h4⟩, fun h4 => (htk.2 h4).2⟩, by rw [wrNext i (by omega)]⟩
        · refine drawP (tabEnv [] _) [⟨[], allD 42, true⟩, ⟨[], allD 42, true⟩, ⟨[], allD 42, true⟩, ⟨[], allD 42, true⟩, ⟨[], allD 42, true⟩, ⟨[], allD 42, true⟩, ⟨[], allD 42, true⟩, ⟨[], allD 42, true⟩, ⟨[], allD 42, true⟩, ⟨[], allD 42, true⟩, ⟨[], allD 42, true⟩, ⟨[], allD 42, true⟩, ⟨[], allD 42, true⟩, ⟨[], allD 42, true⟩, ⟨[], allD 42, true⟩, ⟨[], allD 42, true⟩, ⟨[], allD 42, true⟩, ⟨[], allD 42, true⟩, ⟨[], allD 42, true⟩, ⟨[], allD 42, true⟩, ⟨[], allD 42, true⟩, ⟨[], allD 42, true⟩, ⟨[], allD 42, false⟩, ⟨[], allD 42, true⟩, ⟨[], allD 42, true⟩] h0 hm (tabEnv_ok (tab_cons hE tab_nil)) (by kernel_rfl) (by kernel_rfl) ?_
          simp [h, hib, hd, hd', hlen, hlen', hlt, hlt', hv]
          intro he
          exact hv (htk.2 he).1.1
      · simp at h
        rw [List.drop_of_length_le (by omega), List.drop_of_length_le (by omega)] at htk
        simp
        exact htk.1 rfl
theorem ok_FnDiff (code more : List Int) (hc : codeOK code) (hc2 : codeOK more) : CallOK Try.prog 5 [.c (rd 1 code.length (code.map pu)), .c (rd 1 more.length (more.map pu))] (.c (pb true)) [.c (rd 1 code.length (code.map pu)), .c (rd 1 more.length (more.map pu))] := by
  obtain ⟨l, m, res, ⟨hl, hm'⟩, hres, hdraw⟩ := ok_DrawDiffOf code hc
  obtain ⟨x, cs, ⟨hx, hcs⟩, hdraw2⟩ := ok_DrawDoCommands more hc2
  obtain ⟨cm, hcm, hdraw3⟩ := ok_DrawCommandText more hc2
  have hlw := confD_wt hl
  have hmw := confD_wt hm'
  have hxw := confD_wt hx
  have hcw : wt_CommandS cs ≤ 1048576 := Nat.le_trans hcs (by decide)
  have hcmw : GCommand.wt cm ≤ 1048576 := by
    obtain ⟨⟨q1, q2⟩, q3⟩ := hcm
    have q4 : wtR ByteArray.size cm.Path ≤ cm.Path.length * (9 + 1) := wtR_leC ByteArray.size 9 cm.Path q2
    unfold GCommand.wt
    show wtR ByteArray.size cm.Path + cm.Value.size ≤ 1048576
    omega
  have i1 := law_iDiffOf l m (by omega) (by omega)
  have i2 := law_sDiffOf l m (by omega) (by omega)
  have hDl := (rDiffOf_ok l m (by omega) (by omega)).1
  refine okE (fn := Try.f5) h0 Try.func5 (by kernel_rfl) rfl Try.ntmps5 Try.results5 (by simp) ?_
  by_cases hbig : (code.length : Int) + more.length ≤ 1048576
  · have hcl := hc.1
    have hml := hc2.1
    have w1 : IntKind.i64.wrap ((code.length : Int) + more.length) = (code.length : Int) + more.length := wrap64 (by omega) (by omega)
    have d1 : ¬ (1048576 : Int) < (code.length : Int) + more.length := by omega
    refine ewrN_cut (M := []) h0 8 [1] [] ⟨slOf 181 [(1, .t (rd 1 more.length (more.map pu)))], ofL []⟩ ?_ ?_
    · have j1 := law_iDoCommands x cs (by omega) hcw
      have j2 := law_sDoCommands x cs (by omega) hcw
      have j3 := law_iCommandText cm hcmw
      have j4 := law_sCommandText cm hcmw
      have hX := do_conf (l := x) (cs := cs) (by omega) hcw
      have j5 := ok_sameLeaves 0 0 (rDoCommands x cs).1 hX
      have j6 := ok_iGoodConfig 0 (rDoCommands x cs).1 hX
      have hXg := do_good (l := x) (cs := cs)
      refine ewr_sound (M := []) h0 ?_
      simp [Code.rest]
      refine Inv_intro hdraw2 ?_
      simp
      refine Inv_intro j1 ?_
      simp
      refine Inv_intro j2 ?_
      simp
      refine Inv_intro hdraw3 ?_
      simp
      refine Inv_intro j3 ?_
      simp
      refine Inv_intro j4 ?_
      simp
      refine Inv_intro j5 ?_
      generalize rDoCommands x cs = X at *
      obtain ⟨X1, X2⟩ := X
      cases X2 with
      | true =>
        have hg := hXg rfl
        simp only at hg j6
        rw [hg] at j6
        simp
        refine Inv_intro j6 ?_
        simp
      | false =>
        simp
    · intro K hK
      rcases hres with rfl | ⟨rfl, rfl⟩
      · have hdg : (rDiffOf l m).2 = true → goodC l = true ∧ goodC m = true ∧ (rDiffOf l m).1 = diffL l m := by
          intro h
          unfold rDiffOf at h ⊢
          split at h
          · rename_i hg
            rw [if_pos hg]
            simp only [Bool.and_eq_true] at hg
            exact ⟨hg.1, hg.2, rfl⟩
          · cases h
        have hDw : wt_CommandS (rDiffOf l m).1 ≤ 1048576 := by
          unfold rDiffOf
          split
          · exact Nat.le_trans (diffL_wt l m) (by omega)
          · exact Nat.zero_le _
        generalize rDiffOf l m = R at *
        obtain ⟨D, ok⟩ := R
        simp only at hdg hDl hDw
        simp [w1, d1]
        refine Inv_intro hdraw ?_
        simp
        refine Inv_intro i1 ?_
        simp
        refine Inv_intro i2 ?_
        simp
        refine loopS [1, 5, 6, 7, 8, 9, 59, 60] [.op 3 1 0, .op 3 1 1, .op 4 2 0, .op 5 2 0] (fun q st => ∃ (i : Nat), i + q = D.length ∧ st = ⟨slOf 181 [(1, .t (rd 1 more.length (more.map pu))), (5, .ref ⟨.op 3 1 0, []⟩ 0 l.length), (6, .ref ⟨.op 3 1 1, []⟩ 0 m.length), (7, .ref ⟨.op 4 2 0, []⟩ 0 D.length), (8, .t (pb ok)), (9, .ref ⟨.op 5 2 0, []⟩ 0 D.length), (59, .t (pi D.length)), (60, .t (pi i))], ofL [(.op 3 1 0, .sl 0 103 l.length (l.flatMap GLeaf.co)), (.op 3 1 1, .sl 0 103 m.length (m.flatMap GLeaf.co)), (.op 4 2 0, .sl 0 65 D.length (D.flatMap GCommand.co)), (.op 5 2 0, .sl 0 65 D.length (D.flatMap GCommand.co))]⟩) D.length ?_ ?_
        · rintro Inv hI
          simp
          subst hI
          exact ⟨0, by omega, rfl⟩
        · rintro Inv hI q st ⟨i, hi, rfl⟩
          refine ewr_sound (M := []) h0 ?_
          simp
          refine brn_app (fun a => ?_) (fun a => ?_)
          · simp at a
            have hDn : D.length ≤ 140737488351232 := hDl.1
            have hd := fm_drop GCommand.co 3 (fun _ => rfl) D i a
            have hlen := fm_len GCommand.co 3 (fun _ => rfl) D
            have hlt : i * 3 < D.length * 3 := by omega
            have hle : i * 3 + 3 ≤ D.length * 3 := by omega
            have hp := ok_sameTexts 0 0 D[i].Path (hDl.2 _ (List.getElem_mem a)).1
            generalize D[i] = z at *
            have e0 : (D.flatMap GCommand.co)[i * 3]'(by omega) = pb z.Set := by
              refine (List.getElem?_eq_some_iff.1 (?_ : (D.flatMap GCommand.co)[i * 3]? = _)).2
              rw [← Nat.add_zero (i * 3), ← List.getElem?_drop, hd]
              rfl
            have e1 : (D.flatMap GCommand.co)[i * 3 + 1]'(by omega) = .sl 0 9 z.Path.length (z.Path.map ps) := by
              refine (List.getElem?_eq_some_iff.1 (?_ : (D.flatMap GCommand.co)[i * 3 + 1]? = _)).2
              rw [← List.getElem?_drop, hd]
              rfl
            have e2 : (D.flatMap GCommand.co)[i * 3 + 2]'(by omega) = ps z.Value := by
              refine (List.getElem?_eq_some_iff.1 (?_ : (D.flatMap GCommand.co)[i * 3 + 2]? = _)).2
              rw [← List.getElem?_drop, hd]
              rfl
            have hlt1 : i * 3 + 1 < D.length * 3 := by omega
            have hlt2 : i * 3 + 2 < D.length * 3 := by omega
            simp
            refine drawP (tabEnv [] _) [⟨[.op 4 2 0], allD 181, true⟩, ⟨[], allD 181, true⟩, ⟨[.op 4 2 0], allD 181, true⟩, ⟨[.op 4 2 0], allD 181, true⟩, ⟨[.op 4 2 0], allD 181, true⟩, ⟨[.op 5 2 0], allD 181, true⟩, ⟨[], allD 181, true⟩, ⟨[.op 5 2 0], allD 181, true⟩, ⟨[.op 5 2 0], allD 181, true⟩, ⟨[.op 5 2 0], allD 181, true⟩, ⟨[], allD 181, true⟩, ⟨[], allD 181, true⟩, ⟨[.op 4 2 0], allD 181, true⟩, ⟨[], allD 181, true⟩, ⟨[.op 4 2 0], allD 181, true⟩, ⟨[.op 4 2 0], allD 181, true⟩, ⟨[.op 4 2 0], allD 181, true⟩, ⟨[.op 5 2 0], allD 181, true⟩, ⟨[], allD 181, true⟩, ⟨[.op 5 2 0], allD 181, true⟩, ⟨[.op 5 2 0], allD 181, true⟩, ⟨[.op 5 2 0], allD 181, true⟩, ⟨[], allD 181, true⟩, ⟨[], allD 181, true⟩, ⟨[], allD 181, true⟩, ⟨[.op 4 2 0], allD 181, true⟩, ⟨[], allD 181, true⟩, ⟨[.op 4 2 0], allD 181, true⟩, ⟨[.op 4 2 0], allD 181, true⟩, ⟨[.op 4 2 0], allD 181, true⟩, ⟨[.op 5 2 0], allD 181, true⟩, ⟨[], allD 181, true⟩, ⟨[.op 5 2 0], allD 181, true⟩, ⟨[.op 5 2 0], allD 181, true⟩, ⟨[.op 5 2 0], allD 181, true⟩, ⟨[.op 4 2 0, .op 5 2 0], allD 181, true⟩, ⟨[], allD 181, true⟩, ⟨[], allD 181, true⟩] h0 hm (tabEnv_ok (tab_cons hp tab_nil)) (by kernel_rfl) (by kernel_rfl) ?_
            simp [a, hlen, hlt, hlt1, hlt2, e0, e1, e2]
            subst hI
            exact Less_mk (q - 1) (by omega) ⟨i + 1, by omega, by rw [wrNext i (by omega)]⟩
          · simp at a
            cases ok with
            | false =>
              simp
              refine hK _ ?_
              simp
            | true =>
              obtain ⟨gl, gm, rfl⟩ := hdg rfl
              have j1 := law_iDoCommands l (diffL l m) (by omega) hDw
              rw [do_diff gl gm] at j1
              have j2 := ok_sameLeaves 0 0 m (conf_ok (by omega))
              have j3 := ok_sameLeavesG 0 0 l m (conf_ok (by omega)) (conf_ok (by omega))
              have hnil := diff_nil gl gm
              generalize diffL l m = D at *
              simp
              refine Inv_intro j1 ?_
              simp
              refine Inv_intro j2 ?_
              simp
              refine Inv_intro j3 ?_
              by_cases e : l = m
              · have hD : D = [] := hnil.2 e
                simp [hD, e]
                refine hK _ ?_
                simp
              · have hD : ¬ D = [] := fun h => e (hnil.1 h)
                simp [hD, e]
                refine hK _ ?_
                simp
      · have hdg : (rDiffOf m m).2 = true → goodC m = true ∧ goodC m = true ∧ (rDiffOf m m).1 = diffL m m := by
          intro h
          unfold rDiffOf at h ⊢
          split at h
          · rename_i hg
            rw [if_pos hg]
            simp only [Bool.and_eq_true] at hg
            exact ⟨hg.1, hg.2, rfl⟩
          · cases h
        have hDw : wt_CommandS (rDiffOf m m).1 ≤ 1048576 := by
          unfold rDiffOf
          split
          · exact Nat.le_trans (diffL_wt m m) (by omega)
          · exact Nat.zero_le _
        generalize rDiffOf m m = R at *
        obtain ⟨D, ok⟩ := R
        simp only at hdg hDl hDw
        simp [w1, d1]
        refine Inv_intro hdraw ?_
        simp
        refine Inv_intro i1 ?_
        simp
        refine Inv_intro i2 ?_
        simp
        refine loopS [1, 5, 6, 7, 8, 9, 59, 60] [.op 3 1 0, .op 4 2 0, .op 5 2 0] (fun q st => ∃ (i : Nat), i + q = D.length ∧ st = ⟨slOf 181 [(1, .t (rd 1 more.length (more.map pu))), (5, .ref ⟨.op 3 1 0, []⟩ 0 m.length), (6, .ref ⟨.op 3 1 0, []⟩ 0 m.length), (7, .ref ⟨.op 4 2 0, []⟩ 0 D.length), (8, .t (pb ok)), (9, .ref ⟨.op 5 2 0, []⟩ 0 D.length), (59, .t (pi D.length)), (60, .t (pi i))], ofL [(.op 3 1 0, .sl 0 103 m.length (m.flatMap GLeaf.co)), (.op 4 2 0, .sl 0 65 D.length (D.flatMap GCommand.co)), (.op 5 2 0, .sl 0 65 D.length (D.flatMap GCommand.co))]⟩) D.length ?_ ?_
        · rintro Inv hI
          simp
          subst hI
          exact ⟨0, by omega, rfl⟩
        · rintro Inv hI q st ⟨i, hi, rfl⟩
          refine ewr_sound (M := []) h0 ?_
          simp
          refine brn_app (fun a => ?_) (fun a => ?_)
          · simp at a
            have hDn : D.length ≤ 140737488351232 := hDl.1
            have hd := fm_drop GCommand.co 3 (fun _ => rfl) D i a
            have hlen := fm_len GCommand.co 3 (fun _ => rfl) D
            have hlt : i * 3 < D.length * 3 := by omega
            have hle : i * 3 + 3 ≤ D.length * 3 := by omega
            have hp := ok_sameTexts 0 0 D[i].Path (hDl.2 _ (List.getElem_mem a)).1
            generalize D[i] = z at *
            have e0 : (D.flatMap GCommand.co)[i * 3]'(by omega) = pb z.Set := by
              refine (List.getElem?_eq_some_iff.1 (?_ : (D.flatMap GCommand.co)[i * 3]? = _)).2
              rw [← Nat.add_zero (i * 3), ← List.getElem?_drop, hd]
              rfl
            have e1 : (D.flatMap GCommand.co)[i * 3 + 1]'(by omega) = .sl 0 9 z.Path.length (z.Path.map ps) := by
              refine (List.getElem?_eq_some_iff.1 (?_ : (D.flatMap GCommand.co)[i * 3 + 1]? = _)).2
              rw [← List.getElem?_drop, hd]
              rfl
            have e2 : (D.flatMap GCommand.co)[i * 3 + 2]'(by omega) = ps z.Value := by
              refine (List.getElem?_eq_some_iff.1 (?_ : (D.flatMap GCommand.co)[i * 3 + 2]? = _)).2
              rw [← List.getElem?_drop, hd]
              rfl
            have hlt1 : i * 3 + 1 < D.length * 3 := by omega
            have hlt2 : i * 3 + 2 < D.length * 3 := by omega
            simp
            refine drawP (tabEnv [] _) [⟨[.op 4 2 0], allD 181, true⟩, ⟨[], allD 181, true⟩, ⟨[.op 4 2 0], allD 181, true⟩, ⟨[.op 4 2 0], allD 181, true⟩, ⟨[.op 4 2 0], allD 181, true⟩, ⟨[.op 5 2 0], allD 181, true⟩, ⟨[], allD 181, true⟩, ⟨[.op 5 2 0], allD 181, true⟩, ⟨[.op 5 2 0], allD 181, true⟩, ⟨[.op 5 2 0], allD 181, true⟩, ⟨[], allD 181, true⟩, ⟨[], allD 181, true⟩, ⟨[.op 4 2 0], allD 181, true⟩, ⟨[], allD 181, true⟩, ⟨[.op 4 2 0], allD 181, true⟩, ⟨[.op 4 2 0], allD 181, true⟩, ⟨[.op 4 2 0], allD 181, true⟩, ⟨[.op 5 2 0], allD 181, true⟩, ⟨[], allD 181, true⟩, ⟨[.op 5 2 0], allD 181, true⟩, ⟨[.op 5 2 0], allD 181, true⟩, ⟨[.op 5 2 0], allD 181, true⟩, ⟨[], allD 181, true⟩, ⟨[], allD 181, true⟩, ⟨[], allD 181, true⟩, ⟨[.op 4 2 0], allD 181, true⟩, ⟨[], allD 181, true⟩, ⟨[.op 4 2 0], allD 181, true⟩, ⟨[.op 4 2 0], allD 181, true⟩, ⟨[.op 4 2 0], allD 181, true⟩, ⟨[.op 5 2 0], allD 181, true⟩, ⟨[], allD 181, true⟩, ⟨[.op 5 2 0], allD 181, true⟩, ⟨[.op 5 2 0], allD 181, true⟩, ⟨[.op 5 2 0], allD 181, true⟩, ⟨[.op 4 2 0, .op 5 2 0], allD 181, true⟩, ⟨[], allD 181, true⟩, ⟨[], allD 181, true⟩] h0 hm (tabEnv_ok (tab_cons hp tab_nil)) (by kernel_rfl) (by kernel_rfl) ?_
            simp [a, hlen, hlt, hlt1, hlt2, e0, e1, e2]
            subst hI
            exact Less_mk (q - 1) (by omega) ⟨i + 1, by omega, by rw [wrNext i (by omega)]⟩
          · simp at a
            cases ok with
            | false =>
              simp
              refine hK _ ?_
              simp
            | true =>
              obtain ⟨gl, gm, rfl⟩ := hdg rfl
              have j1 := law_iDoCommands m (diffL m m) (by omega) hDw
              rw [do_diff gl gm] at j1
              have j2 := ok_sameLeaves 0 0 m (conf_ok (by omega))
              have j3 := ok_sameLeavesG 0 0 m m (conf_ok (by omega)) (conf_ok (by omega))
              have hnil := diff_nil gl gm
              generalize diffL m m = D at *
              simp
              refine Inv_intro j1 ?_
              simp
              refine Inv_intro j2 ?_
              simp
              refine Inv_intro j3 ?_
              have hD : D = [] := hnil.2 rfl
              simp [hD]
              refine hK _ ?_
              simp
  · have w1 : IntKind.i64.wrap ((code.length : Int) + more.length) = (code.length : Int) + more.length := by
      have := hc.1
      have := hc2.1
      exact wrap64 (by omega) (by omega)
    have d1 : (1048576 : Int) < (code.length : Int) + more.length := by omega
    refine ewr_sound (M := []) h0 ?_
    simp [w1, d1]
end Go.V
