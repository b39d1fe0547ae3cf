/- What functions of the seat's program do, each proved of its code, under the bounds that its theorem names. -/
import Derived.Test.YtdelgkhoahmnfaaGreatTad
set_option linter.all false
namespace Go.V
open Go.Proofs
set_option maxHeartbeats 1000000
set_option maxRecDepth 10000
set_option linter.unusedSimpArgs false
set_option linter.unusedVariables false
def srtW (l : List GRow) : Prop := l.Pairwise (fun a b => cmpPx a.Prefix b.Prefix < 0)
theorem rows_pw : ∀ (l : List GRow) (q : Option GRow), rowsG q l = true → (∀ z, q = some z → ∀ x ∈ l, cmpPx z.Prefix x.Prefix < 0) ∧ srtW l ∧ ∀ x ∈ l, goodRow x = true
  | [], q, _ => ⟨by simp, List.Pairwise.nil, by simp⟩
  | x :: l, q, h => by
    simp only [rowsG, Bool.and_eq_true] at h
    obtain ⟨⟨h1, h2⟩, h3⟩ := h
    obtain ⟨g1, g2, g3⟩ := rows_pw l (some x) h3
    refine ⟨?_, List.pairwise_cons.2 ⟨g1 x rfl, g2⟩, ?_⟩
    · rintro z rfl y hy
      simp only [adjW, decide_eq_true_eq] at h2
      rcases List.mem_cons.1 hy with rfl | hy
      · exact h2
      · exact ltP_trans h2 (g1 x rfl y hy)
    · intro y hy
      rcases List.mem_cons.1 hy with rfl | hy
      · exact h1
      · exact g3 y hy
theorem srtW_mono {l : List GRow} {p : GPrefix} (h : srtW l) : ∀ (i j : Nat) (hij : i < j) (hj : j < l.length), cmpPx l[j].Prefix p < 0 → cmpPx l[i].Prefix p < 0 :=
  fun i j hij hj hc => ltP_trans (List.pairwise_iff_getElem.1 h i j (by omega) hj hij) hc
theorem peer_mono {l : List GOffer} {n : Int} (h : l.Pairwise (fun a b => a.Peer < b.Peer)) : ∀ (i j : Nat) (hij : i < j) (hj : j < l.length), cmpI l[j].Peer n < 0 → cmpI l[i].Peer n < 0 := by
  intro i j hij hj hc
  have := List.pairwise_iff_getElem.1 h i j (by omega) hj hij
  unfold cmpI at hc ⊢
  split at hc
  · rw [if_pos (by omega)]; decide
  · split at hc <;> omega
/-- Where an offer stands is found by its peer. -/
theorem bsI_peer {l : List GOffer} (h : l.Pairwise (fun a b => a.Peer < b.Peer)) (j : Nat) (hj : j < l.length) : bsI (fun o : GOffer => cmpI o.Peer l[j].Peer) l = j := by
  refine bsI_eq _ l j (by omega) ?_ ?_
  · intro m hm hl
    have := List.pairwise_iff_getElem.1 h m j hl hj hm
    simp only [cmpI, if_pos this]
    decide
  · intro _
    simp [cmpI]
def rowAt (p : GPrefix) (l : List GRow) : Nat := bsI (fun x : GRow => cmpPx x.Prefix p) l
def rowIs (p : GPrefix) (l : List GRow) : Bool := bsF (fun x : GRow => cmpPx x.Prefix p) l
theorem rowIs_lt {p : GPrefix} {l : List GRow} (h : rowIs p l = true) : ∃ hl : rowAt p l < l.length, l[rowAt p l].Prefix = p := by
  unfold rowIs bsF at h
  have e : bsI (fun x : GRow => cmpPx x.Prefix p) l = rowAt p l := rfl
  rw [e] at h
  split at h
  · rename_i x hx
    obtain ⟨hl, he⟩ := List.getElem?_eq_some_iff.1 hx
    simp only [decide_eq_true_eq] at h
    exact ⟨hl, by rw [he]; exact (cmpPx_eq _ _).1 h⟩
  · cases h
/-- The best of a prefix's row. -/
def bestR (r : GRib) (p : GPrefix) : Option GOffer := if rowIs p r.Rows = true then (match r.Rows[rowAt p r.Rows]? with
  | some x => bstBy r.Own x.Offers
  | none => none) else none
def zeroO : GOffer := ⟨0, ⟨0, [], 0, 0, 0, []⟩⟩
def adjPx (q : Option GPrefix) (x : GPrefix) : Bool := match q with
  | none => true
  | some q => decide (cmpPx q x < 0)
def risG : Option GPrefix → List GPrefix → Bool
  | _, [] => true
  | q, x :: xs => goodPx x && adjPx q x && risG (some x) xs
def goodPs (l : List GPrefix) : Bool := risG none l && decide (l.length ≤ 10)
def prevPx (l : List GPrefix) (i : Nat) : Option GPrefix := if i = 0 then none else l[i - 1]?
theorem prevPx_next (l : List GPrefix) (i : Nat) (h : i < l.length) : prevPx l (i + 1) = some l[i] := by simp [prevPx, h]
def zeroA : GAttrs := ⟨0, [], 0, 0, 0, []⟩
def goodU (u : GUpdate) : Bool := goodPs u.Gone && goodPs u.Come && goodA u.Attrs && u.Come.all (fun p => !decide (p ∈ u.Gone)) && (decide (u.Come ≠ []) || decide (u.Attrs = zeroA))
theorem risG_all : ∀ (q : Option GPrefix) (l : List GPrefix), risG q l = true → ∀ x ∈ l, goodPx x = true
  | _, [], _, x, hx => by simp at hx
  | q, y :: l, h, x, hx => by
    simp only [risG, Bool.and_eq_true] at h
    rcases List.mem_cons.1 hx with rfl | hx
    · exact h.1.1
    · exact risG_all (some y) l h.2 x hx
theorem goodU_spec {u : GUpdate} (h : goodU u = true) : u.Gone.length ≤ 10 ∧ u.Come.length ≤ 10 ∧ goodA u.Attrs = true ∧ ∀ p ∈ u.Come, goodPx p = true := by
  simp only [goodU, goodPs, Bool.and_eq_true, decide_eq_true_eq] at h
  obtain ⟨⟨⟨⟨⟨_, h1⟩, h2, h3⟩, h4⟩, _⟩, _⟩ := h
  exact ⟨h1, h3, h4, risG_all none u.Come h2⟩
theorem cmpI_lt (a n : Int) : cmpI a n < 0 ↔ a < n := by
  unfold cmpI
  by_cases h : a < n
  · simp [h]
  · by_cases h2 : n < a <;> simp [h, h2]
theorem cmpI_eq (a n : Int) : cmpI a n = 0 ↔ a = n := by
  unfold cmpI
  by_cases h : a < n
  · simp [h]; omega
  · by_cases h2 : n < a
    · simp [h, h2]; omega
    · simp [h, h2]; omega
def putP (p : GPrefix) : List GPrefix → List GPrefix
  | [] => [p]
  | x :: l => if cmpPx x p < 0 then x :: putP p l else if x = p then x :: l else p :: x :: l
def putAll (l : List GPrefix) (xs : List GPrefix) : List GPrefix := xs.foldl (fun l p => putP p l) l
theorem putAll_snoc (l xs : List GPrefix) (p : GPrefix) : putAll l (xs ++ [p]) = putP p (putAll l xs) := by simp [putAll, List.foldl_append]
theorem cmpPx_ngt {p x : GPrefix} (h1 : ¬ cmpPx x p < 0) (h2 : x ≠ p) : cmpPx p x < 0 := by
  rw [cmpPx_lt] at h1 ⊢
  have h3 : ¬ (x.Addr = p.Addr ∧ x.Len = p.Len) := fun h => h2 ((px_ext x p).2 h)
  omega
theorem mem_putP {p x : GPrefix} : ∀ {l : List GPrefix}, x ∈ putP p l ↔ x = p ∨ x ∈ l
  | [] => by simp [putP]
  | y :: l => by
    unfold putP
    split
    · simp only [List.mem_cons, mem_putP (l := l)]
      constructor
      · rintro (h | h | h)
        · exact .inr (.inl h)
        · exact .inl h
        · exact .inr (.inr h)
      · rintro (h | h | h)
        · exact .inr (.inl h)
        · exact .inl h
        · exact .inr (.inr h)
    · split
      · rename_i h1 h2
        subst h2
        simp
      · simp
theorem srtP_putP {p : GPrefix} : ∀ {l : List GPrefix}, srtP l → srtP (putP p l)
  | [], _ => by simp [putP, srtP]
  | y :: l, h => by
    unfold srtP at h ⊢
    rw [List.pairwise_cons] at h
    unfold putP
    split
    · rename_i h1
      refine List.pairwise_cons.2 ⟨fun z hz => ?_, srtP_putP h.2⟩
      rcases mem_putP.1 hz with rfl | hz
      · exact h1
      · exact h.1 z hz
    · split
      · exact List.pairwise_cons.2 h
      · rename_i h1 h2
        have h3 := cmpPx_ngt h1 h2
        refine List.pairwise_cons.2 ⟨fun z hz => ?_, List.pairwise_cons.2 h⟩
        rcases List.mem_cons.1 hz with rfl | hz
        · exact h3
        · exact ltP_trans h3 (h.1 z hz)
theorem srtP_putAll : ∀ (xs l : List GPrefix), srtP l → srtP (putAll l xs)
  | [], l, h => h
  | p :: xs, l, h => srtP_putAll xs (putP p l) (srtP_putP h)
theorem mem_putAll {x : GPrefix} : ∀ {xs l : List GPrefix}, x ∈ putAll l xs ↔ x ∈ l ∨ x ∈ xs
  | [], l => by simp [putAll]
  | p :: xs, l => by
    have := mem_putAll (x := x) (xs := xs) (l := putP p l)
    have e : putAll l (p :: xs) = putAll (putP p l) xs := rfl
    rw [e, this, mem_putP, List.mem_cons]
    constructor
    · rintro ((h | h) | h)
      · exact .inr (.inl h)
      · exact .inl h
      · exact .inr (.inr h)
    · rintro (h | h | h)
      · exact .inl (.inr h)
      · exact .inl (.inl h)
      · exact .inr h
theorem putP_len (p : GPrefix) : ∀ l : List GPrefix, (putP p l).length ≤ l.length + 1
  | [] => by simp [putP]
  | y :: l => by
    have := putP_len p l
    unfold putP
    split
    · simpa using this
    · split <;> simp
theorem putAll_len : ∀ (xs l : List GPrefix), (putAll l xs).length ≤ l.length + xs.length
  | [], l => by simp [putAll]
  | p :: xs, l => by
    have h1 := putAll_len xs (putP p l)
    have h2 := putP_len p l
    have e : putAll l (p :: xs) = putAll (putP p l) xs := rfl
    rw [e, List.length_cons]
    omega
theorem srtP_ext : ∀ {l m : List GPrefix}, srtP l → srtP m → (∀ x, x ∈ l ↔ x ∈ m) → l = m
  | [], [], _, _, _ => rfl
  | [], y :: m, _, _, h => by have := (h y).2 (by simp); simp at this
  | x :: l, [], _, _, h => by have := (h x).1 (by simp); simp at this
  | x :: l, y :: m, hl, hm, h => by
    have hl' := List.pairwise_cons.1 hl
    have hm' := List.pairwise_cons.1 hm
    have e : x = y := by
      rcases List.mem_cons.1 ((h x).1 (by simp)) with e | hx
      · exact e
      · rcases List.mem_cons.1 ((h y).2 (by simp)) with e | hy
        · exact e.symm
        · exact absurd (ltP_trans (hl'.1 y hy) (hm'.1 x hx)) (ltP_irr x)
    subst e
    congr 1
    refine srtP_ext hl'.2 hm'.2 fun z => ?_
    have h1 := h z
    simp only [List.mem_cons] at h1
    constructor
    · intro hz
      rcases h1.1 (.inr hz) with e | hz'
      · subst e
        exact absurd (hl'.1 z hz) (ltP_irr z)
      · exact hz'
    · intro hz
      rcases h1.2 (.inr hz) with e | hz'
      · subst e
        exact absurd (hm'.1 z hz) (ltP_irr z)
      · exact hz'
def compF : GPrefix → List GPrefix → List GPrefix
  | _, [] => []
  | q, x :: l => if x = q then compF q l else x :: compF x l
def compP : List GPrefix → List GPrefix
  | [] => []
  | x :: l => x :: compF x l
theorem compF_mem {q : GPrefix} : ∀ {l : List GPrefix} {q x : GPrefix}, x ∈ compF q l → x ∈ l
  | [], q, x, h => by simp [compF] at h
  | y :: l, q, x, h => by
    unfold compF at h
    split at h
    · exact List.mem_cons_of_mem _ (compF_mem (q := q) h)
    · rcases List.mem_cons.1 h with rfl | h
      · simp
      · exact List.mem_cons_of_mem _ (compF_mem (q := q) h)
theorem compF_all : ∀ {l : List GPrefix} {q x : GPrefix}, x ∈ l → x = q ∨ x ∈ compF q l
  | [], q, x, h => by simp at h
  | y :: l, q, x, h => by
    unfold compF
    split
    · rename_i e
      rcases List.mem_cons.1 h with rfl | h
      · exact .inl e
      · exact compF_all h
    · rcases List.mem_cons.1 h with rfl | h
      · exact .inr (by simp)
      · rcases compF_all (q := y) h with rfl | h
        · exact .inr (by simp)
        · exact .inr (List.mem_cons_of_mem _ h)
def leP (l : List GPrefix) : Prop := l.Pairwise (fun a b => ¬ cmpPx b a < 0)
theorem compF_srt : ∀ {l : List GPrefix} {q : GPrefix}, leP l → (∀ x ∈ l, ¬ cmpPx x q < 0) → srtP (compF q l) ∧ ∀ x ∈ compF q l, cmpPx q x < 0
  | [], q, _, _ => by simp [compF, srtP]
  | y :: l, q, h, hq => by
    have h' := List.pairwise_cons.1 h
    unfold compF
    split
    · exact compF_srt h'.2 fun x hx => hq x (List.mem_cons_of_mem _ hx)
    · rename_i hne
      obtain ⟨g1, g2⟩ := compF_srt (q := y) h'.2 h'.1
      have hqy := cmpPx_ngt (hq y (by simp)) hne
      refine ⟨List.pairwise_cons.2 ⟨g2, g1⟩, fun x hx => ?_⟩
      rcases List.mem_cons.1 hx with rfl | hx
      · exact hqy
      · exact ltP_trans hqy (g2 x hx)
theorem compP_srt {l : List GPrefix} (h : leP l) : srtP (compP l) := by
  cases l with
  | nil => simp [compP, srtP]
  | cons x l =>
    have h' := List.pairwise_cons.1 h
    obtain ⟨g1, g2⟩ := compF_srt (q := x) h'.2 h'.1
    exact List.pairwise_cons.2 ⟨g2, g1⟩
theorem compP_mem {l : List GPrefix} {x : GPrefix} : x ∈ compP l ↔ x ∈ l := by
  cases l with
  | nil => simp [compP]
  | cons y l =>
    simp only [compP, List.mem_cons]
    constructor
    · rintro (h | h)
      · exact .inl h
      · exact .inr (compF_mem (q := y) h)
    · rintro (h | h)
      · exact .inl h
      · exact compF_all h
/-- What a sort and a compacting leave is what is put one by one. -/
theorem comp_union {xs ys : List GPrefix} (h : leP ys) (hm : ∀ x, x ∈ ys ↔ x ∈ xs) : compP ys = putAll [] xs := by
  refine srtP_ext (compP_srt h) (srtP_putAll xs [] (by simp [srtP])) fun x => ?_
  rw [compP_mem, mem_putAll, hm]
  simp
def dropO (n : Int) (l : List GOffer) : List GOffer := l.filter fun o => !decide (o.Peer = n)
def offAt (n : Int) (l : List GOffer) : Nat := bsI (fun o : GOffer => cmpI o.Peer n) l
def offIs (n : Int) (l : List GOffer) : Bool := bsF (fun o : GOffer => cmpI o.Peer n) l
theorem bs_cons {α : Type} (c : α → Int) (x : α) (l : List α) : (c x < 0 → bsI c (x :: l) = bsI c l + 1 ∧ bsF c (x :: l) = bsF c l) ∧ (¬ c x < 0 → bsI c (x :: l) = 0 ∧ bsF c (x :: l) = decide (c x = 0)) := by
  constructor
  · intro h
    have e : bsI c (x :: l) = bsI c l + 1 := by simp [bsI, List.takeWhile_cons, h]
    refine ⟨e, ?_⟩
    unfold bsF
    rw [e]
    simp
  · intro h
    have e : bsI c (x :: l) = 0 := by simp [bsI, List.takeWhile_cons, h]
    refine ⟨e, ?_⟩
    unfold bsF
    rw [e]
    simp
theorem bs_le {α : Type} (c : α → Int) : ∀ l : List α, bsI c l ≤ l.length
  | [] => by simp [bsI]
  | x :: l => by
    have ih := bs_le c l
    by_cases h : c x < 0
    · rw [((bs_cons c x l).1 h).1, List.length_cons]; omega
    · rw [((bs_cons c x l).2 h).1]; exact Nat.zero_le _
theorem bsF_lt {α : Type} {c : α → Int} {l : List α} (h : bsF c l = true) : ∃ hl : bsI c l < l.length, c l[bsI c l] = 0 := by
  unfold bsF at h
  split at h
  · rename_i x hx
    obtain ⟨hl, he⟩ := List.getElem?_eq_some_iff.1 hx
    exact ⟨hl, by rw [he]; simpa using h⟩
  · cases h
theorem drop_split (n : Int) : ∀ l : List GOffer, l.Pairwise (fun a b => a.Peer < b.Peer) → (offIs n l = true → dropO n l = l.take (offAt n l) ++ l.drop (offAt n l + 1)) ∧ (offIs n l = false → dropO n l = l)
  | [], _ => by simp [offIs, bsF, dropO]
  | x :: l, h => by
    have h' := List.pairwise_cons.1 h
    obtain ⟨g1, g2⟩ := drop_split n l h'.2
    have hb := bs_cons (fun o : GOffer => cmpI o.Peer n) x l
    have hkeep : (∀ y ∈ l, n < y.Peer) → dropO n l = l := fun hl => List.filter_eq_self.2 fun y hy => by
      have := hl y hy
      simp
      omega
    by_cases hc : cmpI x.Peer n < 0
    · have e1 := (hb.1 hc).1
      have e2 := (hb.1 hc).2
      have hx : ¬ x.Peer = n := by rw [cmpI_lt] at hc; omega
      have e3 : dropO n (x :: l) = x :: dropO n l := by simp [dropO, hx]
      unfold offIs offAt at *
      rw [e1, e2, e3]
      refine ⟨fun hf => ?_, fun hf => ?_⟩
      · rw [g1 hf, List.take_succ_cons, List.drop_succ_cons]
        rfl
      · rw [g2 hf]
    · have e1 := (hb.2 hc).1
      have e2 := (hb.2 hc).2
      unfold offIs offAt
      rw [e1, e2]
      rw [cmpI_lt] at hc
      refine ⟨fun hf => ?_, fun hf => ?_⟩
      · have hx : x.Peer = n := (cmpI_eq _ _).1 (by simpa using hf)
        have e3 : dropO n (x :: l) = dropO n l := by simp [dropO, hx]
        rw [e3, hkeep fun y hy => by rw [← hx]; exact h'.1 y hy]
        rfl
      · have hx : ¬ x.Peer = n := fun e => by
          rw [← cmpI_eq] at e
          simp [e] at hf
        have e3 : dropO n (x :: l) = x :: dropO n l := by simp [dropO, hx]
        rw [e3, hkeep fun y hy => by have := h'.1 y hy; omega]
/-- A peer's offer for a prefix is taken away. -/
def dropW (p : GPrefix) (n : Int) (l : List GRow) : List GRow := if rowIs p l = true then (match l[rowAt p l]? with
  | some x => if (dropO n x.Offers).length = 0 then l.take (rowAt p l) ++ l.drop (rowAt p l + 1) else l.set (rowAt p l) ⟨x.Prefix, dropO n x.Offers⟩
  | none => l) else l
def putO (o : GOffer) (l : List GOffer) : List GOffer := l.take (offAt o.Peer l) ++ o :: l.drop (if offIs o.Peer l = true then offAt o.Peer l + 1 else offAt o.Peer l)
/-- A peer's offer for a prefix is set. -/
def putW (p : GPrefix) (o : GOffer) (l : List GRow) : List GRow := if rowIs p l = true then (match l[rowAt p l]? with
  | some x => l.set (rowAt p l) ⟨x.Prefix, putO o x.Offers⟩
  | none => l) else l.take (rowAt p l) ++ ⟨p, [o]⟩ :: l.drop (rowAt p l)
def gW (l : List GRow) : Prop := srtW l ∧ ∀ x ∈ l, goodRow x = true
theorem goodRib_gW {r : GRib} (h : goodRib r = true) : gW r.Rows ∧ r.Rows.length ≤ 20 ∧ isAsnB r.Own = true := by
  simp only [goodRib, Bool.and_eq_true, decide_eq_true_eq] at h
  obtain ⟨_, h2, h3⟩ := rows_pw r.Rows none h.2.2
  exact ⟨⟨h2, h3⟩, h.2.1, h.1⟩
theorem srtW_map (l : List GRow) : srtW l ↔ srtP (l.map GRow.Prefix) := by
  unfold srtW srtP
  rw [List.pairwise_map]
theorem srtW_set {l : List GRow} (h : srtW l) (k : Nat) (hk : k < l.length) (x : GRow) (hx : x.Prefix = l[k].Prefix) : srtW (l.set k x) := by
  rw [srtW_map] at h ⊢
  have e : (l.set k x).map GRow.Prefix = l.map GRow.Prefix := by
    rw [List.map_set, hx]
    have : (l[k]).Prefix = (l.map GRow.Prefix)[k]'(by simpa using hk) := by simp
    rw [this, List.set_getElem_self]
  rw [e]
  exact h
theorem goodRow_spec {x : GRow} : goodRow x = true ↔ goodPx x.Prefix = true ∧ x.Offers ≠ [] ∧ goodOs x.Offers = true := by
  simp [goodRow]
theorem goodOs_pw {l : List GOffer} (h : goodOs l = true) : l.Pairwise (fun a b => a.Peer < b.Peer) ∧ ∀ x ∈ l, goodO x = true := (offers_pw l none h).2
theorem goodOs_of {l : List GOffer} (h1 : l.Pairwise (fun a b => a.Peer < b.Peer)) (h2 : ∀ x ∈ l, goodO x = true) : goodOs l = true := offers_mk l none (by simp) h1 h2
theorem goodOs_drop {l : List GOffer} (n : Int) (h : goodOs l = true) : goodOs (dropO n l) = true := goodOs_filter _ h
theorem gW_erase {l : List GRow} (h : gW l) (k : Nat) : gW (l.take k ++ l.drop (k + 1)) := by
  have hs : (l.take k ++ l.drop (k + 1)).Sublist l := by
    have h1 : (l.drop (k + 1)).Sublist (l.drop k) := by
      rw [← List.drop_drop]
      exact List.drop_sublist _ _
    have h2 := List.Sublist.append_left h1 (l.take k)
    rwa [List.take_append_drop] at h2
  exact ⟨h.1.sublist hs, fun x hx => h.2 x (hs.subset hx)⟩
theorem gW_drop {l : List GRow} (p : GPrefix) (n : Int) (h : gW l) : gW (dropW p n l) ∧ (dropW p n l).length ≤ l.length := by
  unfold dropW
  split
  · split
    · rename_i x hx
      obtain ⟨hk, he⟩ := List.getElem?_eq_some_iff.1 hx
      split
      · refine ⟨gW_erase h _, ?_⟩
        rw [List.length_append, List.length_take, List.length_drop]
        omega
      · rename_i hd
        refine ⟨⟨srtW_set h.1 _ hk _ (by rw [he]), fun y hy => ?_⟩, by rw [List.length_set]; exact Nat.le_refl _⟩
        rcases List.mem_or_eq_of_mem_set hy with hy | rfl
        · exact h.2 y hy
        · have hg := goodRow_spec.1 (h.2 x (List.mem_of_getElem? hx))
          refine goodRow_spec.2 ⟨hg.1, fun e => hd ?_, goodOs_drop n hg.2.2⟩
          simp only at e
          rw [e]
          rfl
    · exact ⟨h, Nat.le_refl _⟩
  · exact ⟨h, Nat.le_refl _⟩
theorem put_split (n : Int) : ∀ l : List GOffer, l.Pairwise (fun a b => a.Peer < b.Peer) → (∀ x ∈ l.take (offAt n l), x.Peer < n) ∧ (∀ x ∈ l.drop (if offIs n l = true then offAt n l + 1 else offAt n l), n < x.Peer)
  | [], _ => by simp
  | x :: l, h => by
    have h' := List.pairwise_cons.1 h
    obtain ⟨g1, g2⟩ := put_split n l h'.2
    have hb := bs_cons (fun o : GOffer => cmpI o.Peer n) x l
    unfold offIs offAt at *
    by_cases hc : cmpI x.Peer n < 0
    · rw [(hb.1 hc).1, (hb.1 hc).2]
      rw [cmpI_lt] at hc
      refine ⟨fun y hy => ?_, fun y hy => g2 y ?_⟩
      · rw [List.take_succ_cons] at hy
        rcases List.mem_cons.1 hy with rfl | hy
        · exact hc
        · exact g1 y hy
      · split at hy <;> rename_i hf
        · rw [if_pos hf]; rwa [List.drop_succ_cons] at hy
        · rw [if_neg hf]; rwa [List.drop_succ_cons] at hy
    · rw [(hb.2 hc).1, (hb.2 hc).2]
      rw [cmpI_lt] at hc
      refine ⟨by simp, fun y hy => ?_⟩
      split at hy <;> rename_i hf
      · have hx : x.Peer = n := (cmpI_eq _ _).1 (by simpa using hf)
        rw [Nat.zero_add, List.drop_succ_cons, List.drop_zero] at hy
        rw [← hx]; exact h'.1 y hy
      · have hx : ¬ x.Peer = n := fun e => hf (by rw [← cmpI_eq] at e; simp [e])
        rw [List.drop_zero] at hy
        rcases List.mem_cons.1 hy with rfl | hy
        · omega
        · have := h'.1 y hy
          omega
theorem goodOs_put {l : List GOffer} {o : GOffer} (h : goodOs l = true) (ho : goodO o = true) : goodOs (putO o l) = true := by
  obtain ⟨h1, h2⟩ := goodOs_pw h
  obtain ⟨g1, g2⟩ := put_split o.Peer l h1
  unfold putO
  refine goodOs_of ?_ fun x hx => ?_
  · refine List.pairwise_append.2 ⟨h1.sublist (List.take_sublist _ _), List.pairwise_cons.2 ⟨g2, h1.sublist (List.drop_sublist _ _)⟩, fun a ha b hb => ?_⟩
    rcases List.mem_cons.1 hb with rfl | hb
    · exact g1 a ha
    · have := g1 a ha
      have := g2 b hb
      omega
  · rcases List.mem_append.1 hx with hx | hx
    · exact h2 x (List.mem_of_mem_take hx)
    · rcases List.mem_cons.1 hx with rfl | hx
      · exact ho
      · exact h2 x (List.mem_of_mem_drop hx)
theorem row_split (p : GPrefix) : ∀ l : List GRow, srtW l → rowIs p l = false → (∀ x ∈ l.take (rowAt p l), cmpPx x.Prefix p < 0) ∧ (∀ x ∈ l.drop (rowAt p l), cmpPx p x.Prefix < 0)
  | [], _, _ => by simp
  | x :: l, h, hf => by
    have h' := List.pairwise_cons.1 h
    have hb := bs_cons (fun x : GRow => cmpPx x.Prefix p) x l
    unfold rowIs at hf
    by_cases hc : cmpPx x.Prefix p < 0
    · rw [(hb.1 hc).2] at hf
      obtain ⟨g1, g2⟩ := row_split p l h'.2 hf
      unfold rowAt at *
      rw [(hb.1 hc).1]
      refine ⟨fun y hy => ?_, fun y hy => g2 y (by rwa [List.drop_succ_cons] at hy)⟩
      rw [List.take_succ_cons] at hy
      rcases List.mem_cons.1 hy with rfl | hy
      · exact hc
      · exact g1 y hy
    · rw [(hb.2 hc).2] at hf
      unfold rowAt
      rw [(hb.2 hc).1]
      have hx : cmpPx p x.Prefix < 0 := cmpPx_ngt hc fun e => by
        rw [← cmpPx_eq] at e
        simp [e] at hf
      refine ⟨by simp, fun y hy => ?_⟩
      rw [List.drop_zero] at hy
      rcases List.mem_cons.1 hy with rfl | hy
      · exact hx
      · exact ltP_trans hx (h'.1 y hy)
theorem putO_nil (o : GOffer) : putO o [] = [o] := by simp [putO, offAt, offIs, bsI, bsF]
theorem gW_put {l : List GRow} {p : GPrefix} {o : GOffer} (h : gW l) (hp : goodPx p = true) (ho : goodO o = true) : gW (putW p o l) ∧ (putW p o l).length ≤ l.length + 1 := by
  unfold putW
  split
  · split
    · rename_i x hx
      obtain ⟨hk, he⟩ := List.getElem?_eq_some_iff.1 hx
      refine ⟨⟨srtW_set h.1 _ hk _ (by rw [he]), fun y hy => ?_⟩, by rw [List.length_set]; omega⟩
      rcases List.mem_or_eq_of_mem_set hy with hy | rfl
      · exact h.2 y hy
      · have hg := goodRow_spec.1 (h.2 x (List.mem_of_getElem? hx))
        refine goodRow_spec.2 ⟨hg.1, ?_, goodOs_put hg.2.2 ho⟩
        simp [putO]
    · exact ⟨h, by omega⟩
  · rename_i hf
    obtain ⟨g1, g2⟩ := row_split p l h.1 (by simpa using hf)
    refine ⟨⟨?_, fun y hy => ?_⟩, ?_⟩
    · refine List.pairwise_append.2 ⟨h.1.sublist (List.take_sublist _ _), List.pairwise_cons.2 ⟨g2, h.1.sublist (List.drop_sublist _ _)⟩, fun a ha b hb => ?_⟩
      rcases List.mem_cons.1 hb with rfl | hb
      · exact g1 a ha
      · exact ltP_trans (g1 a ha) (g2 b hb)
    · rcases List.mem_append.1 hy with hy | hy
      · exact h.2 y (List.mem_of_mem_take hy)
      · rcases List.mem_cons.1 hy with rfl | hy
        · refine goodRow_spec.2 ⟨hp, by simp, goodOs_of (by simp) (by simpa using ho)⟩
        · exact h.2 y (List.mem_of_mem_drop hy)
    · rw [List.length_append, List.length_cons, List.length_take, List.length_drop]
      omega
def prefsOf (r : GRib) : List GPrefix := r.Rows.map GRow.Prefix
/-- The prefixes whose best ones are unlike. -/
def changedG (a b : GRib) : List GPrefix := (putAll [] (prefsOf a ++ prefsOf b)).filter fun p => !decide (bestR a p = bestR b p)
def dropsW (n : Int) (ps : List GPrefix) (l : List GRow) : List GRow := ps.foldl (fun l p => dropW p n l) l
def putsW (o : GOffer) (ps : List GPrefix) (l : List GRow) : List GRow := ps.foldl (fun l p => putW p o l) l
theorem dropsW_snoc (n : Int) (ps : List GPrefix) (p : GPrefix) (l : List GRow) : dropsW n (ps ++ [p]) l = dropW p n (dropsW n ps l) := by simp [dropsW, List.foldl_append]
theorem putsW_snoc (o : GOffer) (ps : List GPrefix) (p : GPrefix) (l : List GRow) : putsW o (ps ++ [p]) l = putW p o (putsW o ps l) := by simp [putsW, List.foldl_append]
theorem gW_drops (n : Int) : ∀ (ps : List GPrefix) (l : List GRow), gW l → gW (dropsW n ps l) ∧ (dropsW n ps l).length ≤ l.length
  | [], l, h => ⟨h, Nat.le_refl _⟩
  | p :: ps, l, h => by
    obtain ⟨h1, h2⟩ := gW_drop p n h
    obtain ⟨h3, h4⟩ := gW_drops n ps (dropW p n l) h1
    exact ⟨h3, Nat.le_trans h4 h2⟩
theorem gW_puts {o : GOffer} (ho : goodO o = true) : ∀ (ps : List GPrefix) (l : List GRow), (∀ p ∈ ps, goodPx p = true) → gW l → gW (putsW o ps l) ∧ (putsW o ps l).length ≤ l.length + ps.length
  | [], l, _, h => ⟨h, Nat.le_refl _⟩
  | p :: ps, l, hp, h => by
    obtain ⟨h1, h2⟩ := gW_put h (hp p (by simp)) ho
    obtain ⟨h3, h4⟩ := gW_puts ho ps (putW p o l) (fun q hq => hp q (List.mem_cons_of_mem _ hq)) h1
    refine ⟨h3, Nat.le_trans h4 ?_⟩
    rw [List.length_cons]
    omega
def takeW (r : GRib) (n : Int) (u : GUpdate) : GRib := ⟨r.Own, putsW ⟨n, u.Attrs⟩ u.Come (dropsW n u.Gone r.Rows)⟩
/-- What TakeUpdate answers. -/
def rTakeUpdate (r : GRib) (n : Int) (u : GUpdate) : GRib × List GPrefix × Bool := if goodRib r = true ∧ isPeerB n = true ∧ goodU u = true ∧ goodRib (takeW r n u) = true then (takeW r n u, changedG r (takeW r n u), true) else (⟨0, []⟩, [], false)
end Go.V
