/- What functions of the seat's program do, each proved of its code, under the bounds that its theorem names. -/
import Derived.Test.YtdelgkhoahmnfaaGreatTad
set_option linter.all false
namespace Go.V
open Go.Proofs
set_option maxHeartbeats 1000000
set_option maxRecDepth 10000
set_option linter.unusedSimpArgs false
set_option linter.unusedVariables false
theorem offers_pw : ∀ (l : List GOffer) (q : Option GOffer), offersG q l = true → (∀ z, q = some z → ∀ x ∈ l, z.Peer < x.Peer) ∧ l.Pairwise (fun a b => a.Peer < b.Peer) ∧ ∀ x ∈ l, goodO x = true
  | [], q, _ => ⟨by simp, List.Pairwise.nil, by simp⟩
  | x :: l, q, h => by
    simp only [offersG, Bool.and_eq_true] at h
    obtain ⟨⟨h1, h2⟩, h3⟩ := h
    obtain ⟨g1, g2, g3⟩ := offers_pw l (some x) h3
    refine ⟨?_, List.pairwise_cons.2 ⟨g1 x rfl, g2⟩, ?_⟩
    · rintro z rfl y hy
      simp only [adjO, decide_eq_true_eq] at h2
      rcases List.mem_cons.1 hy with rfl | hy
      · exact h2
      · have := g1 x rfl y hy
        omega
    · intro y hy
      rcases List.mem_cons.1 hy with rfl | hy
      · exact h1
      · exact g3 y hy
theorem offers_mk : ∀ (l : List GOffer) (q : Option GOffer), (∀ z, q = some z → ∀ x ∈ l, z.Peer < x.Peer) → l.Pairwise (fun a b => a.Peer < b.Peer) → (∀ x ∈ l, goodO x = true) → offersG q l = true
  | [], q, _, _, _ => rfl
  | x :: l, q, h1, h2, h3 => by
    obtain ⟨p1, p2⟩ := List.pairwise_cons.1 h2
    simp only [offersG, Bool.and_eq_true]
    refine ⟨⟨h3 x List.mem_cons_self, ?_⟩, offers_mk l (some x) (fun z hz y hy => by cases hz; exact p1 y hy) p2 fun y hy => h3 y (List.mem_cons_of_mem _ hy)⟩
    cases q with
    | none => rfl
    | some z => simp only [adjO, decide_eq_true_eq]; exact h1 z rfl x List.mem_cons_self
theorem goodOs_filter {l : List GOffer} (p : GOffer → Bool) (h : goodOs l = true) : goodOs (l.filter p) = true := by
  obtain ⟨_, h2, h3⟩ := offers_pw l none h
  exact offers_mk _ none (by simp) (h2.filter p) fun x hx => h3 x (List.mem_filter.1 hx).1
theorem pw_len : ∀ (l : List GOffer) (m : Int), l.Pairwise (fun a b => a.Peer < b.Peer) → (∀ x ∈ l, m ≤ x.Peer ∧ x.Peer ≤ 5) → m ≤ 6 → (l.length : Int) ≤ 6 - m
  | [], m, _, _, hm => by simp; omega
  | x :: l, m, h1, h2, hm => by
    obtain ⟨p1, p2⟩ := List.pairwise_cons.1 h1
    have hx := h2 x List.mem_cons_self
    have := pw_len l (x.Peer + 1) p2 (fun y hy => ⟨by have := p1 y hy; omega, (h2 y (List.mem_cons_of_mem _ hy)).2⟩) (by omega)
    simp only [List.length_cons]
    omega
theorem goodOs_len {l : List GOffer} (h : goodOs l = true) : l.length ≤ 6 := by
  obtain ⟨_, h2, h3⟩ := offers_pw l none h
  have := pw_len l 0 h2 (fun x hx => by
    have := h3 x hx
    simp only [goodO, isPeerB, inR, Bool.and_eq_true, decide_eq_true_eq] at this
    exact this.1) (by omega)
  omega
theorem goodOs_dist {l : List GOffer} (h : goodOs l = true) : distO l := by
  obtain ⟨_, h2, _⟩ := offers_pw l none h
  exact h2.imp fun h => by omega
theorem bestO_some : ∀ (l : List GOffer) (m : Option GOffer), (m ≠ none ∨ l ≠ []) → ∃ o, l.foldl (fun b x => match b with
      | none => some x
      | some y => if ordO x y < 0 then some x else some y) m = some o ∧ (o ∈ l ∨ m = some o)
  | [], m, h => by
    cases m with
    | none => simp at h
    | some y => exact ⟨y, rfl, .inr rfl⟩
  | x :: l, m, _ => by
    simp only [List.foldl_cons]
    cases m with
    | none =>
      obtain ⟨o, h1, h2⟩ := bestO_some l (some x) (.inl (by simp))
      refine ⟨o, h1, .inl ?_⟩
      rcases h2 with h2 | h2
      · exact List.mem_cons_of_mem _ h2
      · cases h2; exact List.mem_cons_self
    | some y =>
      simp only
      by_cases hxy : ordO x y < 0
      · rw [if_pos hxy]
        obtain ⟨o, h1, h2⟩ := bestO_some l (some x) (.inl (by simp))
        refine ⟨o, h1, .inl ?_⟩
        rcases h2 with h2 | h2
        · exact List.mem_cons_of_mem _ h2
        · cases h2; exact List.mem_cons_self
      · rw [if_neg hxy]
        obtain ⟨o, h1, h2⟩ := bestO_some l (some y) (.inl (by simp))
        refine ⟨o, h1, ?_⟩
        rcases h2 with h2 | h2
        · exact .inl (List.mem_cons_of_mem _ h2)
        · exact .inr h2
theorem bestO_mem {l : List GOffer} (h : l ≠ []) : ∃ o, bestO l = some o ∧ o ∈ l := by
  obtain ⟨o, h1, h2⟩ := bestO_some l none (.inr h)
  exact ⟨o, h1, h2.elim id (by simp)⟩
def restO (asn : Int) (l : List GOffer) : List GOffer := l.filter fun o => !hasI o.Attrs.Path asn
/-- The peer of the best one, where all is well. -/
def bstO (l : List GOffer) : Option GOffer := if goodOs l = true then bestO l else none
def bstBy (asn : Int) (l : List GOffer) : Option GOffer := if goodOs l = true ∧ isAsnB asn = true then bestO (restO asn l) else none
def peerOf (o : Option GOffer) : Int := match o with
  | some o => o.Peer
  | none => 0
theorem cmpPx_lt (p q : GPrefix) : cmpPx p q < 0 ↔ (p.Addr < q.Addr ∨ (p.Addr = q.Addr ∧ p.Len < q.Len)) := by
  unfold cmpPx cmpI
  by_cases h1 : p.Addr < q.Addr
  · simp [h1]
  · by_cases h2 : q.Addr < p.Addr
    · simp [h1, h2]; omega
    · have h3 : p.Addr = q.Addr := by omega
      by_cases h4 : p.Len < q.Len
      · simp [h3, h4]
      · by_cases h5 : q.Len < p.Len <;> simp [h3, h4, h5]
theorem px_ext (p q : GPrefix) : p = q ↔ p.Addr = q.Addr ∧ p.Len = q.Len := by
  obtain ⟨pa, pl⟩ := p
  obtain ⟨qa, ql⟩ := q
  simp
theorem cmpPx_eq (p q : GPrefix) : cmpPx p q = 0 ↔ p = q := by
  rw [px_ext]
  unfold cmpPx cmpI
  by_cases h1 : p.Addr < q.Addr
  · simp [h1]; omega
  · by_cases h2 : q.Addr < p.Addr
    · simp [h1, h2]; omega
    · have h3 : p.Addr = q.Addr := by omega
      by_cases h4 : p.Len < q.Len
      · simp [h3, h4]; omega
      · by_cases h5 : q.Len < p.Len
        · simp [h3, h4, h5]; omega
        · simp [h3, h4, h5]; omega
theorem ltP_trans {p q r : GPrefix} (h1 : cmpPx p q < 0) (h2 : cmpPx q r < 0) : cmpPx p r < 0 := by
  rw [cmpPx_lt] at *
  omega
theorem ltP_irr (p : GPrefix) : ¬ cmpPx p p < 0 := by rw [cmpPx_lt]; omega
def srtP (l : List GPrefix) : Prop := l.Pairwise (fun a b => cmpPx a b < 0)
def srtW (l : List GRow) : Prop := l.Pairwise (fun a b => cmpPx a.Prefix b.Prefix < 0)
theorem rows_pw : ∀ (l : List GRow) (q : Option GRow), rowsG q l = true → (∀ z, q = some z → ∀ x ∈ l, cmpPx z.Prefix x.Prefix < 0) ∧ srtW l ∧ ∀ x ∈ l, goodRow x = true
  | [], q, _ => ⟨by simp, List.Pairwise.nil, by simp⟩
  | x :: l, q, h => by
    simp only [rowsG, Bool.and_eq_true] at h
    obtain ⟨⟨h1, h2⟩, h3⟩ := h
    obtain ⟨g1, g2, g3⟩ := rows_pw l (some x) h3
    refine ⟨?_, List.pairwise_cons.2 ⟨g1 x rfl, g2⟩, ?_⟩
    · rintro z rfl y hy
      simp only [adjW, decide_eq_true_eq] at h2
      rcases List.mem_cons.1 hy with rfl | hy
      · exact h2
      · exact ltP_trans h2 (g1 x rfl y hy)
    · intro y hy
      rcases List.mem_cons.1 hy with rfl | hy
      · exact h1
      · exact g3 y hy
theorem srtW_mono {l : List GRow} {p : GPrefix} (h : srtW l) : ∀ (i j : Nat) (hij : i < j) (hj : j < l.length), cmpPx l[j].Prefix p < 0 → cmpPx l[i].Prefix p < 0 :=
  fun i j hij hj hc => ltP_trans (List.pairwise_iff_getElem.1 h i j (by omega) hj hij) hc
theorem peer_mono {l : List GOffer} {n : Int} (h : l.Pairwise (fun a b => a.Peer < b.Peer)) : ∀ (i j : Nat) (hij : i < j) (hj : j < l.length), cmpI l[j].Peer n < 0 → cmpI l[i].Peer n < 0 := by
  intro i j hij hj hc
  have := List.pairwise_iff_getElem.1 h i j (by omega) hj hij
  unfold cmpI at hc ⊢
  split at hc
  · rw [if_pos (by omega)]; decide
  · split at hc <;> omega
/-- Where an offer stands is found by its peer. -/
theorem bsI_peer {l : List GOffer} (h : l.Pairwise (fun a b => a.Peer < b.Peer)) (j : Nat) (hj : j < l.length) : bsI (fun o : GOffer => cmpI o.Peer l[j].Peer) l = j := by
  refine bsI_eq _ l j (by omega) ?_ ?_
  · intro m hm hl
    have := List.pairwise_iff_getElem.1 h m j hl hj hm
    simp only [cmpI, if_pos this]
    decide
  · intro _
    simp [cmpI]
def rowAt (p : GPrefix) (l : List GRow) : Nat := bsI (fun x : GRow => cmpPx x.Prefix p) l
def rowIs (p : GPrefix) (l : List GRow) : Bool := bsF (fun x : GRow => cmpPx x.Prefix p) l
theorem rowIs_lt {p : GPrefix} {l : List GRow} (h : rowIs p l = true) : ∃ hl : rowAt p l < l.length, l[rowAt p l].Prefix = p := by
  unfold rowIs bsF at h
  have e : bsI (fun x : GRow => cmpPx x.Prefix p) l = rowAt p l := rfl
  rw [e] at h
  split at h
  · rename_i x hx
    obtain ⟨hl, he⟩ := List.getElem?_eq_some_iff.1 hx
    simp only [decide_eq_true_eq] at h
    exact ⟨hl, by rw [he]; exact (cmpPx_eq _ _).1 h⟩
  · cases h
/-- The best of a prefix's row. -/
def bestR (r : GRib) (p : GPrefix) : Option GOffer := if rowIs p r.Rows = true then (match r.Rows[rowAt p r.Rows]? with
  | some x => bstBy r.Own x.Offers
  | none => none) else none
def zeroO : GOffer := ⟨0, ⟨0, [], 0, 0, 0, []⟩⟩
def adjPx (q : Option GPrefix) (x : GPrefix) : Bool := match q with
  | none => true
  | some q => decide (cmpPx q x < 0)
def risG : Option GPrefix → List GPrefix → Bool
  | _, [] => true
  | q, x :: xs => goodPx x && adjPx q x && risG (some x) xs
def goodPs (l : List GPrefix) : Bool := risG none l && decide (l.length ≤ 10)
def prevPx (l : List GPrefix) (i : Nat) : Option GPrefix := if i = 0 then none else l[i - 1]?
theorem prevPx_next (l : List GPrefix) (i : Nat) (h : i < l.length) : prevPx l (i + 1) = some l[i] := by simp [prevPx, h]
def zeroA : GAttrs := ⟨0, [], 0, 0, 0, []⟩
def goodU (u : GUpdate) : Bool := goodPs u.Gone && goodPs u.Come && goodA u.Attrs && u.Come.all (fun p => !decide (p ∈ u.Gone)) && (decide (u.Come ≠ []) || decide (u.Attrs = zeroA))
theorem risG_all : ∀ (q : Option GPrefix) (l : List GPrefix), risG q l = true → ∀ x ∈ l, goodPx x = true
  | _, [], _, x, hx => by simp at hx
  | q, y :: l, h, x, hx => by
    simp only [risG, Bool.and_eq_true] at h
    rcases List.mem_cons.1 hx with rfl | hx
    · exact h.1.1
    · exact risG_all (some y) l h.2 x hx
theorem goodU_spec {u : GUpdate} (h : goodU u = true) : u.Gone.length ≤ 10 ∧ u.Come.length ≤ 10 ∧ goodA u.Attrs = true ∧ ∀ p ∈ u.Come, goodPx p = true := by
  simp only [goodU, goodPs, Bool.and_eq_true, decide_eq_true_eq] at h
  obtain ⟨⟨⟨⟨⟨_, h1⟩, h2, h3⟩, h4⟩, _⟩, _⟩ := h
  exact ⟨h1, h3, h4, risG_all none u.Come h2⟩
theorem cmpI_lt (a n : Int) : cmpI a n < 0 ↔ a < n := by
  unfold cmpI
  by_cases h : a < n
  · simp [h]
  · by_cases h2 : n < a <;> simp [h, h2]
theorem cmpI_eq (a n : Int) : cmpI a n = 0 ↔ a = n := by
  unfold cmpI
  by_cases h : a < n
  · simp [h]; omega
  · by_cases h2 : n < a
    · simp [h, h2]; omega
    · simp [h, h2]; omega
def putP (p : GPrefix) : List GPrefix → List GPrefix
  | [] => [p]
  | x :: l => if cmpPx x p < 0 then x :: putP p l else if x = p then x :: l else p :: x :: l
def putAll (l : List GPrefix) (xs : List GPrefix) : List GPrefix := xs.foldl (fun l p => putP p l) l
theorem putAll_snoc (l xs : List GPrefix) (p : GPrefix) : putAll l (xs ++ [p]) = putP p (putAll l xs) := by simp [putAll, List.foldl_append]
theorem cmpPx_ngt {p x : GPrefix} (h1 : ¬ cmpPx x p < 0) (h2 : x ≠ p) : cmpPx p x < 0 := by
  rw [cmpPx_lt] at h1 ⊢
  have h3 : ¬ (x.Addr = p.Addr ∧ x.Len = p.Len) := fun h => h2 ((px_ext x p).2 h)
  omega
theorem mem_putP {p x : GPrefix} : ∀ {l : List GPrefix}, x ∈ putP p l ↔ x = p ∨ x ∈ l
  | [] => by simp [putP]
  | y :: l => by
    unfold putP
    split
    · simp only [List.mem_cons, mem_putP (l := l)]
      constructor
      · rintro (h | h | h)
        · exact .inr (.inl h)
        · exact .inl h
        · exact .inr (.inr h)
      · rintro (h | h | h)
        · exact .inr (.inl h)
        · exact .inl h
        · exact .inr (.inr h)
    · split
      · rename_i h1 h2
        subst h2
        simp
      · simp
theorem srtP_putP {p : GPrefix} : ∀ {l : List GPrefix}, srtP l → srtP (putP p l)
  | [], _ => by simp [putP, srtP]
  | y :: l, h => by
    unfold srtP at h ⊢
    rw [List.pairwise_cons] at h
    unfold putP
    split
    · rename_i h1
      refine List.pairwise_cons.2 ⟨fun z hz => ?_, srtP_putP h.2⟩
      rcases mem_putP.1 hz with rfl | hz
      · exact h1
      · exact h.1 z hz
    · split
      · exact List.pairwise_cons.2 h
      · rename_i h1 h2
        have h3 := cmpPx_ngt h1 h2
        refine List.pairwise_cons.2 ⟨fun z hz => ?_, List.pairwise_cons.2 h⟩
        rcases List.mem_cons.1 hz with rfl | hz
        · exact h3
        · exact ltP_trans h3 (h.1 z hz)
theorem srtP_putAll : ∀ (xs l : List GPrefix), srtP l → srtP (putAll l xs)
  | [], l, h => h
  | p :: xs, l, h => srtP_putAll xs (putP p l) (srtP_putP h)
theorem mem_putAll {x : GPrefix} : ∀ {xs l : List GPrefix}, x ∈ putAll l xs ↔ x ∈ l ∨ x ∈ xs
  | [], l => by simp [putAll]
  | p :: xs, l => by
    have := mem_putAll (x := x) (xs := xs) (l := putP p l)
    have e : putAll l (p :: xs) = putAll (putP p l) xs := rfl
    rw [e, this, mem_putP, List.mem_cons]
    constructor
    · rintro ((h | h) | h)
      · exact .inr (.inl h)
      · exact .inl h
      · exact .inr (.inr h)
    · rintro (h | h | h)
      · exact .inl (.inr h)
      · exact .inl (.inl h)
      · exact .inr h
theorem putP_len (p : GPrefix) : ∀ l : List GPrefix, (putP p l).length ≤ l.length + 1
  | [] => by simp [putP]
  | y :: l => by
    have := putP_len p l
    unfold putP
    split
    · simpa using this
    · split <;> simp
theorem putAll_len : ∀ (xs l : List GPrefix), (putAll l xs).length ≤ l.length + xs.length
  | [], l => by simp [putAll]
  | p :: xs, l => by
    have h1 := putAll_len xs (putP p l)
    have h2 := putP_len p l
    have e : putAll l (p :: xs) = putAll (putP p l) xs := rfl
    rw [e, List.length_cons]
    omega
theorem srtP_ext : ∀ {l m : List GPrefix}, srtP l → srtP m → (∀ x, x ∈ l ↔ x ∈ m) → l = m
  | [], [], _, _, _ => rfl
  | [], y :: m, _, _, h => by have := (h y).2 (by simp); simp at this
  | x :: l, [], _, _, h => by have := (h x).1 (by simp); simp at this
  | x :: l, y :: m, hl, hm, h => by
    have hl' := List.pairwise_cons.1 hl
    have hm' := List.pairwise_cons.1 hm
    have e : x = y := by
      rcases List.mem_cons.1 ((h x).1 (by simp)) with e | hx
      · exact e
      · rcases List.mem_cons.1 ((h y).2 (by simp)) with e | hy
        · exact e.symm
        · exact absurd (ltP_trans (hl'.1 y hy) (hm'.1 x hx)) (ltP_irr x)
    subst e
    congr 1
    refine srtP_ext hl'.2 hm'.2 fun z => ?_
    have h1 := h z
    simp only [List.mem_cons] at h1
    constructor
    · intro hz
      rcases h1.1 (.inr hz) with e | hz'
      · subst e
        exact absurd (hl'.1 z hz) (ltP_irr z)
      · exact hz'
    · intro hz
      rcases h1.2 (.inr hz) with e | hz'
      · subst e
        exact absurd (hm'.1 z hz) (ltP_irr z)
      · exact hz'
def compF : GPrefix → List GPrefix → List GPrefix
  | _, [] => []
  | q, x :: l => if x = q then compF q l else x :: compF x l
def compP : List GPrefix → List GPrefix
  | [] => []
  | x :: l => x :: compF x l
theorem compF_mem {q : GPrefix} : ∀ {l : List GPrefix} {q x : GPrefix}, x ∈ compF q l → x ∈ l
  | [], q, x, h => by simp [compF] at h
  | y :: l, q, x, h => by
    unfold compF at h
    split at h
    · exact List.mem_cons_of_mem _ (compF_mem (q := q) h)
    · rcases List.mem_cons.1 h with rfl | h
      · simp
      · exact List.mem_cons_of_mem _ (compF_mem (q := q) h)
theorem compF_all : ∀ {l : List GPrefix} {q x : GPrefix}, x ∈ l → x = q ∨ x ∈ compF q l
  | [], q, x, h => by simp at h
  | y :: l, q, x, h => by
    unfold compF
    split
    · rename_i e
      rcases List.mem_cons.1 h with rfl | h
      · exact .inl e
      · exact compF_all h
    · rcases List.mem_cons.1 h with rfl | h
      · exact .inr (by simp)
      · rcases compF_all (q := y) h with rfl | h
        · exact .inr (by simp)
        · exact .inr (List.mem_cons_of_mem _ h)
def leP (l : List GPrefix) : Prop := l.Pairwise (fun a b => ¬ cmpPx b a < 0)
theorem compF_srt : ∀ {l : List GPrefix} {q : GPrefix}, leP l → (∀ x ∈ l, ¬ cmpPx x q < 0) → srtP (compF q l) ∧ ∀ x ∈ compF q l, cmpPx q x < 0
  | [], q, _, _ => by simp [compF, srtP]
  | y :: l, q, h, hq => by
    have h' := List.pairwise_cons.1 h
    unfold compF
    split
    · exact compF_srt h'.2 fun x hx => hq x (List.mem_cons_of_mem _ hx)
    · rename_i hne
      obtain ⟨g1, g2⟩ := compF_srt (q := y) h'.2 h'.1
      have hqy := cmpPx_ngt (hq y (by simp)) hne
      refine ⟨List.pairwise_cons.2 ⟨g2, g1⟩, fun x hx => ?_⟩
      rcases List.mem_cons.1 hx with rfl | hx
      · exact hqy
      · exact ltP_trans hqy (g2 x hx)
theorem compP_srt {l : List GPrefix} (h : leP l) : srtP (compP l) := by
  cases l with
  | nil => simp [compP, srtP]
  | cons x l =>
    have h' := List.pairwise_cons.1 h
    obtain ⟨g1, g2⟩ := compF_srt (q := x) h'.2 h'.1
    exact List.pairwise_cons.2 ⟨g2, g1⟩
theorem compP_mem {l : List GPrefix} {x : GPrefix} : x ∈ compP l ↔ x ∈ l := by
  cases l with
  | nil => simp [compP]
  | cons y l =>
    simp only [compP, List.mem_cons]
    constructor
    · rintro (h | h)
      · exact .inl h
      · exact .inr (compF_mem (q := y) h)
    · rintro (h | h)
      · exact .inl h
      · exact compF_all h
/-- What a sort and a compacting leave is what is put one by one. -/
theorem comp_union {xs ys : List GPrefix} (h : leP ys) (hm : ∀ x, x ∈ ys ↔ x ∈ xs) : compP ys = putAll [] xs := by
  refine srtP_ext (compP_srt h) (srtP_putAll xs [] (by simp [srtP])) fun x => ?_
  rw [compP_mem, mem_putAll, hm]
  simp
end Go.V
