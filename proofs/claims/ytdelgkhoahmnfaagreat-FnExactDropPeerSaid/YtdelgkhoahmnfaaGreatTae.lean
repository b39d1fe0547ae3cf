/- What functions of the seat's program do, each proved of its code, under the bounds that its theorem names. -/
import Derived.Test.YtdelgkhoahmnfaaGreatTad
set_option linter.all false
namespace Go.V
open Go.Proofs
set_option maxHeartbeats 1000000
set_option maxRecDepth 10000
set_option linter.unusedSimpArgs false
set_option linter.unusedVariables false
structure GUpdate where
  Gone : (List GPrefix)
  Attrs : GAttrs
  Come : (List GPrefix)
  deriving DecidableEq
def GUpdate.co (x : GUpdate) : List PT := [.sl 0 77 x.Gone.length (x.Gone.flatMap GPrefix.c), pi x.Attrs.Origin, .sl 0 3 x.Attrs.Path.length (x.Attrs.Path.map pi), pi x.Attrs.Next, pi x.Attrs.Med, pi x.Attrs.Pref, .sl 0 3 x.Attrs.Comms.length (x.Attrs.Comms.map pi), .sl 0 77 x.Come.length (x.Come.flatMap GPrefix.c)]
def GUpdate.ci (k : Nat) (x : GUpdate) : List PT := [rd k x.Gone.length (x.Gone.flatMap GPrefix.c), pi x.Attrs.Origin, rd k x.Attrs.Path.length (x.Attrs.Path.map pi), pi x.Attrs.Next, pi x.Attrs.Med, pi x.Attrs.Pref, rd k x.Attrs.Comms.length (x.Attrs.Comms.map pi), rd k x.Come.length (x.Come.flatMap GPrefix.c)]
attribute [simp] GUpdate.co GUpdate.ci
theorem GUpdate.len_o (x : GUpdate) : x.co.length = 8 := rfl
theorem GUpdate.len_i (k : Nat) (x : GUpdate) : (x.ci k).length = 8 := rfl
theorem GUpdate.un1 (x : GUpdate) : PT.unownL x.co = x.ci 0 := by simp [rd]
theorem GUpdate.uni1 (k : Nat) (x : GUpdate) : PT.unownL (x.ci k) = x.ci 0 := by simp [rd]
theorem GUpdate.un (xs : List GUpdate) : PT.unownL (xs.flatMap GUpdate.co) = xs.flatMap (GUpdate.ci 0) := by
  rw [unownL_fm]
  congr 1
  funext x
  exact GUpdate.un1 x
theorem GUpdate.uni (k : Nat) (xs : List GUpdate) : PT.unownL (xs.flatMap (GUpdate.ci k)) = xs.flatMap (GUpdate.ci 0) := by
  rw [unownL_fm]
  congr 1
  funext x
  exact GUpdate.uni1 k x
theorem GUpdate.nt (xs : List GUpdate) : PT.noTmpL (xs.flatMap GUpdate.co) = true := noTmpL_fm _ xs fun x => by simp
theorem GUpdate.nti (k : Nat) (xs : List GUpdate) : PT.noTmpL (xs.flatMap (GUpdate.ci (k + 1))) = true := noTmpL_fm _ xs fun x => by simp [rd]
attribute [simp] GUpdate.un GUpdate.uni GUpdate.nt GUpdate.nti
theorem GUpdate.lenR (xs : List GUpdate) : (xs.flatMap GUpdate.co).length = xs.length * 8 := fm_len _ 8 (fun _ => rfl) xs
theorem GUpdate.lenRi (k : Nat) (xs : List GUpdate) : (xs.flatMap (GUpdate.ci k)).length = xs.length * 8 := fm_len _ 8 (fun _ => rfl) xs
theorem GUpdate.tkR (xs : List GUpdate) : (xs.flatMap GUpdate.co).take (xs.length * 8) = xs.flatMap GUpdate.co := List.take_of_length_le (by rw [GUpdate.lenR]; exact Nat.le_refl _)
theorem GUpdate.tkRi (k : Nat) (xs : List GUpdate) : (xs.flatMap (GUpdate.ci k)).take (xs.length * 8) = xs.flatMap (GUpdate.ci k) := List.take_of_length_le (by rw [GUpdate.lenRi]; exact Nat.le_refl _)
attribute [simp high] GUpdate.lenR GUpdate.tkR GUpdate.lenRi GUpdate.tkRi
def GUpdate.wt (x : GUpdate) : Nat := wt_PrefixS x.Gone + GAttrs.wt x.Attrs + wt_PrefixS x.Come
def GUpdate.fits (x : GUpdate) : Prop := fits_PrefixS x.Gone ∧ GAttrs.fits x.Attrs ∧ fits_PrefixS x.Come
def GUpdate.lens (x : GUpdate) : Prop := lens_PrefixS x.Gone ∧ GAttrs.lens x.Attrs ∧ lens_PrefixS x.Come
def GUpdate.mark (x : GUpdate) (k : Int) : GUpdate × Int := (⟨(mk_PrefixS x.Gone k).1, ⟨(mk_PrefixS x.Gone k).2, (mk_IntS x.Attrs.Path ((mk_PrefixS x.Gone k).2 + 1)).1, (mk_IntS x.Attrs.Path ((mk_PrefixS x.Gone k).2 + 1)).2, ((mk_IntS x.Attrs.Path ((mk_PrefixS x.Gone k).2 + 1)).2 + 1), (((mk_IntS x.Attrs.Path ((mk_PrefixS x.Gone k).2 + 1)).2 + 1) + 1), (mk_IntS x.Attrs.Comms ((((mk_IntS x.Attrs.Path ((mk_PrefixS x.Gone k).2 + 1)).2 + 1) + 1) + 1)).1⟩, (mk_PrefixS x.Come (mk_IntS x.Attrs.Comms ((((mk_IntS x.Attrs.Path ((mk_PrefixS x.Gone k).2 + 1)).2 + 1) + 1) + 1)).2).1⟩, (mk_PrefixS x.Come (mk_IntS x.Attrs.Comms ((((mk_IntS x.Attrs.Path ((mk_PrefixS x.Gone k).2 + 1)).2 + 1) + 1) + 1)).2).2)
def GUpdate.cn (x : GUpdate) : Nat := cn_PrefixS x.Gone + 1 + cn_IntS x.Attrs.Path + 1 + 1 + 1 + cn_IntS x.Attrs.Comms + cn_PrefixS x.Come
theorem GUpdate.mark_snd (x : GUpdate) (k : Int) : (GUpdate.mark x k).2 = k + GUpdate.cn x := by
  simp only [GUpdate.mark, GUpdate.cn, mk_IntS_snd, mk_PrefixS_snd] <;> omega
def GUpdate.markT (x : GUpdate) (k : Int) : GUpdate × Int := (⟨(mk_PrefixS x.Gone k).1, ⟨x.Attrs.Origin, (mk_IntS x.Attrs.Path (mk_PrefixS x.Gone k).2).1, x.Attrs.Next, x.Attrs.Med, x.Attrs.Pref, (mk_IntS x.Attrs.Comms (mk_IntS x.Attrs.Path (mk_PrefixS x.Gone k).2).2).1⟩, (mk_PrefixS x.Come (mk_IntS x.Attrs.Comms (mk_IntS x.Attrs.Path (mk_PrefixS x.Gone k).2).2).2).1⟩, (mk_PrefixS x.Come (mk_IntS x.Attrs.Comms (mk_IntS x.Attrs.Path (mk_PrefixS x.Gone k).2).2).2).2)
def GUpdate.cnT (x : GUpdate) : Nat := cn_PrefixS x.Gone + cn_IntS x.Attrs.Path + cn_IntS x.Attrs.Comms + cn_PrefixS x.Come
theorem GUpdate.markT_snd (x : GUpdate) (k : Int) : (GUpdate.markT x k).2 = k + GUpdate.cnT x := by
  simp only [GUpdate.markT, GUpdate.cnT, mk_IntS_snd, mk_PrefixS_snd] <;> omega
theorem lens_of_Update {x : GUpdate} (h : GUpdate.wt x ≤ 1048576) : GUpdate.lens x := by
  unfold GUpdate.wt at h
  exact ⟨lens_of_PrefixS (by omega), lens_of_Attrs (by omega), lens_of_PrefixS (by omega)⟩
theorem cn_le_Update (x : GUpdate) : GUpdate.cnT x ≤ 32 * GUpdate.wt x := by
  unfold GUpdate.cnT GUpdate.wt
  have := cn_le_PrefixS x.Gone
  have := cn_le_IntS x.Attrs.Path
  have := cn_le_IntS x.Attrs.Comms
  have := cn_le_PrefixS x.Come
  simp only [GAttrs.wt]
  omega
theorem cnE_le_Update (x : GUpdate) : GUpdate.cn x ≤ 32 * GUpdate.wt x + 16 := by
  unfold GUpdate.cn GUpdate.wt
  have := cn_le_PrefixS x.Gone
  have := cn_le_IntS x.Attrs.Path
  have := cn_le_IntS x.Attrs.Comms
  have := cn_le_PrefixS x.Come
  simp only [GAttrs.wt]
  omega
def adjPx (q : Option GPrefix) (x : GPrefix) : Bool := match q with
  | none => true
  | some q => decide (cmpPx q x < 0)
def risG : Option GPrefix → List GPrefix → Bool
  | _, [] => true
  | q, x :: xs => goodPx x && adjPx q x && risG (some x) xs
def goodPs (l : List GPrefix) : Bool := risG none l && decide (l.length ≤ 10)
def prevPx (l : List GPrefix) (i : Nat) : Option GPrefix := if i = 0 then none else l[i - 1]?
theorem prevPx_next (l : List GPrefix) (i : Nat) (h : i < l.length) : prevPx l (i + 1) = some l[i] := by simp [prevPx, h]
def zeroA : GAttrs := ⟨0, [], 0, 0, 0, []⟩
def goodU (u : GUpdate) : Bool := goodPs u.Gone && goodPs u.Come && goodA u.Attrs && u.Come.all (fun p => !decide (p ∈ u.Gone)) && (decide (u.Come ≠ []) || decide (u.Attrs = zeroA))
theorem risG_all : ∀ (q : Option GPrefix) (l : List GPrefix), risG q l = true → ∀ x ∈ l, goodPx x = true
  | _, [], _, x, hx => by simp at hx
  | q, y :: l, h, x, hx => by
    simp only [risG, Bool.and_eq_true] at h
    rcases List.mem_cons.1 hx with rfl | hx
    · exact h.1.1
    · exact risG_all (some y) l h.2 x hx
theorem goodU_spec {u : GUpdate} (h : goodU u = true) : u.Gone.length ≤ 10 ∧ u.Come.length ≤ 10 ∧ goodA u.Attrs = true ∧ ∀ p ∈ u.Come, goodPx p = true := by
  simp only [goodU, goodPs, Bool.and_eq_true, decide_eq_true_eq] at h
  obtain ⟨⟨⟨⟨⟨_, h1⟩, h2, h3⟩, h4⟩, _⟩, _⟩ := h
  exact ⟨h1, h3, h4, risG_all none u.Come h2⟩
def hearL (l : List GRoute) (u : GUpdate) : List GRoute := u.Come.foldl (fun o p => putR ⟨p, u.Attrs⟩ o) (l.filter fun r => !decide (r.Prefix ∈ u.Gone))
def comeL (l : List GRoute) (u : GUpdate) (i : Nat) : List GRoute := (u.Come.take i).foldl (fun o p => putR ⟨p, u.Attrs⟩ o) (l.filter fun r => !decide (r.Prefix ∈ u.Gone))
def goneL (l : List GRoute) (u : GUpdate) (i : Nat) : List GRoute := l.filter fun r => !decide (r.Prefix ∈ u.Gone.take i)
theorem goneL_zero (l : List GRoute) (u : GUpdate) : goneL l u 0 = l := by
  unfold goneL
  rw [List.filter_eq_self]
  intro a _
  simp
theorem goneL_succ (l : List GRoute) (u : GUpdate) (i : Nat) (h : i < u.Gone.length) : goneL l u (i + 1) = delR u.Gone[i] (goneL l u i) := by
  unfold goneL delR
  rw [List.filter_filter]
  congr 1
  funext r
  rw [take_step u.Gone i h]
  simp only [List.mem_append, List.mem_singleton]
  by_cases h1 : r.Prefix ∈ u.Gone.take i <;> by_cases h2 : r.Prefix = u.Gone[i] <;> simp [h1, h2]
theorem comeL_zero (l : List GRoute) (u : GUpdate) : comeL l u 0 = goneL l u u.Gone.length := by
  unfold comeL goneL
  rw [List.take_length]
  rfl
theorem comeL_succ (l : List GRoute) (u : GUpdate) (i : Nat) (h : i < u.Come.length) : comeL l u (i + 1) = putR ⟨u.Come[i], u.Attrs⟩ (comeL l u i) := by
  unfold comeL
  rw [take_step u.Come i h, List.foldl_append]
  rfl
theorem comeL_all (l : List GRoute) (u : GUpdate) : comeL l u u.Come.length = hearL l u := by
  unfold comeL hearL
  rw [List.take_length]
theorem srt_gone {l : List GRoute} (h : srt l) (u : GUpdate) (i : Nat) : srt (goneL l u i) := srt_del h _
theorem srt_come {l : List GRoute} (h : srt l) (u : GUpdate) : ∀ i, i ≤ u.Come.length → srt (comeL l u i)
  | 0, _ => by rw [comeL_zero]; exact srt_gone h u _
  | i + 1, hi => by rw [comeL_succ l u i (by omega)]; exact srt_put (srt_come h u i (by omega)) _
theorem len_gone (l : List GRoute) (u : GUpdate) (i : Nat) : (goneL l u i).length ≤ l.length := List.length_filter_le _ _
theorem len_come {l : List GRoute} (h : srt l) (u : GUpdate) : ∀ i, i ≤ u.Come.length → (comeL l u i).length ≤ l.length + i
  | 0, _ => by rw [comeL_zero]; exact len_gone l u _
  | i + 1, hi => by
    rw [comeL_succ l u i (by omega)]
    have h1 := put_len ⟨u.Come[i], u.Attrs⟩ (srt_come h u i (by omega))
    have h2 := len_come h u i (by omega)
    omega
theorem mem_come {l : List GRoute} (u : GUpdate) {x : GRoute} : ∀ i, i ≤ u.Come.length → x ∈ comeL l u i → x ∈ l ∨ (x.Attrs = u.Attrs ∧ x.Prefix ∈ u.Come)
  | 0, _, h => by
    rw [comeL_zero] at h
    exact .inl (List.mem_filter.1 h).1
  | i + 1, hi, h => by
    rw [comeL_succ l u i (by omega)] at h
    rcases mem_put h with rfl | h
    · exact .inr ⟨rfl, List.getElem_mem (by omega)⟩
    · exact mem_come u i (by omega) h
theorem good_come {l : List GRoute} (h : goodL l) {u : GUpdate} (hu : goodU u = true) (i : Nat) (hi : i ≤ u.Come.length) : goodL (comeL l u i) := by
  obtain ⟨_, _, h3, h4⟩ := goodU_spec hu
  refine ⟨srt_come h.1 u i hi, fun x hx => ?_⟩
  rcases mem_come u i hi hx with hx | ⟨h5, h6⟩
  · exact h.2 x hx
  · simp only [goodR, Bool.and_eq_true]
    rw [h5]
    exact ⟨h4 _ h6, h3⟩
theorem good_hear {l : List GRoute} (h : goodL l) {u : GUpdate} (hu : goodU u = true) : goodL (hearL l u) := by
  rw [← comeL_all]
  exact good_come h hu _ (Nat.le_refl _)
def hrI (l : List GRoute) (us : List GUpdate) : Nat → Option (List GRoute)
  | 0 => some l
  | i + 1 => match hrI l us i with
    | none => none
    | some o => match us[i]? with
      | none => none
      | some u => if (hearL o u).length ≤ 20 then some (hearL o u) else none
theorem hrI_none (l : List GRoute) (us : List GUpdate) {i : Nat} (h : hrI l us i = none) : ∀ n, i ≤ n → hrI l us n = none
  | n, hn => by
    induction hn with
    | refl => exact h
    | step _ ih => simp only [hrI, ih]
theorem hrI_good {l : List GRoute} {us : List GUpdate} (h : goodL l ∧ l.length ≤ 20) (hu : ∀ u ∈ us, goodU u = true) : ∀ (i : Nat) (o : List GRoute), hrI l us i = some o → goodL o ∧ o.length ≤ 20
  | 0, o, e => by cases e; exact h
  | i + 1, o, e => by
    unfold hrI at e
    split at e
    · cases e
    · rename_i o' ho'
      split at e
      · cases e
      · rename_i u hus
        split at e
        · rename_i hl
          cases e
          exact ⟨good_hear (hrI_good h hu i o' ho').1 (hu u (List.mem_of_getElem? hus)), hl⟩
        · cases e
def rHearAll (v0 : List GRoute) (v1 : List GUpdate) : List GRoute × Bool := if goodRs v0 = true ∧ v1.length ≤ 60 ∧ v1.all goodU = true then match hrI v0 v1 v1.length with
    | some o => (o, true)
    | none => ([], false)
  else ([], false)
theorem cmpI_lt (a n : Int) : cmpI a n < 0 ↔ a < n := by
  unfold cmpI
  by_cases h : a < n
  · simp [h]
  · by_cases h2 : n < a <;> simp [h, h2]
theorem cmpI_eq (a n : Int) : cmpI a n = 0 ↔ a = n := by
  unfold cmpI
  by_cases h : a < n
  · simp [h]; omega
  · by_cases h2 : n < a
    · simp [h, h2]; omega
    · simp [h, h2]; omega
theorem offersG_pw : ∀ (q : Option GOffer) (l : List GOffer), offersG q l = true → l.Pairwise (fun a b => a.Peer < b.Peer) ∧ ∀ x ∈ l, adjO q x = true ∧ goodO x = true
  | _, [], _ => by simp
  | q, x :: l, h => by
    simp only [offersG, Bool.and_eq_true] at h
    obtain ⟨⟨h1, h2⟩, h3⟩ := h
    obtain ⟨g1, g2⟩ := offersG_pw (some x) l h3
    refine ⟨List.pairwise_cons.2 ⟨fun y hy => by simpa [adjO] using (g2 y hy).1, g1⟩, fun y hy => ?_⟩
    rcases List.mem_cons.1 hy with rfl | hy
    · exact ⟨h2, h1⟩
    · refine ⟨?_, (g2 y hy).2⟩
      have h4 := (g2 y hy).1
      cases q with
      | none => rfl
      | some q =>
        simp only [adjO, decide_eq_true_eq] at h2 h4 ⊢
        omega
theorem pw_mono {l : List GOffer} (h : l.Pairwise (fun a b => a.Peer < b.Peer)) (n : Int) (i j : Nat) (hij : i < j) (hj : j < l.length) (hc : cmpI l[j].Peer n < 0) : cmpI l[i].Peer n < 0 := by
  have := List.pairwise_iff_getElem.1 h i j (by omega) hj hij
  rw [cmpI_lt] at hc ⊢
  omega
def ofPeer (n : Int) (l : List GOffer) : List GOffer := l.filter fun o => decide (o.Peer = n)
theorem ofPeer_none (n : Int) : ∀ (l : List GOffer), (∀ x ∈ l, n < x.Peer) → ofPeer n l = []
  | [], _ => rfl
  | x :: l, h => by
    have h1 := h x (by simp)
    have h2 := ofPeer_none n l fun y hy => h y (by simp [hy])
    unfold ofPeer at h2 ⊢
    rw [List.filter_cons, if_neg (by simp; omega), h2]
theorem ofPeer_bs (n : Int) : ∀ (l : List GOffer), l.Pairwise (fun a b => a.Peer < b.Peer) → ofPeer n l = (if bsF (fun o : GOffer => cmpI o.Peer n) l = true then (l[bsI (fun o : GOffer => cmpI o.Peer n) l]?).toList else [])
  | [], _ => by simp [ofPeer, bsF]
  | x :: l, h => by
    obtain ⟨h1, h2⟩ := List.pairwise_cons.1 h
    have ih := ofPeer_bs n l h2
    by_cases c : x.Peer < n
    · have e1 : bsI (fun o : GOffer => cmpI o.Peer n) (x :: l) = bsI (fun o : GOffer => cmpI o.Peer n) l + 1 := by
        simp [bsI, List.takeWhile_cons, (cmpI_lt x.Peer n).2 c]
      have e2 : bsF (fun o : GOffer => cmpI o.Peer n) (x :: l) = bsF (fun o : GOffer => cmpI o.Peer n) l := by simp only [bsF, e1, List.getElem?_cons_succ]
      rw [e1, e2, List.getElem?_cons_succ, ← ih]
      unfold ofPeer
      rw [List.filter_cons, if_neg (by simp; omega)]
    · have c' : ¬ cmpI x.Peer n < 0 := fun h' => c ((cmpI_lt _ _).1 h')
      have e1 : bsI (fun o : GOffer => cmpI o.Peer n) (x :: l) = 0 := by simp [bsI, List.takeWhile_cons, c']
      have e2 : bsF (fun o : GOffer => cmpI o.Peer n) (x :: l) = decide (x.Peer = n) := by
        simp only [bsF, e1, List.getElem?_cons_zero]
        exact decide_eq_decide.2 (cmpI_eq _ _)
      rw [e1, e2]
      by_cases d : x.Peer = n
      · have := ofPeer_none n l fun y hy => by have := h1 y hy; omega
        unfold ofPeer at this ⊢
        rw [List.filter_cons, if_pos (by simpa using d), this]
        simp [d]
      · have := ofPeer_none n (x :: l) fun y hy => by
          rcases List.mem_cons.1 hy with rfl | hy
          · omega
          · have := h1 y hy; omega
        rw [this]
        simp [d]
theorem ofPeer_len (n : Int) (l : List GOffer) (h : l.Pairwise (fun a b => a.Peer < b.Peer)) : (ofPeer n l).length ≤ 1 := by
  rw [ofPeer_bs n l h]
  split
  · cases l[bsI (fun o : GOffer => cmpI o.Peer n) l]? <;> simp
  · simp
def routeOf (x : GRow) (o : GOffer) : GRoute := ⟨x.Prefix, o.Attrs⟩
def heardR (n : Int) (x : GRow) : List GRoute := (ofPeer n x.Offers).map (routeOf x)
def heardL (n : Int) (l : List GRow) : List GRoute := l.flatMap (heardR n)
theorem heardL_snoc (n : Int) (l : List GRow) (i : Nat) (h : i < l.length) : heardL n (l.take (i + 1)) = heardL n (l.take i) ++ heardR n l[i] := by
  unfold heardL
  rw [take_step l i h, List.flatMap_append]
  simp
theorem rowsG_all : ∀ (q : Option GRow) (l : List GRow), rowsG q l = true → ∀ x ∈ l, goodRow x = true
  | _, [], _, _, hx => by simp at hx
  | q, y :: l, h, x, hx => by
    simp only [rowsG, Bool.and_eq_true] at h
    rcases List.mem_cons.1 hx with rfl | hx
    · exact h.1.1
    · exact rowsG_all _ l h.2 x hx
theorem goodRib_rows {r : GRib} (h : goodRib r = true) : r.Rows.length ≤ 20 ∧ ∀ x ∈ r.Rows, x.Offers.Pairwise (fun a b => a.Peer < b.Peer) ∧ ∀ o ∈ x.Offers, goodO o = true := by
  simp only [goodRib, Bool.and_eq_true, decide_eq_true_eq] at h
  refine ⟨h.2.1, fun x hx => ?_⟩
  have := rowsG_all _ _ h.2.2 x hx
  simp only [goodRow, goodOs, Bool.and_eq_true] at this
  obtain ⟨g1, g2⟩ := offersG_pw _ _ this.2.2
  exact ⟨g1, fun o ho => (g2 o ho).2⟩
theorem goodO_len {o : GOffer} (h : goodO o = true) : o.Attrs.Path.length ≤ 10 ∧ o.Attrs.Comms.length ≤ 6 := by
  simp only [goodO, goodA, goodPa, goodCm, Bool.and_eq_true, decide_eq_true_eq] at h
  omega
theorem heardL_len (n : Int) : ∀ (l : List GRow), (∀ x ∈ l, x.Offers.Pairwise (fun a b => a.Peer < b.Peer)) → (heardL n l).length ≤ l.length
  | [], _ => by simp [heardL]
  | x :: l, h => by
    have h1 := heardL_len n l fun y hy => h y (by simp [hy])
    have h2 := ofPeer_len n x.Offers (h x (by simp))
    simp only [heardL, List.flatMap_cons, List.length_append, heardR, List.length_map, List.length_cons] at h1 ⊢
    omega
def rHeardFrom (r : GRib) (n : Int) : List GRoute × Bool := if (goodRib r && isPeerB n) = true then (heardL n r.Rows, true) else ([], false)
def putP (p : GPrefix) : List GPrefix → List GPrefix
  | [] => [p]
  | x :: l => if cmpPx x p < 0 then x :: putP p l else if x = p then x :: l else p :: x :: l
def putAll (l : List GPrefix) (xs : List GPrefix) : List GPrefix := xs.foldl (fun l p => putP p l) l
theorem putAll_snoc (l xs : List GPrefix) (p : GPrefix) : putAll l (xs ++ [p]) = putP p (putAll l xs) := by simp [putAll, List.foldl_append]
theorem cmpPx_ngt {p x : GPrefix} (h1 : ¬ cmpPx x p < 0) (h2 : x ≠ p) : cmpPx p x < 0 := by
  rw [cmpPx_lt] at h1 ⊢
  have h3 : ¬ (x.Addr = p.Addr ∧ x.Len = p.Len) := fun h => h2 ((px_ext x p).2 h)
  omega
theorem mem_putP {p x : GPrefix} : ∀ {l : List GPrefix}, x ∈ putP p l ↔ x = p ∨ x ∈ l
  | [] => by simp [putP]
  | y :: l => by
    unfold putP
    split
    · simp only [List.mem_cons, mem_putP (l := l)]
      constructor
      · rintro (h | h | h)
        · exact .inr (.inl h)
        · exact .inl h
        · exact .inr (.inr h)
      · rintro (h | h | h)
        · exact .inr (.inl h)
        · exact .inl h
        · exact .inr (.inr h)
    · split
      · rename_i h1 h2
        subst h2
        simp
      · simp
theorem srtP_putP {p : GPrefix} : ∀ {l : List GPrefix}, srtP l → srtP (putP p l)
  | [], _ => by simp [putP, srtP]
  | y :: l, h => by
    unfold srtP at h ⊢
    rw [List.pairwise_cons] at h
    unfold putP
    split
    · rename_i h1
      refine List.pairwise_cons.2 ⟨fun z hz => ?_, srtP_putP h.2⟩
      rcases mem_putP.1 hz with rfl | hz
      · exact h1
      · exact h.1 z hz
    · split
      · exact List.pairwise_cons.2 h
      · rename_i h1 h2
        have h3 := cmpPx_ngt h1 h2
        refine List.pairwise_cons.2 ⟨fun z hz => ?_, List.pairwise_cons.2 h⟩
        rcases List.mem_cons.1 hz with rfl | hz
        · exact h3
        · exact ltP_trans h3 (h.1 z hz)
theorem srtP_putAll : ∀ (xs l : List GPrefix), srtP l → srtP (putAll l xs)
  | [], l, h => h
  | p :: xs, l, h => srtP_putAll xs (putP p l) (srtP_putP h)
theorem mem_putAll {x : GPrefix} : ∀ {xs l : List GPrefix}, x ∈ putAll l xs ↔ x ∈ l ∨ x ∈ xs
  | [], l => by simp [putAll]
  | p :: xs, l => by
    have := mem_putAll (x := x) (xs := xs) (l := putP p l)
    have e : putAll l (p :: xs) = putAll (putP p l) xs := rfl
    rw [e, this, mem_putP, List.mem_cons]
    constructor
    · rintro ((h | h) | h)
      · exact .inr (.inl h)
      · exact .inl h
      · exact .inr (.inr h)
    · rintro (h | h | h)
      · exact .inl (.inr h)
      · exact .inl (.inl h)
      · exact .inr h
theorem putP_len (p : GPrefix) : ∀ l : List GPrefix, (putP p l).length ≤ l.length + 1
  | [] => by simp [putP]
  | y :: l => by
    have := putP_len p l
    unfold putP
    split
    · simpa using this
    · split <;> simp
theorem putAll_len : ∀ (xs l : List GPrefix), (putAll l xs).length ≤ l.length + xs.length
  | [], l => by simp [putAll]
  | p :: xs, l => by
    have h1 := putAll_len xs (putP p l)
    have h2 := putP_len p l
    have e : putAll l (p :: xs) = putAll (putP p l) xs := rfl
    rw [e, List.length_cons]
    omega
theorem srtP_ext : ∀ {l m : List GPrefix}, srtP l → srtP m → (∀ x, x ∈ l ↔ x ∈ m) → l = m
  | [], [], _, _, _ => rfl
  | [], y :: m, _, _, h => by have := (h y).2 (by simp); simp at this
  | x :: l, [], _, _, h => by have := (h x).1 (by simp); simp at this
  | x :: l, y :: m, hl, hm, h => by
    have hl' := List.pairwise_cons.1 hl
    have hm' := List.pairwise_cons.1 hm
    have e : x = y := by
      rcases List.mem_cons.1 ((h x).1 (by simp)) with e | hx
      · exact e
      · rcases List.mem_cons.1 ((h y).2 (by simp)) with e | hy
        · exact e.symm
        · exact absurd (ltP_trans (hl'.1 y hy) (hm'.1 x hx)) (ltP_irr x)
    subst e
    congr 1
    refine srtP_ext hl'.2 hm'.2 fun z => ?_
    have h1 := h z
    simp only [List.mem_cons] at h1
    constructor
    · intro hz
      rcases h1.1 (.inr hz) with e | hz'
      · subst e
        exact absurd (hl'.1 z hz) (ltP_irr z)
      · exact hz'
    · intro hz
      rcases h1.2 (.inr hz) with e | hz'
      · subst e
        exact absurd (hm'.1 z hz) (ltP_irr z)
      · exact hz'
def compF : GPrefix → List GPrefix → List GPrefix
  | _, [] => []
  | q, x :: l => if x = q then compF q l else x :: compF x l
def compP : List GPrefix → List GPrefix
  | [] => []
  | x :: l => x :: compF x l
theorem compF_mem {q : GPrefix} : ∀ {l : List GPrefix} {q x : GPrefix}, x ∈ compF q l → x ∈ l
  | [], q, x, h => by simp [compF] at h
  | y :: l, q, x, h => by
    unfold compF at h
    split at h
    · exact List.mem_cons_of_mem _ (compF_mem (q := q) h)
    · rcases List.mem_cons.1 h with rfl | h
      · simp
      · exact List.mem_cons_of_mem _ (compF_mem (q := q) h)
theorem compF_all : ∀ {l : List GPrefix} {q x : GPrefix}, x ∈ l → x = q ∨ x ∈ compF q l
  | [], q, x, h => by simp at h
  | y :: l, q, x, h => by
    unfold compF
    split
    · rename_i e
      rcases List.mem_cons.1 h with rfl | h
      · exact .inl e
      · exact compF_all h
    · rcases List.mem_cons.1 h with rfl | h
      · exact .inr (by simp)
      · rcases compF_all (q := y) h with rfl | h
        · exact .inr (by simp)
        · exact .inr (List.mem_cons_of_mem _ h)
def leP (l : List GPrefix) : Prop := l.Pairwise (fun a b => ¬ cmpPx b a < 0)
theorem compF_srt : ∀ {l : List GPrefix} {q : GPrefix}, leP l → (∀ x ∈ l, ¬ cmpPx x q < 0) → srtP (compF q l) ∧ ∀ x ∈ compF q l, cmpPx q x < 0
  | [], q, _, _ => by simp [compF, srtP]
  | y :: l, q, h, hq => by
    have h' := List.pairwise_cons.1 h
    unfold compF
    split
    · exact compF_srt h'.2 fun x hx => hq x (List.mem_cons_of_mem _ hx)
    · rename_i hne
      obtain ⟨g1, g2⟩ := compF_srt (q := y) h'.2 h'.1
      have hqy := cmpPx_ngt (hq y (by simp)) hne
      refine ⟨List.pairwise_cons.2 ⟨g2, g1⟩, fun x hx => ?_⟩
      rcases List.mem_cons.1 hx with rfl | hx
      · exact hqy
      · exact ltP_trans hqy (g2 x hx)
theorem compP_srt {l : List GPrefix} (h : leP l) : srtP (compP l) := by
  cases l with
  | nil => simp [compP, srtP]
  | cons x l =>
    have h' := List.pairwise_cons.1 h
    obtain ⟨g1, g2⟩ := compF_srt (q := x) h'.2 h'.1
    exact List.pairwise_cons.2 ⟨g2, g1⟩
theorem compP_mem {l : List GPrefix} {x : GPrefix} : x ∈ compP l ↔ x ∈ l := by
  cases l with
  | nil => simp [compP]
  | cons y l =>
    simp only [compP, List.mem_cons]
    constructor
    · rintro (h | h)
      · exact .inl h
      · exact .inr (compF_mem (q := y) h)
    · rintro (h | h)
      · exact .inl h
      · exact compF_all h
/-- What a sort and a compacting leave is what is put one by one. -/
theorem comp_union {xs ys : List GPrefix} (h : leP ys) (hm : ∀ x, x ∈ ys ↔ x ∈ xs) : compP ys = putAll [] xs := by
  refine srtP_ext (compP_srt h) (srtP_putAll xs [] (by simp [srtP])) fun x => ?_
  rw [compP_mem, mem_putAll, hm]
  simp
def dropO (n : Int) (l : List GOffer) : List GOffer := l.filter fun o => !decide (o.Peer = n)
def offAt (n : Int) (l : List GOffer) : Nat := bsI (fun o : GOffer => cmpI o.Peer n) l
def offIs (n : Int) (l : List GOffer) : Bool := bsF (fun o : GOffer => cmpI o.Peer n) l
theorem bs_cons {α : Type} (c : α → Int) (x : α) (l : List α) : (c x < 0 → bsI c (x :: l) = bsI c l + 1 ∧ bsF c (x :: l) = bsF c l) ∧ (¬ c x < 0 → bsI c (x :: l) = 0 ∧ bsF c (x :: l) = decide (c x = 0)) := by
  constructor
  · intro h
    have e : bsI c (x :: l) = bsI c l + 1 := by simp [bsI, List.takeWhile_cons, h]
    refine ⟨e, ?_⟩
    unfold bsF
    rw [e]
    simp
  · intro h
    have e : bsI c (x :: l) = 0 := by simp [bsI, List.takeWhile_cons, h]
    refine ⟨e, ?_⟩
    unfold bsF
    rw [e]
    simp
theorem bs_le {α : Type} (c : α → Int) : ∀ l : List α, bsI c l ≤ l.length
  | [] => by simp [bsI]
  | x :: l => by
    have ih := bs_le c l
    by_cases h : c x < 0
    · rw [((bs_cons c x l).1 h).1, List.length_cons]; omega
    · rw [((bs_cons c x l).2 h).1]; exact Nat.zero_le _
theorem bsF_lt {α : Type} {c : α → Int} {l : List α} (h : bsF c l = true) : ∃ hl : bsI c l < l.length, c l[bsI c l] = 0 := by
  unfold bsF at h
  split at h
  · rename_i x hx
    obtain ⟨hl, he⟩ := List.getElem?_eq_some_iff.1 hx
    exact ⟨hl, by rw [he]; simpa using h⟩
  · cases h
theorem drop_split (n : Int) : ∀ l : List GOffer, l.Pairwise (fun a b => a.Peer < b.Peer) → (offIs n l = true → dropO n l = l.take (offAt n l) ++ l.drop (offAt n l + 1)) ∧ (offIs n l = false → dropO n l = l)
  | [], _ => by simp [offIs, bsF, dropO]
  | x :: l, h => by
    have h' := List.pairwise_cons.1 h
    obtain ⟨g1, g2⟩ := drop_split n l h'.2
    have hb := bs_cons (fun o : GOffer => cmpI o.Peer n) x l
    have hkeep : (∀ y ∈ l, n < y.Peer) → dropO n l = l := fun hl => List.filter_eq_self.2 fun y hy => by
      have := hl y hy
      simp
      omega
    by_cases hc : cmpI x.Peer n < 0
    · have e1 := (hb.1 hc).1
      have e2 := (hb.1 hc).2
      have hx : ¬ x.Peer = n := by rw [cmpI_lt] at hc; omega
      have e3 : dropO n (x :: l) = x :: dropO n l := by simp [dropO, hx]
      unfold offIs offAt at *
      rw [e1, e2, e3]
      refine ⟨fun hf => ?_, fun hf => ?_⟩
      · rw [g1 hf, List.take_succ_cons, List.drop_succ_cons]
        rfl
      · rw [g2 hf]
    · have e1 := (hb.2 hc).1
      have e2 := (hb.2 hc).2
      unfold offIs offAt
      rw [e1, e2]
      rw [cmpI_lt] at hc
      refine ⟨fun hf => ?_, fun hf => ?_⟩
      · have hx : x.Peer = n := (cmpI_eq _ _).1 (by simpa using hf)
        have e3 : dropO n (x :: l) = dropO n l := by simp [dropO, hx]
        rw [e3, hkeep fun y hy => by rw [← hx]; exact h'.1 y hy]
        rfl
      · have hx : ¬ x.Peer = n := fun e => by
          rw [← cmpI_eq] at e
          simp [e] at hf
        have e3 : dropO n (x :: l) = x :: dropO n l := by simp [dropO, hx]
        rw [e3, hkeep fun y hy => by have := h'.1 y hy; omega]
/-- A peer's offer for a prefix is taken away. -/
def dropW (p : GPrefix) (n : Int) (l : List GRow) : List GRow := if rowIs p l = true then (match l[rowAt p l]? with
  | some x => if (dropO n x.Offers).length = 0 then l.take (rowAt p l) ++ l.drop (rowAt p l + 1) else l.set (rowAt p l) ⟨x.Prefix, dropO n x.Offers⟩
  | none => l) else l
def putO (o : GOffer) (l : List GOffer) : List GOffer := l.take (offAt o.Peer l) ++ o :: l.drop (if offIs o.Peer l = true then offAt o.Peer l + 1 else offAt o.Peer l)
/-- A peer's offer for a prefix is set. -/
def putW (p : GPrefix) (o : GOffer) (l : List GRow) : List GRow := if rowIs p l = true then (match l[rowAt p l]? with
  | some x => l.set (rowAt p l) ⟨x.Prefix, putO o x.Offers⟩
  | none => l) else l.take (rowAt p l) ++ ⟨p, [o]⟩ :: l.drop (rowAt p l)
def gW (l : List GRow) : Prop := srtW l ∧ ∀ x ∈ l, goodRow x = true
theorem goodRib_gW {r : GRib} (h : goodRib r = true) : gW r.Rows ∧ r.Rows.length ≤ 20 ∧ isAsnB r.Own = true := by
  simp only [goodRib, Bool.and_eq_true, decide_eq_true_eq] at h
  obtain ⟨_, h2, h3⟩ := rows_pw r.Rows none h.2.2
  exact ⟨⟨h2, h3⟩, h.2.1, h.1⟩
theorem rowsG_of : ∀ (l : List GRow) (q : Option GRow), srtW l → (∀ x ∈ l, goodRow x = true) → (∀ x ∈ l, adjW q x = true) → rowsG q l = true
  | [], _, _, _, _ => rfl
  | x :: l, q, h1, h2, h3 => by
    have h1' := List.pairwise_cons.1 h1
    simp only [rowsG, Bool.and_eq_true]
    exact ⟨⟨h2 x (by simp), h3 x (by simp)⟩, rowsG_of l (some x) h1'.2 (fun y hy => h2 y (List.mem_cons_of_mem _ hy)) fun y hy => by simpa [adjW] using h1'.1 y hy⟩
theorem gW_goodRib {r : GRib} (h : gW r.Rows) (ha : isAsnB r.Own = true) : goodRib r = decide (r.Rows.length ≤ 20) := by
  simp only [goodRib, ha, rowsG_of r.Rows none h.1 h.2 (fun _ _ => rfl)]
  simp
theorem srtW_map (l : List GRow) : srtW l ↔ srtP (l.map GRow.Prefix) := by
  unfold srtW srtP
  rw [List.pairwise_map]
theorem srtW_set {l : List GRow} (h : srtW l) (k : Nat) (hk : k < l.length) (x : GRow) (hx : x.Prefix = l[k].Prefix) : srtW (l.set k x) := by
  rw [srtW_map] at h ⊢
  have e : (l.set k x).map GRow.Prefix = l.map GRow.Prefix := by
    rw [List.map_set, hx]
    have : (l[k]).Prefix = (l.map GRow.Prefix)[k]'(by simpa using hk) := by simp
    rw [this, List.set_getElem_self]
  rw [e]
  exact h
theorem goodRow_spec {x : GRow} : goodRow x = true ↔ goodPx x.Prefix = true ∧ x.Offers ≠ [] ∧ goodOs x.Offers = true := by
  simp [goodRow]
theorem goodOs_pw {l : List GOffer} (h : goodOs l = true) : l.Pairwise (fun a b => a.Peer < b.Peer) ∧ ∀ x ∈ l, goodO x = true := (offers_pw l none h).2
theorem goodOs_of {l : List GOffer} (h1 : l.Pairwise (fun a b => a.Peer < b.Peer)) (h2 : ∀ x ∈ l, goodO x = true) : goodOs l = true := offers_mk l none (by simp) h1 h2
theorem goodOs_drop {l : List GOffer} (n : Int) (h : goodOs l = true) : goodOs (dropO n l) = true := goodOs_filter _ h
theorem gW_erase {l : List GRow} (h : gW l) (k : Nat) : gW (l.take k ++ l.drop (k + 1)) := by
  have hs : (l.take k ++ l.drop (k + 1)).Sublist l := by
    have h1 : (l.drop (k + 1)).Sublist (l.drop k) := by
      rw [← List.drop_drop]
      exact List.drop_sublist _ _
    have h2 := List.Sublist.append_left h1 (l.take k)
    rwa [List.take_append_drop] at h2
  exact ⟨h.1.sublist hs, fun x hx => h.2 x (hs.subset hx)⟩
theorem gW_drop {l : List GRow} (p : GPrefix) (n : Int) (h : gW l) : gW (dropW p n l) ∧ (dropW p n l).length ≤ l.length := by
  unfold dropW
  split
  · split
    · rename_i x hx
      obtain ⟨hk, he⟩ := List.getElem?_eq_some_iff.1 hx
      split
      · refine ⟨gW_erase h _, ?_⟩
        rw [List.length_append, List.length_take, List.length_drop]
        omega
      · rename_i hd
        refine ⟨⟨srtW_set h.1 _ hk _ (by rw [he]), fun y hy => ?_⟩, by rw [List.length_set]; exact Nat.le_refl _⟩
        rcases List.mem_or_eq_of_mem_set hy with hy | rfl
        · exact h.2 y hy
        · have hg := goodRow_spec.1 (h.2 x (List.mem_of_getElem? hx))
          refine goodRow_spec.2 ⟨hg.1, fun e => hd ?_, goodOs_drop n hg.2.2⟩
          simp only at e
          rw [e]
          rfl
    · exact ⟨h, Nat.le_refl _⟩
  · exact ⟨h, Nat.le_refl _⟩
theorem put_split (n : Int) : ∀ l : List GOffer, l.Pairwise (fun a b => a.Peer < b.Peer) → (∀ x ∈ l.take (offAt n l), x.Peer < n) ∧ (∀ x ∈ l.drop (if offIs n l = true then offAt n l + 1 else offAt n l), n < x.Peer)
  | [], _ => by simp
  | x :: l, h => by
    have h' := List.pairwise_cons.1 h
    obtain ⟨g1, g2⟩ := put_split n l h'.2
    have hb := bs_cons (fun o : GOffer => cmpI o.Peer n) x l
    unfold offIs offAt at *
    by_cases hc : cmpI x.Peer n < 0
    · rw [(hb.1 hc).1, (hb.1 hc).2]
      rw [cmpI_lt] at hc
      refine ⟨fun y hy => ?_, fun y hy => g2 y ?_⟩
      · rw [List.take_succ_cons] at hy
        rcases List.mem_cons.1 hy with rfl | hy
        · exact hc
        · exact g1 y hy
      · split at hy <;> rename_i hf
        · rw [if_pos hf]; rwa [List.drop_succ_cons] at hy
        · rw [if_neg hf]; rwa [List.drop_succ_cons] at hy
    · rw [(hb.2 hc).1, (hb.2 hc).2]
      rw [cmpI_lt] at hc
      refine ⟨by simp, fun y hy => ?_⟩
      split at hy <;> rename_i hf
      · have hx : x.Peer = n := (cmpI_eq _ _).1 (by simpa using hf)
        rw [Nat.zero_add, List.drop_succ_cons, List.drop_zero] at hy
        rw [← hx]; exact h'.1 y hy
      · have hx : ¬ x.Peer = n := fun e => hf (by rw [← cmpI_eq] at e; simp [e])
        rw [List.drop_zero] at hy
        rcases List.mem_cons.1 hy with rfl | hy
        · omega
        · have := h'.1 y hy
          omega
theorem goodOs_put {l : List GOffer} {o : GOffer} (h : goodOs l = true) (ho : goodO o = true) : goodOs (putO o l) = true := by
  obtain ⟨h1, h2⟩ := goodOs_pw h
  obtain ⟨g1, g2⟩ := put_split o.Peer l h1
  unfold putO
  refine goodOs_of ?_ fun x hx => ?_
  · refine List.pairwise_append.2 ⟨h1.sublist (List.take_sublist _ _), List.pairwise_cons.2 ⟨g2, h1.sublist (List.drop_sublist _ _)⟩, fun a ha b hb => ?_⟩
    rcases List.mem_cons.1 hb with rfl | hb
    · exact g1 a ha
    · have := g1 a ha
      have := g2 b hb
      omega
  · rcases List.mem_append.1 hx with hx | hx
    · exact h2 x (List.mem_of_mem_take hx)
    · rcases List.mem_cons.1 hx with rfl | hx
      · exact ho
      · exact h2 x (List.mem_of_mem_drop hx)
theorem row_split (p : GPrefix) : ∀ l : List GRow, srtW l → rowIs p l = false → (∀ x ∈ l.take (rowAt p l), cmpPx x.Prefix p < 0) ∧ (∀ x ∈ l.drop (rowAt p l), cmpPx p x.Prefix < 0)
  | [], _, _ => by simp
  | x :: l, h, hf => by
    have h' := List.pairwise_cons.1 h
    have hb := bs_cons (fun x : GRow => cmpPx x.Prefix p) x l
    unfold rowIs at hf
    by_cases hc : cmpPx x.Prefix p < 0
    · rw [(hb.1 hc).2] at hf
      obtain ⟨g1, g2⟩ := row_split p l h'.2 hf
      unfold rowAt at *
      rw [(hb.1 hc).1]
      refine ⟨fun y hy => ?_, fun y hy => g2 y (by rwa [List.drop_succ_cons] at hy)⟩
      rw [List.take_succ_cons] at hy
      rcases List.mem_cons.1 hy with rfl | hy
      · exact hc
      · exact g1 y hy
    · rw [(hb.2 hc).2] at hf
      unfold rowAt
      rw [(hb.2 hc).1]
      have hx : cmpPx p x.Prefix < 0 := cmpPx_ngt hc fun e => by
        rw [← cmpPx_eq] at e
        simp [e] at hf
      refine ⟨by simp, fun y hy => ?_⟩
      rw [List.drop_zero] at hy
      rcases List.mem_cons.1 hy with rfl | hy
      · exact hx
      · exact ltP_trans hx (h'.1 y hy)
theorem putO_nil (o : GOffer) : putO o [] = [o] := by simp [putO, offAt, offIs, bsI, bsF]
theorem gW_put {l : List GRow} {p : GPrefix} {o : GOffer} (h : gW l) (hp : goodPx p = true) (ho : goodO o = true) : gW (putW p o l) ∧ (putW p o l).length ≤ l.length + 1 := by
  unfold putW
  split
  · split
    · rename_i x hx
      obtain ⟨hk, he⟩ := List.getElem?_eq_some_iff.1 hx
      refine ⟨⟨srtW_set h.1 _ hk _ (by rw [he]), fun y hy => ?_⟩, by rw [List.length_set]; omega⟩
      rcases List.mem_or_eq_of_mem_set hy with hy | rfl
      · exact h.2 y hy
      · have hg := goodRow_spec.1 (h.2 x (List.mem_of_getElem? hx))
        refine goodRow_spec.2 ⟨hg.1, ?_, goodOs_put hg.2.2 ho⟩
        simp [putO]
    · exact ⟨h, by omega⟩
  · rename_i hf
    obtain ⟨g1, g2⟩ := row_split p l h.1 (by simpa using hf)
    refine ⟨⟨?_, fun y hy => ?_⟩, ?_⟩
    · refine List.pairwise_append.2 ⟨h.1.sublist (List.take_sublist _ _), List.pairwise_cons.2 ⟨g2, h.1.sublist (List.drop_sublist _ _)⟩, fun a ha b hb => ?_⟩
      rcases List.mem_cons.1 hb with rfl | hb
      · exact g1 a ha
      · exact ltP_trans (g1 a ha) (g2 b hb)
    · rcases List.mem_append.1 hy with hy | hy
      · exact h.2 y (List.mem_of_mem_take hy)
      · rcases List.mem_cons.1 hy with rfl | hy
        · refine goodRow_spec.2 ⟨hp, by simp, goodOs_of (by simp) (by simpa using ho)⟩
        · exact h.2 y (List.mem_of_mem_drop hy)
    · rw [List.length_append, List.length_cons, List.length_take, List.length_drop]
      omega
def prefsOf (r : GRib) : List GPrefix := r.Rows.map GRow.Prefix
/-- The prefixes whose best ones are unlike. -/
def changedG (a b : GRib) : List GPrefix := (putAll [] (prefsOf a ++ prefsOf b)).filter fun p => !decide (bestR a p = bestR b p)
theorem changedG_len (a b : GRib) : (changedG a b).length ≤ a.Rows.length + b.Rows.length := by
  unfold changedG
  refine Nat.le_trans (List.length_filter_le _ _) (Nat.le_trans (putAll_len _ _) ?_)
  simp [prefsOf]
def dropsW (n : Int) (ps : List GPrefix) (l : List GRow) : List GRow := ps.foldl (fun l p => dropW p n l) l
def putsW (o : GOffer) (ps : List GPrefix) (l : List GRow) : List GRow := ps.foldl (fun l p => putW p o l) l
theorem dropsW_snoc (n : Int) (ps : List GPrefix) (p : GPrefix) (l : List GRow) : dropsW n (ps ++ [p]) l = dropW p n (dropsW n ps l) := by simp [dropsW, List.foldl_append]
theorem putsW_snoc (o : GOffer) (ps : List GPrefix) (p : GPrefix) (l : List GRow) : putsW o (ps ++ [p]) l = putW p o (putsW o ps l) := by simp [putsW, List.foldl_append]
theorem gW_drops (n : Int) : ∀ (ps : List GPrefix) (l : List GRow), gW l → gW (dropsW n ps l) ∧ (dropsW n ps l).length ≤ l.length
  | [], l, h => ⟨h, Nat.le_refl _⟩
  | p :: ps, l, h => by
    obtain ⟨h1, h2⟩ := gW_drop p n h
    obtain ⟨h3, h4⟩ := gW_drops n ps (dropW p n l) h1
    exact ⟨h3, Nat.le_trans h4 h2⟩
theorem gW_puts {o : GOffer} (ho : goodO o = true) : ∀ (ps : List GPrefix) (l : List GRow), (∀ p ∈ ps, goodPx p = true) → gW l → gW (putsW o ps l) ∧ (putsW o ps l).length ≤ l.length + ps.length
  | [], l, _, h => ⟨h, Nat.le_refl _⟩
  | p :: ps, l, hp, h => by
    obtain ⟨h1, h2⟩ := gW_put h (hp p (by simp)) ho
    obtain ⟨h3, h4⟩ := gW_puts ho ps (putW p o l) (fun q hq => hp q (List.mem_cons_of_mem _ hq)) h1
    refine ⟨h3, Nat.le_trans h4 ?_⟩
    rw [List.length_cons]
    omega
/-- What DropPeer answers. -/
def rDropPeer (r : GRib) (n : Int) : GRib × List GPrefix × Bool := if goodRib r = true ∧ isPeerB n = true then (⟨r.Own, dropsW n (prefsOf r) r.Rows⟩, changedG r ⟨r.Own, dropsW n (prefsOf r) r.Rows⟩, true) else (⟨0, []⟩, [], false)
def takeW (r : GRib) (n : Int) (u : GUpdate) : GRib := ⟨r.Own, putsW ⟨n, u.Attrs⟩ u.Come (dropsW n u.Gone r.Rows)⟩
/-- What TakeUpdate answers. -/
def rTakeUpdate (r : GRib) (n : Int) (u : GUpdate) : GRib × List GPrefix × Bool := if goodRib r = true ∧ isPeerB n = true ∧ goodU u = true ∧ goodRib (takeW r n u) = true then (takeW r n u, changedG r (takeW r n u), true) else (⟨0, []⟩, [], false)
end Go.V
