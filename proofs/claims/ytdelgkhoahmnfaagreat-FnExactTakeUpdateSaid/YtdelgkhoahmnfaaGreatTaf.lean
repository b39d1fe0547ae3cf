/- What functions of the seat's program do, each proved of its code, under the bounds that its theorem names. -/
import Derived.Test.YtdelgkhoahmnfaaGreatTae
set_option linter.all false
namespace Go.V
open Go.Proofs
set_option maxHeartbeats 1000000
set_option maxRecDepth 10000
set_option linter.unusedSimpArgs false
set_option linter.unusedVariables false
def dropO (n : Int) (l : List GOffer) : List GOffer := l.filter fun o => !decide (o.Peer = n)
def offAt (n : Int) (l : List GOffer) : Nat := bsI (fun o : GOffer => cmpI o.Peer n) l
def offIs (n : Int) (l : List GOffer) : Bool := bsF (fun o : GOffer => cmpI o.Peer n) l
theorem bs_cons {α : Type} (c : α → Int) (x : α) (l : List α) : (c x < 0 → bsI c (x :: l) = bsI c l + 1 ∧ bsF c (x :: l) = bsF c l) ∧ (¬ c x < 0 → bsI c (x :: l) = 0 ∧ bsF c (x :: l) = decide (c x = 0)) := by
  constructor
  · intro h
    have e : bsI c (x :: l) = bsI c l + 1 := by simp [bsI, List.takeWhile_cons, h]
    refine ⟨e, ?_⟩
    unfold bsF
    rw [e]
    simp
  · intro h
    have e : bsI c (x :: l) = 0 := by simp [bsI, List.takeWhile_cons, h]
    refine ⟨e, ?_⟩
    unfold bsF
    rw [e]
    simp
theorem bs_le {α : Type} (c : α → Int) : ∀ l : List α, bsI c l ≤ l.length
  | [] => by simp [bsI]
  | x :: l => by
    have ih := bs_le c l
    by_cases h : c x < 0
    · rw [((bs_cons c x l).1 h).1, List.length_cons]; omega
    · rw [((bs_cons c x l).2 h).1]; exact Nat.zero_le _
theorem bsF_lt {α : Type} {c : α → Int} {l : List α} (h : bsF c l = true) : ∃ hl : bsI c l < l.length, c l[bsI c l] = 0 := by
  unfold bsF at h
  split at h
  · rename_i x hx
    obtain ⟨hl, he⟩ := List.getElem?_eq_some_iff.1 hx
    exact ⟨hl, by rw [he]; simpa using h⟩
  · cases h
theorem drop_split (n : Int) : ∀ l : List GOffer, l.Pairwise (fun a b => a.Peer < b.Peer) → (offIs n l = true → dropO n l = l.take (offAt n l) ++ l.drop (offAt n l + 1)) ∧ (offIs n l = false → dropO n l = l)
  | [], _ => by simp [offIs, bsF, dropO]
  | x :: l, h => by
    have h' := List.pairwise_cons.1 h
    obtain ⟨g1, g2⟩ := drop_split n l h'.2
    have hb := bs_cons (fun o : GOffer => cmpI o.Peer n) x l
    have hkeep : (∀ y ∈ l, n < y.Peer) → dropO n l = l := fun hl => List.filter_eq_self.2 fun y hy => by
      have := hl y hy
      simp
      omega
    by_cases hc : cmpI x.Peer n < 0
    · have e1 := (hb.1 hc).1
      have e2 := (hb.1 hc).2
      have hx : ¬ x.Peer = n := by rw [cmpI_lt] at hc; omega
      have e3 : dropO n (x :: l) = x :: dropO n l := by simp [dropO, hx]
      unfold offIs offAt at *
      rw [e1, e2, e3]
      refine ⟨fun hf => ?_, fun hf => ?_⟩
      · rw [g1 hf, List.take_succ_cons, List.drop_succ_cons]
        rfl
      · rw [g2 hf]
    · have e1 := (hb.2 hc).1
      have e2 := (hb.2 hc).2
      unfold offIs offAt
      rw [e1, e2]
      rw [cmpI_lt] at hc
      refine ⟨fun hf => ?_, fun hf => ?_⟩
      · have hx : x.Peer = n := (cmpI_eq _ _).1 (by simpa using hf)
        have e3 : dropO n (x :: l) = dropO n l := by simp [dropO, hx]
        rw [e3, hkeep fun y hy => by rw [← hx]; exact h'.1 y hy]
        rfl
      · have hx : ¬ x.Peer = n := fun e => by
          rw [← cmpI_eq] at e
          simp [e] at hf
        have e3 : dropO n (x :: l) = x :: dropO n l := by simp [dropO, hx]
        rw [e3, hkeep fun y hy => by have := h'.1 y hy; omega]
/-- A peer's offer for a prefix is taken away. -/
def dropW (p : GPrefix) (n : Int) (l : List GRow) : List GRow := if rowIs p l = true then (match l[rowAt p l]? with
  | some x => if (dropO n x.Offers).length = 0 then l.take (rowAt p l) ++ l.drop (rowAt p l + 1) else l.set (rowAt p l) ⟨x.Prefix, dropO n x.Offers⟩
  | none => l) else l
def putO (o : GOffer) (l : List GOffer) : List GOffer := l.take (offAt o.Peer l) ++ o :: l.drop (if offIs o.Peer l = true then offAt o.Peer l + 1 else offAt o.Peer l)
/-- A peer's offer for a prefix is set. -/
def putW (p : GPrefix) (o : GOffer) (l : List GRow) : List GRow := if rowIs p l = true then (match l[rowAt p l]? with
  | some x => l.set (rowAt p l) ⟨x.Prefix, putO o x.Offers⟩
  | none => l) else l.take (rowAt p l) ++ ⟨p, [o]⟩ :: l.drop (rowAt p l)
def gW (l : List GRow) : Prop := srtW l ∧ ∀ x ∈ l, goodRow x = true
theorem goodRib_gW {r : GRib} (h : goodRib r = true) : gW r.Rows ∧ r.Rows.length ≤ 20 ∧ isAsnB r.Own = true := by
  simp only [goodRib, Bool.and_eq_true, decide_eq_true_eq] at h
  obtain ⟨_, h2, h3⟩ := rows_pw r.Rows none h.2.2
  exact ⟨⟨h2, h3⟩, h.2.1, h.1⟩
theorem srtW_map (l : List GRow) : srtW l ↔ srtP (l.map GRow.Prefix) := by
  unfold srtW srtP
  rw [List.pairwise_map]
theorem srtW_set {l : List GRow} (h : srtW l) (k : Nat) (hk : k < l.length) (x : GRow) (hx : x.Prefix = l[k].Prefix) : srtW (l.set k x) := by
  rw [srtW_map] at h ⊢
  have e : (l.set k x).map GRow.Prefix = l.map GRow.Prefix := by
    rw [List.map_set, hx]
    have : (l[k]).Prefix = (l.map GRow.Prefix)[k]'(by simpa using hk) := by simp
    rw [this, List.set_getElem_self]
  rw [e]
  exact h
theorem goodRow_spec {x : GRow} : goodRow x = true ↔ goodPx x.Prefix = true ∧ x.Offers ≠ [] ∧ goodOs x.Offers = true := by
  simp [goodRow]
theorem goodOs_pw {l : List GOffer} (h : goodOs l = true) : l.Pairwise (fun a b => a.Peer < b.Peer) ∧ ∀ x ∈ l, goodO x = true := (offers_pw l none h).2
theorem goodOs_of {l : List GOffer} (h1 : l.Pairwise (fun a b => a.Peer < b.Peer)) (h2 : ∀ x ∈ l, goodO x = true) : goodOs l = true := offers_mk l none (by simp) h1 h2
theorem goodOs_drop {l : List GOffer} (n : Int) (h : goodOs l = true) : goodOs (dropO n l) = true := goodOs_filter _ h
theorem gW_erase {l : List GRow} (h : gW l) (k : Nat) : gW (l.take k ++ l.drop (k + 1)) := by
  have hs : (l.take k ++ l.drop (k + 1)).Sublist l := by
    have h1 : (l.drop (k + 1)).Sublist (l.drop k) := by
      rw [← List.drop_drop]
      exact List.drop_sublist _ _
    have h2 := List.Sublist.append_left h1 (l.take k)
    rwa [List.take_append_drop] at h2
  exact ⟨h.1.sublist hs, fun x hx => h.2 x (hs.subset hx)⟩
theorem gW_drop {l : List GRow} (p : GPrefix) (n : Int) (h : gW l) : gW (dropW p n l) ∧ (dropW p n l).length ≤ l.length := by
  unfold dropW
  split
  · split
    · rename_i x hx
      obtain ⟨hk, he⟩ := List.getElem?_eq_some_iff.1 hx
      split
      · refine ⟨gW_erase h _, ?_⟩
        rw [List.length_append, List.length_take, List.length_drop]
        omega
      · rename_i hd
        refine ⟨⟨srtW_set h.1 _ hk _ (by rw [he]), fun y hy => ?_⟩, by rw [List.length_set]; exact Nat.le_refl _⟩
        rcases List.mem_or_eq_of_mem_set hy with hy | rfl
        · exact h.2 y hy
        · have hg := goodRow_spec.1 (h.2 x (List.mem_of_getElem? hx))
          refine goodRow_spec.2 ⟨hg.1, fun e => hd ?_, goodOs_drop n hg.2.2⟩
          simp only at e
          rw [e]
          rfl
    · exact ⟨h, Nat.le_refl _⟩
  · exact ⟨h, Nat.le_refl _⟩
theorem put_split (n : Int) : ∀ l : List GOffer, l.Pairwise (fun a b => a.Peer < b.Peer) → (∀ x ∈ l.take (offAt n l), x.Peer < n) ∧ (∀ x ∈ l.drop (if offIs n l = true then offAt n l + 1 else offAt n l), n < x.Peer)
  | [], _ => by simp
  | x :: l, h => by
    have h' := List.pairwise_cons.1 h
    obtain ⟨g1, g2⟩ := put_split n l h'.2
    have hb := bs_cons (fun o : GOffer => cmpI o.Peer n) x l
    unfold offIs offAt at *
    by_cases hc : cmpI x.Peer n < 0
    · rw [(hb.1 hc).1, (hb.1 hc).2]
      rw [cmpI_lt] at hc
      refine ⟨fun y hy => ?_, fun y hy => g2 y ?_⟩
      · rw [List.take_succ_cons] at hy
        rcases List.mem_cons.1 hy with rfl | hy
        · exact hc
        · exact g1 y hy
      · split at hy <;> rename_i hf
        · rw [if_pos hf]; rwa [List.drop_succ_cons] at hy
        · rw [if_neg hf]; rwa [List.drop_succ_cons] at hy
    · rw [(hb.2 hc).1, (hb.2 hc).2]
      rw [cmpI_lt] at hc
      refine ⟨by simp, fun y hy => ?_⟩
      split at hy <;> rename_i hf
      · have hx : x.Peer = n := (cmpI_eq _ _).1 (by simpa using hf)
        rw [Nat.zero_add, List.drop_succ_cons, List.drop_zero] at hy
        rw [← hx]; exact h'.1 y hy
      · have hx : ¬ x.Peer = n := fun e => hf (by rw [← cmpI_eq] at e; simp [e])
        rw [List.drop_zero] at hy
        rcases List.mem_cons.1 hy with rfl | hy
        · omega
        · have := h'.1 y hy
          omega
theorem goodOs_put {l : List GOffer} {o : GOffer} (h : goodOs l = true) (ho : goodO o = true) : goodOs (putO o l) = true := by
  obtain ⟨h1, h2⟩ := goodOs_pw h
  obtain ⟨g1, g2⟩ := put_split o.Peer l h1
  unfold putO
  refine goodOs_of ?_ fun x hx => ?_
  · refine List.pairwise_append.2 ⟨h1.sublist (List.take_sublist _ _), List.pairwise_cons.2 ⟨g2, h1.sublist (List.drop_sublist _ _)⟩, fun a ha b hb => ?_⟩
    rcases List.mem_cons.1 hb with rfl | hb
    · exact g1 a ha
    · have := g1 a ha
      have := g2 b hb
      omega
  · rcases List.mem_append.1 hx with hx | hx
    · exact h2 x (List.mem_of_mem_take hx)
    · rcases List.mem_cons.1 hx with rfl | hx
      · exact ho
      · exact h2 x (List.mem_of_mem_drop hx)
theorem row_split (p : GPrefix) : ∀ l : List GRow, srtW l → rowIs p l = false → (∀ x ∈ l.take (rowAt p l), cmpPx x.Prefix p < 0) ∧ (∀ x ∈ l.drop (rowAt p l), cmpPx p x.Prefix < 0)
  | [], _, _ => by simp
  | x :: l, h, hf => by
    have h' := List.pairwise_cons.1 h
    have hb := bs_cons (fun x : GRow => cmpPx x.Prefix p) x l
    unfold rowIs at hf
    by_cases hc : cmpPx x.Prefix p < 0
    · rw [(hb.1 hc).2] at hf
      obtain ⟨g1, g2⟩ := row_split p l h'.2 hf
      unfold rowAt at *
      rw [(hb.1 hc).1]
      refine ⟨fun y hy => ?_, fun y hy => g2 y (by rwa [List.drop_succ_cons] at hy)⟩
      rw [List.take_succ_cons] at hy
      rcases List.mem_cons.1 hy with rfl | hy
      · exact hc
      · exact g1 y hy
    · rw [(hb.2 hc).2] at hf
      unfold rowAt
      rw [(hb.2 hc).1]
      have hx : cmpPx p x.Prefix < 0 := cmpPx_ngt hc fun e => by
        rw [← cmpPx_eq] at e
        simp [e] at hf
      refine ⟨by simp, fun y hy => ?_⟩
      rw [List.drop_zero] at hy
      rcases List.mem_cons.1 hy with rfl | hy
      · exact hx
      · exact ltP_trans hx (h'.1 y hy)
theorem putO_nil (o : GOffer) : putO o [] = [o] := by simp [putO, offAt, offIs, bsI, bsF]
theorem gW_put {l : List GRow} {p : GPrefix} {o : GOffer} (h : gW l) (hp : goodPx p = true) (ho : goodO o = true) : gW (putW p o l) ∧ (putW p o l).length ≤ l.length + 1 := by
  unfold putW
  split
  · split
    · rename_i x hx
      obtain ⟨hk, he⟩ := List.getElem?_eq_some_iff.1 hx
      refine ⟨⟨srtW_set h.1 _ hk _ (by rw [he]), fun y hy => ?_⟩, by rw [List.length_set]; omega⟩
      rcases List.mem_or_eq_of_mem_set hy with hy | rfl
      · exact h.2 y hy
      · have hg := goodRow_spec.1 (h.2 x (List.mem_of_getElem? hx))
        refine goodRow_spec.2 ⟨hg.1, ?_, goodOs_put hg.2.2 ho⟩
        simp [putO]
    · exact ⟨h, by omega⟩
  · rename_i hf
    obtain ⟨g1, g2⟩ := row_split p l h.1 (by simpa using hf)
    refine ⟨⟨?_, fun y hy => ?_⟩, ?_⟩
    · refine List.pairwise_append.2 ⟨h.1.sublist (List.take_sublist _ _), List.pairwise_cons.2 ⟨g2, h.1.sublist (List.drop_sublist _ _)⟩, fun a ha b hb => ?_⟩
      rcases List.mem_cons.1 hb with rfl | hb
      · exact g1 a ha
      · exact ltP_trans (g1 a ha) (g2 b hb)
    · rcases List.mem_append.1 hy with hy | hy
      · exact h.2 y (List.mem_of_mem_take hy)
      · rcases List.mem_cons.1 hy with rfl | hy
        · refine goodRow_spec.2 ⟨hp, by simp, goodOs_of (by simp) (by simpa using ho)⟩
        · exact h.2 y (List.mem_of_mem_drop hy)
    · rw [List.length_append, List.length_cons, List.length_take, List.length_drop]
      omega
def prefsOf (r : GRib) : List GPrefix := r.Rows.map GRow.Prefix
/-- The prefixes whose best ones are unlike. -/
def changedG (a b : GRib) : List GPrefix := (putAll [] (prefsOf a ++ prefsOf b)).filter fun p => !decide (bestR a p = bestR b p)
theorem changedG_len (a b : GRib) : (changedG a b).length ≤ a.Rows.length + b.Rows.length := by
  unfold changedG
  refine Nat.le_trans (List.length_filter_le _ _) (Nat.le_trans (putAll_len _ _) ?_)
  simp [prefsOf]
def dropsW (n : Int) (ps : List GPrefix) (l : List GRow) : List GRow := ps.foldl (fun l p => dropW p n l) l
def putsW (o : GOffer) (ps : List GPrefix) (l : List GRow) : List GRow := ps.foldl (fun l p => putW p o l) l
theorem dropsW_snoc (n : Int) (ps : List GPrefix) (p : GPrefix) (l : List GRow) : dropsW n (ps ++ [p]) l = dropW p n (dropsW n ps l) := by simp [dropsW, List.foldl_append]
theorem putsW_snoc (o : GOffer) (ps : List GPrefix) (p : GPrefix) (l : List GRow) : putsW o (ps ++ [p]) l = putW p o (putsW o ps l) := by simp [putsW, List.foldl_append]
theorem gW_drops (n : Int) : ∀ (ps : List GPrefix) (l : List GRow), gW l → gW (dropsW n ps l) ∧ (dropsW n ps l).length ≤ l.length
  | [], l, h => ⟨h, Nat.le_refl _⟩
  | p :: ps, l, h => by
    obtain ⟨h1, h2⟩ := gW_drop p n h
    obtain ⟨h3, h4⟩ := gW_drops n ps (dropW p n l) h1
    exact ⟨h3, Nat.le_trans h4 h2⟩
theorem gW_puts {o : GOffer} (ho : goodO o = true) : ∀ (ps : List GPrefix) (l : List GRow), (∀ p ∈ ps, goodPx p = true) → gW l → gW (putsW o ps l) ∧ (putsW o ps l).length ≤ l.length + ps.length
  | [], l, _, h => ⟨h, Nat.le_refl _⟩
  | p :: ps, l, hp, h => by
    obtain ⟨h1, h2⟩ := gW_put h (hp p (by simp)) ho
    obtain ⟨h3, h4⟩ := gW_puts ho ps (putW p o l) (fun q hq => hp q (List.mem_cons_of_mem _ hq)) h1
    refine ⟨h3, Nat.le_trans h4 ?_⟩
    rw [List.length_cons]
    omega
def takeW (r : GRib) (n : Int) (u : GUpdate) : GRib := ⟨r.Own, putsW ⟨n, u.Attrs⟩ u.Come (dropsW n u.Gone r.Rows)⟩
/-- What TakeUpdate answers. -/
def rTakeUpdate (r : GRib) (n : Int) (u : GUpdate) : GRib × List GPrefix × Bool := if goodRib r = true ∧ isPeerB n = true ∧ goodU u = true ∧ goodRib (takeW r n u) = true then (takeW r n u, changedG r (takeW r n u), true) else (⟨0, []⟩, [], false)
theorem ok_within (n lo hi : Int) : CallOK Tryz.prog 125 [.c (pi n), .c (pi lo), .c (pi hi)] (.c (pb (decide (lo ≤ n ∧ n ≤ hi)))) [.c (pi n), .c (pi lo), .c (pi hi)] := by
  refine okS (fn := Tryz.f125) [] h0 Tryz.func125 (by kernel_rfl) rfl Tryz.ntmps125 Tryz.results125 (by simp) ?_
  simp
  refine gT (fun h => ?_) (fun h => ?_) <;> simp [h]
theorem ok_l1In (n lo hi : Int) : CallOK Tryz.prog 102 [.c (pi n), .c (pi lo), .c (pi hi)] (.c (pb (decide (lo ≤ n ∧ n ≤ hi)))) [.c (pi n), .c (pi lo), .c (pi hi)] := by
  refine okS (fn := Tryz.f102) [] h0 Tryz.func102 (by kernel_rfl) rfl Tryz.ntmps102 Tryz.results102 (by simp) ?_
  simp
  refine gT (fun h => ?_) (fun h => ?_) <;> simp [h]
theorem inR_t {n lo hi : Int} (h : lo ≤ n ∧ n ≤ hi) : inR n lo hi = true := by simp [inR, h]
theorem ok_isAsn (n : Int) : CallOK Tryz.prog 95 [.c (pi n)] (.c (pb (isAsnB n))) [.c (pi n)] := by
  refine okS (fn := Tryz.f95) [] h0 Tryz.func95 (by kernel_rfl) rfl Tryz.ntmps95 Tryz.results95 (by simp) ?_
  simp
  refine Inv_intro (ok_within _ _ _) ?_
  simp [isAsnB, inR]
theorem ok_isAddr (n : Int) : CallOK Tryz.prog 150 [.c (pi n)] (.c (pb (inR n 0 4294967295))) [.c (pi n)] := by
  refine okS (fn := Tryz.f150) [] h0 Tryz.func150 (by kernel_rfl) rfl Tryz.ntmps150 Tryz.results150 (by simp) ?_
  simp
  refine Inv_intro (ok_within _ _ _) ?_
  simp [inR]
theorem ok_l1Addr (n : Int) : CallOK Tryz.prog 155 [.c (pi n)] (.c (pb (inR n 0 4294967295))) [.c (pi n)] := by
  refine okS (fn := Tryz.f155) [] h0 Tryz.func155 (by kernel_rfl) rfl Tryz.ntmps155 Tryz.results155 (by simp) ?_
  simp
  refine Inv_intro (ok_l1In _ _ _) ?_
  simp [inR]
theorem ok_sizeOf (n : Int) (h1 : 0 ≤ n) (h2 : n ≤ 32) : CallOK Tryz.prog 151 [.c (pi n)] (.c (pi (szP n))) [.c (pi n)] := by
  refine okS (fn := Tryz.f151) [] h0 Tryz.func151 (by kernel_rfl) rfl Tryz.ntmps151 Tryz.results151 (by simp) ?_
  have hw : IntKind.wrap .i64 (32 - n) = 32 - n := wrap64 (by omega) (by omega)
  have hs := shl_pow (32 - n).toNat (by omega)
  have hn : 0 ≤ 32 - n := by omega
  simp [hw, h2]
  simpa [szP] using hs
theorem ok_l1Size (p : GPrefix) (h1 : 0 ≤ p.Len) (h2 : p.Len ≤ 32) : CallOK Tryz.prog 156 [.agg p.c] (.c (pi (szP p.Len))) [.agg p.c] := by
  refine okS (fn := Tryz.f156) [] h0 Tryz.func156 (by kernel_rfl) rfl Tryz.ntmps156 Tryz.results156 (by simp) ?_
  have hw : IntKind.wrap .i64 (32 - p.Len) = 32 - p.Len := wrap64 (by omega) (by omega)
  have hw2 : IntKind.wrap .u64 (32 - p.Len) = 32 - p.Len := by
    show (32 - p.Len) % 18446744073709551616 = _
    omega
  have hs := shl_pow (32 - p.Len).toNat (by omega)
  have hn : 0 ≤ 32 - p.Len := by omega
  simp [hw, hw2, h2]
  simpa [szP] using hs
theorem ok_iGoodPrefix (p : GPrefix) : CallOK Tryz.prog 96 [.agg p.c] (.c (pb (goodPx p))) [.agg p.c] := by
  refine okS (fn := Tryz.f96) [] h0 Tryz.func96 (by kernel_rfl) rfl Tryz.ntmps96 Tryz.results96 (by simp) ?_
  simp
  have hz := pow_ne (32 - p.Len).toNat
  by_cases c1 : 0 ≤ p.Len ∧ p.Len ≤ 32
  · refine drawP (tabEnv [] _) [⟨[.op 0 0 0], allD 20, true⟩, ⟨[.op 0 0 0], allD 20, true⟩, ⟨[], allD 20, false⟩, ⟨[], allD 20, true⟩, ⟨[.op 0 0 0], allD 20, true⟩, ⟨[.op 0 0 0], allD 20, true⟩, ⟨[], allD 20, false⟩, ⟨[], allD 20, true⟩, ⟨[], allD 20, true⟩, ⟨[.op 0 0 0], allD 20, true⟩, ⟨[.op 0 0 0], allD 20, true⟩, ⟨[.op 0 0 0], allD 20, true⟩, ⟨[.op 0 0 0], allD 20, true⟩, ⟨[], allD 20, false⟩, ⟨[], allD 20, true⟩, ⟨[], allD 20, true⟩, ⟨[], allD 20, true⟩, ⟨[], allD 20, true⟩] h0 hm (tabEnv_ok (tab_cons (ok_within p.Len 0 32) (tab_cons (ok_isAddr p.Addr) (tab_cons (ok_sizeOf p.Len c1.1 c1.2) tab_nil)))) (by kernel_rfl) (by kernel_rfl) ?_
    cases c2 : inR p.Addr 0 4294967295 with
    | false => simp [c1, c2, goodPx, inR_t c1]
    | true =>
      simp [c1, c2, goodPx, inR_t c1, szP, hz]
      try exact decide_eq_decide.2 Iff.rfl
  · refine drawP (tabEnv [] _) [⟨[.op 0 0 0], allD 20, true⟩, ⟨[.op 0 0 0], allD 20, true⟩, ⟨[], allD 20, false⟩, ⟨[], allD 20, true⟩, ⟨[.op 0 0 0], allD 20, true⟩, ⟨[.op 0 0 0], allD 20, true⟩, ⟨[], allD 20, false⟩, ⟨[], allD 20, true⟩, ⟨[], allD 20, true⟩, ⟨[.op 0 0 0], allD 20, true⟩, ⟨[.op 0 0 0], allD 20, true⟩, ⟨[.op 0 0 0], allD 20, true⟩, ⟨[.op 0 0 0], allD 20, true⟩, ⟨[], allD 20, false⟩, ⟨[], allD 20, true⟩, ⟨[], allD 20, true⟩, ⟨[], allD 20, true⟩, ⟨[], allD 20, true⟩] h0 hm (tabEnv_ok (tab_cons (ok_within p.Len 0 32) tab_nil)) (by kernel_rfl) (by kernel_rfl) ?_
    simp [c1, goodPx, inR]
theorem ok_sGoodPrefix (p : GPrefix) : CallOK Tryz.prog 99 [.agg p.c] (.c (pb (goodPx p))) [.agg p.c] := by
  refine okS (fn := Tryz.f99) [] h0 Tryz.func99 (by kernel_rfl) rfl Tryz.ntmps99 Tryz.results99 (by simp) ?_
  simp
  have hz := pow_ne (32 - p.Len).toNat
  by_cases c1 : 0 ≤ p.Len ∧ p.Len ≤ 32
  · refine drawP (tabEnv [] _) [⟨[.op 0 0 0], allD 19, true⟩, ⟨[.op 0 0 0], allD 19, true⟩, ⟨[], allD 19, false⟩, ⟨[], allD 19, true⟩, ⟨[.op 0 0 0], allD 19, true⟩, ⟨[.op 0 0 0], allD 19, true⟩, ⟨[], allD 19, false⟩, ⟨[], allD 19, true⟩, ⟨[], allD 19, true⟩, ⟨[.op 0 0 0], allD 19, true⟩, ⟨[.op 0 0 0], allD 19, true⟩, ⟨[.op 0 0 0], allD 19, true⟩, ⟨[], allD 19, false⟩, ⟨[], allD 19, true⟩, ⟨[], allD 19, true⟩, ⟨[], allD 19, true⟩, ⟨[], allD 19, true⟩] h0 hm (tabEnv_ok (tab_cons (ok_l1In p.Len 0 32) (tab_cons (ok_l1Addr p.Addr) (tab_cons (ok_l1Size p c1.1 c1.2) tab_nil)))) (by kernel_rfl) (by kernel_rfl) ?_
    cases c2 : inR p.Addr 0 4294967295 with
    | false => simp [c1, c2, goodPx, inR_t c1]
    | true =>
      simp [c1, c2, goodPx, inR_t c1, szP, hz]
      try exact decide_eq_decide.2 Iff.rfl
  · refine drawP (tabEnv [] _) [⟨[.op 0 0 0], allD 19, true⟩, ⟨[.op 0 0 0], allD 19, true⟩, ⟨[], allD 19, false⟩, ⟨[], allD 19, true⟩, ⟨[.op 0 0 0], allD 19, true⟩, ⟨[.op 0 0 0], allD 19, true⟩, ⟨[], allD 19, false⟩, ⟨[], allD 19, true⟩, ⟨[], allD 19, true⟩, ⟨[.op 0 0 0], allD 19, true⟩, ⟨[.op 0 0 0], allD 19, true⟩, ⟨[.op 0 0 0], allD 19, true⟩, ⟨[], allD 19, false⟩, ⟨[], allD 19, true⟩, ⟨[], allD 19, true⟩, ⟨[], allD 19, true⟩, ⟨[], allD 19, true⟩] h0 hm (tabEnv_ok (tab_cons (ok_l1In p.Len 0 32) tab_nil)) (by kernel_rfl) (by kernel_rfl) ?_
    simp [c1, goodPx, inR]
theorem ok_isNaNI (s : Int) : CallOK Tryz.prog 184 [.c (pi s)] (.c (pb false)) [.c (pi s)] := by
  refine okS (fn := Tryz.f184) [] h0 Tryz.func184 (by kernel_rfl) rfl Tryz.ntmps184 Tryz.results184 (by simp) ?_
  simp
theorem ok_cmpI (u v : Int) : CallOK Tryz.prog 153 [.c (pi u), .c (pi v)] (.c (pi (cmpI u v))) [.c (pi u), .c (pi v)] := by
  refine okS (fn := Tryz.f153) [] h0 Tryz.func153 (by kernel_rfl) rfl Tryz.ntmps153 Tryz.results153 (by simp) ?_
  simp
  refine Inv_intro (ok_isNaNI u) ?_
  simp
  refine Inv_intro (ok_isNaNI v) ?_
  simp
  refine brn_app (fun a => ?_) (fun a => ?_)
  · simp at a
    simp [cmpI, a]
  · simp at a
    have a' : ¬ u < v := by omega
    simp
    refine brn_app (fun b => ?_) (fun b => ?_)
    · simp at b
      simp [cmpI, a', b]
    · simp at b
      have b' : ¬ v < u := by omega
      simp [cmpI, a', b']
theorem ok_orI (k : Nat) (xs : List Int) (hx : xs.length ≤ 140737488351232) : CallOK Tryz.prog 152 [.c (rd k xs.length (xs.map pi))] (.c (pi (orI xs))) [.c (rd k xs.length (xs.map pi))] := by
  refine okS (fn := Tryz.f152) [] h0 Tryz.func152 (by kernel_rfl) rfl Tryz.ntmps152 Tryz.results152 (by simp) ?_
  simp
  refine loopS [3, 6, 7, 8] [] (fun n st => ∃ (i : Nat), i + n = xs.length ∧ orI (xs.drop i) = orI xs ∧ st = ⟨slOf 18 [(3, .t (pi 0)), (6, .t (rd k xs.length (xs.map pi))), (7, .t (pi xs.length)), (8, .t (pi i))], ofL []⟩) xs.length ?_ ?_
  · rintro Inv hI
    simp
    subst hI
    exact ⟨0, by omega, rfl, rfl⟩
  · rintro Inv hI n st ⟨i, hi, hf, rfl⟩
    refine ewr_sound (M := []) h0 ?_
    simp
    refine brn_app (fun a => ?_) (fun a => ?_)
    · simp at a
      rw [drop_step _ i a, orI] at hf
      simp [a]
      refine brn_app (fun b => ?_) (fun b => ?_)
      · simp at b
        rw [if_neg b] at hf
        simp [hf]
      · simp at b
        rw [if_pos b] at hf
        simp
        subst hI
        exact Less_mk (n - 1) (by omega) ⟨i + 1, by omega, hf, by rw [wrNext i (by omega)]⟩
    · simp at a
      rw [List.drop_of_length_le (by omega), orI] at hf
      simp [← hf]
theorem ok_compare (p q : GPrefix) : CallOK Tryz.prog 97 [.agg p.c, .agg q.c] (.c (pi (cmpPx p q))) [.agg p.c, .agg q.c] := by
  refine okS (fn := Tryz.f97) [] h0 Tryz.func97 (by kernel_rfl) rfl Tryz.ntmps97 Tryz.results97 (by simp) ?_
  simp
  have ho := ok_orI 0 [cmpI p.Addr q.Addr, cmpI p.Len q.Len] (by simp)
  simp at ho
  refine drawP (fnEnv 153 (fI2 fun a b => pi (cmpI a b)) (tabEnv [] _)) [⟨[.op 0 0 0], allD 17, true⟩, ⟨[.op 0 0 0], allD 17, true⟩, ⟨[.op 0 1 0], allD 17, true⟩, ⟨[.op 0 1 0], allD 17, true⟩, ⟨[], allD 17, false⟩, ⟨[.op 0 0 0], allD 17, true⟩, ⟨[.op 0 0 0], allD 17, true⟩, ⟨[.op 0 1 0], allD 17, true⟩, ⟨[.op 0 1 0], allD 17, true⟩, ⟨[], allD 17, false⟩, ⟨[], allD 17, false⟩, ⟨[.op 1 10 0], [5, 6, 7, 8, 9, 10, 11, 12, 13, 14, 15, 16, 4], false⟩, ⟨[], allD 17, true⟩] h0 hm (fnEnv_ok (tabEnv_ok (tab_cons ho tab_nil)) (fI2_ok ok_cmpI)) (by kernel_rfl) (by kernel_rfl) ?_
  simp
  by_cases c : cmpI p.Addr q.Addr = 0
  · by_cases d : cmpI p.Len q.Len = 0 <;> simp [orI, cmpPx, c, d]
  · simp [orI, cmpPx, c]
theorem ok_l1Compare (p q : GPrefix) : CallOK Tryz.prog 101 [.agg p.c, .agg q.c] (.c (pi (cmpPx p q))) [.agg p.c, .agg q.c] := by
  refine okS (fn := Tryz.f101) [] h0 Tryz.func101 (by kernel_rfl) rfl Tryz.ntmps101 Tryz.results101 (by simp) ?_
  by_cases a1 : p.Addr < q.Addr
  · simp [a1, cmpPx, cmpI]
  · by_cases a2 : p.Addr = q.Addr
    · by_cases b1 : p.Len < q.Len
      · simp [a1, a2, b1, cmpPx, cmpI]
      · by_cases b2 : p.Len = q.Len
        · simp [a2, b2, cmpPx, cmpI]
        · have b3 : q.Len < p.Len := by omega
          simp [a2, b1, b2, b3, cmpPx, cmpI]
    · have a3 : q.Addr < p.Addr := by omega
      simp [a1, a2, a3, cmpPx, cmpI]
theorem ok_findOffer1 (k : Nat) (o : GOffer) (n : Int) : CallOK Tryz.prog 159 [.agg (GOffer.ci k o), .c (pi n)] (.c (pi (cmpI o.Peer n))) [.agg (GOffer.ci k o), .c (pi n)] := by
  refine okS (fn := Tryz.f159) [] h0 Tryz.func159 (by kernel_rfl) rfl Tryz.ntmps159 Tryz.results159 (by simp) ?_
  simp
  refine Inv_intro (ok_cmpI o.Peer n) ?_
  simp
theorem ok_BS_Offer (k : Nat) (xs : List GOffer) (n : Int) (hl : xs.length ≤ 140737488351232) (hmono : ∀ (i j : Nat) (hij : i < j) (hj : j < xs.length), cmpI xs[j].Peer n < 0 → cmpI xs[i].Peer n < 0) :
    CallOK Tryz.prog 158 [.c (rd k xs.length (xs.flatMap (GOffer.ci k))), .c (pi n), .c (.fn 0 159 [])] (.tup [.c (pi (bsI (fun o : GOffer => cmpI o.Peer n) xs)), .c (pb (bsF (fun o : GOffer => cmpI o.Peer n) xs))]) [.c (rd k xs.length (xs.flatMap (GOffer.ci k))), .c (pi n), .c (.fn 0 159 [])] := by
  refine okS (fn := Tryz.f158) [] h0 Tryz.func158 (by kernel_rfl) rfl Tryz.ntmps158 Tryz.results158 (by simp) ?_
  simp
  refine loopS [0, 1, 2, 8, 9, 10] [] (fun m st => ∃ (i j : Nat), i + m = j ∧ j ≤ xs.length ∧ (∀ (q : Nat) (hq : q < i) (hl : q < xs.length), cmpI xs[q].Peer n < 0) ∧ (∀ (q : Nat) (hq : j ≤ q) (hl : q < xs.length), 0 ≤ cmpI xs[q].Peer n) ∧ st = ⟨slOf 49 [(0, .t (rd k xs.length (xs.flatMap (GOffer.ci k)))), (1, .t (pi n)), (2, .t (.fn 0 159 [])), (8, .t (pi xs.length)), (9, .t (pi i)), (10, .t (pi j))], ofL []⟩) xs.length ?_ ?_
  · rintro Inv hI
    simp
    subst hI
    exact ⟨0, xs.length, by omega, by omega, by intro q hq; omega, by intro q hq h; omega, rfl⟩
  · rintro Inv hI m st ⟨i, j, hm, hj, hlo, hhi, rfl⟩
    refine ewr_sound (M := []) h0 ?_
    simp
    refine brn_app (fun a => ?_) (fun a => ?_)
    · simp at a
      have hw0 : IntKind.wrap .i64 ((i : Int) + j) = (i : Int) + j := wrap64 (by omega) (by omega)
      have hw := half_u64 i j (by omega)
      obtain ⟨h, hh⟩ : ∃ h, h = (i + j) / 2 := ⟨_, rfl⟩
      rw [← hh] at hw
      have hb : h < xs.length := by omega
      have hd := fm_drop (GOffer.ci k) 7 (fun _ => rfl) xs h hb
      have hlen := fm_len (GOffer.ci k) 7 (fun _ => rfl) xs
      have hlt : h * 7 < xs.length * 7 := by omega
      simp [hw0, hw, hb, hd, hlen, hlt]
      refine Inv_intro (ok_findOffer1 k xs[h] n) ?_
      simp
      refine brn_app (fun b => ?_) (fun b => ?_)
      · simp at b
        have hn1 : IntKind.wrap .i64 ((h : Int) + 1) = ((h + 1 : Nat) : Int) := wrNext h (by omega)
        simp
        subst hI
        refine Less_mk (j - (h + 1)) (by omega) ⟨h + 1, j, by omega, hj, ?_, hhi, by rw [hn1]⟩
        intro q hq hql
        rcases Nat.lt_or_ge q h with h' | h'
        · exact hmono q h h' hb b
        · have : q = h := by omega
          subst this
          exact b
      · simp at b
        simp
        subst hI
        refine Less_mk (h - i) (by omega) ⟨i, h, by omega, by omega, hlo, ?_, rfl⟩
        intro q hq hql
        rcases Nat.eq_or_lt_of_le hq with h' | h'
        · subst h'
          exact b
        · exact Int.not_lt.1 fun hc => by have := hmono h q h' hql hc; omega
    · simp at a
      have hij : i = j := by omega
      subst hij
      have e1 : bsI (fun o : GOffer => cmpI o.Peer n) xs = i := bsI_eq _ xs i hj hlo fun h => hhi i (Nat.le_refl _) h
      simp
      by_cases hb : i < xs.length
      · have hd := fm_drop (GOffer.ci k) 7 (fun _ => rfl) xs i hb
        have hlen := fm_len (GOffer.ci k) 7 (fun _ => rfl) xs
        have hlt : i * 7 < xs.length * 7 := by omega
        have e2 : bsF (fun o : GOffer => cmpI o.Peer n) xs = decide (cmpI xs[i].Peer n = 0) := by simp only [bsF, e1, List.getElem?_eq_getElem hb]
        simp [hb, hd, hlen, hlt]
        refine Inv_intro (ok_findOffer1 k xs[i] n) ?_
        simp [e1, e2]
      · have e2 : bsF (fun o : GOffer => cmpI o.Peer n) xs = false := by simp only [bsF, e1, List.getElem?_eq_none (Nat.le_of_not_lt hb)]
        simp [hb, e1, e2]
theorem ok_findRow1 (k : Nat) (o : GRow) (n : GPrefix) : CallOK Tryz.prog 165 [.agg (GRow.ci k o), .agg n.c] (.c (pi (cmpPx o.Prefix n))) [.agg (GRow.ci k o), .agg n.c] := by
  refine okS (fn := Tryz.f165) [] h0 Tryz.func165 (by kernel_rfl) rfl Tryz.ntmps165 Tryz.results165 (by simp) ?_
  simp
  refine Inv_intro (ok_compare o.Prefix n) ?_
  simp
theorem ok_BS_Row (k : Nat) (xs : List GRow) (n : GPrefix) (hl : xs.length ≤ 140737488351232) (hmono : ∀ (i j : Nat) (hij : i < j) (hj : j < xs.length), cmpPx xs[j].Prefix n < 0 → cmpPx xs[i].Prefix n < 0) :
    CallOK Tryz.prog 164 [.c (rd k xs.length (xs.flatMap (GRow.ci k))), .agg n.c, .c (.fn 0 165 [])] (.tup [.c (pi (bsI (fun o : GRow => cmpPx o.Prefix n) xs)), .c (pb (bsF (fun o : GRow => cmpPx o.Prefix n) xs))]) [.c (rd k xs.length (xs.flatMap (GRow.ci k))), .agg n.c, .c (.fn 0 165 [])] := by
  refine okS (fn := Tryz.f164) [] h0 Tryz.func164 (by kernel_rfl) rfl Tryz.ntmps164 Tryz.results164 (by simp) ?_
  simp
  refine loopS [0, 2, 4, 8, 9, 10] [.op 0 0 0] (fun m st => ∃ (i j : Nat), i + m = j ∧ j ≤ xs.length ∧ (∀ (q : Nat) (hq : q < i) (hl : q < xs.length), cmpPx xs[q].Prefix n < 0) ∧ (∀ (q : Nat) (hq : j ≤ q) (hl : q < xs.length), 0 ≤ cmpPx xs[q].Prefix n) ∧ st = ⟨slOf 49 [(0, .t (rd k xs.length (xs.flatMap (GRow.ci k)))), (2, .t (.fn 0 165 [])), (4, .ptr ⟨.op 0 0 0, []⟩ 0), (8, .t (pi xs.length)), (9, .t (pi i)), (10, .t (pi j))], ofL [(.op 0 0 0, .sl 0 77 1 n.c)]⟩) xs.length ?_ ?_
  · rintro Inv hI
    simp
    subst hI
    exact ⟨0, xs.length, by omega, by omega, by intro q hq; omega, by intro q hq h; omega, rfl⟩
  · rintro Inv hI m st ⟨i, j, hm', hj, hlo, hhi, rfl⟩
    refine ewr_sound (M := []) h0 ?_
    simp
    refine brn_app (fun a => ?_) (fun a => ?_)
    · simp at a
      have hw0 : IntKind.wrap .i64 ((i : Int) + j) = (i : Int) + j := wrap64 (by omega) (by omega)
      have hw := half_u64 i j (by omega)
      obtain ⟨h, hh⟩ : ∃ h, h = (i + j) / 2 := ⟨_, rfl⟩
      rw [← hh] at hw
      have hb : h < xs.length := by omega
      have hd := fm_drop (GRow.ci k) 3 (fun _ => rfl) xs h hb
      have hlen := fm_len (GRow.ci k) 3 (fun _ => rfl) xs
      have hlt : h * 3 < xs.length * 3 := by omega
      simp [hw0, hw]
      refine drawP (tabEnv [] _) [⟨[], allD 49, true⟩, ⟨[], allD 49, true⟩, ⟨[], allD 49, true⟩, ⟨[], allD 49, true⟩, ⟨[], allD 49, true⟩, ⟨[.op 0 0 0], allD 49, true⟩, ⟨[], allD 49, false⟩, ⟨[], allD 49, true⟩] h0 hm (tabEnv_ok (tab_cons (ok_findRow1 k xs[h] n) tab_nil)) (by kernel_rfl) (by kernel_rfl) ?_
      simp [hb, hd, hlen, hlt]
      refine brn_app (fun b => ?_) (fun b => ?_)
      · simp at b
        have hn1 : IntKind.wrap .i64 ((h : Int) + 1) = ((h + 1 : Nat) : Int) := wrNext h (by omega)
        simp
        subst hI
        refine Less_mk (j - (h + 1)) (by omega) ⟨h + 1, j, by omega, hj, ?_, hhi, by rw [hn1]; rfl⟩
        intro q hq hql
        rcases Nat.lt_or_ge q h with h' | h'
        · exact hmono q h h' hb b
        · have : q = h := by omega
          subst this
          exact b
      · simp at b
        simp
        subst hI
        refine Less_mk (h - i) (by omega) ⟨i, h, by omega, by omega, hlo, ?_, rfl⟩
        intro q hq hql
        rcases Nat.eq_or_lt_of_le hq with h' | h'
        · subst h'
          exact b
        · exact Int.not_lt.1 fun hc => by have := hmono h q h' hql hc; omega
    · simp at a
      have hij : i = j := by omega
      subst hij
      have e1 : bsI (fun o : GRow => cmpPx o.Prefix n) xs = i := bsI_eq _ xs i hj hlo fun h => hhi i (Nat.le_refl _) h
      simp
      by_cases hb : i < xs.length
      · have hd := fm_drop (GRow.ci k) 3 (fun _ => rfl) xs i hb
        have hlen := fm_len (GRow.ci k) 3 (fun _ => rfl) xs
        have hlt : i * 3 < xs.length * 3 := by omega
        have e2 : bsF (fun o : GRow => cmpPx o.Prefix n) xs = decide (cmpPx xs[i].Prefix n = 0) := by simp only [bsF, e1, List.getElem?_eq_getElem hb]
        refine drawP (tabEnv [] _) [⟨[], allD 49, true⟩, ⟨[], allD 49, true⟩, ⟨[], allD 49, true⟩, ⟨[], allD 49, true⟩, ⟨[], allD 49, true⟩, ⟨[], allD 49, true⟩, ⟨[], allD 49, true⟩, ⟨[], allD 49, true⟩, ⟨[], allD 49, true⟩, ⟨[], allD 49, true⟩, ⟨[.op 0 0 0], allD 49, true⟩, ⟨[], allD 49, false⟩, ⟨[], allD 49, true⟩, ⟨[], allD 49, true⟩, ⟨[], allD 49, true⟩, ⟨[], allD 49, true⟩] h0 hm (tabEnv_ok (tab_cons (ok_findRow1 k xs[i] n) tab_nil)) (by kernel_rfl) (by kernel_rfl) ?_
        simp [hb, hd, hlen, hlt, e1, e2]
      · have e2 : bsF (fun o : GRow => cmpPx o.Prefix n) xs = false := by simp only [bsF, e1, List.getElem?_eq_none (Nat.le_of_not_lt hb)]
        refine drawP E0 [⟨[], allD 49, true⟩, ⟨[], allD 49, true⟩, ⟨[], allD 49, true⟩, ⟨[], allD 49, true⟩, ⟨[], allD 49, true⟩, ⟨[], allD 49, true⟩, ⟨[], allD 49, true⟩, ⟨[], allD 49, true⟩, ⟨[], allD 49, true⟩, ⟨[], allD 49, true⟩, ⟨[.op 0 0 0], allD 49, true⟩, ⟨[], allD 49, false⟩, ⟨[], allD 49, true⟩, ⟨[], allD 49, true⟩, ⟨[], allD 49, true⟩, ⟨[], allD 49, true⟩] h0 hm (E0_ok _) (by kernel_rfl) (by kernel_rfl) ?_
        simp [hb, e1, e2]
end Go.V
