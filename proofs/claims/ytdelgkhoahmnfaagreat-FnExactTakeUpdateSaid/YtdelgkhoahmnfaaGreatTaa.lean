/- What functions of the seat's program do, each proved of its code, under the bounds that its theorem names. -/
import Derived.Test.YtdelgkhoahmnfaaGreatFacts
set_option linter.all false
namespace Go.V
open Go.Proofs
set_option maxHeartbeats 1000000
set_option maxRecDepth 10000
set_option linter.unusedSimpArgs false
set_option linter.unusedVariables false
theorem open_Int {n : Nat} {qs : List PT} (h : TyC Tryz.prog (n + 1) 3 qs) : ∃ x : Int, qs = [pi x] ∧ True := by
  unfold TyC at h
  rw [Tryz.underlying3] at h
  simp only at h
  obtain ⟨m, rfl, _⟩ := h
  exact ⟨m, rfl, trivial⟩
theorem open_each {α : Type} {f : α → List PT} {q : α → Prop} : ∀ {cells : List (List PT)}, (∀ c ∈ cells, ∃ x, c = f x ∧ q x) → ∃ xs : List α, cells = xs.map f ∧ ∀ x ∈ xs, q x
  | [], _ => ⟨[], rfl, by simp⟩
  | c :: cs, h => by
    obtain ⟨x, hx, hq⟩ := h c (by simp)
    obtain ⟨xs, hxs, hqs⟩ := open_each (cells := cs) fun d hd => h d (by simp [hd])
    refine ⟨x :: xs, by rw [hx, hxs]; rfl, fun y hy => ?_⟩
    rcases List.mem_cons.1 hy with rfl | hy
    · exact hq
    · exact hqs y hy
theorem open_flat {α : Type} (f : α → PT) : ∀ xs : List α, (xs.map fun x => [f x]).flatten = xs.map f
  | [] => rfl
  | x :: xs => by simp [open_flat f xs]
def wt_IntS (xs : List Int) : Nat := xs.length
theorem len_wt_IntS (xs : List Int) : xs.length ≤ wt_IntS xs := by unfold wt_IntS; omega
def fits_IntS (xs : List Int) : Prop := xs.length ≤ 140737488351232 ∧ ∀ x ∈ xs, True
def lens_IntS (xs : List Int) : Prop := xs.length ≤ 140737488351232 ∧ ∀ x ∈ xs, True
def mk_IntS (xs : List Int) (k : Int) : List Int × Int := mkR (fun (_ : Int) k => (k, k + 1)) xs k
def cn_IntS (xs : List Int) : Nat := cnR (fun (_ : Int) => 1) xs
theorem mk_IntS_len (xs : List Int) (k : Int) : (mk_IntS xs k).1.length = xs.length := mkR_len _ xs k
attribute [simp] mk_IntS_len
theorem mk_IntS_snd (xs : List Int) (k : Int) : (mk_IntS xs k).2 = k + cn_IntS xs := mkR_snd (fun _ _ => rfl) xs k
theorem lens_of_IntS {xs : List Int} (h : wt_IntS xs ≤ 1048576) : lens_IntS xs := by
  have hl := len_wt_IntS xs
  exact ⟨by omega, fun _ _ => trivial⟩
theorem cn_le_IntS (xs : List Int) : cn_IntS xs ≤ 32 * wt_IntS xs := cnR_le0 (fun _ => by omega) xs
theorem open_IntS {n : Nat} {qs : List PT} (h : TyC Tryz.prog (n + 2) 45 qs) : ∃ x : (List Int), qs = [rd 1 x.length (x.map pi)] ∧ fits_IntS x := by
  unfold TyC at h
  rw [Tryz.underlying45] at h
  simp only at h
  obtain ⟨cells, rfl, hl, hc⟩ := h
  obtain ⟨xs, rfl, hx⟩ := open_each (f := fun x : Int => [pi x]) (q := fun _ => True) (fun c hcc => open_Int (hc c hcc)) 
  refine ⟨xs, ?_, ?_⟩
  · simp only [List.length_map, open_flat]
  · have e1 : Tryz.prog.bytesOf 3 = 8 := by kernel_rfl
    rw [e1, List.length_map] at hl
    have e2 : reachBytes = 140737488351232 := rfl
    rw [e2] at hl
    exact ⟨by omega, fun _ _ => trivial⟩
structure GAttrs where
  Origin : Int
  Path : (List Int)
  Next : Int
  Med : Int
  Pref : Int
  Comms : (List Int)
  deriving DecidableEq
def GAttrs.co (x : GAttrs) : List PT := [pi x.Origin, .sl 0 3 x.Path.length (x.Path.map pi), pi x.Next, pi x.Med, pi x.Pref, .sl 0 3 x.Comms.length (x.Comms.map pi)]
def GAttrs.ci (k : Nat) (x : GAttrs) : List PT := [pi x.Origin, rd k x.Path.length (x.Path.map pi), pi x.Next, pi x.Med, pi x.Pref, rd k x.Comms.length (x.Comms.map pi)]
attribute [simp] GAttrs.co GAttrs.ci
theorem GAttrs.len_i (k : Nat) (x : GAttrs) : (x.ci k).length = 6 := rfl
theorem GAttrs.un1 (x : GAttrs) : PT.unownL x.co = x.ci 0 := by simp [rd]
theorem GAttrs.uni1 (k : Nat) (x : GAttrs) : PT.unownL (x.ci k) = x.ci 0 := by simp [rd]
theorem GAttrs.un (xs : List GAttrs) : PT.unownL (xs.flatMap GAttrs.co) = xs.flatMap (GAttrs.ci 0) := by
  rw [unownL_fm]
  congr 1
  funext x
  exact GAttrs.un1 x
theorem GAttrs.uni (k : Nat) (xs : List GAttrs) : PT.unownL (xs.flatMap (GAttrs.ci k)) = xs.flatMap (GAttrs.ci 0) := by
  rw [unownL_fm]
  congr 1
  funext x
  exact GAttrs.uni1 k x
theorem GAttrs.nt (xs : List GAttrs) : PT.noTmpL (xs.flatMap GAttrs.co) = true := noTmpL_fm _ xs fun x => by simp
theorem GAttrs.nti (k : Nat) (xs : List GAttrs) : PT.noTmpL (xs.flatMap (GAttrs.ci (k + 1))) = true := noTmpL_fm _ xs fun x => by simp [rd]
attribute [simp] GAttrs.un GAttrs.uni GAttrs.nt GAttrs.nti
theorem GAttrs.lenR (xs : List GAttrs) : (xs.flatMap GAttrs.co).length = xs.length * 6 := fm_len _ 6 (fun _ => rfl) xs
theorem GAttrs.lenRi (k : Nat) (xs : List GAttrs) : (xs.flatMap (GAttrs.ci k)).length = xs.length * 6 := fm_len _ 6 (fun _ => rfl) xs
theorem GAttrs.tkR (xs : List GAttrs) : (xs.flatMap GAttrs.co).take (xs.length * 6) = xs.flatMap GAttrs.co := List.take_of_length_le (by rw [GAttrs.lenR]; exact Nat.le_refl _)
theorem GAttrs.tkRi (k : Nat) (xs : List GAttrs) : (xs.flatMap (GAttrs.ci k)).take (xs.length * 6) = xs.flatMap (GAttrs.ci k) := List.take_of_length_le (by rw [GAttrs.lenRi]; exact Nat.le_refl _)
attribute [simp high] GAttrs.lenR GAttrs.tkR GAttrs.lenRi GAttrs.tkRi
def GAttrs.wt (x : GAttrs) : Nat := wt_IntS x.Path + wt_IntS x.Comms
def GAttrs.fits (x : GAttrs) : Prop := fits_IntS x.Path ∧ fits_IntS x.Comms
def GAttrs.lens (x : GAttrs) : Prop := lens_IntS x.Path ∧ lens_IntS x.Comms
def GAttrs.mark (x : GAttrs) (k : Int) : GAttrs × Int := (⟨k, (mk_IntS x.Path (k + 1)).1, (mk_IntS x.Path (k + 1)).2, ((mk_IntS x.Path (k + 1)).2 + 1), (((mk_IntS x.Path (k + 1)).2 + 1) + 1), (mk_IntS x.Comms ((((mk_IntS x.Path (k + 1)).2 + 1) + 1) + 1)).1⟩, (mk_IntS x.Comms ((((mk_IntS x.Path (k + 1)).2 + 1) + 1) + 1)).2)
def GAttrs.cn (x : GAttrs) : Nat := 1 + cn_IntS x.Path + 1 + 1 + 1 + cn_IntS x.Comms
theorem GAttrs.mark_snd (x : GAttrs) (k : Int) : (GAttrs.mark x k).2 = k + GAttrs.cn x := by
  simp only [GAttrs.mark, GAttrs.cn, mk_IntS_snd] <;> omega
def GAttrs.markT (x : GAttrs) (k : Int) : GAttrs × Int := (⟨x.Origin, (mk_IntS x.Path k).1, x.Next, x.Med, x.Pref, (mk_IntS x.Comms (mk_IntS x.Path k).2).1⟩, (mk_IntS x.Comms (mk_IntS x.Path k).2).2)
def GAttrs.cnT (x : GAttrs) : Nat := cn_IntS x.Path + cn_IntS x.Comms
theorem GAttrs.markT_snd (x : GAttrs) (k : Int) : (GAttrs.markT x k).2 = k + GAttrs.cnT x := by
  simp only [GAttrs.markT, GAttrs.cnT, mk_IntS_snd] <;> omega
theorem lens_of_Attrs {x : GAttrs} (h : GAttrs.wt x ≤ 1048576) : GAttrs.lens x := by
  unfold GAttrs.wt at h
  exact ⟨lens_of_IntS (by omega), lens_of_IntS (by omega)⟩
theorem open_Attrs {n : Nat} {qs : List PT} (h : TyC Tryz.prog (n + 3) 47 qs) : ∃ x : GAttrs, qs = GAttrs.ci 1 x ∧ GAttrs.fits x := by
  unfold TyC at h
  rw [Tryz.underlying47] at h
  simp only [TyFs] at h
  obtain ⟨p0, q0, rfl, h0, ⟨p1, q1, rfl, h1, ⟨p2, q2, rfl, h2, ⟨p3, q3, rfl, h3, ⟨p4, q4, rfl, h4, ⟨p5, q5, rfl, h5, rfl⟩⟩⟩⟩⟩⟩ := h
  obtain ⟨x0, rfl, y0⟩ := open_Int (n := n + 1) h0
  obtain ⟨x1, rfl, y1⟩ := open_IntS (n := n + 0) h1
  obtain ⟨x2, rfl, y2⟩ := open_Int (n := n + 1) h2
  obtain ⟨x3, rfl, y3⟩ := open_Int (n := n + 1) h3
  obtain ⟨x4, rfl, y4⟩ := open_Int (n := n + 1) h4
  obtain ⟨x5, rfl, y5⟩ := open_IntS (n := n + 0) h5
  exact ⟨⟨x0, x1, x2, x3, x4, x5⟩, rfl, ⟨y1, y5⟩⟩
structure GOffer where
  Peer : Int
  Attrs : GAttrs
  deriving DecidableEq
def GOffer.co (x : GOffer) : List PT := [pi x.Peer, pi x.Attrs.Origin, .sl 0 3 x.Attrs.Path.length (x.Attrs.Path.map pi), pi x.Attrs.Next, pi x.Attrs.Med, pi x.Attrs.Pref, .sl 0 3 x.Attrs.Comms.length (x.Attrs.Comms.map pi)]
def GOffer.ci (k : Nat) (x : GOffer) : List PT := [pi x.Peer, pi x.Attrs.Origin, rd k x.Attrs.Path.length (x.Attrs.Path.map pi), pi x.Attrs.Next, pi x.Attrs.Med, pi x.Attrs.Pref, rd k x.Attrs.Comms.length (x.Attrs.Comms.map pi)]
attribute [simp] GOffer.co GOffer.ci
theorem GOffer.len_i (k : Nat) (x : GOffer) : (x.ci k).length = 7 := rfl
theorem GOffer.un1 (x : GOffer) : PT.unownL x.co = x.ci 0 := by simp [rd]
theorem GOffer.uni1 (k : Nat) (x : GOffer) : PT.unownL (x.ci k) = x.ci 0 := by simp [rd]
theorem GOffer.un (xs : List GOffer) : PT.unownL (xs.flatMap GOffer.co) = xs.flatMap (GOffer.ci 0) := by
  rw [unownL_fm]
  congr 1
  funext x
  exact GOffer.un1 x
theorem GOffer.uni (k : Nat) (xs : List GOffer) : PT.unownL (xs.flatMap (GOffer.ci k)) = xs.flatMap (GOffer.ci 0) := by
  rw [unownL_fm]
  congr 1
  funext x
  exact GOffer.uni1 k x
theorem GOffer.nt (xs : List GOffer) : PT.noTmpL (xs.flatMap GOffer.co) = true := noTmpL_fm _ xs fun x => by simp
theorem GOffer.nti (k : Nat) (xs : List GOffer) : PT.noTmpL (xs.flatMap (GOffer.ci (k + 1))) = true := noTmpL_fm _ xs fun x => by simp [rd]
attribute [simp] GOffer.un GOffer.uni GOffer.nt GOffer.nti
theorem GOffer.lenR (xs : List GOffer) : (xs.flatMap GOffer.co).length = xs.length * 7 := fm_len _ 7 (fun _ => rfl) xs
theorem GOffer.lenRi (k : Nat) (xs : List GOffer) : (xs.flatMap (GOffer.ci k)).length = xs.length * 7 := fm_len _ 7 (fun _ => rfl) xs
theorem GOffer.tkR (xs : List GOffer) : (xs.flatMap GOffer.co).take (xs.length * 7) = xs.flatMap GOffer.co := List.take_of_length_le (by rw [GOffer.lenR]; exact Nat.le_refl _)
theorem GOffer.tkRi (k : Nat) (xs : List GOffer) : (xs.flatMap (GOffer.ci k)).take (xs.length * 7) = xs.flatMap (GOffer.ci k) := List.take_of_length_le (by rw [GOffer.lenRi]; exact Nat.le_refl _)
attribute [simp high] GOffer.lenR GOffer.tkR GOffer.lenRi GOffer.tkRi
def GOffer.wt (x : GOffer) : Nat := GAttrs.wt x.Attrs
def GOffer.fits (x : GOffer) : Prop := GAttrs.fits x.Attrs
def GOffer.lens (x : GOffer) : Prop := GAttrs.lens x.Attrs
def GOffer.mark (x : GOffer) (k : Int) : GOffer × Int := (⟨k, ⟨(k + 1), (mk_IntS x.Attrs.Path ((k + 1) + 1)).1, (mk_IntS x.Attrs.Path ((k + 1) + 1)).2, ((mk_IntS x.Attrs.Path ((k + 1) + 1)).2 + 1), (((mk_IntS x.Attrs.Path ((k + 1) + 1)).2 + 1) + 1), (mk_IntS x.Attrs.Comms ((((mk_IntS x.Attrs.Path ((k + 1) + 1)).2 + 1) + 1) + 1)).1⟩⟩, (mk_IntS x.Attrs.Comms ((((mk_IntS x.Attrs.Path ((k + 1) + 1)).2 + 1) + 1) + 1)).2)
def GOffer.cn (x : GOffer) : Nat := 1 + 1 + cn_IntS x.Attrs.Path + 1 + 1 + 1 + cn_IntS x.Attrs.Comms
theorem GOffer.mark_snd (x : GOffer) (k : Int) : (GOffer.mark x k).2 = k + GOffer.cn x := by
  simp only [GOffer.mark, GOffer.cn, mk_IntS_snd] <;> omega
def GOffer.markT (x : GOffer) (k : Int) : GOffer × Int := (⟨x.Peer, ⟨x.Attrs.Origin, (mk_IntS x.Attrs.Path k).1, x.Attrs.Next, x.Attrs.Med, x.Attrs.Pref, (mk_IntS x.Attrs.Comms (mk_IntS x.Attrs.Path k).2).1⟩⟩, (mk_IntS x.Attrs.Comms (mk_IntS x.Attrs.Path k).2).2)
def GOffer.cnT (x : GOffer) : Nat := cn_IntS x.Attrs.Path + cn_IntS x.Attrs.Comms
theorem GOffer.markT_snd (x : GOffer) (k : Int) : (GOffer.markT x k).2 = k + GOffer.cnT x := by
  simp only [GOffer.markT, GOffer.cnT, mk_IntS_snd] <;> omega
theorem lens_of_Offer {x : GOffer} (h : GOffer.wt x ≤ 1048576) : GOffer.lens x := by
  unfold GOffer.wt at h
  exact lens_of_Attrs (by omega)
theorem cnE_le_Offer (x : GOffer) : GOffer.cn x ≤ 32 * GOffer.wt x + 16 := by
  unfold GOffer.cn GOffer.wt
  have := cn_le_IntS x.Attrs.Path
  have := cn_le_IntS x.Attrs.Comms
  simp only [GAttrs.wt]
  omega
theorem open_Offer {n : Nat} {qs : List PT} (h : TyC Tryz.prog (n + 4) 195 qs) : ∃ x : GOffer, qs = GOffer.ci 1 x ∧ GOffer.fits x := by
  unfold TyC at h
  rw [Tryz.underlying195] at h
  simp only [TyFs] at h
  obtain ⟨p0, q0, rfl, h0, ⟨p1, q1, rfl, h1, rfl⟩⟩ := h
  obtain ⟨x0, rfl, y0⟩ := open_Int (n := n + 2) h0
  obtain ⟨x1, rfl, y1⟩ := open_Attrs (n := n + 0) h1
  exact ⟨⟨x0, x1⟩, rfl, y1⟩
def wt_OfferS (xs : List GOffer) : Nat := wtR GOffer.wt xs
theorem len_wt_OfferS (xs : List GOffer) : xs.length ≤ wt_OfferS xs := by unfold wt_OfferS wtR; omega
theorem mem_wt_OfferS {xs : List GOffer} {x : GOffer} (h : x ∈ xs) : GOffer.wt x ≤ wt_OfferS xs := by
  have := wt_mem GOffer.wt h
  unfold wt_OfferS wtR
  omega
def fits_OfferS (xs : List GOffer) : Prop := xs.length ≤ 140737488351232 ∧ ∀ x ∈ xs, GOffer.fits x
def lens_OfferS (xs : List GOffer) : Prop := xs.length ≤ 140737488351232 ∧ ∀ x ∈ xs, GOffer.lens x
def mk_OfferS (xs : List GOffer) (k : Int) : List GOffer × Int := mkR GOffer.mark xs k
def cn_OfferS (xs : List GOffer) : Nat := cnR GOffer.cn xs
theorem mk_OfferS_len (xs : List GOffer) (k : Int) : (mk_OfferS xs k).1.length = xs.length := mkR_len _ xs k
attribute [simp] mk_OfferS_len
theorem mk_OfferS_snd (xs : List GOffer) (k : Int) : (mk_OfferS xs k).2 = k + cn_OfferS xs := mkR_snd (GOffer.mark_snd) xs k
theorem lens_of_OfferS {xs : List GOffer} (h : wt_OfferS xs ≤ 1048576) : lens_OfferS xs := by
  have hl := len_wt_OfferS xs
  exact ⟨by omega, fun x hx => lens_of_Offer (by have := mem_wt_OfferS hx; omega)⟩
theorem cn_le_OfferS (xs : List GOffer) : cn_OfferS xs ≤ 32 * wt_OfferS xs := cnR_le (fun x => by have := cnE_le_Offer x; omega) xs
theorem open_OfferS {n : Nat} {qs : List PT} (h : TyC Tryz.prog (n + 5) 146 qs) : ∃ x : (List GOffer), qs = [rd 1 x.length (x.flatMap (GOffer.ci 1))] ∧ fits_OfferS x := by
  unfold TyC at h
  rw [Tryz.underlying146] at h
  simp only at h
  obtain ⟨cells, rfl, hl, hc⟩ := h
  obtain ⟨xs, rfl, hx⟩ := open_each (f := fun x : GOffer => GOffer.ci 1 x) (q := fun x => GOffer.fits x) (fun c hcc => open_Offer (hc c hcc)) 
  refine ⟨xs, ?_, ?_⟩
  · simp only [List.length_map]
    rfl
  · have e1 : Tryz.prog.bytesOf 195 = 88 := by kernel_rfl
    rw [e1, List.length_map] at hl
    have e2 : reachBytes = 140737488351232 := rfl
    rw [e2] at hl
    exact ⟨by omega, hx⟩
structure GPrefix where
  Addr : Int
  Len : Int
  deriving DecidableEq
def GPrefix.c (x : GPrefix) : List PT := [pi x.Addr, pi x.Len]
attribute [simp] GPrefix.c
theorem GPrefix.len (x : GPrefix) : x.c.length = 2 := rfl
theorem GPrefix.un (xs : List GPrefix) : PT.unownL (xs.flatMap GPrefix.c) = xs.flatMap GPrefix.c := by
  rw [unownL_fm]
  congr 1
theorem GPrefix.nt (xs : List GPrefix) : PT.noTmpL (xs.flatMap GPrefix.c) = true := noTmpL_fm _ xs fun _ => rfl
attribute [simp] GPrefix.un GPrefix.nt
theorem GPrefix.lenR (xs : List GPrefix) : (xs.flatMap GPrefix.c).length = xs.length * 2 := fm_len _ 2 (fun _ => rfl) xs
theorem GPrefix.tkR (xs : List GPrefix) : (xs.flatMap GPrefix.c).take (xs.length * 2) = xs.flatMap GPrefix.c := List.take_of_length_le (by rw [GPrefix.lenR]; exact Nat.le_refl _)
attribute [simp high] GPrefix.lenR GPrefix.tkR
def GPrefix.wt (x : GPrefix) : Nat := 0
def GPrefix.fits (x : GPrefix) : Prop := True
def GPrefix.mark (x : GPrefix) (k : Int) : GPrefix × Int := (⟨k, (k + 1)⟩, ((k + 1) + 1))
def GPrefix.cn (x : GPrefix) : Nat := 1 + 1
theorem GPrefix.mark_snd (x : GPrefix) (k : Int) : (GPrefix.mark x k).2 = k + GPrefix.cn x := by
  simp only [GPrefix.mark, GPrefix.cn] <;> omega
theorem cnE_le_Prefix (x : GPrefix) : GPrefix.cn x ≤ 32 * GPrefix.wt x + 16 := by
  unfold GPrefix.cn
  omega
theorem open_Prefix {n : Nat} {qs : List PT} (h : TyC Tryz.prog (n + 2) 145 qs) : ∃ x : GPrefix, qs = GPrefix.c x ∧ True := by
  unfold TyC at h
  rw [Tryz.underlying145] at h
  simp only [TyFs] at h
  obtain ⟨p0, q0, rfl, h0, ⟨p1, q1, rfl, h1, rfl⟩⟩ := h
  obtain ⟨x0, rfl, y0⟩ := open_Int (n := n + 0) h0
  obtain ⟨x1, rfl, y1⟩ := open_Int (n := n + 0) h1
  exact ⟨⟨x0, x1⟩, rfl, trivial⟩
structure GRow where
  Prefix : GPrefix
  Offers : (List GOffer)
  deriving DecidableEq
def GRow.co (x : GRow) : List PT := [pi x.Prefix.Addr, pi x.Prefix.Len, .sl 0 81 x.Offers.length (x.Offers.flatMap GOffer.co)]
def GRow.ci (k : Nat) (x : GRow) : List PT := [pi x.Prefix.Addr, pi x.Prefix.Len, rd k x.Offers.length (x.Offers.flatMap (GOffer.ci k))]
attribute [simp] GRow.co GRow.ci
theorem GRow.len_i (k : Nat) (x : GRow) : (x.ci k).length = 3 := rfl
theorem GRow.un1 (x : GRow) : PT.unownL x.co = x.ci 0 := by simp [rd]
theorem GRow.uni1 (k : Nat) (x : GRow) : PT.unownL (x.ci k) = x.ci 0 := by simp [rd]
theorem GRow.un (xs : List GRow) : PT.unownL (xs.flatMap GRow.co) = xs.flatMap (GRow.ci 0) := by
  rw [unownL_fm]
  congr 1
  funext x
  exact GRow.un1 x
theorem GRow.uni (k : Nat) (xs : List GRow) : PT.unownL (xs.flatMap (GRow.ci k)) = xs.flatMap (GRow.ci 0) := by
  rw [unownL_fm]
  congr 1
  funext x
  exact GRow.uni1 k x
theorem GRow.nt (xs : List GRow) : PT.noTmpL (xs.flatMap GRow.co) = true := noTmpL_fm _ xs fun x => by simp
theorem GRow.nti (k : Nat) (xs : List GRow) : PT.noTmpL (xs.flatMap (GRow.ci (k + 1))) = true := noTmpL_fm _ xs fun x => by simp [rd]
attribute [simp] GRow.un GRow.uni GRow.nt GRow.nti
theorem GRow.lenR (xs : List GRow) : (xs.flatMap GRow.co).length = xs.length * 3 := fm_len _ 3 (fun _ => rfl) xs
theorem GRow.lenRi (k : Nat) (xs : List GRow) : (xs.flatMap (GRow.ci k)).length = xs.length * 3 := fm_len _ 3 (fun _ => rfl) xs
theorem GRow.tkR (xs : List GRow) : (xs.flatMap GRow.co).take (xs.length * 3) = xs.flatMap GRow.co := List.take_of_length_le (by rw [GRow.lenR]; exact Nat.le_refl _)
theorem GRow.tkRi (k : Nat) (xs : List GRow) : (xs.flatMap (GRow.ci k)).take (xs.length * 3) = xs.flatMap (GRow.ci k) := List.take_of_length_le (by rw [GRow.lenRi]; exact Nat.le_refl _)
attribute [simp high] GRow.lenR GRow.tkR GRow.lenRi GRow.tkRi
def GRow.wt (x : GRow) : Nat := wt_OfferS x.Offers
def GRow.fits (x : GRow) : Prop := fits_OfferS x.Offers
def GRow.lens (x : GRow) : Prop := lens_OfferS x.Offers
def GRow.mark (x : GRow) (k : Int) : GRow × Int := (⟨⟨k, (k + 1)⟩, (mk_OfferS x.Offers ((k + 1) + 1)).1⟩, (mk_OfferS x.Offers ((k + 1) + 1)).2)
def GRow.cn (x : GRow) : Nat := 1 + 1 + cn_OfferS x.Offers
theorem GRow.mark_snd (x : GRow) (k : Int) : (GRow.mark x k).2 = k + GRow.cn x := by
  simp only [GRow.mark, GRow.cn, mk_OfferS_snd] <;> omega
def GRow.markT (x : GRow) (k : Int) : GRow × Int := (⟨⟨x.Prefix.Addr, x.Prefix.Len⟩, (mk_OfferS x.Offers k).1⟩, (mk_OfferS x.Offers k).2)
def GRow.cnT (x : GRow) : Nat := cn_OfferS x.Offers
theorem GRow.markT_snd (x : GRow) (k : Int) : (GRow.markT x k).2 = k + GRow.cnT x := by
  simp only [GRow.markT, GRow.cnT, mk_OfferS_snd] <;> omega
theorem lens_of_Row {x : GRow} (h : GRow.wt x ≤ 1048576) : GRow.lens x := by
  unfold GRow.wt at h
  exact lens_of_OfferS (by omega)
theorem cnE_le_Row (x : GRow) : GRow.cn x ≤ 32 * GRow.wt x + 16 := by
  unfold GRow.cn GRow.wt
  have := cn_le_OfferS x.Offers
  omega
theorem open_Row {n : Nat} {qs : List PT} (h : TyC Tryz.prog (n + 6) 148 qs) : ∃ x : GRow, qs = GRow.ci 1 x ∧ GRow.fits x := by
  unfold TyC at h
  rw [Tryz.underlying148] at h
  simp only [TyFs] at h
  obtain ⟨p0, q0, rfl, h0, ⟨p1, q1, rfl, h1, rfl⟩⟩ := h
  obtain ⟨x0, rfl, y0⟩ := open_Prefix (n := n + 3) h0
  obtain ⟨x1, rfl, y1⟩ := open_OfferS (n := n + 0) h1
  exact ⟨⟨x0, x1⟩, rfl, y1⟩
def wt_RowS (xs : List GRow) : Nat := wtR GRow.wt xs
theorem len_wt_RowS (xs : List GRow) : xs.length ≤ wt_RowS xs := by unfold wt_RowS wtR; omega
theorem mem_wt_RowS {xs : List GRow} {x : GRow} (h : x ∈ xs) : GRow.wt x ≤ wt_RowS xs := by
  have := wt_mem GRow.wt h
  unfold wt_RowS wtR
  omega
def fits_RowS (xs : List GRow) : Prop := xs.length ≤ 140737488351232 ∧ ∀ x ∈ xs, GRow.fits x
def lens_RowS (xs : List GRow) : Prop := xs.length ≤ 140737488351232 ∧ ∀ x ∈ xs, GRow.lens x
def mk_RowS (xs : List GRow) (k : Int) : List GRow × Int := mkR GRow.mark xs k
def cn_RowS (xs : List GRow) : Nat := cnR GRow.cn xs
theorem mk_RowS_len (xs : List GRow) (k : Int) : (mk_RowS xs k).1.length = xs.length := mkR_len _ xs k
attribute [simp] mk_RowS_len
theorem mk_RowS_snd (xs : List GRow) (k : Int) : (mk_RowS xs k).2 = k + cn_RowS xs := mkR_snd (GRow.mark_snd) xs k
theorem lens_of_RowS {xs : List GRow} (h : wt_RowS xs ≤ 1048576) : lens_RowS xs := by
  have hl := len_wt_RowS xs
  exact ⟨by omega, fun x hx => lens_of_Row (by have := mem_wt_RowS hx; omega)⟩
theorem cn_le_RowS (xs : List GRow) : cn_RowS xs ≤ 32 * wt_RowS xs := cnR_le (fun x => by have := cnE_le_Row x; omega) xs
theorem open_RowS {n : Nat} {qs : List PT} (h : TyC Tryz.prog (n + 7) 22 qs) : ∃ x : (List GRow), qs = [rd 1 x.length (x.flatMap (GRow.ci 1))] ∧ fits_RowS x := by
  unfold TyC at h
  rw [Tryz.underlying22] at h
  simp only at h
  obtain ⟨cells, rfl, hl, hc⟩ := h
  obtain ⟨xs, rfl, hx⟩ := open_each (f := fun x : GRow => GRow.ci 1 x) (q := fun x => GRow.fits x) (fun c hcc => open_Row (hc c hcc)) 
  refine ⟨xs, ?_, ?_⟩
  · simp only [List.length_map]
    rfl
  · have e1 : Tryz.prog.bytesOf 148 = 40 := by kernel_rfl
    rw [e1, List.length_map] at hl
    have e2 : reachBytes = 140737488351232 := rfl
    rw [e2] at hl
    exact ⟨by omega, hx⟩
structure GRib where
  Own : Int
  Rows : (List GRow)
  deriving DecidableEq
def GRib.co (x : GRib) : List PT := [pi x.Own, .sl 0 79 x.Rows.length (x.Rows.flatMap GRow.co)]
def GRib.ci (k : Nat) (x : GRib) : List PT := [pi x.Own, rd k x.Rows.length (x.Rows.flatMap (GRow.ci k))]
attribute [simp] GRib.co GRib.ci
theorem GRib.len_i (k : Nat) (x : GRib) : (x.ci k).length = 2 := rfl
theorem GRib.un1 (x : GRib) : PT.unownL x.co = x.ci 0 := by simp [rd]
theorem GRib.uni1 (k : Nat) (x : GRib) : PT.unownL (x.ci k) = x.ci 0 := by simp [rd]
theorem GRib.un (xs : List GRib) : PT.unownL (xs.flatMap GRib.co) = xs.flatMap (GRib.ci 0) := by
  rw [unownL_fm]
  congr 1
  funext x
  exact GRib.un1 x
theorem GRib.uni (k : Nat) (xs : List GRib) : PT.unownL (xs.flatMap (GRib.ci k)) = xs.flatMap (GRib.ci 0) := by
  rw [unownL_fm]
  congr 1
  funext x
  exact GRib.uni1 k x
theorem GRib.nt (xs : List GRib) : PT.noTmpL (xs.flatMap GRib.co) = true := noTmpL_fm _ xs fun x => by simp
theorem GRib.nti (k : Nat) (xs : List GRib) : PT.noTmpL (xs.flatMap (GRib.ci (k + 1))) = true := noTmpL_fm _ xs fun x => by simp [rd]
attribute [simp] GRib.un GRib.uni GRib.nt GRib.nti
theorem GRib.lenR (xs : List GRib) : (xs.flatMap GRib.co).length = xs.length * 2 := fm_len _ 2 (fun _ => rfl) xs
theorem GRib.lenRi (k : Nat) (xs : List GRib) : (xs.flatMap (GRib.ci k)).length = xs.length * 2 := fm_len _ 2 (fun _ => rfl) xs
theorem GRib.tkR (xs : List GRib) : (xs.flatMap GRib.co).take (xs.length * 2) = xs.flatMap GRib.co := List.take_of_length_le (by rw [GRib.lenR]; exact Nat.le_refl _)
theorem GRib.tkRi (k : Nat) (xs : List GRib) : (xs.flatMap (GRib.ci k)).take (xs.length * 2) = xs.flatMap (GRib.ci k) := List.take_of_length_le (by rw [GRib.lenRi]; exact Nat.le_refl _)
attribute [simp high] GRib.lenR GRib.tkR GRib.lenRi GRib.tkRi
def GRib.wt (x : GRib) : Nat := wt_RowS x.Rows
def GRib.fits (x : GRib) : Prop := fits_RowS x.Rows
def GRib.lens (x : GRib) : Prop := lens_RowS x.Rows
def GRib.mark (x : GRib) (k : Int) : GRib × Int := (⟨k, (mk_RowS x.Rows (k + 1)).1⟩, (mk_RowS x.Rows (k + 1)).2)
def GRib.cn (x : GRib) : Nat := 1 + cn_RowS x.Rows
theorem GRib.mark_snd (x : GRib) (k : Int) : (GRib.mark x k).2 = k + GRib.cn x := by
  simp only [GRib.mark, GRib.cn, mk_RowS_snd] <;> omega
def GRib.markT (x : GRib) (k : Int) : GRib × Int := (⟨x.Own, (mk_RowS x.Rows k).1⟩, (mk_RowS x.Rows k).2)
def GRib.cnT (x : GRib) : Nat := cn_RowS x.Rows
theorem GRib.markT_snd (x : GRib) (k : Int) : (GRib.markT x k).2 = k + GRib.cnT x := by
  simp only [GRib.markT, GRib.cnT, mk_RowS_snd] <;> omega
theorem lens_of_Rib {x : GRib} (h : GRib.wt x ≤ 1048576) : GRib.lens x := by
  unfold GRib.wt at h
  exact lens_of_RowS (by omega)
theorem cn_le_Rib (x : GRib) : GRib.cnT x ≤ 32 * GRib.wt x := by
  unfold GRib.cnT GRib.wt
  have := cn_le_RowS x.Rows
  omega
theorem open_Rib {n : Nat} {qs : List PT} (h : TyC Tryz.prog (n + 8) 24 qs) : ∃ x : GRib, qs = GRib.ci 1 x ∧ GRib.fits x := by
  unfold TyC at h
  rw [Tryz.underlying24] at h
  simp only [TyFs] at h
  obtain ⟨p0, q0, rfl, h0, ⟨p1, q1, rfl, h1, rfl⟩⟩ := h
  obtain ⟨x0, rfl, y0⟩ := open_Int (n := n + 6) h0
  obtain ⟨x1, rfl, y1⟩ := open_RowS (n := n + 0) h1
  exact ⟨⟨x0, x1⟩, rfl, y1⟩
def wt_PrefixS (xs : List GPrefix) : Nat := xs.length
theorem len_wt_PrefixS (xs : List GPrefix) : xs.length ≤ wt_PrefixS xs := by unfold wt_PrefixS; omega
def fits_PrefixS (xs : List GPrefix) : Prop := xs.length ≤ 140737488351232 ∧ ∀ x ∈ xs, GPrefix.fits x
def lens_PrefixS (xs : List GPrefix) : Prop := xs.length ≤ 140737488351232 ∧ ∀ x ∈ xs, True
def mk_PrefixS (xs : List GPrefix) (k : Int) : List GPrefix × Int := mkR GPrefix.mark xs k
def cn_PrefixS (xs : List GPrefix) : Nat := cnR GPrefix.cn xs
theorem mk_PrefixS_len (xs : List GPrefix) (k : Int) : (mk_PrefixS xs k).1.length = xs.length := mkR_len _ xs k
attribute [simp] mk_PrefixS_len
theorem mk_PrefixS_snd (xs : List GPrefix) (k : Int) : (mk_PrefixS xs k).2 = k + cn_PrefixS xs := mkR_snd (GPrefix.mark_snd) xs k
theorem lens_of_PrefixS {xs : List GPrefix} (h : wt_PrefixS xs ≤ 1048576) : lens_PrefixS xs := by
  have hl := len_wt_PrefixS xs
  exact ⟨by omega, fun _ _ => trivial⟩
theorem cn_le_PrefixS (xs : List GPrefix) : cn_PrefixS xs ≤ 32 * wt_PrefixS xs := cnR_le0 (fun x => by have := cnE_le_Prefix x; unfold GPrefix.wt at this; omega) xs
theorem open_PrefixS {n : Nat} {qs : List PT} (h : TyC Tryz.prog (n + 3) 44 qs) : ∃ x : (List GPrefix), qs = [rd 1 x.length (x.flatMap GPrefix.c)] ∧ fits_PrefixS x := by
  unfold TyC at h
  rw [Tryz.underlying44] at h
  simp only at h
  obtain ⟨cells, rfl, hl, hc⟩ := h
  obtain ⟨xs, rfl, hx⟩ := open_each (f := fun x : GPrefix => GPrefix.c x) (q := fun _ => True) (fun c hcc => open_Prefix (hc c hcc)) 
  refine ⟨xs, ?_, ?_⟩
  · simp only [List.length_map]
    rfl
  · have e1 : Tryz.prog.bytesOf 145 = 16 := by kernel_rfl
    rw [e1, List.length_map] at hl
    have e2 : reachBytes = 140737488351232 := rfl
    rw [e2] at hl
    exact ⟨by omega, fun _ _ => trivial⟩
structure GUpdate where
  Gone : (List GPrefix)
  Attrs : GAttrs
  Come : (List GPrefix)
  deriving DecidableEq
def GUpdate.co (x : GUpdate) : List PT := [.sl 0 77 x.Gone.length (x.Gone.flatMap GPrefix.c), pi x.Attrs.Origin, .sl 0 3 x.Attrs.Path.length (x.Attrs.Path.map pi), pi x.Attrs.Next, pi x.Attrs.Med, pi x.Attrs.Pref, .sl 0 3 x.Attrs.Comms.length (x.Attrs.Comms.map pi), .sl 0 77 x.Come.length (x.Come.flatMap GPrefix.c)]
def GUpdate.ci (k : Nat) (x : GUpdate) : List PT := [rd k x.Gone.length (x.Gone.flatMap GPrefix.c), pi x.Attrs.Origin, rd k x.Attrs.Path.length (x.Attrs.Path.map pi), pi x.Attrs.Next, pi x.Attrs.Med, pi x.Attrs.Pref, rd k x.Attrs.Comms.length (x.Attrs.Comms.map pi), rd k x.Come.length (x.Come.flatMap GPrefix.c)]
attribute [simp] GUpdate.co GUpdate.ci
theorem GUpdate.len_i (k : Nat) (x : GUpdate) : (x.ci k).length = 8 := rfl
theorem GUpdate.un1 (x : GUpdate) : PT.unownL x.co = x.ci 0 := by simp [rd]
theorem GUpdate.uni1 (k : Nat) (x : GUpdate) : PT.unownL (x.ci k) = x.ci 0 := by simp [rd]
theorem GUpdate.un (xs : List GUpdate) : PT.unownL (xs.flatMap GUpdate.co) = xs.flatMap (GUpdate.ci 0) := by
  rw [unownL_fm]
  congr 1
  funext x
  exact GUpdate.un1 x
theorem GUpdate.uni (k : Nat) (xs : List GUpdate) : PT.unownL (xs.flatMap (GUpdate.ci k)) = xs.flatMap (GUpdate.ci 0) := by
  rw [unownL_fm]
  congr 1
  funext x
  exact GUpdate.uni1 k x
theorem GUpdate.nt (xs : List GUpdate) : PT.noTmpL (xs.flatMap GUpdate.co) = true := noTmpL_fm _ xs fun x => by simp
theorem GUpdate.nti (k : Nat) (xs : List GUpdate) : PT.noTmpL (xs.flatMap (GUpdate.ci (k + 1))) = true := noTmpL_fm _ xs fun x => by simp [rd]
attribute [simp] GUpdate.un GUpdate.uni GUpdate.nt GUpdate.nti
theorem GUpdate.lenR (xs : List GUpdate) : (xs.flatMap GUpdate.co).length = xs.length * 8 := fm_len _ 8 (fun _ => rfl) xs
theorem GUpdate.lenRi (k : Nat) (xs : List GUpdate) : (xs.flatMap (GUpdate.ci k)).length = xs.length * 8 := fm_len _ 8 (fun _ => rfl) xs
theorem GUpdate.tkR (xs : List GUpdate) : (xs.flatMap GUpdate.co).take (xs.length * 8) = xs.flatMap GUpdate.co := List.take_of_length_le (by rw [GUpdate.lenR]; exact Nat.le_refl _)
theorem GUpdate.tkRi (k : Nat) (xs : List GUpdate) : (xs.flatMap (GUpdate.ci k)).take (xs.length * 8) = xs.flatMap (GUpdate.ci k) := List.take_of_length_le (by rw [GUpdate.lenRi]; exact Nat.le_refl _)
attribute [simp high] GUpdate.lenR GUpdate.tkR GUpdate.lenRi GUpdate.tkRi
def GUpdate.wt (x : GUpdate) : Nat := wt_PrefixS x.Gone + GAttrs.wt x.Attrs + wt_PrefixS x.Come
def GUpdate.fits (x : GUpdate) : Prop := fits_PrefixS x.Gone ∧ GAttrs.fits x.Attrs ∧ fits_PrefixS x.Come
def GUpdate.lens (x : GUpdate) : Prop := lens_PrefixS x.Gone ∧ GAttrs.lens x.Attrs ∧ lens_PrefixS x.Come
def GUpdate.mark (x : GUpdate) (k : Int) : GUpdate × Int := (⟨(mk_PrefixS x.Gone k).1, ⟨(mk_PrefixS x.Gone k).2, (mk_IntS x.Attrs.Path ((mk_PrefixS x.Gone k).2 + 1)).1, (mk_IntS x.Attrs.Path ((mk_PrefixS x.Gone k).2 + 1)).2, ((mk_IntS x.Attrs.Path ((mk_PrefixS x.Gone k).2 + 1)).2 + 1), (((mk_IntS x.Attrs.Path ((mk_PrefixS x.Gone k).2 + 1)).2 + 1) + 1), (mk_IntS x.Attrs.Comms ((((mk_IntS x.Attrs.Path ((mk_PrefixS x.Gone k).2 + 1)).2 + 1) + 1) + 1)).1⟩, (mk_PrefixS x.Come (mk_IntS x.Attrs.Comms ((((mk_IntS x.Attrs.Path ((mk_PrefixS x.Gone k).2 + 1)).2 + 1) + 1) + 1)).2).1⟩, (mk_PrefixS x.Come (mk_IntS x.Attrs.Comms ((((mk_IntS x.Attrs.Path ((mk_PrefixS x.Gone k).2 + 1)).2 + 1) + 1) + 1)).2).2)
def GUpdate.cn (x : GUpdate) : Nat := cn_PrefixS x.Gone + 1 + cn_IntS x.Attrs.Path + 1 + 1 + 1 + cn_IntS x.Attrs.Comms + cn_PrefixS x.Come
theorem GUpdate.mark_snd (x : GUpdate) (k : Int) : (GUpdate.mark x k).2 = k + GUpdate.cn x := by
  simp only [GUpdate.mark, GUpdate.cn, mk_IntS_snd, mk_PrefixS_snd] <;> omega
def GUpdate.markT (x : GUpdate) (k : Int) : GUpdate × Int := (⟨(mk_PrefixS x.Gone k).1, ⟨x.Attrs.Origin, (mk_IntS x.Attrs.Path (mk_PrefixS x.Gone k).2).1, x.Attrs.Next, x.Attrs.Med, x.Attrs.Pref, (mk_IntS x.Attrs.Comms (mk_IntS x.Attrs.Path (mk_PrefixS x.Gone k).2).2).1⟩, (mk_PrefixS x.Come (mk_IntS x.Attrs.Comms (mk_IntS x.Attrs.Path (mk_PrefixS x.Gone k).2).2).2).1⟩, (mk_PrefixS x.Come (mk_IntS x.Attrs.Comms (mk_IntS x.Attrs.Path (mk_PrefixS x.Gone k).2).2).2).2)
def GUpdate.cnT (x : GUpdate) : Nat := cn_PrefixS x.Gone + cn_IntS x.Attrs.Path + cn_IntS x.Attrs.Comms + cn_PrefixS x.Come
theorem GUpdate.markT_snd (x : GUpdate) (k : Int) : (GUpdate.markT x k).2 = k + GUpdate.cnT x := by
  simp only [GUpdate.markT, GUpdate.cnT, mk_IntS_snd, mk_PrefixS_snd] <;> omega
theorem lens_of_Update {x : GUpdate} (h : GUpdate.wt x ≤ 1048576) : GUpdate.lens x := by
  unfold GUpdate.wt at h
  exact ⟨lens_of_PrefixS (by omega), lens_of_Attrs (by omega), lens_of_PrefixS (by omega)⟩
theorem cn_le_Update (x : GUpdate) : GUpdate.cnT x ≤ 32 * GUpdate.wt x := by
  unfold GUpdate.cnT GUpdate.wt
  have := cn_le_PrefixS x.Gone
  have := cn_le_IntS x.Attrs.Path
  have := cn_le_IntS x.Attrs.Comms
  have := cn_le_PrefixS x.Come
  simp only [GAttrs.wt]
  omega
end Go.V
