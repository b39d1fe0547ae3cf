/- What functions of the seat's program do, each proved of its code, under the bounds that its theorem names. -/
import Derived.Test.YtmodclnblmoeoaaFacts
set_option linter.all false
namespace Go.V
open Go.Proofs
set_option maxHeartbeats 1000000
set_option maxRecDepth 10000
set_option linter.unusedSimpArgs false
set_option linter.unusedVariables false
theorem open_Bool {n : Nat} {qs : List PT} (h : TyC Try.prog (n + 1) 4 qs) : ∃ x : Bool, qs = [pb x] ∧ True := by
  unfold TyC at h
  rw [Try.underlying4] at h
  simp only at h
  obtain ⟨b, rfl⟩ := h
  exact ⟨b, rfl, trivial⟩
theorem open_String {n : Nat} {qs : List PT} (h : TyC Try.prog (n + 1) 9 qs) : ∃ x : ByteArray, qs = [ps x] ∧ x.size ≤ 140737488351232 := by
  unfold TyC at h
  rw [Try.underlying9] at h
  simp only at h
  obtain ⟨s, rfl, hs⟩ := h
  exact ⟨s, rfl, hs⟩
theorem open_each {α : Type} {f : α → List PT} {q : α → Prop} : ∀ {cells : List (List PT)}, (∀ c ∈ cells, ∃ x, c = f x ∧ q x) → ∃ xs : List α, cells = xs.map f ∧ ∀ x ∈ xs, q x
  | [], _ => ⟨[], rfl, by simp⟩
  | c :: cs, h => by
    obtain ⟨x, hx, hq⟩ := h c (by simp)
    obtain ⟨xs, hxs, hqs⟩ := open_each (cells := cs) fun d hd => h d (by simp [hd])
    refine ⟨x :: xs, by rw [hx, hxs]; rfl, fun y hy => ?_⟩
    rcases List.mem_cons.1 hy with rfl | hy
    · exact hq
    · exact hqs y hy
theorem open_flat {α : Type} (f : α → PT) : ∀ xs : List α, (xs.map fun x => [f x]).flatten = xs.map f
  | [] => rfl
  | x :: xs => by simp [open_flat f xs]
def mtGo : Nat → Int → ByteArray → ByteArray
  | 0, _, s => s
  | n + 1, k, s => if 0 < k then mtGo n (IntKind.wrap .i64 (k.tdiv 10)) (strOf [IntKind.wrap .u8 (IntKind.wrap .i64 (48 + k.tmod 10))] ++ s) else s
/-- The text that marks a string. -/
def mtext (k : Int) : ByteArray := if k ≤ 0 then ⟨#[109, 48]⟩ else ⟨#[109]⟩ ++ mtGo k.toNat k ⟨#[]⟩
theorem mtGo_size : ∀ (n : Nat) (k : Int) (s : ByteArray), (mtGo n k s).size ≤ n + s.size
  | 0, _, s => by simp [mtGo]
  | n + 1, k, s => by
    unfold mtGo
    split
    · have := mtGo_size n (IntKind.wrap .i64 (k.tdiv 10)) (strOf [IntKind.wrap .u8 (IntKind.wrap .i64 (48 + k.tmod 10))] ++ s)
      have e : (strOf [IntKind.wrap .u8 (IntKind.wrap .i64 (48 + k.tmod 10))] ++ s).size = 1 + s.size := by
        rw [ByteArray.size_append]; rfl
      omega
    · omega
theorem ok_markText (k : Int) (hk : k ≤ 4611686018427387904) : CallOK Try.prog 85 [.c (pi k)] (.c (ps (mtext k))) [.c (pi k)] := by
  refine okS (fn := Try.f85) [] h0 Try.func85 (by kernel_rfl) rfl Try.ntmps85 Try.results85 (by simp) ?_
  simp
  refine brn_app (fun h => ?_) (fun h => ?_)
  · simp at h
    simp [mtext, h]
  · simp at h
    simp
    have hn : ¬ k ≤ 0 := by omega
    refine loopS [0, 3] [] (fun n st => ∃ (j : Int) (s : ByteArray), j ≤ n ∧ 0 ≤ j ∧ j + s.size ≤ 4611686018427387904 ∧ mtGo n j s = mtGo k.toNat k ⟨#[]⟩ ∧ st = ⟨slOf 20 [(0, .t (pi j)), (3, .t (ps s))], ofL []⟩) k.toNat ?_ ?_
    · rintro Inv hI
      simp
      subst hI
      exact ⟨k, ⟨#[]⟩, by omega, by omega, by show k + 0 ≤ _; omega, rfl, rfl⟩
    · rintro Inv hI n st ⟨j, s, hj, hj0, hjs, hm, rfl⟩
      refine ewr_sound (M := []) h0 ?_
      simp
      refine brn_app (fun h => ?_) (fun h => ?_)
      · simp at h
        have hsz : (strOf [IntKind.wrap .u8 (IntKind.wrap .i64 (48 + j.tmod 10))]).size = 1 := rfl
        have hc : (strOf [IntKind.wrap .u8 (IntKind.wrap .i64 (48 + j.tmod 10))]).size + s.size ≤ 9223372036854775807 := by rw [hsz]; omega
        simp [hc]
        have hq : IntKind.wrap .i64 (j.tdiv 10) = j / 10 := by rw [Int.tdiv_eq_ediv_of_nonneg hj0]; exact wrap64 (by omega) (by omega)
        obtain ⟨m, rfl⟩ : ∃ m, n = m + 1 := ⟨n - 1, by omega⟩
        subst hI
        refine Less_mk m (by omega) ⟨j / 10, strOf [IntKind.wrap .u8 (IntKind.wrap .i64 (48 + j.tmod 10))] ++ s, by omega, by omega, ?_, ?_, by rw [hq]⟩
        · rw [ByteArray.size_append, hsz]; omega
        · rw [mtGo, if_pos h, hq] at hm
          exact hm
      · simp at h
        have hs : mtGo n j s = s := by
          cases n with
          | zero => rfl
          | succ n => rw [mtGo, if_neg (by omega)]
        rw [hs] at hm
        subst hm
        have := mtGo_size k.toNat k ⟨#[]⟩
        have e0 : (⟨#[]⟩ : ByteArray).size = 0 := rfl
        have hc : (⟨#[109]⟩ : ByteArray).size + (mtGo k.toNat k ⟨#[]⟩).size ≤ 9223372036854775807 := by
          have e1 : (⟨#[109]⟩ : ByteArray).size = 1 := rfl
          omega
        simp [hc, mtext, hn]
abbrev cStringSo (xs : List ByteArray) : PT := .sl 0 9 xs.length (xs.map ps)
abbrev cStringSi (k : Nat) (xs : List ByteArray) : PT := rd k xs.length (xs.map ps)
def wt_StringS (xs : List ByteArray) : Nat := wtR ByteArray.size xs
theorem len_wt_StringS (xs : List ByteArray) : xs.length ≤ wt_StringS xs := by unfold wt_StringS wtR; omega
theorem mem_wt_StringS {xs : List ByteArray} {x : ByteArray} (h : x ∈ xs) : x.size ≤ wt_StringS xs := by
  have := wt_mem ByteArray.size h
  unfold wt_StringS wtR
  omega
def fits_StringS (xs : List ByteArray) : Prop := xs.length ≤ 140737488351232 ∧ ∀ x ∈ xs, x.size ≤ 140737488351232
def lens_StringS (xs : List ByteArray) : Prop := xs.length ≤ 140737488351232 ∧ ∀ x ∈ xs, True
def mk_StringS (xs : List ByteArray) (k : Int) : List ByteArray × Int := mkR (fun (_ : ByteArray) k => (mtext k, k + 1)) xs k
def cn_StringS (xs : List ByteArray) : Nat := cnR (fun (_ : ByteArray) => 1) xs
theorem mk_StringS_len (xs : List ByteArray) (k : Int) : (mk_StringS xs k).1.length = xs.length := mkR_len _ xs k
attribute [simp] mk_StringS_len
theorem mk_StringS_snd (xs : List ByteArray) (k : Int) : (mk_StringS xs k).2 = k + cn_StringS xs := mkR_snd (fun _ _ => rfl) xs k
theorem lens_of_StringS {xs : List ByteArray} (h : wt_StringS xs ≤ 1048576) : lens_StringS xs := by
  have hl := len_wt_StringS xs
  exact ⟨by omega, fun _ _ => trivial⟩
theorem cn_len_StringS (xs : List ByteArray) : cn_StringS xs ≤ 32 * xs.length := cnR_le0 (fun x => by omega) xs
theorem cn_le_StringS (xs : List ByteArray) : cn_StringS xs ≤ 32 * wt_StringS xs := cnR_le (fun _ => by omega) xs
theorem open_StringS {n : Nat} {qs : List PT} (h : TyC Try.prog (n + 2) 22 qs) : ∃ x : (List ByteArray), qs = [rd 1 x.length (x.map ps)] ∧ fits_StringS x := by
  unfold TyC at h
  rw [Try.underlying22] at h
  simp only at h
  obtain ⟨cells, rfl, hl, hc⟩ := h
  obtain ⟨xs, rfl, hx⟩ := open_each (f := fun x : ByteArray => [ps x]) (q := fun x => x.size ≤ 140737488351232) (fun c hcc => open_String (hc c hcc)) 
  refine ⟨xs, ?_, ?_⟩
  · simp only [List.length_map, open_flat]
  · have e1 : Try.prog.bytesOf 9 = 16 := by kernel_rfl
    rw [e1, List.length_map] at hl
    have e2 : reachBytes = 140737488351232 := rfl
    rw [e2] at hl
    exact ⟨by omega, hx⟩
structure GCommand where
  Set : Bool
  Path : (List ByteArray)
  Value : ByteArray
  deriving DecidableEq
def GCommand.co (x : GCommand) : List PT := [pb x.Set, .sl 0 9 x.Path.length (x.Path.map ps), ps x.Value]
def GCommand.ci (k : Nat) (x : GCommand) : List PT := [pb x.Set, rd k x.Path.length (x.Path.map ps), ps x.Value]
attribute [simp] GCommand.co GCommand.ci
theorem GCommand.len_o (x : GCommand) : x.co.length = 3 := rfl
theorem GCommand.len_i (k : Nat) (x : GCommand) : (x.ci k).length = 3 := rfl
theorem GCommand.un1 (x : GCommand) : PT.unownL x.co = x.ci 0 := by simp [rd]
theorem GCommand.uni1 (k : Nat) (x : GCommand) : PT.unownL (x.ci k) = x.ci 0 := by simp [rd]
theorem GCommand.un (xs : List GCommand) : PT.unownL (xs.flatMap GCommand.co) = xs.flatMap (GCommand.ci 0) := by
  rw [unownL_fm]
  congr 1
  funext x
  exact GCommand.un1 x
theorem GCommand.uni (k : Nat) (xs : List GCommand) : PT.unownL (xs.flatMap (GCommand.ci k)) = xs.flatMap (GCommand.ci 0) := by
  rw [unownL_fm]
  congr 1
  funext x
  exact GCommand.uni1 k x
theorem GCommand.nt (xs : List GCommand) : PT.noTmpL (xs.flatMap GCommand.co) = true := noTmpL_fm _ xs fun x => by simp
theorem GCommand.nti (k : Nat) (xs : List GCommand) : PT.noTmpL (xs.flatMap (GCommand.ci (k + 1))) = true := noTmpL_fm _ xs fun x => by simp [rd]
attribute [simp] GCommand.un GCommand.uni GCommand.nt GCommand.nti
theorem GCommand.lenR (xs : List GCommand) : (xs.flatMap GCommand.co).length = xs.length * 3 := fm_len _ 3 (fun _ => rfl) xs
theorem GCommand.lenRi (k : Nat) (xs : List GCommand) : (xs.flatMap (GCommand.ci k)).length = xs.length * 3 := fm_len _ 3 (fun _ => rfl) xs
theorem GCommand.tkR (xs : List GCommand) : (xs.flatMap GCommand.co).take (xs.length * 3) = xs.flatMap GCommand.co := List.take_of_length_le (by rw [GCommand.lenR]; exact Nat.le_refl _)
theorem GCommand.tkRi (k : Nat) (xs : List GCommand) : (xs.flatMap (GCommand.ci k)).take (xs.length * 3) = xs.flatMap (GCommand.ci k) := List.take_of_length_le (by rw [GCommand.lenRi]; exact Nat.le_refl _)
attribute [simp high] GCommand.lenR GCommand.tkR GCommand.lenRi GCommand.tkRi
def GCommand.wt (x : GCommand) : Nat := wt_StringS x.Path + x.Value.size
def GCommand.fits (x : GCommand) : Prop := fits_StringS x.Path ∧ x.Value.size ≤ 140737488351232
def GCommand.lens (x : GCommand) : Prop := lens_StringS x.Path
def GCommand.mark (x : GCommand) (k : Int) : GCommand × Int := (⟨decide (Int.tmod k 3 = 0), (mk_StringS x.Path (k + 1)).1, mtext (mk_StringS x.Path (k + 1)).2⟩, ((mk_StringS x.Path (k + 1)).2 + 1))
def GCommand.cn (x : GCommand) : Nat := 1 + cn_StringS x.Path + 1
theorem GCommand.mark_snd (x : GCommand) (k : Int) : (GCommand.mark x k).2 = k + GCommand.cn x := by
  simp only [GCommand.mark, GCommand.cn, mk_StringS_snd] <;> omega
def GCommand.markT (x : GCommand) (k : Int) : GCommand × Int := (⟨x.Set, (mk_StringS x.Path k).1, x.Value⟩, (mk_StringS x.Path k).2)
def GCommand.cnT (x : GCommand) : Nat := cn_StringS x.Path
theorem GCommand.markT_snd (x : GCommand) (k : Int) : (GCommand.markT x k).2 = k + GCommand.cnT x := by
  simp only [GCommand.markT, GCommand.cnT, mk_StringS_snd] <;> omega
theorem lens_of_Command {x : GCommand} (h : GCommand.wt x ≤ 1048576) : GCommand.lens x := by
  unfold GCommand.wt at h
  exact lens_of_StringS (by omega)
theorem cn_le_Command (x : GCommand) : GCommand.cnT x ≤ 32 * GCommand.wt x := by
  unfold GCommand.cnT GCommand.wt
  have := cn_le_StringS x.Path
  omega
theorem cnE_le_Command (x : GCommand) : GCommand.cn x ≤ 32 * GCommand.wt x + 16 := by
  unfold GCommand.cn GCommand.wt
  have := cn_le_StringS x.Path
  omega
theorem open_Command {n : Nat} {qs : List PT} (h : TyC Try.prog (n + 3) 24 qs) : ∃ x : GCommand, qs = GCommand.ci 1 x ∧ GCommand.fits x := by
  unfold TyC at h
  rw [Try.underlying24] at h
  simp only [TyFs] at h
  obtain ⟨p0, q0, rfl, h0, ⟨p1, q1, rfl, h1, ⟨p2, q2, rfl, h2, rfl⟩⟩⟩ := h
  obtain ⟨x0, rfl, y0⟩ := open_Bool (n := n + 1) h0
  obtain ⟨x1, rfl, y1⟩ := open_StringS (n := n + 0) h1
  obtain ⟨x2, rfl, y2⟩ := open_String (n := n + 1) h2
  exact ⟨⟨x0, x1, x2⟩, rfl, ⟨y1, y2⟩⟩
abbrev cCommandSo (xs : List GCommand) : PT := .sl 0 28 xs.length (xs.flatMap GCommand.co)
abbrev cCommandSi (k : Nat) (xs : List GCommand) : PT := rd k xs.length (xs.flatMap (GCommand.ci k))
def wt_CommandS (xs : List GCommand) : Nat := wtR GCommand.wt xs
theorem len_wt_CommandS (xs : List GCommand) : xs.length ≤ wt_CommandS xs := by unfold wt_CommandS wtR; omega
theorem mem_wt_CommandS {xs : List GCommand} {x : GCommand} (h : x ∈ xs) : GCommand.wt x ≤ wt_CommandS xs := by
  have := wt_mem GCommand.wt h
  unfold wt_CommandS wtR
  omega
def fits_CommandS (xs : List GCommand) : Prop := xs.length ≤ 140737488351232 ∧ ∀ x ∈ xs, GCommand.fits x
def lens_CommandS (xs : List GCommand) : Prop := xs.length ≤ 140737488351232 ∧ ∀ x ∈ xs, GCommand.lens x
def mk_CommandS (xs : List GCommand) (k : Int) : List GCommand × Int := mkR GCommand.mark xs k
def cn_CommandS (xs : List GCommand) : Nat := cnR GCommand.cn xs
theorem mk_CommandS_len (xs : List GCommand) (k : Int) : (mk_CommandS xs k).1.length = xs.length := mkR_len _ xs k
attribute [simp] mk_CommandS_len
theorem mk_CommandS_snd (xs : List GCommand) (k : Int) : (mk_CommandS xs k).2 = k + cn_CommandS xs := mkR_snd (GCommand.mark_snd) xs k
theorem lens_of_CommandS {xs : List GCommand} (h : wt_CommandS xs ≤ 1048576) : lens_CommandS xs := by
  have hl := len_wt_CommandS xs
  exact ⟨by omega, fun x hx => lens_of_Command (by have := mem_wt_CommandS hx; omega)⟩
theorem cn_le_CommandS (xs : List GCommand) : cn_CommandS xs ≤ 32 * wt_CommandS xs := cnR_le (fun x => by have := cnE_le_Command x; omega) xs
theorem open_CommandS {n : Nat} {qs : List PT} (h : TyC Try.prog (n + 4) 70 qs) : ∃ x : (List GCommand), qs = [rd 1 x.length (x.flatMap (GCommand.ci 1))] ∧ fits_CommandS x := by
  unfold TyC at h
  rw [Try.underlying70] at h
  simp only at h
  obtain ⟨cells, rfl, hl, hc⟩ := h
  obtain ⟨xs, rfl, hx⟩ := open_each (f := fun x : GCommand => GCommand.ci 1 x) (q := fun x => GCommand.fits x) (fun c hcc => open_Command (hc c hcc)) 
  refine ⟨xs, ?_, ?_⟩
  · simp only [List.length_map]
    rfl
  · have e1 : Try.prog.bytesOf 24 = 48 := by kernel_rfl
    rw [e1, List.length_map] at hl
    have e2 : reachBytes = 140737488351232 := rfl
    rw [e2] at hl
    exact ⟨by omega, hx⟩
structure GLeaf where
  Path : (List ByteArray)
  Value : ByteArray
  deriving DecidableEq
def GLeaf.co (x : GLeaf) : List PT := [.sl 0 9 x.Path.length (x.Path.map ps), ps x.Value]
def GLeaf.ci (k : Nat) (x : GLeaf) : List PT := [rd k x.Path.length (x.Path.map ps), ps x.Value]
attribute [simp] GLeaf.co GLeaf.ci
theorem GLeaf.len_o (x : GLeaf) : x.co.length = 2 := rfl
theorem GLeaf.len_i (k : Nat) (x : GLeaf) : (x.ci k).length = 2 := rfl
theorem GLeaf.un1 (x : GLeaf) : PT.unownL x.co = x.ci 0 := by simp [rd]
theorem GLeaf.uni1 (k : Nat) (x : GLeaf) : PT.unownL (x.ci k) = x.ci 0 := by simp [rd]
theorem GLeaf.un (xs : List GLeaf) : PT.unownL (xs.flatMap GLeaf.co) = xs.flatMap (GLeaf.ci 0) := by
  rw [unownL_fm]
  congr 1
  funext x
  exact GLeaf.un1 x
theorem GLeaf.uni (k : Nat) (xs : List GLeaf) : PT.unownL (xs.flatMap (GLeaf.ci k)) = xs.flatMap (GLeaf.ci 0) := by
  rw [unownL_fm]
  congr 1
  funext x
  exact GLeaf.uni1 k x
theorem GLeaf.nt (xs : List GLeaf) : PT.noTmpL (xs.flatMap GLeaf.co) = true := noTmpL_fm _ xs fun x => by simp
theorem GLeaf.nti (k : Nat) (xs : List GLeaf) : PT.noTmpL (xs.flatMap (GLeaf.ci (k + 1))) = true := noTmpL_fm _ xs fun x => by simp [rd]
attribute [simp] GLeaf.un GLeaf.uni GLeaf.nt GLeaf.nti
theorem GLeaf.lenR (xs : List GLeaf) : (xs.flatMap GLeaf.co).length = xs.length * 2 := fm_len _ 2 (fun _ => rfl) xs
theorem GLeaf.lenRi (k : Nat) (xs : List GLeaf) : (xs.flatMap (GLeaf.ci k)).length = xs.length * 2 := fm_len _ 2 (fun _ => rfl) xs
theorem GLeaf.tkR (xs : List GLeaf) : (xs.flatMap GLeaf.co).take (xs.length * 2) = xs.flatMap GLeaf.co := List.take_of_length_le (by rw [GLeaf.lenR]; exact Nat.le_refl _)
theorem GLeaf.tkRi (k : Nat) (xs : List GLeaf) : (xs.flatMap (GLeaf.ci k)).take (xs.length * 2) = xs.flatMap (GLeaf.ci k) := List.take_of_length_le (by rw [GLeaf.lenRi]; exact Nat.le_refl _)
attribute [simp high] GLeaf.lenR GLeaf.tkR GLeaf.lenRi GLeaf.tkRi
def GLeaf.wt (x : GLeaf) : Nat := wt_StringS x.Path + x.Value.size
def GLeaf.fits (x : GLeaf) : Prop := fits_StringS x.Path ∧ x.Value.size ≤ 140737488351232
def GLeaf.lens (x : GLeaf) : Prop := lens_StringS x.Path
def GLeaf.mark (x : GLeaf) (k : Int) : GLeaf × Int := (⟨(mk_StringS x.Path k).1, mtext (mk_StringS x.Path k).2⟩, ((mk_StringS x.Path k).2 + 1))
def GLeaf.cn (x : GLeaf) : Nat := cn_StringS x.Path + 1
theorem GLeaf.mark_snd (x : GLeaf) (k : Int) : (GLeaf.mark x k).2 = k + GLeaf.cn x := by
  simp only [GLeaf.mark, GLeaf.cn, mk_StringS_snd] <;> omega
def GLeaf.markT (x : GLeaf) (k : Int) : GLeaf × Int := (⟨(mk_StringS x.Path k).1, x.Value⟩, (mk_StringS x.Path k).2)
def GLeaf.cnT (x : GLeaf) : Nat := cn_StringS x.Path
theorem GLeaf.markT_snd (x : GLeaf) (k : Int) : (GLeaf.markT x k).2 = k + GLeaf.cnT x := by
  simp only [GLeaf.markT, GLeaf.cnT, mk_StringS_snd] <;> omega
theorem lens_of_Leaf {x : GLeaf} (h : GLeaf.wt x ≤ 1048576) : GLeaf.lens x := by
  unfold GLeaf.wt at h
  exact lens_of_StringS (by omega)
theorem cn_le_Leaf (x : GLeaf) : GLeaf.cnT x ≤ 32 * GLeaf.wt x := by
  unfold GLeaf.cnT GLeaf.wt
  have := cn_le_StringS x.Path
  omega
theorem cnE_le_Leaf (x : GLeaf) : GLeaf.cn x ≤ 32 * GLeaf.wt x + 16 := by
  unfold GLeaf.cn GLeaf.wt
  have := cn_le_StringS x.Path
  omega
theorem open_Leaf {n : Nat} {qs : List PT} (h : TyC Try.prog (n + 3) 101 qs) : ∃ x : GLeaf, qs = GLeaf.ci 1 x ∧ GLeaf.fits x := by
  unfold TyC at h
  rw [Try.underlying101] at h
  simp only [TyFs] at h
  obtain ⟨p0, q0, rfl, h0, ⟨p1, q1, rfl, h1, rfl⟩⟩ := h
  obtain ⟨x0, rfl, y0⟩ := open_StringS (n := n + 0) h0
  obtain ⟨x1, rfl, y1⟩ := open_String (n := n + 1) h1
  exact ⟨⟨x0, x1⟩, rfl, ⟨y0, y1⟩⟩
abbrev cLeafSo (xs : List GLeaf) : PT := .sl 0 103 xs.length (xs.flatMap GLeaf.co)
abbrev cLeafSi (k : Nat) (xs : List GLeaf) : PT := rd k xs.length (xs.flatMap (GLeaf.ci k))
def wt_LeafS (xs : List GLeaf) : Nat := wtR GLeaf.wt xs
theorem len_wt_LeafS (xs : List GLeaf) : xs.length ≤ wt_LeafS xs := by unfold wt_LeafS wtR; omega
theorem mem_wt_LeafS {xs : List GLeaf} {x : GLeaf} (h : x ∈ xs) : GLeaf.wt x ≤ wt_LeafS xs := by
  have := wt_mem GLeaf.wt h
  unfold wt_LeafS wtR
  omega
def fits_LeafS (xs : List GLeaf) : Prop := xs.length ≤ 140737488351232 ∧ ∀ x ∈ xs, GLeaf.fits x
def lens_LeafS (xs : List GLeaf) : Prop := xs.length ≤ 140737488351232 ∧ ∀ x ∈ xs, GLeaf.lens x
def mk_LeafS (xs : List GLeaf) (k : Int) : List GLeaf × Int := mkR GLeaf.mark xs k
def cn_LeafS (xs : List GLeaf) : Nat := cnR GLeaf.cn xs
theorem mk_LeafS_len (xs : List GLeaf) (k : Int) : (mk_LeafS xs k).1.length = xs.length := mkR_len _ xs k
attribute [simp] mk_LeafS_len
theorem mk_LeafS_snd (xs : List GLeaf) (k : Int) : (mk_LeafS xs k).2 = k + cn_LeafS xs := mkR_snd (GLeaf.mark_snd) xs k
theorem lens_of_LeafS {xs : List GLeaf} (h : wt_LeafS xs ≤ 1048576) : lens_LeafS xs := by
  have hl := len_wt_LeafS xs
  exact ⟨by omega, fun x hx => lens_of_Leaf (by have := mem_wt_LeafS hx; omega)⟩
theorem cn_le_LeafS (xs : List GLeaf) : cn_LeafS xs ≤ 32 * wt_LeafS xs := cnR_le (fun x => by have := cnE_le_Leaf x; omega) xs
theorem open_LeafS {n : Nat} {qs : List PT} (h : TyC Try.prog (n + 4) 32 qs) : ∃ x : (List GLeaf), qs = [rd 1 x.length (x.flatMap (GLeaf.ci 1))] ∧ fits_LeafS x := by
  unfold TyC at h
  rw [Try.underlying32] at h
  simp only at h
  obtain ⟨cells, rfl, hl, hc⟩ := h
  obtain ⟨xs, rfl, hx⟩ := open_each (f := fun x : GLeaf => GLeaf.ci 1 x) (q := fun x => GLeaf.fits x) (fun c hcc => open_Leaf (hc c hcc)) 
  refine ⟨xs, ?_, ?_⟩
  · simp only [List.length_map]
    rfl
  · have e1 : Try.prog.bytesOf 101 = 40 := by kernel_rfl
    rw [e1, List.length_map] at hl
    have e2 : reachBytes = 140737488351232 := rfl
    rw [e2] at hl
    exact ⟨by omega, hx⟩
def sLt (u v : ByteArray) : Bool := Op.bytesLess u.toList v.toList
theorem bless_irr : ∀ l : List UInt8, Op.bytesLess l l = false
  | [] => rfl
  | a :: l => by
    unfold Op.bytesLess
    rw [bless_irr l]
    simp
theorem sl_irr (u : ByteArray) : sLt u u = false := bless_irr _
def cmpS (u v : ByteArray) : Int := if sLt u v = true then -1 else if u = v then 0 else 1
theorem cmpS_eq (u : ByteArray) : cmpS u u = 0 := by simp [cmpS, sl_irr]
theorem cmpS_ne {u v : ByteArray} (h : ¬ u = v) : ¬ cmpS u v = 0 := by
  unfold cmpS
  split
  · omega
  · simp [h]
theorem cmpS_z {u v : ByteArray} (h : cmpS u v = 0) : u = v := Classical.byContradiction fun hn => cmpS_ne hn h
def cmpP : List ByteArray → List ByteArray → Int
  | [], [] => 0
  | [], _ :: _ => -1
  | _ :: _, [] => 1
  | a :: us, b :: vs => if cmpS a b = 0 then cmpP us vs else cmpS a b
def lessP : List ByteArray → List ByteArray → Bool
  | [], [] => false
  | [], _ :: _ => true
  | _ :: _, [] => false
  | a :: us, b :: vs => if a = b then lessP us vs else sLt a b
def begP : List ByteArray → List ByteArray → Bool
  | [], _ => true
  | _ :: _, [] => false
  | a :: us, b :: vs => decide (a = b) && begP us vs
theorem cmpP_less : ∀ a b : List ByteArray, decide (0 ≤ cmpP a b) = !lessP a b
  | [], [] => rfl
  | [], _ :: _ => rfl
  | _ :: _, [] => rfl
  | a :: us, b :: vs => by
    unfold cmpP lessP
    by_cases h : a = b
    · subst h
      rw [cmpS_eq, if_pos rfl, if_pos rfl]
      exact cmpP_less us vs
    · rw [if_neg (cmpS_ne h), if_neg h]
      unfold cmpS
      cases hs : sLt a b <;> simp [h]
theorem begP_take : ∀ a b : List ByteArray, a.length ≤ b.length → begP a b = decide (a = b.take a.length)
  | [], _, _ => by simp [begP]
  | _ :: _, [], h => by simp at h
  | a :: us, b :: vs, h => by
    have := begP_take us vs (by simpa using h)
    simp [begP, this]
theorem begP_long : ∀ a b : List ByteArray, b.length < a.length → begP a b = false
  | [], _, h => by simp at h
  | _ :: _, [], _ => rfl
  | a :: us, b :: vs, h => by simp [begP, begP_long us vs (by simpa using h)]
theorem ok_isNaN (s : ByteArray) : CallOK Try.prog 170 [.c (ps s)] (.c (pb false)) [.c (ps s)] := by
  refine okS (fn := Try.f170) [] h0 Try.func170 (by kernel_rfl) rfl Try.ntmps170 Try.results170 (by simp) ?_
  simp
theorem ok_cmpS (u v : ByteArray) : CallOK Try.prog 146 [.c (ps u), .c (ps v)] (.c (pi (cmpS u v))) [.c (ps u), .c (ps v)] := by
  refine okS (fn := Try.f146) [] h0 Try.func146 (by kernel_rfl) rfl Try.ntmps146 Try.results146 (by simp) ?_
  simp
  refine Inv_intro (ok_isNaN u) ?_
  simp
  refine Inv_intro (ok_isNaN v) ?_
  simp
  refine brn_app (fun a => ?_) (fun a => ?_)
  · have a' : sLt u v = true := a
    simp [cmpS, a']
  · have a' : sLt u v = false := a
    simp
    refine brn_app (fun b => ?_) (fun b => ?_)
    · have b' : u ≠ v := by
        rintro rfl
        simp at b
      simp [cmpS, a', b']
    · have b' : u = v := by
        have e : Op.bytesLess u.toList v.toList = false := a
        rw [e] at b
        simp at b
        exact bytes_toList_inj b
      subst b'
      simp [cmpS, a']
theorem ok_cmpP (k k' : Nat) (xs ys : List ByteArray) (ha : xs.length ≤ 140737488351232) (hb : ys.length ≤ 140737488351232) : CallOK Try.prog 109 [.c (rd k xs.length (xs.map ps)), .c (rd k' ys.length (ys.map ps))] (.c (pi (cmpP xs ys))) [.c (rd k xs.length (xs.map ps)), .c (rd k' ys.length (ys.map ps))] := by
  refine okS (fn := Try.f109) [] h0 Try.func109 (by kernel_rfl) rfl Try.ntmps109 Try.results109 (by simp) ?_
  simp
  refine loopS [0, 1, 9, 10, 11] [] (fun n st => ∃ (i : Nat), i + n = xs.length ∧ i ≤ ys.length ∧ cmpP (xs.drop i) (ys.drop i) = cmpP xs ys ∧ st = ⟨slOf 36 [(0, .t (rd k xs.length (xs.map ps))), (1, .t (rd k' ys.length (ys.map ps))), (9, .t (rd k xs.length (xs.map ps))), (10, .t (pi xs.length)), (11, .t (pi i))], ofL []⟩) xs.length ?_ ?_
  · rintro Inv hI
    simp
    subst hI
    exact ⟨0, by omega, by omega, rfl, rfl⟩
  · rintro Inv hI n st ⟨i, hi, hiy, hc, rfl⟩
    refine ewr_sound (M := []) h0 ?_
    simp
    refine brn_app (fun h => ?_) (fun h => ?_)
    · simp at h
      rw [drop_step xs i h] at hc
      simp [h]
      refine brn_app (fun h2 => ?_) (fun h2 => ?_)
      · simp at h2
        rw [List.drop_of_length_le (show ys.length ≤ i by omega), cmpP] at hc
        simp [← hc]
      · simp at h2
        rw [drop_step ys i h2, cmpP] at hc
        simp [h2]
        refine Inv_intro (ok_cmpS _ _) ?_
        simp
        refine brn_app (fun h3 => ?_) (fun h3 => ?_)
        · simp at h3
          rw [if_neg h3] at hc
          simp [hc]
        · simp at h3
          rw [if_pos h3] at hc
          simp
          subst hI
          exact Less_mk (n - 1) (by omega) ⟨i + 1, by omega, by omega, hc, by rw [wrNext i (by omega)]⟩
    · simp at h
      rw [List.drop_of_length_le (by omega)] at hc
      simp
      refine brn_app (fun h2 => ?_) (fun h2 => ?_)
      · simp at h2
        rw [drop_step ys i (by omega), cmpP] at hc
        simp [← hc]
      · simp at h2
        rw [List.drop_of_length_le (by omega), cmpP] at hc
        simp [← hc]
theorem ok_l15Less (k k' : Nat) (xs ys : List ByteArray) (ha : xs.length ≤ 140737488351232) (hb : ys.length ≤ 140737488351232) : CallOK Try.prog 124 [.c (rd k xs.length (xs.map ps)), .c (rd k' ys.length (ys.map ps))] (.c (pb (lessP xs ys))) [.c (rd k xs.length (xs.map ps)), .c (rd k' ys.length (ys.map ps))] := by
  refine okS (fn := Try.f124) [] h0 Try.func124 (by kernel_rfl) rfl Try.ntmps124 Try.results124 (by simp) ?_
  simp
  refine loopS [0, 1, 7, 8] [] (fun n st => ∃ (i : Nat), i + n = xs.length ∧ i ≤ ys.length ∧ lessP (xs.drop i) (ys.drop i) = lessP xs ys ∧ st = ⟨slOf 39 [(0, .t (rd k xs.length (xs.map ps))), (1, .t (rd k' ys.length (ys.map ps))), (7, .t (pi xs.length)), (8, .t (pi i))], ofL []⟩) xs.length ?_ ?_
  · rintro Inv hI
    simp
    subst hI
    exact ⟨0, by omega, by omega, rfl, rfl⟩
  · rintro Inv hI n st ⟨i, hi, hiy, hc, rfl⟩
    refine ewr_sound (M := []) h0 ?_
    simp
    refine brn_app (fun h => ?_) (fun h => ?_)
    · simp at h
      rw [drop_step xs i h] at hc
      simp
      refine brn_app (fun h2 => ?_) (fun h2 => ?_)
      · simp at h2
        rw [List.drop_of_length_le (show ys.length ≤ i by omega), lessP] at hc
        simp [← hc]
      · simp at h2
        have hib : i < ys.length := by omega
        rw [drop_step ys i hib, lessP] at hc
        simp
        refine drawP E0 [⟨[], allD 39, true⟩, ⟨[], allD 39, true⟩, ⟨[], allD 39, true⟩, ⟨[], allD 39, true⟩, ⟨[], allD 39, true⟩, ⟨[], allD 39, true⟩, ⟨[], allD 39, true⟩, ⟨[], allD 39, true⟩, ⟨[], allD 39, true⟩] h0 hm (E0_ok _) (by kernel_rfl) (by kernel_rfl) ?_
        simp [h, hib]
        refine brn_app (fun h3 => ?_) (fun h3 => ?_)
        · simp at h3
          rw [if_neg h3] at hc
          simp
          refine drawP E0 [⟨[], allD 39, true⟩, ⟨[], allD 39, true⟩, ⟨[], allD 39, true⟩, ⟨[], allD 39, true⟩, ⟨[], allD 39, true⟩, ⟨[], allD 39, true⟩, ⟨[], allD 39, true⟩, ⟨[], allD 39, true⟩, ⟨[], allD 39, true⟩, ⟨[], allD 39, true⟩] h0 hm (E0_ok _) (by kernel_rfl) (by kernel_rfl) ?_
          simp [h, hib, ← hc, sLt]
        · simp at h3
          rw [if_pos h3] at hc
          simp
          subst hI
          exact Less_mk (n - 1) (by omega) ⟨i + 1, by omega, by omega, hc, by rw [wrNext i (by omega)]⟩
    · simp at h
      rw [List.drop_of_length_le (by omega)] at hc
      simp
      by_cases h2 : i < ys.length
      · rw [drop_step ys i (by omega), lessP] at hc
        have : xs.length < ys.length := by omega
        simp [← hc, this]
      · rw [List.drop_of_length_le (by omega), lessP] at hc
        have : ¬ xs.length < ys.length := by omega
        simp [← hc, this]
theorem ok_l15Begins (k k' : Nat) (xs ys : List ByteArray) (ha : xs.length ≤ 140737488351232) (hb : ys.length ≤ 140737488351232) : CallOK Try.prog 79 [.c (rd k xs.length (xs.map ps)), .c (rd k' ys.length (ys.map ps))] (.c (pb (begP xs ys))) [.c (rd k xs.length (xs.map ps)), .c (rd k' ys.length (ys.map ps))] := by
  refine okS (fn := Try.f79) [] h0 Try.func79 (by kernel_rfl) rfl Try.ntmps79 Try.results79 (by simp) ?_
  simp
  refine loopS [0, 1, 7, 8] [] (fun n st => ∃ (i : Nat), i + n = xs.length ∧ i ≤ ys.length ∧ begP (xs.drop i) (ys.drop i) = begP xs ys ∧ st = ⟨slOf 27 [(0, .t (rd k xs.length (xs.map ps))), (1, .t (rd k' ys.length (ys.map ps))), (7, .t (pi xs.length)), (8, .t (pi i))], ofL []⟩) xs.length ?_ ?_
  · rintro Inv hI
    simp
    subst hI
    exact ⟨0, by omega, by omega, rfl, rfl⟩
  · rintro Inv hI n st ⟨i, hi, hiy, hc, rfl⟩
    refine ewr_sound (M := []) h0 ?_
    simp
    refine brn_app (fun h => ?_) (fun h => ?_)
    · simp at h
      rw [drop_step xs i h] at hc
      simp
      by_cases h2 : i < ys.length
      · rw [drop_step ys i h2, begP] at hc
        have h2' : ¬ (ys.length : Int) ≤ i := by omega
        refine drawP E0 [⟨[], allD 27, true⟩, ⟨[], allD 27, true⟩, ⟨[], allD 27, true⟩, ⟨[], allD 27, true⟩, ⟨[], allD 27, true⟩, ⟨[], allD 27, true⟩, ⟨[], allD 27, true⟩, ⟨[], allD 27, true⟩, ⟨[], allD 27, true⟩, ⟨[], allD 27, true⟩, ⟨[], allD 27, true⟩, ⟨[], allD 27, true⟩, ⟨[], allD 27, true⟩, ⟨[], allD 27, true⟩, ⟨[], allD 27, true⟩] h0 hm (E0_ok _) (by kernel_rfl) (by kernel_rfl) ?_
        simp [h, h2, h2']
        refine brn_app (fun h3 => ?_) (fun h3 => ?_)
        · simp at h3
          simp [h3] at hc
          simp [hc]
        · simp at h3
          simp [h3] at hc
          simp
          subst hI
          exact Less_mk (n - 1) (by omega) ⟨i + 1, by omega, by omega, hc, by rw [wrNext i (by omega)]⟩
      · have h2' : (ys.length : Int) ≤ i := by omega
        rw [List.drop_of_length_le (show ys.length ≤ i by omega), begP] at hc
        refine drawP E0 [⟨[], allD 27, true⟩, ⟨[], allD 27, true⟩, ⟨[], allD 27, true⟩, ⟨[], allD 27, true⟩, ⟨[], allD 27, true⟩, ⟨[], allD 27, true⟩, ⟨[], allD 27, true⟩, ⟨[], allD 27, true⟩, ⟨[], allD 27, true⟩, ⟨[], allD 27, true⟩, ⟨[], allD 27, true⟩, ⟨[], allD 27, true⟩, ⟨[], allD 27, true⟩, ⟨[], allD 27, true⟩, ⟨[], allD 27, true⟩] h0 hm (E0_ok _) (by kernel_rfl) (by kernel_rfl) ?_
        simp [h2', ← hc]
    · simp at h
      rw [List.drop_of_length_le (by omega), begP] at hc
      simp [← hc]
theorem ok_EqualS (k k' : Nat) (xs ys : List ByteArray) (ha : xs.length ≤ 140737488351232) (hb : ys.length ≤ 140737488351232) : CallOK Try.prog 125 [.c (rd k xs.length (xs.map ps)), .c (rd k' ys.length (ys.map ps))] (.c (pb (decide (xs = ys)))) [.c (rd k xs.length (xs.map ps)), .c (rd k' ys.length (ys.map ps))] := by
  refine okS (fn := Try.f125) [] h0 Try.func125 (by kernel_rfl) rfl Try.ntmps125 Try.results125 (by simp) ?_
  simp
  refine brn_app (fun h => ?_) (fun h => ?_)
  · simp at h
    simp
    rintro rfl
    exact h rfl
  · simp at h
    have hl : ys.length = xs.length := by omega
    simp
    refine loopS [0, 1, 12, 13] [] (fun n st => ∃ (i : Nat), i + n = xs.length ∧ (xs.drop i = ys.drop i ↔ xs = ys) ∧ st = ⟨slOf 26 [(0, .t (rd k xs.length (xs.map ps))), (1, .t (rd k' ys.length (ys.map ps))), (12, .t (pi xs.length)), (13, .t (pi i))], ofL []⟩) xs.length ?_ ?_
    · rintro Inv hI
      simp
      subst hI
      exact ⟨0, by omega, by simp, rfl⟩
    · rintro Inv hI n st ⟨i, hi, htk, rfl⟩
      refine ewr_sound (M := []) h0 ?_
      simp
      refine brn_app (fun h => ?_) (fun h => ?_)
      · simp at h
        have hib : i < ys.length := by omega
        rw [drop_step xs i h, drop_step ys i hib, List.cons.injEq] at htk
        simp
        refine drawP E0 [⟨[], allD 26, true⟩, ⟨[], allD 26, true⟩, ⟨[], allD 26, true⟩, ⟨[], allD 26, true⟩, ⟨[], allD 26, true⟩, ⟨[], allD 26, true⟩, ⟨[], allD 26, true⟩, ⟨[], allD 26, true⟩, ⟨[], allD 26, true⟩] h0 hm (E0_ok _) (by kernel_rfl) (by kernel_rfl) ?_
        simp [h, hib]
        refine brn_app (fun h2 => ?_) (fun h2 => ?_)
        · simp at h2
          simp
          intro he
          exact h2 (htk.2 he).1
        · simp at h2
          simp
          subst hI
          exact Less_mk (n - 1) (by omega) ⟨i + 1, by omega, ⟨fun h4 => htk.1 ⟨h2, h4⟩, fun h4 => (htk.2 h4).2⟩, by rw [wrNext i (by omega)]⟩
      · simp at h
        rw [List.drop_of_length_le (by omega), List.drop_of_length_le (by omega)] at htk
        simp
        exact htk.1 rfl
theorem ok_begins (k k' : Nat) (xs ys : List ByteArray) (ha : xs.length ≤ 140737488351232) (hb : ys.length ≤ 140737488351232) : CallOK Try.prog 82 [.c (rd k xs.length (xs.map ps)), .c (rd k' ys.length (ys.map ps))] (.c (pb (begP xs ys))) [.c (rd k xs.length (xs.map ps)), .c (rd k' ys.length (ys.map ps))] := by
  refine okS (fn := Try.f82) [] h0 Try.func82 (by kernel_rfl) rfl Try.ntmps82 Try.results82 (by simp) ?_
  simp
  refine gT (fun a => ?_) (fun a => ?_)
  · have a1 : xs.length ≤ ys.length := by simpa using a
    simp [a, a1]
    have hc := ok_EqualS k k' xs (ys.take xs.length) ha (by simp; omega)
    simp [a1] at hc
    refine Inv_intro hc ?_
    simp [begP_take _ _ a1]
  · have a1 : ys.length < xs.length := by simpa using a
    simp [a, begP_long _ _ a1]
end Go.V
