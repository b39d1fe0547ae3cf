/- What functions of the seat's program do, each proved of its code, under the bounds that its theorem names. -/
import Derived.Test.YtfooiclnbkchmaaFacts
set_option linter.all false
namespace Go.V
open Go.Proofs
set_option maxHeartbeats 1000000
set_option maxRecDepth 10000
set_option linter.unusedSimpArgs false
set_option linter.unusedVariables false
theorem open_String {n : Nat} {qs : List PT} (h : TyC Try.prog (n + 1) 9 qs) : ∃ x : ByteArray, qs = [ps x] ∧ x.size ≤ 140737488351232 := by
  unfold TyC at h
  rw [Try.underlying9] at h
  simp only at h
  obtain ⟨s, rfl, hs⟩ := h
  exact ⟨s, rfl, hs⟩
theorem open_each {α : Type} {f : α → List PT} {q : α → Prop} : ∀ {cells : List (List PT)}, (∀ c ∈ cells, ∃ x, c = f x ∧ q x) → ∃ xs : List α, cells = xs.map f ∧ ∀ x ∈ xs, q x
  | [], _ => ⟨[], rfl, by simp⟩
  | c :: cs, h => by
    obtain ⟨x, hx, hq⟩ := h c (by simp)
    obtain ⟨xs, hxs, hqs⟩ := open_each (cells := cs) fun d hd => h d (by simp [hd])
    refine ⟨x :: xs, by rw [hx, hxs]; rfl, fun y hy => ?_⟩
    rcases List.mem_cons.1 hy with rfl | hy
    · exact hq
    · exact hqs y hy
theorem open_flat {α : Type} (f : α → PT) : ∀ xs : List α, (xs.map fun x => [f x]).flatten = xs.map f
  | [] => rfl
  | x :: xs => by simp [open_flat f xs]
def mtGo : Nat → Int → ByteArray → ByteArray
  | 0, _, s => s
  | n + 1, k, s => if 0 < k then mtGo n (IntKind.wrap .i64 (k.tdiv 10)) (strOf [IntKind.wrap .u8 (IntKind.wrap .i64 (48 + k.tmod 10))] ++ s) else s
/-- The text that marks a string. -/
def mtext (k : Int) : ByteArray := if k ≤ 0 then ⟨#[109, 48]⟩ else ⟨#[109]⟩ ++ mtGo k.toNat k ⟨#[]⟩
theorem mtGo_size : ∀ (n : Nat) (k : Int) (s : ByteArray), (mtGo n k s).size ≤ n + s.size
  | 0, _, s => by simp [mtGo]
  | n + 1, k, s => by
    unfold mtGo
    split
    · have := mtGo_size n (IntKind.wrap .i64 (k.tdiv 10)) (strOf [IntKind.wrap .u8 (IntKind.wrap .i64 (48 + k.tmod 10))] ++ s)
      have e : (strOf [IntKind.wrap .u8 (IntKind.wrap .i64 (48 + k.tmod 10))] ++ s).size = 1 + s.size := by
        rw [ByteArray.size_append]; rfl
      omega
    · omega
theorem ok_markText (k : Int) (hk : k ≤ 4611686018427387904) : CallOK Try.prog 60 [.c (pi k)] (.c (ps (mtext k))) [.c (pi k)] := by
  refine okS (fn := Try.f60) [] h0 Try.func60 (by kernel_rfl) rfl Try.ntmps60 Try.results60 (by simp) ?_
  simp
  refine brn_app (fun h => ?_) (fun h => ?_)
  · simp at h
    simp [mtext, h]
  · simp at h
    simp
    have hn : ¬ k ≤ 0 := by omega
    refine loopS [0, 3] [] (fun n st => ∃ (j : Int) (s : ByteArray), j ≤ n ∧ 0 ≤ j ∧ j + s.size ≤ 4611686018427387904 ∧ mtGo n j s = mtGo k.toNat k ⟨#[]⟩ ∧ st = ⟨slOf 20 [(0, .t (pi j)), (3, .t (ps s))], ofL []⟩) k.toNat ?_ ?_
    · rintro Inv hI
      simp
      subst hI
      exact ⟨k, ⟨#[]⟩, by omega, by omega, by show k + 0 ≤ _; omega, rfl, rfl⟩
    · rintro Inv hI n st ⟨j, s, hj, hj0, hjs, hm, rfl⟩
      refine ewr_sound (M := []) h0 ?_
      simp
      refine brn_app (fun h => ?_) (fun h => ?_)
      · simp at h
        have hsz : (strOf [IntKind.wrap .u8 (IntKind.wrap .i64 (48 + j.tmod 10))]).size = 1 := rfl
        have hc : (strOf [IntKind.wrap .u8 (IntKind.wrap .i64 (48 + j.tmod 10))]).size + s.size ≤ 9223372036854775807 := by rw [hsz]; omega
        simp [hc]
        have hq : IntKind.wrap .i64 (j.tdiv 10) = j / 10 := by rw [Int.tdiv_eq_ediv_of_nonneg hj0]; exact wrap64 (by omega) (by omega)
        obtain ⟨m, rfl⟩ : ∃ m, n = m + 1 := ⟨n - 1, by omega⟩
        subst hI
        refine Less_mk m (by omega) ⟨j / 10, strOf [IntKind.wrap .u8 (IntKind.wrap .i64 (48 + j.tmod 10))] ++ s, by omega, by omega, ?_, ?_, by rw [hq]⟩
        · rw [ByteArray.size_append, hsz]; omega
        · rw [mtGo, if_pos h, hq] at hm
          exact hm
      · simp at h
        have hs : mtGo n j s = s := by
          cases n with
          | zero => rfl
          | succ n => rw [mtGo, if_neg (by omega)]
        rw [hs] at hm
        subst hm
        have := mtGo_size k.toNat k ⟨#[]⟩
        have e0 : (⟨#[]⟩ : ByteArray).size = 0 := rfl
        have hc : (⟨#[109]⟩ : ByteArray).size + (mtGo k.toNat k ⟨#[]⟩).size ≤ 9223372036854775807 := by
          have e1 : (⟨#[109]⟩ : ByteArray).size = 1 := rfl
          omega
        simp [hc, mtext, hn]
abbrev cStringSo (xs : List ByteArray) : PT := .sl 0 9 xs.length (xs.map ps)
abbrev cStringSi (k : Nat) (xs : List ByteArray) : PT := rd k xs.length (xs.map ps)
def wt_StringS (xs : List ByteArray) : Nat := wtR ByteArray.size xs
theorem len_wt_StringS (xs : List ByteArray) : xs.length ≤ wt_StringS xs := by unfold wt_StringS wtR; omega
theorem mem_wt_StringS {xs : List ByteArray} {x : ByteArray} (h : x ∈ xs) : x.size ≤ wt_StringS xs := by
  have := wt_mem ByteArray.size h
  unfold wt_StringS wtR
  omega
def fits_StringS (xs : List ByteArray) : Prop := xs.length ≤ 140737488351232 ∧ ∀ x ∈ xs, x.size ≤ 140737488351232
def lens_StringS (xs : List ByteArray) : Prop := xs.length ≤ 140737488351232 ∧ ∀ x ∈ xs, True
def mk_StringS (xs : List ByteArray) (k : Int) : List ByteArray × Int := mkR (fun (_ : ByteArray) k => (mtext k, k + 1)) xs k
def cn_StringS (xs : List ByteArray) : Nat := cnR (fun (_ : ByteArray) => 1) xs
theorem mk_StringS_len (xs : List ByteArray) (k : Int) : (mk_StringS xs k).1.length = xs.length := mkR_len _ xs k
attribute [simp] mk_StringS_len
theorem mk_StringS_snd (xs : List ByteArray) (k : Int) : (mk_StringS xs k).2 = k + cn_StringS xs := mkR_snd (fun _ _ => rfl) xs k
theorem lens_of_StringS {xs : List ByteArray} (h : wt_StringS xs ≤ 1048576) : lens_StringS xs := by
  have hl := len_wt_StringS xs
  exact ⟨by omega, fun _ _ => trivial⟩
theorem cn_len_StringS (xs : List ByteArray) : cn_StringS xs ≤ 32 * xs.length := cnR_le0 (fun x => by omega) xs
theorem cn_le_StringS (xs : List ByteArray) : cn_StringS xs ≤ 32 * wt_StringS xs := cnR_le (fun _ => by omega) xs
theorem open_StringS {n : Nat} {qs : List PT} (h : TyC Try.prog (n + 2) 22 qs) : ∃ x : (List ByteArray), qs = [rd 1 x.length (x.map ps)] ∧ fits_StringS x := by
  unfold TyC at h
  rw [Try.underlying22] at h
  simp only at h
  obtain ⟨cells, rfl, hl, hc⟩ := h
  obtain ⟨xs, rfl, hx⟩ := open_each (f := fun x : ByteArray => [ps x]) (q := fun x => x.size ≤ 140737488351232) (fun c hcc => open_String (hc c hcc)) 
  refine ⟨xs, ?_, ?_⟩
  · simp only [List.length_map, open_flat]
  · have e1 : Try.prog.bytesOf 9 = 16 := by kernel_rfl
    rw [e1, List.length_map] at hl
    have e2 : reachBytes = 140737488351232 := rfl
    rw [e2] at hl
    exact ⟨by omega, hx⟩
theorem open_Int {n : Nat} {qs : List PT} (h : TyC Try.prog (n + 1) 3 qs) : ∃ x : Int, qs = [pi x] ∧ True := by
  unfold TyC at h
  rw [Try.underlying3] at h
  simp only at h
  obtain ⟨m, rfl, _⟩ := h
  exact ⟨m, rfl, trivial⟩
structure GWrite where
  At : Int
  Data : ByteArray
  deriving DecidableEq
def GWrite.c (x : GWrite) : List PT := [pi x.At, ps x.Data]
attribute [simp] GWrite.c
theorem GWrite.len (x : GWrite) : x.c.length = 2 := rfl
theorem GWrite.un (xs : List GWrite) : PT.unownL (xs.flatMap GWrite.c) = xs.flatMap GWrite.c := by
  rw [unownL_fm]
  congr 1
theorem GWrite.nt (xs : List GWrite) : PT.noTmpL (xs.flatMap GWrite.c) = true := noTmpL_fm _ xs fun _ => rfl
attribute [simp] GWrite.un GWrite.nt
theorem GWrite.lenR (xs : List GWrite) : (xs.flatMap GWrite.c).length = xs.length * 2 := fm_len _ 2 (fun _ => rfl) xs
theorem GWrite.tkR (xs : List GWrite) : (xs.flatMap GWrite.c).take (xs.length * 2) = xs.flatMap GWrite.c := List.take_of_length_le (by rw [GWrite.lenR]; exact Nat.le_refl _)
attribute [simp high] GWrite.lenR GWrite.tkR
def GWrite.wt (x : GWrite) : Nat := x.Data.size
def GWrite.fits (x : GWrite) : Prop := x.Data.size ≤ 140737488351232
def GWrite.mark (x : GWrite) (k : Int) : GWrite × Int := (⟨k, mtext (k + 1)⟩, ((k + 1) + 1))
def GWrite.cn (x : GWrite) : Nat := 1 + 1
theorem GWrite.mark_snd (x : GWrite) (k : Int) : (GWrite.mark x k).2 = k + GWrite.cn x := by
  simp only [GWrite.mark, GWrite.cn] <;> omega
theorem cnE_le_Write (x : GWrite) : GWrite.cn x ≤ 32 * GWrite.wt x + 16 := by
  unfold GWrite.cn
  omega
theorem open_Write {n : Nat} {qs : List PT} (h : TyC Try.prog (n + 2) 101 qs) : ∃ x : GWrite, qs = GWrite.c x ∧ GWrite.fits x := by
  unfold TyC at h
  rw [Try.underlying101] at h
  simp only [TyFs] at h
  obtain ⟨p0, q0, rfl, h0, ⟨p1, q1, rfl, h1, rfl⟩⟩ := h
  obtain ⟨x0, rfl, y0⟩ := open_Int (n := n + 0) h0
  obtain ⟨x1, rfl, y1⟩ := open_String (n := n + 0) h1
  exact ⟨⟨x0, x1⟩, rfl, y1⟩
abbrev cWriteSo (xs : List GWrite) : PT := .sl 0 61 xs.length (xs.flatMap GWrite.c)
abbrev cWriteSi (k : Nat) (xs : List GWrite) : PT := rd k xs.length (xs.flatMap GWrite.c)
def wt_WriteS (xs : List GWrite) : Nat := wtR GWrite.wt xs
theorem len_wt_WriteS (xs : List GWrite) : xs.length ≤ wt_WriteS xs := by unfold wt_WriteS wtR; omega
theorem mem_wt_WriteS {xs : List GWrite} {x : GWrite} (h : x ∈ xs) : GWrite.wt x ≤ wt_WriteS xs := by
  have := wt_mem GWrite.wt h
  unfold wt_WriteS wtR
  omega
def fits_WriteS (xs : List GWrite) : Prop := xs.length ≤ 140737488351232 ∧ ∀ x ∈ xs, GWrite.fits x
def lens_WriteS (xs : List GWrite) : Prop := xs.length ≤ 140737488351232 ∧ ∀ x ∈ xs, True
def mk_WriteS (xs : List GWrite) (k : Int) : List GWrite × Int := mkR GWrite.mark xs k
def cn_WriteS (xs : List GWrite) : Nat := cnR GWrite.cn xs
theorem mk_WriteS_len (xs : List GWrite) (k : Int) : (mk_WriteS xs k).1.length = xs.length := mkR_len _ xs k
attribute [simp] mk_WriteS_len
theorem mk_WriteS_snd (xs : List GWrite) (k : Int) : (mk_WriteS xs k).2 = k + cn_WriteS xs := mkR_snd (GWrite.mark_snd) xs k
theorem lens_of_WriteS {xs : List GWrite} (h : wt_WriteS xs ≤ 1048576) : lens_WriteS xs := by
  have hl := len_wt_WriteS xs
  exact ⟨by omega, fun _ _ => trivial⟩
theorem cn_len_WriteS (xs : List GWrite) : cn_WriteS xs ≤ 32 * xs.length := cnR_le0 (fun x => by simp only [GWrite.cn]; omega) xs
theorem cn_le_WriteS (xs : List GWrite) : cn_WriteS xs ≤ 32 * wt_WriteS xs := cnR_le (fun x => by have := cnE_le_Write x; omega) xs
theorem open_WriteS {n : Nat} {qs : List PT} (h : TyC Try.prog (n + 3) 23 qs) : ∃ x : (List GWrite), qs = [rd 1 x.length (x.flatMap GWrite.c)] ∧ fits_WriteS x := by
  unfold TyC at h
  rw [Try.underlying23] at h
  simp only at h
  obtain ⟨cells, rfl, hl, hc⟩ := h
  obtain ⟨xs, rfl, hx⟩ := open_each (f := fun x : GWrite => GWrite.c x) (q := fun x => GWrite.fits x) (fun c hcc => open_Write (hc c hcc)) 
  refine ⟨xs, ?_, ?_⟩
  · simp only [List.length_map]
    rfl
  · have e1 : Try.prog.bytesOf 101 = 24 := by kernel_rfl
    rw [e1, List.length_map] at hl
    have e2 : reachBytes = 140737488351232 := rfl
    rw [e2] at hl
    exact ⟨by omega, hx⟩
structure GDisk where
  Sectors : (List ByteArray)
  Waiting : (List GWrite)
  deriving DecidableEq
def GDisk.co (x : GDisk) : List PT := [.sl 0 9 x.Sectors.length (x.Sectors.map ps), .sl 0 61 x.Waiting.length (x.Waiting.flatMap GWrite.c)]
def GDisk.ci (k : Nat) (x : GDisk) : List PT := [rd k x.Sectors.length (x.Sectors.map ps), rd k x.Waiting.length (x.Waiting.flatMap GWrite.c)]
attribute [simp] GDisk.co GDisk.ci
theorem GDisk.len_o (x : GDisk) : x.co.length = 2 := rfl
theorem GDisk.len_i (k : Nat) (x : GDisk) : (x.ci k).length = 2 := rfl
theorem GDisk.un1 (x : GDisk) : PT.unownL x.co = x.ci 0 := by simp [rd]
theorem GDisk.uni1 (k : Nat) (x : GDisk) : PT.unownL (x.ci k) = x.ci 0 := by simp [rd]
theorem GDisk.un (xs : List GDisk) : PT.unownL (xs.flatMap GDisk.co) = xs.flatMap (GDisk.ci 0) := by
  rw [unownL_fm]
  congr 1
  funext x
  exact GDisk.un1 x
theorem GDisk.uni (k : Nat) (xs : List GDisk) : PT.unownL (xs.flatMap (GDisk.ci k)) = xs.flatMap (GDisk.ci 0) := by
  rw [unownL_fm]
  congr 1
  funext x
  exact GDisk.uni1 k x
theorem GDisk.nt (xs : List GDisk) : PT.noTmpL (xs.flatMap GDisk.co) = true := noTmpL_fm _ xs fun x => by simp
theorem GDisk.nti (k : Nat) (xs : List GDisk) : PT.noTmpL (xs.flatMap (GDisk.ci (k + 1))) = true := noTmpL_fm _ xs fun x => by simp [rd]
attribute [simp] GDisk.un GDisk.uni GDisk.nt GDisk.nti
theorem GDisk.lenR (xs : List GDisk) : (xs.flatMap GDisk.co).length = xs.length * 2 := fm_len _ 2 (fun _ => rfl) xs
theorem GDisk.lenRi (k : Nat) (xs : List GDisk) : (xs.flatMap (GDisk.ci k)).length = xs.length * 2 := fm_len _ 2 (fun _ => rfl) xs
theorem GDisk.tkR (xs : List GDisk) : (xs.flatMap GDisk.co).take (xs.length * 2) = xs.flatMap GDisk.co := List.take_of_length_le (by rw [GDisk.lenR]; exact Nat.le_refl _)
theorem GDisk.tkRi (k : Nat) (xs : List GDisk) : (xs.flatMap (GDisk.ci k)).take (xs.length * 2) = xs.flatMap (GDisk.ci k) := List.take_of_length_le (by rw [GDisk.lenRi]; exact Nat.le_refl _)
attribute [simp high] GDisk.lenR GDisk.tkR GDisk.lenRi GDisk.tkRi
def GDisk.wt (x : GDisk) : Nat := wt_StringS x.Sectors + wt_WriteS x.Waiting
def GDisk.fits (x : GDisk) : Prop := fits_StringS x.Sectors ∧ fits_WriteS x.Waiting
def GDisk.lens (x : GDisk) : Prop := lens_StringS x.Sectors ∧ lens_WriteS x.Waiting
def GDisk.mark (x : GDisk) (k : Int) : GDisk × Int := (⟨(mk_StringS x.Sectors k).1, (mk_WriteS x.Waiting (mk_StringS x.Sectors k).2).1⟩, (mk_WriteS x.Waiting (mk_StringS x.Sectors k).2).2)
def GDisk.cn (x : GDisk) : Nat := cn_StringS x.Sectors + cn_WriteS x.Waiting
theorem GDisk.mark_snd (x : GDisk) (k : Int) : (GDisk.mark x k).2 = k + GDisk.cn x := by
  simp only [GDisk.mark, GDisk.cn, mk_StringS_snd, mk_WriteS_snd] <;> omega
def GDisk.markT (x : GDisk) (k : Int) : GDisk × Int := (⟨(mk_StringS x.Sectors k).1, (mk_WriteS x.Waiting (mk_StringS x.Sectors k).2).1⟩, (mk_WriteS x.Waiting (mk_StringS x.Sectors k).2).2)
def GDisk.cnT (x : GDisk) : Nat := cn_StringS x.Sectors + cn_WriteS x.Waiting
theorem GDisk.markT_snd (x : GDisk) (k : Int) : (GDisk.markT x k).2 = k + GDisk.cnT x := by
  simp only [GDisk.markT, GDisk.cnT, mk_StringS_snd, mk_WriteS_snd] <;> omega
theorem lens_of_Disk {x : GDisk} (h : GDisk.wt x ≤ 1048576) : GDisk.lens x := by
  unfold GDisk.wt at h
  exact ⟨lens_of_StringS (by omega), lens_of_WriteS (by omega)⟩
theorem cn_le_Disk (x : GDisk) : GDisk.cnT x ≤ 32 * GDisk.wt x := by
  unfold GDisk.cnT GDisk.wt
  have := cn_le_StringS x.Sectors
  have := cn_le_WriteS x.Waiting
  omega
theorem cnE_le_Disk (x : GDisk) : GDisk.cn x ≤ 32 * GDisk.wt x + 16 := by
  unfold GDisk.cn GDisk.wt
  have := cn_le_StringS x.Sectors
  have := cn_le_WriteS x.Waiting
  omega
theorem open_Disk {n : Nat} {qs : List PT} (h : TyC Try.prog (n + 4) 25 qs) : ∃ x : GDisk, qs = GDisk.ci 1 x ∧ GDisk.fits x := by
  unfold TyC at h
  rw [Try.underlying25] at h
  simp only [TyFs] at h
  obtain ⟨p0, q0, rfl, h0, ⟨p1, q1, rfl, h1, rfl⟩⟩ := h
  obtain ⟨x0, rfl, y0⟩ := open_StringS (n := n + 1) h0
  obtain ⟨x1, rfl, y1⟩ := open_WriteS (n := n + 0) h1
  exact ⟨⟨x0, x1⟩, rfl, ⟨y0, y1⟩⟩
theorem ok_Clone_String (k : Nat) (xs : List ByteArray) (hx : xs.length ≤ 1048576) : CallOK Try.prog 70 [.c (rd k xs.length (xs.map ps))] (.c (.sl 0 9 xs.length (xs.map ps))) [.c (rd k xs.length (xs.map ps))] := by
  refine okS (fn := Try.f70) [] h0 Try.func70 (by kernel_rfl) rfl Try.ntmps70 Try.results70 (by simp) ?_
  cases xs with
  | nil => simp
  | cons y ys =>
    simp only [List.length_cons] at hx
    have hb : (ys.length + 1) * 16 ≤ 140737488355328 ∧ ys.length + 1 ≤ 9223372036854775807 := by omega
    have hb2 : ys.length + 1 ≤ 9223372036854775807 := by omega
    have hb1 : (ys.length + 1) * 16 ≤ 140737488355328 := by omega
    simp [hb1, hb2]
theorem ok_Clone_Write (k : Nat) (xs : List GWrite) (hx : xs.length ≤ 1048576) : CallOK Try.prog 71 [.c (rd k xs.length (xs.flatMap GWrite.c))] (.c (.sl 0 61 xs.length (xs.flatMap GWrite.c))) [.c (rd k xs.length (xs.flatMap GWrite.c))] := by
  refine okS (fn := Try.f71) [] h0 Try.func71 (by kernel_rfl) rfl Try.ntmps71 Try.results71 (by simp) ?_
  cases xs with
  | nil => simp
  | cons y ys =>
    simp only [List.length_cons] at hx
    have hb : (ys.length + 1) * 24 ≤ 140737488355328 ∧ ys.length + 1 ≤ 9223372036854775807 := by omega
    have hb2 : ys.length + 1 ≤ 9223372036854775807 := by omega
    have hb1 : (ys.length + 1) * 24 ≤ 140737488355328 := by omega
    have he : ys.length * 2 + 1 + 1 = (ys.length + 1) * 2 := by omega
    have ht : List.take ((ys.length + 1) * 2) (pi y.At :: ps y.Data :: ys.flatMap GWrite.c) = (pi y.At :: ps y.Data :: ys.flatMap GWrite.c) := GWrite.tkR (y :: ys)
    simp [hb1, hb2, he, ht]
/-- An element of a row is replaced. -/
theorem map_set {α : Type} (f : α → PT) (xs : List α) (i : Nat) (y : α) (h : i < xs.length) : (xs.map f).take i ++ f y :: (xs.map f).drop (i + 1) = (xs.set i y).map f := by
  rw [List.set_eq_take_append_cons_drop, if_pos h]
  simp
theorem ok_l17Own (k : Nat) (d : GDisk) (h1 : d.Sectors.length ≤ 1048576) (h2 : d.Waiting.length ≤ 1048576) : CallOK Try.prog 64 [.agg (d.ci k)] (.agg d.co) [.agg (d.ci k)] := by
  refine okS (fn := Try.f64) [] h0 Try.func64 (by kernel_rfl) rfl Try.ntmps64 Try.results64 (by simp) ?_
  simp
  refine drawP E0 [⟨[], allD 12, false⟩, ⟨[.op 0 0 0], allD 12, true⟩, ⟨[.op 0 0 0], allD 12, true⟩, ⟨[.op 1 0 0], [3, 4, 5, 6, 7, 8, 9, 10, 11], false⟩, ⟨[], allD 12, false⟩, ⟨[.op 0 0 0], allD 12, true⟩, ⟨[.op 0 0 0], allD 12, true⟩, ⟨[.op 1 4 0], [3, 4, 5, 6, 7, 8, 9, 10, 11], false⟩, ⟨[.op 1 0 0, .op 1 3 0, .op 1 4 0, .op 1 7 0], allD 12, true⟩, ⟨[.op 0 1 0, .op 1 0 0, .op 1 3 0, .op 1 4 0, .op 1 7 0], [3, 4, 5, 6, 7, 8, 9, 10, 11], false⟩] h0 hm (E0_ok _) (by kernel_rfl) (by kernel_rfl) ?_
  have b1 : d.Sectors.length * 16 ≤ 140737488355328 := by omega
  have b2 : d.Sectors.length ≤ 9223372036854775807 := by omega
  have b3 : d.Waiting.length * 24 ≤ 140737488355328 := by omega
  have b4 : d.Waiting.length ≤ 9223372036854775807 := by omega
  by_cases c1 : d.Sectors = []
  · by_cases c2 : d.Waiting = []
    · simp [c1, c2]
    · simp [c1, c2, b3, b4]
  · by_cases c2 : d.Waiting = []
    · simp [c1, c2, b1, b2]
    · simp [c1, c2, b1, b2, b3, b4]
theorem ok_waiting (k : Nat) (d : GDisk) (w : GWrite) (h1 : d.Sectors.length ≤ 1048576) (h2 : d.Waiting.length ≤ 1048576) : CallOK Try.prog 84 [.agg (d.ci k), .agg w.c] (.agg (GDisk.co ⟨d.Sectors, d.Waiting ++ [w]⟩)) [.agg (d.ci k), .agg w.c] := by
  refine okS (fn := Try.f84) [] h0 Try.func84 (by kernel_rfl) rfl Try.ntmps84 Try.results84 (by simp) ?_
  simp
  refine drawP (tabEnv [] _) [⟨[.op 0 0 0], allD 15, true⟩, ⟨[.op 0 0 0], allD 15, true⟩, ⟨[], allD 15, false⟩, ⟨[.op 0 0 0], allD 15, true⟩, ⟨[.op 0 0 0], allD 15, true⟩, ⟨[], allD 15, false⟩, ⟨[.op 0 1 0], allD 15, true⟩, ⟨[], allD 15, false⟩, ⟨[.op 1 5 0, .op 1 7 0], [5, 6, 7, 8, 9, 10, 11, 12, 13, 14], false⟩, ⟨[.op 1 2 0, .op 1 8 0], allD 15, true⟩, ⟨[.op 0 2 0, .op 1 2 0, .op 1 8 0], [5, 6, 7, 8, 9, 10, 11, 12, 13, 14], false⟩] h0 hm (tabEnv_ok (tab_cons (ok_Clone_String k d.Sectors h1) (tab_cons (ok_Clone_Write k d.Waiting h2) tab_nil))) (by kernel_rfl) (by kernel_rfl) ?_
  have b3 : (d.Waiting.length + 1) * 24 ≤ 140737488355328 := by omega
  have b4 : d.Waiting.length + 1 ≤ 9223372036854775807 := by omega
  simp [b3, b4]
/-- A disk behind some of the writes that wait. -/
def applyW (keep : Nat → Bool) : Nat → List GWrite → List ByteArray → List ByteArray
  | _, [], ss => ss
  | i, w :: ws, ss => applyW keep (i + 1) ws (if keep i = true then ss.set w.At.toNat w.Data else ss)
theorem applyW_len (keep : Nat → Bool) : ∀ (ws : List GWrite) (i : Nat) (ss : List ByteArray), (applyW keep i ws ss).length = ss.length
  | [], i, ss => rfl
  | w :: ws, i, ss => by
    unfold applyW
    rw [applyW_len]
    split <;> simp
theorem applyW_congr {f g : Nat → Bool} {n : Nat} (h : ∀ i, i < n → f i = g i) : ∀ (ws : List GWrite) (i : Nat) (ss : List ByteArray), i + ws.length ≤ n → applyW f i ws ss = applyW g i ws ss
  | [], i, ss, _ => rfl
  | w :: ws, i, ss, hi => by
    simp only [List.length_cons] at hi
    unfold applyW
    rw [h i (by omega), applyW_congr h ws (i + 1) _ (by omega)]
def atOK (n : Nat) (w : GWrite) : Prop := 0 ≤ w.At ∧ w.At < n
theorem ok_written (k q g : Nat) (caps : List (List PT)) (d : GDisk) (keep : Nat → Bool) (h1 : d.Sectors.length ≤ 1048576) (h2 : d.Waiting.length ≤ 1048576) (hat : ∀ w ∈ d.Waiting, atOK d.Sectors.length w)
    (hg : ∀ i : Nat, i < d.Waiting.length → CallOK Try.prog g (.c (pi i) :: caps.map (PV.ip q)) (.c (pb (keep i))) (.c (pi i) :: caps.map (PV.ip q))) :
    CallOK Try.prog 67 [.agg (d.ci k), .c (.fn q g caps)] (.agg (GDisk.co ⟨applyW keep 0 d.Waiting d.Sectors, []⟩)) [.agg (d.ci k), .c (.fn q g caps)] := by
  refine okS (fn := Try.f67) [] h0 Try.func67 (by kernel_rfl) rfl Try.ntmps67 Try.results67 (by simp) ?_
  simp
  refine Inv_intro (ok_Clone_String k d.Sectors h1) ?_
  simp
  refine loopS [1, 4, 5, 13, 14, 15] [.op 0 1 0, .op 1 4 0] (fun n st => ∃ (i : Nat) (ss : List ByteArray), i + n = d.Waiting.length ∧ ss.length = d.Sectors.length ∧ applyW keep i (d.Waiting.drop i) ss = applyW keep 0 d.Waiting d.Sectors ∧ st = ⟨slOf 32 [(1, .t (.fn q g caps)), (4, .ptr ⟨.op 0 1 0, []⟩ 0), (5, .ptr ⟨.op 1 4 0, []⟩ 0), (13, .t (rd k d.Waiting.length (d.Waiting.flatMap GWrite.c))), (14, .t (pi d.Waiting.length)), (15, .t (pi i))], ofL [(.op 0 1 0, .sl 0 31 1 [.sl 0 nilE 0 [], .sl 0 nilE 0 []]), (.op 1 4 0, .sl 0 31 1 [.sl 0 9 ss.length (ss.map ps), .sl 0 nilE 0 []])]⟩) d.Waiting.length ?_ ?_
  · rintro Inv hI
    simp
    subst hI
    exact ⟨0, d.Sectors, by omega, rfl, rfl, rfl⟩
  · rintro Inv hI n st ⟨i, ss, hi, hss, hap, rfl⟩
    refine ewr_sound (M := []) h0 ?_
    simp
    refine brn_app (fun h => ?_) (fun h => ?_)
    · simp at h
      have hd := fm_drop GWrite.c 2 (fun _ => rfl) d.Waiting i h
      have hlt : i * 2 < d.Waiting.length * 2 := by omega
      have hw := hat _ (List.getElem_mem h)
      unfold atOK at hw
      rw [drop_step _ i h, applyW] at hap
      simp [h, hd, hlt]
      refine Inv_intro (hg i h) ?_
      simp
      refine brn_app (fun a => ?_) (fun a => ?_)
      · rw [if_pos a] at hap
        have hn : d.Waiting[i].At.toNat < ss.length := by omega
        have hn2 : d.Waiting[i].At < ss.length := by omega
        have hn1 : d.Waiting[i].At.toNat + 1 ≤ ss.length := by omega
        have hs := map_set ps ss d.Waiting[i].At.toNat d.Waiting[i].Data hn
        simp [hw.1, hn2, hn1]
        subst hI
        refine Less_mk (n - 1) (by omega) ⟨i + 1, ss.set d.Waiting[i].At.toNat d.Waiting[i].Data, by omega, by simp [hss], hap, ?_⟩
        rw [wrNext i (by omega)]
        simp at hs
        simp [hs]
      · rw [if_neg (by simp [a])] at hap
        simp
        subst hI
        exact Less_mk (n - 1) (by omega) ⟨i + 1, ss, by omega, hss, hap, by rw [wrNext i (by omega)]⟩
    · simp at h
      rw [List.drop_of_length_le (by omega), applyW] at hap
      subst hap
      simp
theorem ok_within (n lo hi : Int) : CallOK Try.prog 65 [.c (pi n), .c (pi lo), .c (pi hi)] (.c (pb (decide (lo ≤ n ∧ n ≤ hi)))) [.c (pi n), .c (pi lo), .c (pi hi)] := by
  refine okS (fn := Try.f65) [] h0 Try.func65 (by kernel_rfl) rfl Try.ntmps65 Try.results65 (by simp) ?_
  simp
  refine gT (fun h => ?_) (fun h => ?_) <;> simp [h]
/-- Where a condition holds first, or -1. -/
def idxOf {α : Type} (p : α → Bool) (xs : List α) : Int := match xs.findIdx? p with | some i => i | none => -1
theorem idxOf_hit {α : Type} (p : α → Bool) (xs : List α) (i : Nat) (h : i < xs.length) (hp : p xs[i] = true) (hall : ∀ (j : Nat) (hj : j < i), p (xs[j]'(by omega)) = false) : idxOf p xs = i := by
  unfold idxOf
  rw [(List.findIdx?_eq_some_iff_getElem (i := i)).2 ⟨h, hp, fun j hj => by simp [hall j hj]⟩]
theorem idxOf_no {α : Type} (p : α → Bool) (xs : List α) (hall : ∀ (j : Nat) (hj : j < xs.length), p xs[j] = false) : idxOf p xs = -1 := by
  unfold idxOf
  rw [List.findIdx?_eq_none_iff.2 (fun s hs => by
    obtain ⟨j, hj, rfl⟩ := List.getElem_of_mem hs
    simp [hall j hj])]
theorem idxOf_any {α : Type} (p : α → Bool) (xs : List α) : decide (0 ≤ idxOf p xs) = xs.any p := by
  unfold idxOf
  cases h : xs.findIdx? p with
  | none =>
    rw [List.findIdx?_eq_none_iff] at h
    simp
    exact fun x hx => by simpa using h x hx
  | some i =>
    rw [List.findIdx?_eq_some_iff_getElem] at h
    obtain ⟨h1, h2, _⟩ := h
    simp
    exact ⟨_, List.getElem_mem h1, h2⟩
theorem ok_IndexFunc_String (k q g : Nat) (caps : List (List PT)) (p : ByteArray → Bool) (xs : List ByteArray) (ha : xs.length ≤ 140737488351232)
    (hg : ∀ x ∈ xs, CallOK Try.prog g (.c (ps x) :: caps.map (PV.ip q)) (.c (pb (p x))) (.c (ps x) :: caps.map (PV.ip q))) :
    CallOK Try.prog 98 [.c (rd k xs.length (xs.map ps)), .c (.fn q g caps)] (.c (pi (idxOf p xs))) [.c (rd k xs.length (xs.map ps)), .c (.fn q g caps)] := by
  refine okS (fn := Try.f98) [] h0 Try.func98 (by kernel_rfl) rfl Try.ntmps98 Try.results98 (by simp) ?_
  simp
  refine loopS [0, 1, 7, 8] [] (fun n st => ∃ (i : Nat), i + n = xs.length ∧ (∀ (j : Nat) (hj : j < i) (hj' : j < xs.length), p xs[j] = false) ∧ st = ⟨slOf 19 [(0, .t (rd k xs.length (xs.map ps))), (1, .t (.fn q g caps)), (7, .t (pi xs.length)), (8, .t (pi i))], ofL []⟩) xs.length ?_ ?_
  · rintro Inv hI
    simp
    subst hI
    exact ⟨0, by omega, by intro j hj; omega, rfl⟩
  · rintro Inv hI n st ⟨i, hi, hall, rfl⟩
    refine ewr_sound (M := []) h0 ?_
    simp
    refine brn_app (fun h => ?_) (fun h => ?_)
    · simp at h
      simp [h]
      refine Inv_intro (hg _ (List.getElem_mem h)) ?_
      simp
      refine brn_app (fun h2 => ?_) (fun h2 => ?_)
      · simp
        exact (idxOf_hit p xs i h h2 fun j hj => hall j hj (by omega)).symm
      · simp
        subst hI
        refine Less_mk (n - 1) (by omega) ⟨i + 1, by omega, ?_, by rw [wrNext i (by omega)]⟩
        intro j hj hj'
        by_cases hji : j = i
        · subst hji; exact h2
        · exact hall j (by omega) hj'
    · simp at h
      simp
      exact (idxOf_no p xs fun j hj => hall j (by omega) hj).symm
theorem ok_ContainsFunc_String (k q g : Nat) (caps : List (List PT)) (p : ByteArray → Bool) (xs : List ByteArray) (ha : xs.length ≤ 140737488351232)
    (hg : ∀ x ∈ xs, CallOK Try.prog g (.c (ps x) :: caps.map (PV.ip q)) (.c (pb (p x))) (.c (ps x) :: caps.map (PV.ip q))) :
    CallOK Try.prog 73 [.c (rd k xs.length (xs.map ps)), .c (.fn q g caps)] (.c (pb (xs.any p))) [.c (rd k xs.length (xs.map ps)), .c (.fn q g caps)] := by
  refine okS (fn := Try.f73) [] h0 Try.func73 (by kernel_rfl) rfl Try.ntmps73 Try.results73 (by simp) ?_
  simp
  refine Inv_intro (ok_IndexFunc_String k q g caps p xs ha hg) ?_
  simp [idxOf_any]
theorem ok_IndexFunc_Write (k q g : Nat) (caps : List (List PT)) (p : GWrite → Bool) (xs : List GWrite) (ha : xs.length ≤ 140737488351232)
    (hg : ∀ x ∈ xs, CallOK Try.prog g (.agg (GWrite.c x) :: caps.map (PV.ip q)) (.c (pb (p x))) (.agg (GWrite.c x) :: caps.map (PV.ip q))) :
    CallOK Try.prog 99 [.c (rd k xs.length (xs.flatMap GWrite.c)), .c (.fn q g caps)] (.c (pi (idxOf p xs))) [.c (rd k xs.length (xs.flatMap GWrite.c)), .c (.fn q g caps)] := by
  refine okS (fn := Try.f99) [] h0 Try.func99 (by kernel_rfl) rfl Try.ntmps99 Try.results99 (by simp) ?_
  simp
  refine loopS [0, 1, 7, 8] [] (fun n st => ∃ (i : Nat), i + n = xs.length ∧ (∀ (j : Nat) (hj : j < i) (hj' : j < xs.length), p xs[j] = false) ∧ st = ⟨slOf 19 [(0, .t (rd k xs.length (xs.flatMap GWrite.c))), (1, .t (.fn q g caps)), (7, .t (pi xs.length)), (8, .t (pi i))], ofL []⟩) xs.length ?_ ?_
  · rintro Inv hI
    simp
    subst hI
    exact ⟨0, by omega, by intro j hj; omega, rfl⟩
  · rintro Inv hI n st ⟨i, hi, hall, rfl⟩
    refine ewr_sound (M := []) h0 ?_
    simp
    refine brn_app (fun h => ?_) (fun h => ?_)
    · simp at h
      have hd := fm_drop GWrite.c 2 (fun _ => rfl) xs i h
      have hlen := fm_len GWrite.c 2 (fun _ => rfl) xs
      have hlt : i * 2 < xs.length * 2 := by omega
      simp [h, hd, hlen, hlt]
      refine Inv_intro (hg _ (List.getElem_mem h)) ?_
      simp
      refine brn_app (fun h2 => ?_) (fun h2 => ?_)
      · simp
        exact (idxOf_hit p xs i h h2 fun j hj => hall j hj (by omega)).symm
      · simp
        subst hI
        refine Less_mk (n - 1) (by omega) ⟨i + 1, by omega, ?_, by rw [wrNext i (by omega)]⟩
        intro j hj hj'
        by_cases hji : j = i
        · subst hji; exact h2
        · exact hall j (by omega) hj'
    · simp at h
      simp
      exact (idxOf_no p xs fun j hj => hall j (by omega) hj).symm
theorem ok_ContainsFunc_Write (k q g : Nat) (caps : List (List PT)) (p : GWrite → Bool) (xs : List GWrite) (ha : xs.length ≤ 140737488351232)
    (hg : ∀ x ∈ xs, CallOK Try.prog g (.agg (GWrite.c x) :: caps.map (PV.ip q)) (.c (pb (p x))) (.agg (GWrite.c x) :: caps.map (PV.ip q))) :
    CallOK Try.prog 76 [.c (rd k xs.length (xs.flatMap GWrite.c)), .c (.fn q g caps)] (.c (pb (xs.any p))) [.c (rd k xs.length (xs.flatMap GWrite.c)), .c (.fn q g caps)] := by
  refine okS (fn := Try.f76) [] h0 Try.func76 (by kernel_rfl) rfl Try.ntmps76 Try.results76 (by simp) ?_
  simp
  refine Inv_intro (ok_IndexFunc_Write k q g caps p xs ha hg) ?_
  simp [idxOf_any]
theorem any_not {α : Type} (p : α → Bool) (xs : List α) : xs.any (fun x => !p x) = !xs.all p := by
  induction xs with
  | nil => rfl
  | cons x xs ih => simp [ih]
def okWrite (w : GWrite) : Bool := decide (0 ≤ w.At ∧ w.At ≤ 9) && decide (w.Data.size ≤ 20)
def goodDisk (d : GDisk) : Bool := decide (d.Sectors.length = 10) && decide (d.Waiting.length ≤ 40) && d.Sectors.all (fun s => decide (s.size ≤ 20)) && d.Waiting.all okWrite
theorem ok_isSector (s : ByteArray) : CallOK Try.prog 75 [.c (ps s)] (.c (pb (decide (s.size ≤ 20)))) [.c (ps s)] := by
  refine okS (fn := Try.f75) [] h0 Try.func75 (by kernel_rfl) rfl Try.ntmps75 Try.results75 (by simp) ?_
  simp
  omega
theorem ok_GoodDisk1 (s : ByteArray) : CallOK Try.prog 74 [.c (ps s)] (.c (pb (!decide (s.size ≤ 20)))) [.c (ps s)] := by
  refine okS (fn := Try.f74) [] h0 Try.func74 (by kernel_rfl) rfl Try.ntmps74 Try.results74 (by simp) ?_
  simp
  refine Inv_intro (ok_isSector _) ?_
  simp
theorem ok_GoodDisk2 (w : GWrite) : CallOK Try.prog 77 [.agg w.c] (.c (pb (!okWrite w))) [.agg w.c] := by
  refine okS (fn := Try.f77) [] h0 Try.func77 (by kernel_rfl) rfl Try.ntmps77 Try.results77 (by simp) ?_
  simp
  refine Inv_intro (ok_within _ _ _) ?_
  simp
  refine gF (fun h => ?_) (fun h => ?_)
  · simp [h]
    refine Inv_intro (ok_isSector _) ?_
    simp at h
    simp [okWrite, h]
  · simp [h]
    simp at h
    simp [okWrite]
    omega
theorem ok_iGoodDisk (k : Nat) (d : GDisk) (h1 : d.Sectors.length ≤ 140737488351232) (h2 : d.Waiting.length ≤ 140737488351232) : CallOK Try.prog 34 [.agg (d.ci k)] (.c (pb (goodDisk d))) [.agg (d.ci k)] := by
  refine okS (fn := Try.f34) [] h0 Try.func34 (by kernel_rfl) rfl Try.ntmps34 Try.results34 (by simp) ?_
  simp
  refine gT (fun a1 => ?_) (fun a1 => ?_)
  · simp [a1]
    refine gT (fun a2 => ?_) (fun a2 => ?_)
    · simp [a2]
      refine Inv_intro (ok_ContainsFunc_String k 0 74 [] (fun s => !decide (s.size ≤ 20)) d.Sectors h1 fun x _ => ok_GoodDisk1 x) ?_
      simp
      refine gT (fun a3 => ?_) (fun a3 => ?_)
      · simp [a3]
        refine Inv_intro (ok_ContainsFunc_Write k 0 77 [] (fun w => !okWrite w) d.Waiting h2 fun x _ => ok_GoodDisk2 x) ?_
        simp
        rw [any_not] at a3 ⊢
        have c1 : d.Sectors.length = 10 := by simp at a1; omega
        have c2 : d.Waiting.length ≤ 40 := by simp at a2; omega
        have c3 : (d.Sectors.all fun s => decide (s.size ≤ 20)) = true := by simpa using a3
        unfold goodDisk
        rw [c3]
        simp [c1, c2]
      · simp [a3]
        rw [any_not] at a3
        have c3 : (d.Sectors.all fun s => decide (s.size ≤ 20)) = false := by simpa using a3
        unfold goodDisk
        rw [c3]
        simp
    · simp [a2]
      simp at a2
      unfold goodDisk
      simp
      omega
  · simp [a1]
    simp at a1
    unfold goodDisk
    simp
    omega
end Go.V
