/- What functions of the seat's program do, each proved of its code, under the bounds that its theorem names. -/
import Derived.Test.YtfooiclnbkchmaaFacts
set_option linter.all false
namespace Go.V
open Go.Proofs
set_option maxHeartbeats 1000000
set_option maxRecDepth 10000
set_option linter.unusedSimpArgs false
set_option linter.unusedVariables false
theorem open_String {n : Nat} {qs : List PT} (h : TyC Try.prog (n + 1) 9 qs) : ∃ x : ByteArray, qs = [ps x] ∧ x.size ≤ 140737488351232 := by
  unfold TyC at h
  rw [Try.underlying9] at h
  simp only at h
  obtain ⟨s, rfl, hs⟩ := h
  exact ⟨s, rfl, hs⟩
theorem open_each {α : Type} {f : α → List PT} {q : α → Prop} : ∀ {cells : List (List PT)}, (∀ c ∈ cells, ∃ x, c = f x ∧ q x) → ∃ xs : List α, cells = xs.map f ∧ ∀ x ∈ xs, q x
  | [], _ => ⟨[], rfl, by simp⟩
  | c :: cs, h => by
    obtain ⟨x, hx, hq⟩ := h c (by simp)
    obtain ⟨xs, hxs, hqs⟩ := open_each (cells := cs) fun d hd => h d (by simp [hd])
    refine ⟨x :: xs, by rw [hx, hxs]; rfl, fun y hy => ?_⟩
    rcases List.mem_cons.1 hy with rfl | hy
    · exact hq
    · exact hqs y hy
theorem open_flat {α : Type} (f : α → PT) : ∀ xs : List α, (xs.map fun x => [f x]).flatten = xs.map f
  | [] => rfl
  | x :: xs => by simp [open_flat f xs]
def mtGo : Nat → Int → ByteArray → ByteArray
  | 0, _, s => s
  | n + 1, k, s => if 0 < k then mtGo n (IntKind.wrap .i64 (k.tdiv 10)) (strOf [IntKind.wrap .u8 (IntKind.wrap .i64 (48 + k.tmod 10))] ++ s) else s
/-- The text that marks a string. -/
def mtext (k : Int) : ByteArray := if k ≤ 0 then ⟨#[109, 48]⟩ else ⟨#[109]⟩ ++ mtGo k.toNat k ⟨#[]⟩
theorem mtGo_size : ∀ (n : Nat) (k : Int) (s : ByteArray), (mtGo n k s).size ≤ n + s.size
  | 0, _, s => by simp [mtGo]
  | n + 1, k, s => by
    unfold mtGo
    split
    · have := mtGo_size n (IntKind.wrap .i64 (k.tdiv 10)) (strOf [IntKind.wrap .u8 (IntKind.wrap .i64 (48 + k.tmod 10))] ++ s)
      have e : (strOf [IntKind.wrap .u8 (IntKind.wrap .i64 (48 + k.tmod 10))] ++ s).size = 1 + s.size := by
        rw [ByteArray.size_append]; rfl
      omega
    · omega
theorem ok_markText (k : Int) (hk : k ≤ 4611686018427387904) : CallOK Try.prog 60 [.c (pi k)] (.c (ps (mtext k))) [.c (pi k)] := by
  refine okS (fn := Try.f60) [] h0 Try.func60 (by kernel_rfl) rfl Try.ntmps60 Try.results60 (by simp) ?_
  simp
  refine brn_app (fun h => ?_) (fun h => ?_)
  · simp at h
    simp [mtext, h]
  · simp at h
    simp
    have hn : ¬ k ≤ 0 := by omega
    refine loopS [0, 3] [] (fun n st => ∃ (j : Int) (s : ByteArray), j ≤ n ∧ 0 ≤ j ∧ j + s.size ≤ 4611686018427387904 ∧ mtGo n j s = mtGo k.toNat k ⟨#[]⟩ ∧ st = ⟨slOf 20 [(0, .t (pi j)), (3, .t (ps s))], ofL []⟩) k.toNat ?_ ?_
    · rintro Inv hI
      simp
      subst hI
      exact ⟨k, ⟨#[]⟩, by omega, by omega, by show k + 0 ≤ _; omega, rfl, rfl⟩
    · rintro Inv hI n st ⟨j, s, hj, hj0, hjs, hm, rfl⟩
      refine ewr_sound (M := []) h0 ?_
      simp
      refine brn_app (fun h => ?_) (fun h => ?_)
      · simp at h
        have hsz : (strOf [IntKind.wrap .u8 (IntKind.wrap .i64 (48 + j.tmod 10))]).size = 1 := rfl
        have hc : (strOf [IntKind.wrap .u8 (IntKind.wrap .i64 (48 + j.tmod 10))]).size + s.size ≤ 9223372036854775807 := by rw [hsz]; omega
        simp [hc]
        have hq : IntKind.wrap .i64 (j.tdiv 10) = j / 10 := by rw [Int.tdiv_eq_ediv_of_nonneg hj0]; exact wrap64 (by omega) (by omega)
        obtain ⟨m, rfl⟩ : ∃ m, n = m + 1 := ⟨n - 1, by omega⟩
        subst hI
        refine Less_mk m (by omega) ⟨j / 10, strOf [IntKind.wrap .u8 (IntKind.wrap .i64 (48 + j.tmod 10))] ++ s, by omega, by omega, ?_, ?_, by rw [hq]⟩
        · rw [ByteArray.size_append, hsz]; omega
        · rw [mtGo, if_pos h, hq] at hm
          exact hm
      · simp at h
        have hs : mtGo n j s = s := by
          cases n with
          | zero => rfl
          | succ n => rw [mtGo, if_neg (by omega)]
        rw [hs] at hm
        subst hm
        have := mtGo_size k.toNat k ⟨#[]⟩
        have e0 : (⟨#[]⟩ : ByteArray).size = 0 := rfl
        have hc : (⟨#[109]⟩ : ByteArray).size + (mtGo k.toNat k ⟨#[]⟩).size ≤ 9223372036854775807 := by
          have e1 : (⟨#[109]⟩ : ByteArray).size = 1 := rfl
          omega
        simp [hc, mtext, hn]
abbrev cStringSo (xs : List ByteArray) : PT := .sl 0 9 xs.length (xs.map ps)
abbrev cStringSi (k : Nat) (xs : List ByteArray) : PT := rd k xs.length (xs.map ps)
def wt_StringS (xs : List ByteArray) : Nat := wtR ByteArray.size xs
theorem len_wt_StringS (xs : List ByteArray) : xs.length ≤ wt_StringS xs := by unfold wt_StringS wtR; omega
theorem mem_wt_StringS {xs : List ByteArray} {x : ByteArray} (h : x ∈ xs) : x.size ≤ wt_StringS xs := by
  have := wt_mem ByteArray.size h
  unfold wt_StringS wtR
  omega
def fits_StringS (xs : List ByteArray) : Prop := xs.length ≤ 140737488351232 ∧ ∀ x ∈ xs, x.size ≤ 140737488351232
def lens_StringS (xs : List ByteArray) : Prop := xs.length ≤ 140737488351232 ∧ ∀ x ∈ xs, True
def mk_StringS (xs : List ByteArray) (k : Int) : List ByteArray × Int := mkR (fun (_ : ByteArray) k => (mtext k, k + 1)) xs k
def cn_StringS (xs : List ByteArray) : Nat := cnR (fun (_ : ByteArray) => 1) xs
theorem mk_StringS_len (xs : List ByteArray) (k : Int) : (mk_StringS xs k).1.length = xs.length := mkR_len _ xs k
attribute [simp] mk_StringS_len
theorem mk_StringS_snd (xs : List ByteArray) (k : Int) : (mk_StringS xs k).2 = k + cn_StringS xs := mkR_snd (fun _ _ => rfl) xs k
theorem lens_of_StringS {xs : List ByteArray} (h : wt_StringS xs ≤ 1048576) : lens_StringS xs := by
  have hl := len_wt_StringS xs
  exact ⟨by omega, fun _ _ => trivial⟩
theorem cn_len_StringS (xs : List ByteArray) : cn_StringS xs ≤ 32 * xs.length := cnR_le0 (fun x => by omega) xs
theorem cn_le_StringS (xs : List ByteArray) : cn_StringS xs ≤ 32 * wt_StringS xs := cnR_le (fun _ => by omega) xs
theorem open_StringS {n : Nat} {qs : List PT} (h : TyC Try.prog (n + 2) 22 qs) : ∃ x : (List ByteArray), qs = [rd 1 x.length (x.map ps)] ∧ fits_StringS x := by
  unfold TyC at h
  rw [Try.underlying22] at h
  simp only at h
  obtain ⟨cells, rfl, hl, hc⟩ := h
  obtain ⟨xs, rfl, hx⟩ := open_each (f := fun x : ByteArray => [ps x]) (q := fun x => x.size ≤ 140737488351232) (fun c hcc => open_String (hc c hcc)) 
  refine ⟨xs, ?_, ?_⟩
  · simp only [List.length_map, open_flat]
  · have e1 : Try.prog.bytesOf 9 = 16 := by kernel_rfl
    rw [e1, List.length_map] at hl
    have e2 : reachBytes = 140737488351232 := rfl
    rw [e2] at hl
    exact ⟨by omega, hx⟩
theorem open_Int {n : Nat} {qs : List PT} (h : TyC Try.prog (n + 1) 3 qs) : ∃ x : Int, qs = [pi x] ∧ True := by
  unfold TyC at h
  rw [Try.underlying3] at h
  simp only at h
  obtain ⟨m, rfl, _⟩ := h
  exact ⟨m, rfl, trivial⟩
structure GWrite where
  At : Int
  Data : ByteArray
  deriving DecidableEq
def GWrite.c (x : GWrite) : List PT := [pi x.At, ps x.Data]
attribute [simp] GWrite.c
theorem GWrite.len (x : GWrite) : x.c.length = 2 := rfl
theorem GWrite.un (xs : List GWrite) : PT.unownL (xs.flatMap GWrite.c) = xs.flatMap GWrite.c := by
  rw [unownL_fm]
  congr 1
theorem GWrite.nt (xs : List GWrite) : PT.noTmpL (xs.flatMap GWrite.c) = true := noTmpL_fm _ xs fun _ => rfl
attribute [simp] GWrite.un GWrite.nt
theorem GWrite.lenR (xs : List GWrite) : (xs.flatMap GWrite.c).length = xs.length * 2 := fm_len _ 2 (fun _ => rfl) xs
theorem GWrite.tkR (xs : List GWrite) : (xs.flatMap GWrite.c).take (xs.length * 2) = xs.flatMap GWrite.c := List.take_of_length_le (by rw [GWrite.lenR]; exact Nat.le_refl _)
attribute [simp high] GWrite.lenR GWrite.tkR
def GWrite.wt (x : GWrite) : Nat := x.Data.size
def GWrite.fits (x : GWrite) : Prop := x.Data.size ≤ 140737488351232
def GWrite.mark (x : GWrite) (k : Int) : GWrite × Int := (⟨k, mtext (k + 1)⟩, ((k + 1) + 1))
def GWrite.cn (x : GWrite) : Nat := 1 + 1
theorem GWrite.mark_snd (x : GWrite) (k : Int) : (GWrite.mark x k).2 = k + GWrite.cn x := by
  simp only [GWrite.mark, GWrite.cn] <;> omega
theorem cnE_le_Write (x : GWrite) : GWrite.cn x ≤ 32 * GWrite.wt x + 16 := by
  unfold GWrite.cn
  omega
theorem open_Write {n : Nat} {qs : List PT} (h : TyC Try.prog (n + 2) 101 qs) : ∃ x : GWrite, qs = GWrite.c x ∧ GWrite.fits x := by
  unfold TyC at h
  rw [Try.underlying101] at h
  simp only [TyFs] at h
  obtain ⟨p0, q0, rfl, h0, ⟨p1, q1, rfl, h1, rfl⟩⟩ := h
  obtain ⟨x0, rfl, y0⟩ := open_Int (n := n + 0) h0
  obtain ⟨x1, rfl, y1⟩ := open_String (n := n + 0) h1
  exact ⟨⟨x0, x1⟩, rfl, y1⟩
abbrev cWriteSo (xs : List GWrite) : PT := .sl 0 61 xs.length (xs.flatMap GWrite.c)
abbrev cWriteSi (k : Nat) (xs : List GWrite) : PT := rd k xs.length (xs.flatMap GWrite.c)
def wt_WriteS (xs : List GWrite) : Nat := wtR GWrite.wt xs
theorem len_wt_WriteS (xs : List GWrite) : xs.length ≤ wt_WriteS xs := by unfold wt_WriteS wtR; omega
theorem mem_wt_WriteS {xs : List GWrite} {x : GWrite} (h : x ∈ xs) : GWrite.wt x ≤ wt_WriteS xs := by
  have := wt_mem GWrite.wt h
  unfold wt_WriteS wtR
  omega
def fits_WriteS (xs : List GWrite) : Prop := xs.length ≤ 140737488351232 ∧ ∀ x ∈ xs, GWrite.fits x
def lens_WriteS (xs : List GWrite) : Prop := xs.length ≤ 140737488351232 ∧ ∀ x ∈ xs, True
def mk_WriteS (xs : List GWrite) (k : Int) : List GWrite × Int := mkR GWrite.mark xs k
def cn_WriteS (xs : List GWrite) : Nat := cnR GWrite.cn xs
theorem mk_WriteS_len (xs : List GWrite) (k : Int) : (mk_WriteS xs k).1.length = xs.length := mkR_len _ xs k
attribute [simp] mk_WriteS_len
theorem mk_WriteS_snd (xs : List GWrite) (k : Int) : (mk_WriteS xs k).2 = k + cn_WriteS xs := mkR_snd (GWrite.mark_snd) xs k
theorem lens_of_WriteS {xs : List GWrite} (h : wt_WriteS xs ≤ 1048576) : lens_WriteS xs := by
  have hl := len_wt_WriteS xs
  exact ⟨by omega, fun _ _ => trivial⟩
theorem cn_len_WriteS (xs : List GWrite) : cn_WriteS xs ≤ 32 * xs.length := cnR_le0 (fun x => by simp only [GWrite.cn]; omega) xs
theorem cn_le_WriteS (xs : List GWrite) : cn_WriteS xs ≤ 32 * wt_WriteS xs := cnR_le (fun x => by have := cnE_le_Write x; omega) xs
theorem open_WriteS {n : Nat} {qs : List PT} (h : TyC Try.prog (n + 3) 23 qs) : ∃ x : (List GWrite), qs = [rd 1 x.length (x.flatMap GWrite.c)] ∧ fits_WriteS x := by
  unfold TyC at h
  rw [Try.underlying23] at h
  simp only at h
  obtain ⟨cells, rfl, hl, hc⟩ := h
  obtain ⟨xs, rfl, hx⟩ := open_each (f := fun x : GWrite => GWrite.c x) (q := fun x => GWrite.fits x) (fun c hcc => open_Write (hc c hcc)) 
  refine ⟨xs, ?_, ?_⟩
  · simp only [List.length_map]
    rfl
  · have e1 : Try.prog.bytesOf 101 = 24 := by kernel_rfl
    rw [e1, List.length_map] at hl
    have e2 : reachBytes = 140737488351232 := rfl
    rw [e2] at hl
    exact ⟨by omega, hx⟩
structure GDisk where
  Sectors : (List ByteArray)
  Waiting : (List GWrite)
  deriving DecidableEq
def GDisk.co (x : GDisk) : List PT := [.sl 0 9 x.Sectors.length (x.Sectors.map ps), .sl 0 61 x.Waiting.length (x.Waiting.flatMap GWrite.c)]
def GDisk.ci (k : Nat) (x : GDisk) : List PT := [rd k x.Sectors.length (x.Sectors.map ps), rd k x.Waiting.length (x.Waiting.flatMap GWrite.c)]
attribute [simp] GDisk.co GDisk.ci
theorem GDisk.len_o (x : GDisk) : x.co.length = 2 := rfl
theorem GDisk.len_i (k : Nat) (x : GDisk) : (x.ci k).length = 2 := rfl
theorem GDisk.un1 (x : GDisk) : PT.unownL x.co = x.ci 0 := by simp [rd]
theorem GDisk.uni1 (k : Nat) (x : GDisk) : PT.unownL (x.ci k) = x.ci 0 := by simp [rd]
theorem GDisk.un (xs : List GDisk) : PT.unownL (xs.flatMap GDisk.co) = xs.flatMap (GDisk.ci 0) := by
  rw [unownL_fm]
  congr 1
  funext x
  exact GDisk.un1 x
theorem GDisk.uni (k : Nat) (xs : List GDisk) : PT.unownL (xs.flatMap (GDisk.ci k)) = xs.flatMap (GDisk.ci 0) := by
  rw [unownL_fm]
  congr 1
  funext x
  exact GDisk.uni1 k x
theorem GDisk.nt (xs : List GDisk) : PT.noTmpL (xs.flatMap GDisk.co) = true := noTmpL_fm _ xs fun x => by simp
theorem GDisk.nti (k : Nat) (xs : List GDisk) : PT.noTmpL (xs.flatMap (GDisk.ci (k + 1))) = true := noTmpL_fm _ xs fun x => by simp [rd]
attribute [simp] GDisk.un GDisk.uni GDisk.nt GDisk.nti
theorem GDisk.lenR (xs : List GDisk) : (xs.flatMap GDisk.co).length = xs.length * 2 := fm_len _ 2 (fun _ => rfl) xs
theorem GDisk.lenRi (k : Nat) (xs : List GDisk) : (xs.flatMap (GDisk.ci k)).length = xs.length * 2 := fm_len _ 2 (fun _ => rfl) xs
theorem GDisk.tkR (xs : List GDisk) : (xs.flatMap GDisk.co).take (xs.length * 2) = xs.flatMap GDisk.co := List.take_of_length_le (by rw [GDisk.lenR]; exact Nat.le_refl _)
theorem GDisk.tkRi (k : Nat) (xs : List GDisk) : (xs.flatMap (GDisk.ci k)).take (xs.length * 2) = xs.flatMap (GDisk.ci k) := List.take_of_length_le (by rw [GDisk.lenRi]; exact Nat.le_refl _)
attribute [simp high] GDisk.lenR GDisk.tkR GDisk.lenRi GDisk.tkRi
def GDisk.wt (x : GDisk) : Nat := wt_StringS x.Sectors + wt_WriteS x.Waiting
def GDisk.fits (x : GDisk) : Prop := fits_StringS x.Sectors ∧ fits_WriteS x.Waiting
def GDisk.lens (x : GDisk) : Prop := lens_StringS x.Sectors ∧ lens_WriteS x.Waiting
def GDisk.mark (x : GDisk) (k : Int) : GDisk × Int := (⟨(mk_StringS x.Sectors k).1, (mk_WriteS x.Waiting (mk_StringS x.Sectors k).2).1⟩, (mk_WriteS x.Waiting (mk_StringS x.Sectors k).2).2)
def GDisk.cn (x : GDisk) : Nat := cn_StringS x.Sectors + cn_WriteS x.Waiting
theorem GDisk.mark_snd (x : GDisk) (k : Int) : (GDisk.mark x k).2 = k + GDisk.cn x := by
  simp only [GDisk.mark, GDisk.cn, mk_StringS_snd, mk_WriteS_snd] <;> omega
def GDisk.markT (x : GDisk) (k : Int) : GDisk × Int := (⟨(mk_StringS x.Sectors k).1, (mk_WriteS x.Waiting (mk_StringS x.Sectors k).2).1⟩, (mk_WriteS x.Waiting (mk_StringS x.Sectors k).2).2)
def GDisk.cnT (x : GDisk) : Nat := cn_StringS x.Sectors + cn_WriteS x.Waiting
theorem GDisk.markT_snd (x : GDisk) (k : Int) : (GDisk.markT x k).2 = k + GDisk.cnT x := by
  simp only [GDisk.markT, GDisk.cnT, mk_StringS_snd, mk_WriteS_snd] <;> omega
theorem lens_of_Disk {x : GDisk} (h : GDisk.wt x ≤ 1048576) : GDisk.lens x := by
  unfold GDisk.wt at h
  exact ⟨lens_of_StringS (by omega), lens_of_WriteS (by omega)⟩
theorem cn_le_Disk (x : GDisk) : GDisk.cnT x ≤ 32 * GDisk.wt x := by
  unfold GDisk.cnT GDisk.wt
  have := cn_le_StringS x.Sectors
  have := cn_le_WriteS x.Waiting
  omega
theorem cnE_le_Disk (x : GDisk) : GDisk.cn x ≤ 32 * GDisk.wt x + 16 := by
  unfold GDisk.cn GDisk.wt
  have := cn_le_StringS x.Sectors
  have := cn_le_WriteS x.Waiting
  omega
theorem open_Disk {n : Nat} {qs : List PT} (h : TyC Try.prog (n + 4) 25 qs) : ∃ x : GDisk, qs = GDisk.ci 1 x ∧ GDisk.fits x := by
  unfold TyC at h
  rw [Try.underlying25] at h
  simp only [TyFs] at h
  obtain ⟨p0, q0, rfl, h0, ⟨p1, q1, rfl, h1, rfl⟩⟩ := h
  obtain ⟨x0, rfl, y0⟩ := open_StringS (n := n + 1) h0
  obtain ⟨x1, rfl, y1⟩ := open_WriteS (n := n + 0) h1
  exact ⟨⟨x0, x1⟩, rfl, ⟨y0, y1⟩⟩
theorem byteAt_list (s : ByteArray) (i : Nat) (h : i < s.size) : byteAt s i = ((s.data.toList[i]'(by simpa using h)).toNat : Int) := by
  unfold byteAt
  have : s[i]? = some s[i] := by simp [h]
  rw [this]
  rfl
def sealH (l : List UInt8) (h : Int) : Int := l.foldl (fun h b => (31 * h + b.toNat) % 251) h
def sealS (s : ByteArray) : ByteArray := s ++ strOf [sealH s.data.toList 7]
theorem sealH_range : ∀ (l : List UInt8) (h : Int), 0 ≤ h ∧ h < 251 → 0 ≤ sealH l h ∧ sealH l h < 251
  | [], h, hh => hh
  | b :: l, h, hh => sealH_range l _ ⟨Int.emod_nonneg _ (by omega), Int.emod_lt_of_pos _ (by omega)⟩
theorem sealS_size (s : ByteArray) : (sealS s).size = s.size + 1 := by
  unfold sealS
  rw [ByteArray.size_append]
  rfl
theorem ok_iSealOf (s : ByteArray) (hs : s.size ≤ 140737488355328) : CallOK Try.prog 46 [.c (ps s)] (.c (ps (sealS s))) [.c (ps s)] := by
  refine okS (fn := Try.f46) [] h0 Try.func46 (by kernel_rfl) rfl Try.ntmps46 Try.results46 (by simp) ?_
  simp
  refine loopS [0, 3, 6, 7] [] (fun n st => ∃ (i : Nat) (h : Int), i + n = s.size ∧ 0 ≤ h ∧ h < 251 ∧ sealH (s.data.toList.drop i) h = sealH s.data.toList 7 ∧ st = ⟨slOf 25 [(0, .t (ps s)), (3, .t (pi h)), (6, .t (pi s.size)), (7, .t (pi i))], ofL []⟩) s.size ?_ ?_
  · rintro Inv hI
    simp
    subst hI
    exact ⟨0, 7, by omega, by omega, by omega, rfl, rfl⟩
  · rintro Inv hI n st ⟨i, h, hi, h1, h2, hg, rfl⟩
    refine ewr_sound (M := []) h0 ?_
    simp
    refine brn_app (fun a => ?_) (fun a => ?_)
    · simp at a
      have hb := byteAt_range s i
      have e1 : IntKind.wrap .i64 (31 * h) = 31 * h := wrap64 (by omega) (by omega)
      have e2 : IntKind.wrap .i64 (byteAt s i) = byteAt s i := wrap64 (by omega) (by omega)
      have e3 : IntKind.wrap .i64 (31 * h + byteAt s i) = 31 * h + byteAt s i := wrap64 (by omega) (by omega)
      have e4 : (31 * h + byteAt s i).tmod 251 = (31 * h + byteAt s i) % 251 := Int.tmod_eq_emod_of_nonneg (by omega)
      have hl : i < s.data.toList.length := by simpa using a
      rw [List.drop_eq_getElem_cons hl] at hg
      simp [a, e1, e2, e3, e4]
      subst hI
      refine Less_mk (n - 1) (by omega) ⟨i + 1, (31 * h + byteAt s i) % 251, by omega, by omega, by omega, ?_, by rw [wrNext i (by omega)]⟩
      rw [byteAt_list s i a]
      exact hg
    · simp at a
      rw [List.drop_of_length_le (by simp; omega)] at hg
      have hg' : h = sealH s.data.toList 7 := hg
      subst hg'
      have e5 : IntKind.wrap .u8 (sealH s.data.toList 7) = sealH s.data.toList 7 := by simp [IntKind.wrap, IntKind.bits, IntKind.signed]; omega
      have e6 : s.size + (strOf [sealH s.data.toList 7]).size ≤ 9223372036854775807 := by
        have : (strOf [sealH s.data.toList 7]).size = 1 := rfl
        omega
      simp [e5, e6, sealS]
theorem ok_sSealOf (s : ByteArray) (hs : s.size ≤ 140737488355328) : CallOK Try.prog 51 [.c (ps s)] (.c (ps (sealS s))) [.c (ps s)] := by
  refine okS (fn := Try.f51) [] h0 Try.func51 (by kernel_rfl) rfl Try.ntmps51 Try.results51 (by simp) ?_
  simp
  refine loopS [0, 3, 4] [] (fun n st => ∃ (i : Nat) (h : Int), i + n = s.size ∧ 0 ≤ h ∧ h < 251 ∧ sealH (s.data.toList.drop i) h = sealH s.data.toList 7 ∧ st = ⟨slOf 25 [(0, .t (ps s)), (3, .t (pi h)), (4, .t (pi i))], ofL []⟩) s.size ?_ ?_
  · rintro Inv hI
    simp
    subst hI
    exact ⟨0, 7, by omega, by omega, by omega, rfl, rfl⟩
  · rintro Inv hI n st ⟨i, h, hi, h1, h2, hg, rfl⟩
    refine ewr_sound (M := []) h0 ?_
    simp
    refine brn_app (fun a => ?_) (fun a => ?_)
    · simp at a
      have hb := byteAt_range s i
      have e1 : IntKind.wrap .i64 (31 * h) = 31 * h := wrap64 (by omega) (by omega)
      have e2 : IntKind.wrap .i64 (byteAt s i) = byteAt s i := wrap64 (by omega) (by omega)
      have e3 : IntKind.wrap .i64 (31 * h + byteAt s i) = 31 * h + byteAt s i := wrap64 (by omega) (by omega)
      have e4 : (31 * h + byteAt s i).tmod 251 = (31 * h + byteAt s i) % 251 := Int.tmod_eq_emod_of_nonneg (by omega)
      have hl : i < s.data.toList.length := by simpa using a
      rw [List.drop_eq_getElem_cons hl] at hg
      simp [a, e1, e2, e3, e4]
      subst hI
      refine Less_mk (n - 1) (by omega) ⟨i + 1, (31 * h + byteAt s i) % 251, by omega, by omega, by omega, ?_, by rw [wrNext i (by omega)]⟩
      rw [byteAt_list s i a]
      exact hg
    · simp at a
      rw [List.drop_of_length_le (by simp; omega)] at hg
      have hg' : h = sealH s.data.toList 7 := hg
      subst hg'
      have e5 : IntKind.wrap .u8 (sealH s.data.toList 7) = sealH s.data.toList 7 := by simp [IntKind.wrap, IntKind.bits, IntKind.signed]; omega
      have e6 : s.size + (strOf [sealH s.data.toList 7]).size ≤ 9223372036854775807 := by
        have : (strOf [sealH s.data.toList 7]).size = 1 := rfl
        omega
      simp [e5, e6, sealS]
def rUnseal (s : ByteArray) : ByteArray × Bool := if s.size ≠ 0 ∧ sealS (s.extract 0 (s.size - 1)) = s then (s.extract 0 (s.size - 1), true) else (⟨#[]⟩, false)
theorem empty_size (s : ByteArray) : s = ⟨#[]⟩ ↔ s.size = 0 := by
  constructor
  · rintro rfl; rfl
  · intro h
    apply bytes_toList_inj
    have h2 : s.data.toList.length = 0 := by simpa using h
    rw [ByteArray.toList_eq, ByteArray.toList_eq, List.length_eq_zero_iff.1 h2]
theorem ok_iUnseal (s : ByteArray) (hs : s.size ≤ 140737488355328) : CallOK Try.prog 47 [.c (ps s)] (.tup [.c (ps (rUnseal s).1), .c (pb (rUnseal s).2)]) [.c (ps s)] := by
  refine okS (fn := Try.f47) [] h0 Try.func47 (by kernel_rfl) rfl Try.ntmps47 Try.results47 (by simp) ?_
  simp
  refine gF (fun a => ?_) (fun a => ?_)
  · simp [a]
    simp at a
    have hz : ¬ s.size = 0 := fun h => a ((empty_size s).2 h)
    have e1 : IntKind.wrap .i64 ((s.size : Int) - 1) = s.size - 1 := wrap64 (by omega) (by omega)
    have e2 : ((s.size : Int) - 1).toNat = s.size - 1 := by omega
    have e3 : (0 : Int) ≤ (s.size : Int) - 1 := by omega
    have e4 : (s.size : Int) - 1 ≤ s.size := by omega
    have f1 : (1 : Int) ≤ s.size := by omega
    have f2 : 0 < s.size := by omega
    have f3 : 1 ≤ s.size := by omega
    have f4 : (0 : Int) < s.size := by omega
    have g1 : (s.extract 0 (s.size - 1)).size ≤ 140737488355328 := by rw [ByteArray.size_extract]; omega
    simp [e1, e2, e3, e4, f1, f2, f3, f4]
    refine Inv_intro (ok_iSealOf _ g1) ?_
    simp
    refine brn_app (fun b => ?_) (fun b => ?_)
    · simp at b
      simp [rUnseal, b]
    · simp at b
      simp [e1, e2, e3, e4, f1, f2, f3, f4, rUnseal, b, hz]
  · simp at a
    subst a
    have hz : ByteArray.size ⟨#[]⟩ = 0 := rfl
    simp [rUnseal, hz]
theorem ok_sUnseal (s : ByteArray) (hs : s.size ≤ 140737488355328) : CallOK Try.prog 49 [.c (ps s)] (.tup [.c (ps (rUnseal s).1), .c (pb (rUnseal s).2)]) [.c (ps s)] := by
  refine okS (fn := Try.f49) [] h0 Try.func49 (by kernel_rfl) rfl Try.ntmps49 Try.results49 (by simp) ?_
  simp
  refine gF (fun a => ?_) (fun a => ?_)
  · simp [a]
    simp at a
    have hz : ¬ s.size = 0 := fun h => a ((empty_size s).2 h)
    have e1 : IntKind.wrap .i64 ((s.size : Int) - 1) = s.size - 1 := wrap64 (by omega) (by omega)
    have e2 : ((s.size : Int) - 1).toNat = s.size - 1 := by omega
    have e3 : (0 : Int) ≤ (s.size : Int) - 1 := by omega
    have e4 : (s.size : Int) - 1 ≤ s.size := by omega
    have f1 : (1 : Int) ≤ s.size := by omega
    have f2 : 0 < s.size := by omega
    have f3 : 1 ≤ s.size := by omega
    have f4 : (0 : Int) < s.size := by omega
    have g1 : (s.extract 0 (s.size - 1)).size ≤ 140737488355328 := by rw [ByteArray.size_extract]; omega
    simp [e1, e2, e3, e4, f1, f2, f3, f4]
    refine Inv_intro (ok_sSealOf _ g1) ?_
    simp
    refine brn_app (fun b => ?_) (fun b => ?_)
    · simp at b
      simp [rUnseal, b]
    · simp at b
      simp [e1, e2, e3, e4, f1, f2, f3, f4, rUnseal, b, hz]
  · simp at a
    subst a
    have hz : ByteArray.size ⟨#[]⟩ = 0 := rfl
    simp [rUnseal, hz]
theorem bytesOf_pu : ∀ l : List Int, bytesOf (l.map pu) = some l
  | [] => rfl
  | n :: l => by simp [bytesOf, bytesOf_pu l]
theorem strOf_app (a b : List Int) : strOf a ++ strOf b = strOf (a ++ b) := by
  apply ByteArray.ext
  unfold strOf
  simp
theorem strOf_size (l : List Int) : (strOf l).size = l.length := by simp [strOf, ByteArray.size]
def tb (n : Int) (i : Nat) : Int := IntKind.wrap .u8 (n.fdiv (2 ^ min (8 * (i : Int)).toNat IntKind.i64.bits))
def outQ (n : Int) (c q : Nat) : List Int := (List.range q).map fun j => tb n (c - 1 - j)
theorem outQ_snoc (n : Int) (c q : Nat) : outQ n c (q + 1) = outQ n c q ++ [tb n (c - 1 - q)] := by
  unfold outQ
  rw [List.range_succ, List.map_append]
  rfl
theorem outQ_len (n : Int) (c q : Nat) : (outQ n c q).length = q := by simp [outQ]
theorem ok_bytesOf (n : Int) (c : Nat) (hc : c ≤ 8) : CallOK Try.prog 103 [.c (pi n), .c (pi c)] (.c (ps (strOf (outQ n c c)))) [.c (pi n), .c (pi c)] := by
  refine okS (fn := Try.f103) [] h0 Try.func103 (by kernel_rfl) rfl Try.ntmps103 Try.results103 (by simp) ?_
  have w0 : IntKind.wrap .i64 ((c : Int) - 1) = (c : Int) - 1 := wrap64 (by omega) (by omega)
  simp [w0]
  refine ewp_sw (.op 1 0 0) (.op 5 7 0) rfl rfl ?_
  simp
  refine loopS [0, 5, 6] [.op 5 7 0] (fun m st => ∃ (q : Nat), q + m = c ∧ st = ⟨slOf 24 [(0, .t (pi n)), (5, .ref ⟨.op 5 7 0, []⟩ 0 q), (6, .t (pi ((c : Int) - 1 - q)))], ofL [(.op 5 7 0, .sl 0 5 q ((outQ n c q).map pu))]⟩) c ?_ ?_
  · rintro Inv hI
    simp
    subst hI
    exact ⟨0, by omega, by simp [outQ]⟩
  · rintro Inv hI m st ⟨q, hq, rfl⟩
    have hS := outQ_snoc n c q
    have hA : ((outQ n c q).map pu).length = q := by rw [List.length_map, outQ_len]
    have hB := bytesOf_pu (outQ n c q)
    have hAm : (outQ n c (q + 1)).map pu = (outQ n c q).map pu ++ [pu (tb n (c - 1 - q))] := by rw [hS, List.map_append]; rfl
    generalize hAe : (outQ n c q).map pu = A at hA hB hAm ⊢
    refine ewr_sound (M := []) h0 ?_
    simp
    refine brn_app (fun a => ?_) (fun a => ?_)
    · simp at a
      have hql : q < c := by omega
      obtain ⟨i, hi⟩ : ∃ i, i = c - 1 - q := ⟨_, rfl⟩
      have e1 : (c : Int) - 1 - q = (i : Int) := by omega
      have w1 : IntKind.wrap .i64 (8 * (i : Int)) = 8 * (i : Int) := wrap64 (by omega) (by omega)
      have w2 : IntKind.wrap .i64 ((i : Int) - 1) = (c : Int) - 1 - ((q + 1 : Nat) : Int) := (wrap64 (by omega) (by omega)).trans (by omega)
      have p1 : (0 : Int) ≤ 8 * (i : Int) := by omega
      have b1 : (q + 1) * 1 ≤ 140737488355328 := by omega
      have b2 : q ≤ 9223372036854775806 := by omega
      have ht : A.take q = A := List.take_of_length_le (by omega)
      rw [← hi] at hAm
      have b3 : q ≤ 140737488355327 := by omega
      simp [e1, w1, p1, hA, b1, b2, b3, ht]
      subst hI
      refine Less_mk (m - 1) (by omega) ⟨q + 1, by omega, ?_⟩
      rw [w2, hAm]
      rfl
    · simp at a
      have hqc : q = c := by omega
      subst hqc
      have ht : A.take q = A := List.take_of_length_le (by omega)
      have hF : ∀ x ∈ A, PT.flat x = true := by
        intro x hx
        rw [← hAe] at hx
        obtain ⟨n, _, rfl⟩ := List.mem_map.1 hx
        rfl
      have hF2 : (∀ x ∈ A, PT.flat x = true) ↔ True := ⟨fun _ => trivial, fun _ => hF⟩
      simp [-PT.flat, hA, ht, hB, hF2]
theorem ok_iteller (n : Int) (l : Nat) : CallOK Try.prog 87 [.c (pi n), .c (pi l)] (.c (ps (sealS (strOf [tb n 1, tb n 0, tb l 0])))) [.c (pi n), .c (pi l)] := by
  refine okS (fn := Try.f87) [] h0 Try.func87 (by kernel_rfl) rfl Try.ntmps87 Try.results87 (by simp) ?_
  simp
  refine Inv_intro (ok_bytesOf n 2 (by omega)) ?_
  simp
  refine Inv_intro (ok_bytesOf l 1 (by omega)) ?_
  have e : strOf (outQ n 2 2) ++ strOf (outQ l 1 1) = strOf [tb n 1, tb n 0, tb l 0] := by rw [strOf_app]; rfl
  have z : (strOf (outQ n 2 2)).size + (strOf (outQ l 1 1)).size ≤ 9223372036854775807 := by rw [strOf_size, strOf_size, outQ_len, outQ_len]; omega
  simp [z, e]
  refine Inv_intro (ok_iSealOf _ (by rw [strOf_size]; simp)) ?_
  simp
theorem ok_steller (n : Int) (l : Nat) : CallOK Try.prog 89 [.c (pi n), .c (pi l)] (.c (ps (sealS (strOf [tb n 1, tb n 0, tb l 0])))) [.c (pi n), .c (pi l)] := by
  have e1 : IntKind.wrap .u8 (n.fdiv (2 ^ min 8 IntKind.i64.bits)) = tb n 1 := rfl
  have e0 : ∀ x : Int, tb x 0 = IntKind.wrap .u8 x := by
    intro x
    unfold tb
    simp
  refine okS (fn := Try.f89) [] h0 Try.func89 (by kernel_rfl) rfl Try.ntmps89 Try.results89 (by simp) ?_
  simp [e1]
  refine Inv_intro (ok_sSealOf _ (by rw [strOf_size]; simp)) ?_
  simp [e0]
def numB (a b : Int) : Int := bitOr .i64 (IntKind.wrap .i64 (a * 2 ^ min 8 IntKind.i64.bits)) b
def tellsR (s : ByteArray) : Int × Int × Bool := if ((rUnseal s).2 && decide ((rUnseal s).1.size = 3)) = true then (numB (byteAt (rUnseal s).1 0) (byteAt (rUnseal s).1 1), byteAt (rUnseal s).1 2, decide (numB (byteAt (rUnseal s).1 0) (byteAt (rUnseal s).1 1) < 1000) && decide (byteAt (rUnseal s).1 2 ≤ 72)) else (0, 0, false)
theorem byteAt_bd (s : ByteArray) (i : Nat) : 0 ≤ byteAt s i ∧ byteAt s i < 256 := by
  unfold byteAt
  split
  · rename_i b _
    have := b.toNat_lt
    omega
  · omega
theorem rUnseal_size (s : ByteArray) : (rUnseal s).1.size ≤ s.size := by
  unfold rUnseal
  split
  · simp
  · exact Nat.zero_le _
theorem ok_tells (s : ByteArray) (hs : s.size ≤ 140737488355328) : CallOK Try.prog 104 [.c (ps s)] (.tup [.c (pi (tellsR s).1), .c (pi (tellsR s).2.1), .c (pb (tellsR s).2.2)]) [.c (ps s)] := by
  refine okS (fn := Try.f104) [] h0 Try.func104 (by kernel_rfl) rfl Try.ntmps104 Try.results104 (by simp) ?_
  simp
  refine Inv_intro (ok_iUnseal s hs) ?_
  simp
  cases c1 : (rUnseal s).2 with
  | false => simp [tellsR, c1]
  | true =>
    generalize hb : (rUnseal s).1 = b at *
    by_cases c2 : b.size = 3
    · have e0 : IntKind.wrap .i64 (byteAt b 0) = byteAt b 0 := wrap64 (by have := byteAt_bd b 0; omega) (by have := byteAt_bd b 0; omega)
      have e1 : IntKind.wrap .i64 (byteAt b 1) = byteAt b 1 := wrap64 (by have := byteAt_bd b 1; omega) (by have := byteAt_bd b 1; omega)
      have e2 : IntKind.wrap .i64 (byteAt b 2) = byteAt b 2 := wrap64 (by have := byteAt_bd b 2; omega) (by have := byteAt_bd b 2; omega)
      simp [c2]
      refine drawP (tabEnv [] _) [⟨[], allD 40, true⟩, ⟨[], allD 40, true⟩, ⟨[], allD 40, true⟩, ⟨[], allD 40, true⟩, ⟨[], allD 40, true⟩, ⟨[], allD 40, true⟩, ⟨[], allD 40, true⟩, ⟨[], allD 40, true⟩, ⟨[], allD 40, true⟩, ⟨[], allD 40, true⟩, ⟨[], allD 40, true⟩, ⟨[], allD 40, true⟩, ⟨[], allD 40, true⟩] h0 hm (tabEnv_ok tab_nil) (by kernel_rfl) (by kernel_rfl) ?_
      simp [c2, e0, e1, e2]
      have hN : bitOr IntKind.i64 (IntKind.wrap IntKind.i64 (byteAt b 0 * 2 ^ min 8 IntKind.i64.bits)) (byteAt b 1) = numB (byteAt b 0) (byteAt b 1) := rfl
      rw [hN]
      have er : tellsR s = (numB (byteAt b 0) (byteAt b 1), byteAt b 2, decide (numB (byteAt b 0) (byteAt b 1) < 1000) && decide (byteAt b 2 ≤ 72)) := by simp [tellsR, c1, hb, c2]
      rw [er]
      generalize numB (byteAt b 0) (byteAt b 1) = N
      refine gT (fun d => ?_) (fun d => ?_)
      · simp at d
        simp [d]
      · simp at d
        have d' : ¬ N < 1000 := by omega
        simp [d']
    · have c2' : ¬ (b.size : Int) = 3 := by omega
      simp [c2', tellsR, c1, hb, c2]
theorem ok_l17Read (s : ByteArray) (hs : s.size ≤ 140737488355328) : CallOK Try.prog 92 [.c (ps s)] (.tup [.c (pi (tellsR s).1), .c (pi (tellsR s).2.1), .c (pb (tellsR s).2.2)]) [.c (ps s)] := by
  refine okS (fn := Try.f92) [] h0 Try.func92 (by kernel_rfl) rfl Try.ntmps92 Try.results92 (by simp) ?_
  simp
  refine Inv_intro (ok_sUnseal s hs) ?_
  simp
  cases c1 : (rUnseal s).2 with
  | false => simp [tellsR, c1]
  | true =>
    generalize hb : (rUnseal s).1 = b
    by_cases c2 : b.size = 3
    · have e0 : IntKind.wrap .i64 (byteAt b 0) = byteAt b 0 := wrap64 (by have := byteAt_bd b 0; omega) (by have := byteAt_bd b 0; omega)
      have e1 : IntKind.wrap .i64 (byteAt b 1) = byteAt b 1 := wrap64 (by have := byteAt_bd b 1; omega) (by have := byteAt_bd b 1; omega)
      have e2 : IntKind.wrap .i64 (byteAt b 2) = byteAt b 2 := wrap64 (by have := byteAt_bd b 2; omega) (by have := byteAt_bd b 2; omega)
      simp [c2]
      refine drawP (tabEnv [] _) [⟨[], allD 39, true⟩, ⟨[], allD 39, true⟩, ⟨[], allD 39, true⟩, ⟨[], allD 39, true⟩, ⟨[], allD 39, true⟩, ⟨[], allD 39, true⟩, ⟨[], allD 39, true⟩, ⟨[], allD 39, true⟩, ⟨[], allD 39, true⟩] h0 hm (tabEnv_ok tab_nil) (by kernel_rfl) (by kernel_rfl) ?_
      simp [c2, e0, e1, e2]
      have hN : bitOr IntKind.i64 (IntKind.wrap IntKind.i64 (byteAt b 0 * 2 ^ min 8 IntKind.i64.bits)) (byteAt b 1) = numB (byteAt b 0) (byteAt b 1) := rfl
      rw [hN]
      have er : tellsR s = (numB (byteAt b 0) (byteAt b 1), byteAt b 2, decide (numB (byteAt b 0) (byteAt b 1) < 1000) && decide (byteAt b 2 ≤ 72)) := by simp [tellsR, c1, hb, c2]
      rw [er]
      generalize numB (byteAt b 0) (byteAt b 1) = N
      refine drawP (tabEnv [] _) [⟨[], allD 39, true⟩, ⟨[], allD 39, true⟩, ⟨[], allD 39, true⟩, ⟨[], allD 39, true⟩, ⟨[], allD 39, true⟩, ⟨[], allD 39, true⟩, ⟨[], allD 39, true⟩, ⟨[], allD 39, true⟩, ⟨[], allD 39, true⟩, ⟨[], allD 39, true⟩, ⟨[], allD 39, true⟩, ⟨[], allD 39, true⟩, ⟨[], allD 39, true⟩, ⟨[], allD 39, true⟩] h0 hm (tabEnv_ok tab_nil) (by kernel_rfl) (by kernel_rfl) ?_
      by_cases d : N < 1000
      · simp [c2, d, e2]
      · simp [c2, d, e2]
    · have c2' : ¬ (b.size : Int) = 3 := by omega
      simp [c2', tellsR, c1, hb, c2]
end Go.V
