/- What functions of the seat's program do, each proved of its code, under the bounds that its theorem names. -/
import Derived.Test.YtmodclnblmoeoaaFacts
set_option linter.all false
namespace Go.V
open Go.Proofs
set_option maxHeartbeats 1000000
set_option maxRecDepth 10000
set_option linter.unusedSimpArgs false
set_option linter.unusedVariables false
theorem open_Int {n : Nat} {qs : List PT} (h : TyC Try.prog (n + 1) 3 qs) : ∃ x : Int, qs = [pi x] ∧ True := by
  unfold TyC at h
  rw [Try.underlying3] at h
  simp only at h
  obtain ⟨m, rfl, _⟩ := h
  exact ⟨m, rfl, trivial⟩
theorem open_String {n : Nat} {qs : List PT} (h : TyC Try.prog (n + 1) 9 qs) : ∃ x : ByteArray, qs = [ps x] ∧ x.size ≤ 140737488351232 := by
  unfold TyC at h
  rw [Try.underlying9] at h
  simp only at h
  obtain ⟨s, rfl, hs⟩ := h
  exact ⟨s, rfl, hs⟩
theorem open_each {α : Type} {f : α → List PT} {q : α → Prop} : ∀ {cells : List (List PT)}, (∀ c ∈ cells, ∃ x, c = f x ∧ q x) → ∃ xs : List α, cells = xs.map f ∧ ∀ x ∈ xs, q x
  | [], _ => ⟨[], rfl, by simp⟩
  | c :: cs, h => by
    obtain ⟨x, hx, hq⟩ := h c (by simp)
    obtain ⟨xs, hxs, hqs⟩ := open_each (cells := cs) fun d hd => h d (by simp [hd])
    refine ⟨x :: xs, by rw [hx, hxs]; rfl, fun y hy => ?_⟩
    rcases List.mem_cons.1 hy with rfl | hy
    · exact hq
    · exact hqs y hy
theorem open_flat {α : Type} (f : α → PT) : ∀ xs : List α, (xs.map fun x => [f x]).flatten = xs.map f
  | [] => rfl
  | x :: xs => by simp [open_flat f xs]
def mtGo : Nat → Int → ByteArray → ByteArray
  | 0, _, s => s
  | n + 1, k, s => if 0 < k then mtGo n (IntKind.wrap .i64 (k.tdiv 10)) (strOf [IntKind.wrap .u8 (IntKind.wrap .i64 (48 + k.tmod 10))] ++ s) else s
/-- The text that marks a string. -/
def mtext (k : Int) : ByteArray := if k ≤ 0 then ⟨#[109, 48]⟩ else ⟨#[109]⟩ ++ mtGo k.toNat k ⟨#[]⟩
theorem mtGo_size : ∀ (n : Nat) (k : Int) (s : ByteArray), (mtGo n k s).size ≤ n + s.size
  | 0, _, s => by simp [mtGo]
  | n + 1, k, s => by
    unfold mtGo
    split
    · have := mtGo_size n (IntKind.wrap .i64 (k.tdiv 10)) (strOf [IntKind.wrap .u8 (IntKind.wrap .i64 (48 + k.tmod 10))] ++ s)
      have e : (strOf [IntKind.wrap .u8 (IntKind.wrap .i64 (48 + k.tmod 10))] ++ s).size = 1 + s.size := by
        rw [ByteArray.size_append]; rfl
      omega
    · omega
theorem ok_markText (k : Int) (hk : k ≤ 4611686018427387904) : CallOK Try.prog 85 [.c (pi k)] (.c (ps (mtext k))) [.c (pi k)] := by
  refine okS (fn := Try.f85) [] h0 Try.func85 (by kernel_rfl) rfl Try.ntmps85 Try.results85 (by simp) ?_
  simp
  refine brn_app (fun h => ?_) (fun h => ?_)
  · simp at h
    simp [mtext, h]
  · simp at h
    simp
    have hn : ¬ k ≤ 0 := by omega
    refine loopS [0, 3] [] (fun n st => ∃ (j : Int) (s : ByteArray), j ≤ n ∧ 0 ≤ j ∧ j + s.size ≤ 4611686018427387904 ∧ mtGo n j s = mtGo k.toNat k ⟨#[]⟩ ∧ st = ⟨slOf 20 [(0, .t (pi j)), (3, .t (ps s))], ofL []⟩) k.toNat ?_ ?_
    · rintro Inv hI
      simp
      subst hI
      exact ⟨k, ⟨#[]⟩, by omega, by omega, by show k + 0 ≤ _; omega, rfl, rfl⟩
    · rintro Inv hI n st ⟨j, s, hj, hj0, hjs, hm, rfl⟩
      refine ewr_sound (M := []) h0 ?_
      simp
      refine brn_app (fun h => ?_) (fun h => ?_)
      · simp at h
        have hsz : (strOf [IntKind.wrap .u8 (IntKind.wrap .i64 (48 + j.tmod 10))]).size = 1 := rfl
        have hc : (strOf [IntKind.wrap .u8 (IntKind.wrap .i64 (48 + j.tmod 10))]).size + s.size ≤ 9223372036854775807 := by rw [hsz]; omega
        simp [hc]
        have hq : IntKind.wrap .i64 (j.tdiv 10) = j / 10 := by rw [Int.tdiv_eq_ediv_of_nonneg hj0]; exact wrap64 (by omega) (by omega)
        obtain ⟨m, rfl⟩ : ∃ m, n = m + 1 := ⟨n - 1, by omega⟩
        subst hI
        refine Less_mk m (by omega) ⟨j / 10, strOf [IntKind.wrap .u8 (IntKind.wrap .i64 (48 + j.tmod 10))] ++ s, by omega, by omega, ?_, ?_, by rw [hq]⟩
        · rw [ByteArray.size_append, hsz]; omega
        · rw [mtGo, if_pos h, hq] at hm
          exact hm
      · simp at h
        have hs : mtGo n j s = s := by
          cases n with
          | zero => rfl
          | succ n => rw [mtGo, if_neg (by omega)]
        rw [hs] at hm
        subst hm
        have := mtGo_size k.toNat k ⟨#[]⟩
        have e0 : (⟨#[]⟩ : ByteArray).size = 0 := rfl
        have hc : (⟨#[109]⟩ : ByteArray).size + (mtGo k.toNat k ⟨#[]⟩).size ≤ 9223372036854775807 := by
          have e1 : (⟨#[109]⟩ : ByteArray).size = 1 := rfl
          omega
        simp [hc, mtext, hn]
abbrev cStringSo (xs : List ByteArray) : PT := .sl 0 9 xs.length (xs.map ps)
abbrev cStringSi (k : Nat) (xs : List ByteArray) : PT := rd k xs.length (xs.map ps)
def wt_StringS (xs : List ByteArray) : Nat := wtR ByteArray.size xs
theorem len_wt_StringS (xs : List ByteArray) : xs.length ≤ wt_StringS xs := by unfold wt_StringS wtR; omega
theorem mem_wt_StringS {xs : List ByteArray} {x : ByteArray} (h : x ∈ xs) : x.size ≤ wt_StringS xs := by
  have := wt_mem ByteArray.size h
  unfold wt_StringS wtR
  omega
def fits_StringS (xs : List ByteArray) : Prop := xs.length ≤ 140737488351232 ∧ ∀ x ∈ xs, x.size ≤ 140737488351232
def lens_StringS (xs : List ByteArray) : Prop := xs.length ≤ 140737488351232 ∧ ∀ x ∈ xs, True
def mk_StringS (xs : List ByteArray) (k : Int) : List ByteArray × Int := mkR (fun (_ : ByteArray) k => (mtext k, k + 1)) xs k
def cn_StringS (xs : List ByteArray) : Nat := cnR (fun (_ : ByteArray) => 1) xs
theorem mk_StringS_len (xs : List ByteArray) (k : Int) : (mk_StringS xs k).1.length = xs.length := mkR_len _ xs k
attribute [simp] mk_StringS_len
theorem mk_StringS_snd (xs : List ByteArray) (k : Int) : (mk_StringS xs k).2 = k + cn_StringS xs := mkR_snd (fun _ _ => rfl) xs k
theorem lens_of_StringS {xs : List ByteArray} (h : wt_StringS xs ≤ 1048576) : lens_StringS xs := by
  have hl := len_wt_StringS xs
  exact ⟨by omega, fun _ _ => trivial⟩
theorem cn_len_StringS (xs : List ByteArray) : cn_StringS xs ≤ 32 * xs.length := cnR_le0 (fun x => by omega) xs
theorem cn_le_StringS (xs : List ByteArray) : cn_StringS xs ≤ 32 * wt_StringS xs := cnR_le (fun _ => by omega) xs
theorem open_StringS {n : Nat} {qs : List PT} (h : TyC Try.prog (n + 2) 22 qs) : ∃ x : (List ByteArray), qs = [rd 1 x.length (x.map ps)] ∧ fits_StringS x := by
  unfold TyC at h
  rw [Try.underlying22] at h
  simp only at h
  obtain ⟨cells, rfl, hl, hc⟩ := h
  obtain ⟨xs, rfl, hx⟩ := open_each (f := fun x : ByteArray => [ps x]) (q := fun x => x.size ≤ 140737488351232) (fun c hcc => open_String (hc c hcc)) 
  refine ⟨xs, ?_, ?_⟩
  · simp only [List.length_map, open_flat]
  · have e1 : Try.prog.bytesOf 9 = 16 := by kernel_rfl
    rw [e1, List.length_map] at hl
    have e2 : reachBytes = 140737488351232 := rfl
    rw [e2] at hl
    exact ⟨by omega, hx⟩
structure GOp where
  Kind : Int
  Path : (List ByteArray)
  Value : ByteArray
  N : Int
  deriving DecidableEq
def GOp.co (x : GOp) : List PT := [pi x.Kind, .sl 0 9 x.Path.length (x.Path.map ps), ps x.Value, pi x.N]
def GOp.ci (k : Nat) (x : GOp) : List PT := [pi x.Kind, rd k x.Path.length (x.Path.map ps), ps x.Value, pi x.N]
attribute [simp] GOp.co GOp.ci
theorem GOp.len_o (x : GOp) : x.co.length = 4 := rfl
theorem GOp.len_i (k : Nat) (x : GOp) : (x.ci k).length = 4 := rfl
theorem GOp.un1 (x : GOp) : PT.unownL x.co = x.ci 0 := by simp [rd]
theorem GOp.uni1 (k : Nat) (x : GOp) : PT.unownL (x.ci k) = x.ci 0 := by simp [rd]
theorem GOp.un (xs : List GOp) : PT.unownL (xs.flatMap GOp.co) = xs.flatMap (GOp.ci 0) := by
  rw [unownL_fm]
  congr 1
  funext x
  exact GOp.un1 x
theorem GOp.uni (k : Nat) (xs : List GOp) : PT.unownL (xs.flatMap (GOp.ci k)) = xs.flatMap (GOp.ci 0) := by
  rw [unownL_fm]
  congr 1
  funext x
  exact GOp.uni1 k x
theorem GOp.nt (xs : List GOp) : PT.noTmpL (xs.flatMap GOp.co) = true := noTmpL_fm _ xs fun x => by simp
theorem GOp.nti (k : Nat) (xs : List GOp) : PT.noTmpL (xs.flatMap (GOp.ci (k + 1))) = true := noTmpL_fm _ xs fun x => by simp [rd]
attribute [simp] GOp.un GOp.uni GOp.nt GOp.nti
theorem GOp.lenR (xs : List GOp) : (xs.flatMap GOp.co).length = xs.length * 4 := fm_len _ 4 (fun _ => rfl) xs
theorem GOp.lenRi (k : Nat) (xs : List GOp) : (xs.flatMap (GOp.ci k)).length = xs.length * 4 := fm_len _ 4 (fun _ => rfl) xs
theorem GOp.tkR (xs : List GOp) : (xs.flatMap GOp.co).take (xs.length * 4) = xs.flatMap GOp.co := List.take_of_length_le (by rw [GOp.lenR]; exact Nat.le_refl _)
theorem GOp.tkRi (k : Nat) (xs : List GOp) : (xs.flatMap (GOp.ci k)).take (xs.length * 4) = xs.flatMap (GOp.ci k) := List.take_of_length_le (by rw [GOp.lenRi]; exact Nat.le_refl _)
attribute [simp high] GOp.lenR GOp.tkR GOp.lenRi GOp.tkRi
def GOp.wt (x : GOp) : Nat := wt_StringS x.Path + x.Value.size
def GOp.fits (x : GOp) : Prop := fits_StringS x.Path ∧ x.Value.size ≤ 140737488351232
def GOp.lens (x : GOp) : Prop := lens_StringS x.Path
def GOp.mark (x : GOp) (k : Int) : GOp × Int := (⟨k, (mk_StringS x.Path (k + 1)).1, mtext (mk_StringS x.Path (k + 1)).2, ((mk_StringS x.Path (k + 1)).2 + 1)⟩, (((mk_StringS x.Path (k + 1)).2 + 1) + 1))
def GOp.cn (x : GOp) : Nat := 1 + cn_StringS x.Path + 1 + 1
theorem GOp.mark_snd (x : GOp) (k : Int) : (GOp.mark x k).2 = k + GOp.cn x := by
  simp only [GOp.mark, GOp.cn, mk_StringS_snd] <;> omega
def GOp.markT (x : GOp) (k : Int) : GOp × Int := (⟨x.Kind, (mk_StringS x.Path k).1, x.Value, x.N⟩, (mk_StringS x.Path k).2)
def GOp.cnT (x : GOp) : Nat := cn_StringS x.Path
theorem GOp.markT_snd (x : GOp) (k : Int) : (GOp.markT x k).2 = k + GOp.cnT x := by
  simp only [GOp.markT, GOp.cnT, mk_StringS_snd] <;> omega
theorem lens_of_Op {x : GOp} (h : GOp.wt x ≤ 1048576) : GOp.lens x := by
  unfold GOp.wt at h
  exact lens_of_StringS (by omega)
theorem cn_le_Op (x : GOp) : GOp.cnT x ≤ 32 * GOp.wt x := by
  unfold GOp.cnT GOp.wt
  have := cn_le_StringS x.Path
  omega
theorem cnE_le_Op (x : GOp) : GOp.cn x ≤ 32 * GOp.wt x + 16 := by
  unfold GOp.cn GOp.wt
  have := cn_le_StringS x.Path
  omega
theorem open_Op {n : Nat} {qs : List PT} (h : TyC Try.prog (n + 3) 76 qs) : ∃ x : GOp, qs = GOp.ci 1 x ∧ GOp.fits x := by
  unfold TyC at h
  rw [Try.underlying76] at h
  simp only [TyFs] at h
  obtain ⟨p0, q0, rfl, h0, ⟨p1, q1, rfl, h1, ⟨p2, q2, rfl, h2, ⟨p3, q3, rfl, h3, rfl⟩⟩⟩⟩ := h
  obtain ⟨x0, rfl, y0⟩ := open_Int (n := n + 1) h0
  obtain ⟨x1, rfl, y1⟩ := open_StringS (n := n + 0) h1
  obtain ⟨x2, rfl, y2⟩ := open_String (n := n + 1) h2
  obtain ⟨x3, rfl, y3⟩ := open_Int (n := n + 1) h3
  exact ⟨⟨x0, x1, x2, x3⟩, rfl, ⟨y1, y2⟩⟩
abbrev cOpSo (xs : List GOp) : PT := .sl 0 80 xs.length (xs.flatMap GOp.co)
abbrev cOpSi (k : Nat) (xs : List GOp) : PT := rd k xs.length (xs.flatMap (GOp.ci k))
def wt_OpS (xs : List GOp) : Nat := wtR GOp.wt xs
theorem len_wt_OpS (xs : List GOp) : xs.length ≤ wt_OpS xs := by unfold wt_OpS wtR; omega
theorem mem_wt_OpS {xs : List GOp} {x : GOp} (h : x ∈ xs) : GOp.wt x ≤ wt_OpS xs := by
  have := wt_mem GOp.wt h
  unfold wt_OpS wtR
  omega
def fits_OpS (xs : List GOp) : Prop := xs.length ≤ 140737488351232 ∧ ∀ x ∈ xs, GOp.fits x
def lens_OpS (xs : List GOp) : Prop := xs.length ≤ 140737488351232 ∧ ∀ x ∈ xs, GOp.lens x
def mk_OpS (xs : List GOp) (k : Int) : List GOp × Int := mkR GOp.mark xs k
def cn_OpS (xs : List GOp) : Nat := cnR GOp.cn xs
theorem mk_OpS_len (xs : List GOp) (k : Int) : (mk_OpS xs k).1.length = xs.length := mkR_len _ xs k
attribute [simp] mk_OpS_len
theorem mk_OpS_snd (xs : List GOp) (k : Int) : (mk_OpS xs k).2 = k + cn_OpS xs := mkR_snd (GOp.mark_snd) xs k
theorem lens_of_OpS {xs : List GOp} (h : wt_OpS xs ≤ 1048576) : lens_OpS xs := by
  have hl := len_wt_OpS xs
  exact ⟨by omega, fun x hx => lens_of_Op (by have := mem_wt_OpS hx; omega)⟩
theorem cn_le_OpS (xs : List GOp) : cn_OpS xs ≤ 32 * wt_OpS xs := cnR_le (fun x => by have := cnE_le_Op x; omega) xs
theorem open_OpS {n : Nat} {qs : List PT} (h : TyC Try.prog (n + 4) 85 qs) : ∃ x : (List GOp), qs = [rd 1 x.length (x.flatMap (GOp.ci 1))] ∧ fits_OpS x := by
  unfold TyC at h
  rw [Try.underlying85] at h
  simp only at h
  obtain ⟨cells, rfl, hl, hc⟩ := h
  obtain ⟨xs, rfl, hx⟩ := open_each (f := fun x : GOp => GOp.ci 1 x) (q := fun x => GOp.fits x) (fun c hcc => open_Op (hc c hcc)) 
  refine ⟨xs, ?_, ?_⟩
  · simp only [List.length_map]
    rfl
  · have e1 : Try.prog.bytesOf 76 = 56 := by kernel_rfl
    rw [e1, List.length_map] at hl
    have e2 : reachBytes = 140737488351232 := rfl
    rw [e2] at hl
    exact ⟨by omega, hx⟩
abbrev cBoolSo (xs : List Bool) : PT := .sl 0 4 xs.length (xs.map pb)
abbrev cBoolSi (k : Nat) (xs : List Bool) : PT := rd k xs.length (xs.map pb)
def wt_BoolS (xs : List Bool) : Nat := xs.length
theorem len_wt_BoolS (xs : List Bool) : xs.length ≤ wt_BoolS xs := by unfold wt_BoolS; omega
def fits_BoolS (xs : List Bool) : Prop := xs.length ≤ 140737488351232 ∧ ∀ x ∈ xs, True
def lens_BoolS (xs : List Bool) : Prop := xs.length ≤ 140737488351232 ∧ ∀ x ∈ xs, True
def mk_BoolS (xs : List Bool) (k : Int) : List Bool × Int := mkR (fun (_ : Bool) k => (decide (Int.tmod k 3 = 0), k + 1)) xs k
def cn_BoolS (xs : List Bool) : Nat := cnR (fun (_ : Bool) => 1) xs
theorem mk_BoolS_len (xs : List Bool) (k : Int) : (mk_BoolS xs k).1.length = xs.length := mkR_len _ xs k
attribute [simp] mk_BoolS_len
theorem mk_BoolS_snd (xs : List Bool) (k : Int) : (mk_BoolS xs k).2 = k + cn_BoolS xs := mkR_snd (fun _ _ => rfl) xs k
theorem lens_of_BoolS {xs : List Bool} (h : wt_BoolS xs ≤ 1048576) : lens_BoolS xs := by
  have hl := len_wt_BoolS xs
  exact ⟨by omega, fun _ _ => trivial⟩
theorem cn_len_BoolS (xs : List Bool) : cn_BoolS xs ≤ 32 * xs.length := cnR_le0 (fun x => by omega) xs
theorem cn_le_BoolS (xs : List Bool) : cn_BoolS xs ≤ 32 * wt_BoolS xs := cnR_le0 (fun _ => by omega) xs
theorem ok_eqBoolS (k k' : Nat) (xs ys : List Bool) (ha : lens_BoolS xs) (hb : lens_BoolS ys) : CallOK Try.prog 67 [.c (rd k xs.length (xs.map pb)), .c (rd k' ys.length (ys.map pb))] (.c (pb (decide (xs = ys)))) [.c (rd k xs.length (xs.map pb)), .c (rd k' ys.length (ys.map pb))] := by
  obtain ⟨ha, hax⟩ := ha
  obtain ⟨hb, hbx⟩ := hb
  refine okS (fn := Try.f67) [] h0 Try.func67 (by kernel_rfl) rfl Try.ntmps67 Try.results67 (by simp) ?_
  simp
  refine brn_app (fun h => ?_) (fun h => ?_)
  · simp at h
    simp
    rintro rfl
    exact h rfl
  · simp at h
    have hl : ys.length = xs.length := by omega
    simp
    refine loopS [0, 1, 5] [] (fun n st => ∃ (i : Nat), i + n = xs.length ∧ (xs.drop i = ys.drop i ↔ xs = ys) ∧ st = ⟨slOf 26 [(0, .t (rd k xs.length (xs.map pb))), (1, .t (rd k' ys.length (ys.map pb))), (5, .t (pi i))], ofL []⟩) xs.length ?_ ?_
    · rintro Inv hI
      simp
      subst hI
      exact ⟨0, by omega, by simp, rfl⟩
    · rintro Inv hI n st ⟨i, hi, htk, rfl⟩
      refine ewr_sound (M := []) h0 ?_
      simp
      refine brn_app (fun h => ?_) (fun h => ?_)
      · simp at h
        have hib : i < ys.length := by omega
        rw [drop_step xs i h, drop_step ys i hib, List.cons.injEq] at htk
        simp
        refine drawP E0 [⟨[], allD 26, true⟩, ⟨[], allD 26, true⟩, ⟨[], allD 26, true⟩, ⟨[], allD 26, true⟩, ⟨[], allD 26, true⟩, ⟨[], allD 26, true⟩, ⟨[], allD 26, true⟩, ⟨[], allD 26, true⟩, ⟨[], allD 26, true⟩] h0 hm (E0_ok _) (by kernel_rfl) (by kernel_rfl) ?_
        simp [h, hib]
        refine brn_app (fun h2 => ?_) (fun h2 => ?_)
        · simp at h2
          simp
          intro he
          exact h2 (htk.2 he).1
        · simp at h2
          simp
          subst hI
          exact Less_mk (n - 1) (by omega) ⟨i + 1, by omega, ⟨fun h4 => htk.1 ⟨h2, h4⟩, fun h4 => (htk.2 h4).2⟩, by rw [wrNext i (by omega)]⟩
      · simp at h
        rw [List.drop_of_length_le (by omega), List.drop_of_length_le (by omega)] at htk
        simp
        exact htk.1 rfl
theorem ok_eqStringS (k k' : Nat) (xs ys : List ByteArray) (ha : lens_StringS xs) (hb : lens_StringS ys) : CallOK Try.prog 27 [.c (rd k xs.length (xs.map ps)), .c (rd k' ys.length (ys.map ps))] (.c (pb (decide (xs = ys)))) [.c (rd k xs.length (xs.map ps)), .c (rd k' ys.length (ys.map ps))] := by
  obtain ⟨ha, hax⟩ := ha
  obtain ⟨hb, hbx⟩ := hb
  refine okS (fn := Try.f27) [] h0 Try.func27 (by kernel_rfl) rfl Try.ntmps27 Try.results27 (by simp) ?_
  simp
  refine brn_app (fun h => ?_) (fun h => ?_)
  · simp at h
    simp
    rintro rfl
    exact h rfl
  · simp at h
    have hl : ys.length = xs.length := by omega
    simp
    refine loopS [0, 1, 5] [] (fun n st => ∃ (i : Nat), i + n = xs.length ∧ (xs.drop i = ys.drop i ↔ xs = ys) ∧ st = ⟨slOf 26 [(0, .t (rd k xs.length (xs.map ps))), (1, .t (rd k' ys.length (ys.map ps))), (5, .t (pi i))], ofL []⟩) xs.length ?_ ?_
    · rintro Inv hI
      simp
      subst hI
      exact ⟨0, by omega, by simp, rfl⟩
    · rintro Inv hI n st ⟨i, hi, htk, rfl⟩
      refine ewr_sound (M := []) h0 ?_
      simp
      refine brn_app (fun h => ?_) (fun h => ?_)
      · simp at h
        have hib : i < ys.length := by omega
        rw [drop_step xs i h, drop_step ys i hib, List.cons.injEq] at htk
        simp
        refine drawP E0 [⟨[], allD 26, true⟩, ⟨[], allD 26, true⟩, ⟨[], allD 26, true⟩, ⟨[], allD 26, true⟩, ⟨[], allD 26, true⟩, ⟨[], allD 26, true⟩, ⟨[], allD 26, true⟩, ⟨[], allD 26, true⟩, ⟨[], allD 26, true⟩] h0 hm (E0_ok _) (by kernel_rfl) (by kernel_rfl) ?_
        simp [h, hib]
        refine brn_app (fun h2 => ?_) (fun h2 => ?_)
        · simp at h2
          simp
          intro he
          exact h2 (htk.2 he).1
        · simp at h2
          simp
          subst hI
          exact Less_mk (n - 1) (by omega) ⟨i + 1, by omega, ⟨fun h4 => htk.1 ⟨h2, h4⟩, fun h4 => (htk.2 h4).2⟩, by rw [wrNext i (by omega)]⟩
      · simp at h
        rw [List.drop_of_length_le (by omega), List.drop_of_length_le (by omega)] at htk
        simp
        exact htk.1 rfl
theorem ok_eqOp (k k' : Nat) (x y : GOp) (ha : GOp.lens x) (hb : GOp.lens y) : CallOK Try.prog 60 [.agg (GOp.ci k x), .agg (GOp.ci k' y)] (.c (pb (decide (x = y)))) [.agg (GOp.ci k x), .agg (GOp.ci k' y)] := by
  simp only [GOp.lens] at ha hb
  refine okS (fn := Try.f60) [] h0 Try.func60 (by kernel_rfl) rfl Try.ntmps60 Try.results60 (by simp) ?_
  simp
  refine brn_app (fun a0 => ?_) (fun a0 => ?_)
  · simp at a0
    simp
    rintro rfl
    exact a0 rfl
  · simp at a0
    simp
    refine Inv_intro (ok_eqStringS k k' x.Path y.Path (ha) (hb)) ?_
    simp
    refine brn_app (fun a1 => ?_) (fun a1 => ?_)
    · simp at a1
      simp
      rintro rfl
      exact a1 rfl
    · simp at a1
      simp
      refine brn_app (fun a2 => ?_) (fun a2 => ?_)
      · simp at a2
        simp
        rintro rfl
        exact a2 rfl
      · simp at a2
        simp
        refine brn_app (fun a3 => ?_) (fun a3 => ?_)
        · simp at a3
          simp
          rintro rfl
          exact a3 rfl
        · simp at a3
          simp
          cases x
          cases y
          simp_all
theorem ok_eqOpS (k k' : Nat) (xs ys : List GOp) (ha : lens_OpS xs) (hb : lens_OpS ys) : CallOK Try.prog 68 [.c (rd k xs.length (xs.flatMap (GOp.ci k))), .c (rd k' ys.length (ys.flatMap (GOp.ci k')))] (.c (pb (decide (xs = ys)))) [.c (rd k xs.length (xs.flatMap (GOp.ci k))), .c (rd k' ys.length (ys.flatMap (GOp.ci k')))] := by
  obtain ⟨ha, hax⟩ := ha
  obtain ⟨hb, hbx⟩ := hb
  refine okS (fn := Try.f68) [] h0 Try.func68 (by kernel_rfl) rfl Try.ntmps68 Try.results68 (by simp) ?_
  simp
  refine brn_app (fun h => ?_) (fun h => ?_)
  · simp at h
    simp
    rintro rfl
    exact h rfl
  · simp at h
    have hl : ys.length = xs.length := by omega
    simp
    refine loopS [0, 1, 5] [] (fun n st => ∃ (i : Nat), i + n = xs.length ∧ (xs.drop i = ys.drop i ↔ xs = ys) ∧ st = ⟨slOf 27 [(0, .t (rd k xs.length (xs.flatMap (GOp.ci k)))), (1, .t (rd k' ys.length (ys.flatMap (GOp.ci k')))), (5, .t (pi i))], ofL []⟩) xs.length ?_ ?_
    · rintro Inv hI
      simp
      subst hI
      exact ⟨0, by omega, by simp, rfl⟩
    · rintro Inv hI n st ⟨i, hi, htk, rfl⟩
      refine ewr_sound (M := []) h0 ?_
      simp
      refine brn_app (fun h => ?_) (fun h => ?_)
      · simp at h
        have hib : i < ys.length := by omega
        rw [drop_step xs i h, drop_step ys i hib, List.cons.injEq] at htk
        simp
        have hd := fm_drop (GOp.ci k) 4 (fun _ => rfl) xs i h
        have hd' := fm_drop (GOp.ci k') 4 (fun _ => rfl) ys i hib
        have hlen := fm_len (GOp.ci k) 4 (fun _ => rfl) xs
        have hlen' := fm_len (GOp.ci k') 4 (fun _ => rfl) ys
        have hlt : i * 4 < xs.length * 4 := by omega
        have hlt' : i * 4 < ys.length * 4 := by omega
        have hE := ok_eqOp k k' xs[i] ys[i] (hax _ (List.getElem_mem h)) (hbx _ (List.getElem_mem hib))
        refine drawP (tabEnv [] [(60, [.agg (GOp.ci k xs[i]), .agg (GOp.ci k' ys[i])], .c (pb (decide (xs[i] = ys[i]))), [.agg (GOp.ci k xs[i]), .agg (GOp.ci k' ys[i])])]) [⟨[], allD 27, true⟩, ⟨[], allD 27, true⟩, ⟨[], allD 27, true⟩, ⟨[], allD 27, true⟩, ⟨[], allD 27, true⟩, ⟨[], allD 27, true⟩, ⟨[], allD 27, true⟩, ⟨[], allD 27, true⟩, ⟨[], allD 27, false⟩, ⟨[], allD 27, true⟩] h0 hm (tabEnv_ok (by intro x hx; simp only [List.mem_singleton] at hx; subst hx; exact hE)) (by kernel_rfl) (by kernel_rfl) ?_
        simp [h, hib, hd, hd', hlen, hlen', hlt, hlt']
        refine brn_app (fun h2 => ?_) (fun h2 => ?_)
        · simp at h2
          simp
          intro he
          exact h2 (htk.2 he).1
        · simp at h2
          simp
          subst hI
          exact Less_mk (n - 1) (by omega) ⟨i + 1, by omega, ⟨fun h4 => htk.1 ⟨h2, h4⟩, fun h4 => (htk.2 h4).2⟩, by rw [wrNext i (by omega)]⟩
      · simp at h
        rw [List.drop_of_length_le (by omega), List.drop_of_length_le (by omega)] at htk
        simp
        exact htk.1 rfl
structure GLeaf where
  Path : (List ByteArray)
  Value : ByteArray
  deriving DecidableEq
def GLeaf.co (x : GLeaf) : List PT := [.sl 0 9 x.Path.length (x.Path.map ps), ps x.Value]
def GLeaf.ci (k : Nat) (x : GLeaf) : List PT := [rd k x.Path.length (x.Path.map ps), ps x.Value]
attribute [simp] GLeaf.co GLeaf.ci
theorem GLeaf.len_o (x : GLeaf) : x.co.length = 2 := rfl
theorem GLeaf.len_i (k : Nat) (x : GLeaf) : (x.ci k).length = 2 := rfl
theorem GLeaf.un1 (x : GLeaf) : PT.unownL x.co = x.ci 0 := by simp [rd]
theorem GLeaf.uni1 (k : Nat) (x : GLeaf) : PT.unownL (x.ci k) = x.ci 0 := by simp [rd]
theorem GLeaf.un (xs : List GLeaf) : PT.unownL (xs.flatMap GLeaf.co) = xs.flatMap (GLeaf.ci 0) := by
  rw [unownL_fm]
  congr 1
  funext x
  exact GLeaf.un1 x
theorem GLeaf.uni (k : Nat) (xs : List GLeaf) : PT.unownL (xs.flatMap (GLeaf.ci k)) = xs.flatMap (GLeaf.ci 0) := by
  rw [unownL_fm]
  congr 1
  funext x
  exact GLeaf.uni1 k x
theorem GLeaf.nt (xs : List GLeaf) : PT.noTmpL (xs.flatMap GLeaf.co) = true := noTmpL_fm _ xs fun x => by simp
theorem GLeaf.nti (k : Nat) (xs : List GLeaf) : PT.noTmpL (xs.flatMap (GLeaf.ci (k + 1))) = true := noTmpL_fm _ xs fun x => by simp [rd]
attribute [simp] GLeaf.un GLeaf.uni GLeaf.nt GLeaf.nti
theorem GLeaf.lenR (xs : List GLeaf) : (xs.flatMap GLeaf.co).length = xs.length * 2 := fm_len _ 2 (fun _ => rfl) xs
theorem GLeaf.lenRi (k : Nat) (xs : List GLeaf) : (xs.flatMap (GLeaf.ci k)).length = xs.length * 2 := fm_len _ 2 (fun _ => rfl) xs
theorem GLeaf.tkR (xs : List GLeaf) : (xs.flatMap GLeaf.co).take (xs.length * 2) = xs.flatMap GLeaf.co := List.take_of_length_le (by rw [GLeaf.lenR]; exact Nat.le_refl _)
theorem GLeaf.tkRi (k : Nat) (xs : List GLeaf) : (xs.flatMap (GLeaf.ci k)).take (xs.length * 2) = xs.flatMap (GLeaf.ci k) := List.take_of_length_le (by rw [GLeaf.lenRi]; exact Nat.le_refl _)
attribute [simp high] GLeaf.lenR GLeaf.tkR GLeaf.lenRi GLeaf.tkRi
def GLeaf.wt (x : GLeaf) : Nat := wt_StringS x.Path + x.Value.size
def GLeaf.fits (x : GLeaf) : Prop := fits_StringS x.Path ∧ x.Value.size ≤ 140737488351232
def GLeaf.lens (x : GLeaf) : Prop := lens_StringS x.Path
def GLeaf.mark (x : GLeaf) (k : Int) : GLeaf × Int := (⟨(mk_StringS x.Path k).1, mtext (mk_StringS x.Path k).2⟩, ((mk_StringS x.Path k).2 + 1))
def GLeaf.cn (x : GLeaf) : Nat := cn_StringS x.Path + 1
theorem GLeaf.mark_snd (x : GLeaf) (k : Int) : (GLeaf.mark x k).2 = k + GLeaf.cn x := by
  simp only [GLeaf.mark, GLeaf.cn, mk_StringS_snd] <;> omega
def GLeaf.markT (x : GLeaf) (k : Int) : GLeaf × Int := (⟨(mk_StringS x.Path k).1, x.Value⟩, (mk_StringS x.Path k).2)
def GLeaf.cnT (x : GLeaf) : Nat := cn_StringS x.Path
theorem GLeaf.markT_snd (x : GLeaf) (k : Int) : (GLeaf.markT x k).2 = k + GLeaf.cnT x := by
  simp only [GLeaf.markT, GLeaf.cnT, mk_StringS_snd] <;> omega
theorem lens_of_Leaf {x : GLeaf} (h : GLeaf.wt x ≤ 1048576) : GLeaf.lens x := by
  unfold GLeaf.wt at h
  exact lens_of_StringS (by omega)
theorem cn_le_Leaf (x : GLeaf) : GLeaf.cnT x ≤ 32 * GLeaf.wt x := by
  unfold GLeaf.cnT GLeaf.wt
  have := cn_le_StringS x.Path
  omega
theorem cnE_le_Leaf (x : GLeaf) : GLeaf.cn x ≤ 32 * GLeaf.wt x + 16 := by
  unfold GLeaf.cn GLeaf.wt
  have := cn_le_StringS x.Path
  omega
theorem ok_eqLeaf (k k' : Nat) (x y : GLeaf) (ha : GLeaf.lens x) (hb : GLeaf.lens y) : CallOK Try.prog 84 [.agg (GLeaf.ci k x), .agg (GLeaf.ci k' y)] (.c (pb (decide (x = y)))) [.agg (GLeaf.ci k x), .agg (GLeaf.ci k' y)] := by
  simp only [GLeaf.lens] at ha hb
  refine okS (fn := Try.f84) [] h0 Try.func84 (by kernel_rfl) rfl Try.ntmps84 Try.results84 (by simp) ?_
  simp
  refine Inv_intro (ok_eqStringS k k' x.Path y.Path (ha) (hb)) ?_
  simp
  refine brn_app (fun a0 => ?_) (fun a0 => ?_)
  · simp at a0
    simp
    rintro rfl
    exact a0 rfl
  · simp at a0
    simp
    refine brn_app (fun a1 => ?_) (fun a1 => ?_)
    · simp at a1
      simp
      rintro rfl
      exact a1 rfl
    · simp at a1
      simp
      cases x
      cases y
      simp_all
abbrev cLeafSo (xs : List GLeaf) : PT := .sl 0 103 xs.length (xs.flatMap GLeaf.co)
abbrev cLeafSi (k : Nat) (xs : List GLeaf) : PT := rd k xs.length (xs.flatMap (GLeaf.ci k))
def wt_LeafS (xs : List GLeaf) : Nat := wtR GLeaf.wt xs
theorem len_wt_LeafS (xs : List GLeaf) : xs.length ≤ wt_LeafS xs := by unfold wt_LeafS wtR; omega
theorem mem_wt_LeafS {xs : List GLeaf} {x : GLeaf} (h : x ∈ xs) : GLeaf.wt x ≤ wt_LeafS xs := by
  have := wt_mem GLeaf.wt h
  unfold wt_LeafS wtR
  omega
def fits_LeafS (xs : List GLeaf) : Prop := xs.length ≤ 140737488351232 ∧ ∀ x ∈ xs, GLeaf.fits x
def lens_LeafS (xs : List GLeaf) : Prop := xs.length ≤ 140737488351232 ∧ ∀ x ∈ xs, GLeaf.lens x
def mk_LeafS (xs : List GLeaf) (k : Int) : List GLeaf × Int := mkR GLeaf.mark xs k
def cn_LeafS (xs : List GLeaf) : Nat := cnR GLeaf.cn xs
theorem mk_LeafS_len (xs : List GLeaf) (k : Int) : (mk_LeafS xs k).1.length = xs.length := mkR_len _ xs k
attribute [simp] mk_LeafS_len
theorem mk_LeafS_snd (xs : List GLeaf) (k : Int) : (mk_LeafS xs k).2 = k + cn_LeafS xs := mkR_snd (GLeaf.mark_snd) xs k
theorem lens_of_LeafS {xs : List GLeaf} (h : wt_LeafS xs ≤ 1048576) : lens_LeafS xs := by
  have hl := len_wt_LeafS xs
  exact ⟨by omega, fun x hx => lens_of_Leaf (by have := mem_wt_LeafS hx; omega)⟩
theorem cn_le_LeafS (xs : List GLeaf) : cn_LeafS xs ≤ 32 * wt_LeafS xs := cnR_le (fun x => by have := cnE_le_Leaf x; omega) xs
theorem ok_eqLeafS (k k' : Nat) (xs ys : List GLeaf) (ha : lens_LeafS xs) (hb : lens_LeafS ys) : CallOK Try.prog 26 [.c (rd k xs.length (xs.flatMap (GLeaf.ci k))), .c (rd k' ys.length (ys.flatMap (GLeaf.ci k')))] (.c (pb (decide (xs = ys)))) [.c (rd k xs.length (xs.flatMap (GLeaf.ci k))), .c (rd k' ys.length (ys.flatMap (GLeaf.ci k')))] := by
  obtain ⟨ha, hax⟩ := ha
  obtain ⟨hb, hbx⟩ := hb
  refine okS (fn := Try.f26) [] h0 Try.func26 (by kernel_rfl) rfl Try.ntmps26 Try.results26 (by simp) ?_
  simp
  refine brn_app (fun h => ?_) (fun h => ?_)
  · simp at h
    simp
    rintro rfl
    exact h rfl
  · simp at h
    have hl : ys.length = xs.length := by omega
    simp
    refine loopS [0, 1, 5] [] (fun n st => ∃ (i : Nat), i + n = xs.length ∧ (xs.drop i = ys.drop i ↔ xs = ys) ∧ st = ⟨slOf 27 [(0, .t (rd k xs.length (xs.flatMap (GLeaf.ci k)))), (1, .t (rd k' ys.length (ys.flatMap (GLeaf.ci k')))), (5, .t (pi i))], ofL []⟩) xs.length ?_ ?_
    · rintro Inv hI
      simp
      subst hI
      exact ⟨0, by omega, by simp, rfl⟩
    · rintro Inv hI n st ⟨i, hi, htk, rfl⟩
      refine ewr_sound (M := []) h0 ?_
      simp
      refine brn_app (fun h => ?_) (fun h => ?_)
      · simp at h
        have hib : i < ys.length := by omega
        rw [drop_step xs i h, drop_step ys i hib, List.cons.injEq] at htk
        simp
        have hd := fm_drop (GLeaf.ci k) 2 (fun _ => rfl) xs i h
        have hd' := fm_drop (GLeaf.ci k') 2 (fun _ => rfl) ys i hib
        have hlen := fm_len (GLeaf.ci k) 2 (fun _ => rfl) xs
        have hlen' := fm_len (GLeaf.ci k') 2 (fun _ => rfl) ys
        have hlt : i * 2 < xs.length * 2 := by omega
        have hlt' : i * 2 < ys.length * 2 := by omega
        have hE := ok_eqLeaf k k' xs[i] ys[i] (hax _ (List.getElem_mem h)) (hbx _ (List.getElem_mem hib))
        refine drawP (tabEnv [] [(84, [.agg (GLeaf.ci k xs[i]), .agg (GLeaf.ci k' ys[i])], .c (pb (decide (xs[i] = ys[i]))), [.agg (GLeaf.ci k xs[i]), .agg (GLeaf.ci k' ys[i])])]) [⟨[], allD 27, true⟩, ⟨[], allD 27, true⟩, ⟨[], allD 27, true⟩, ⟨[], allD 27, true⟩, ⟨[], allD 27, true⟩, ⟨[], allD 27, true⟩, ⟨[], allD 27, true⟩, ⟨[], allD 27, true⟩, ⟨[], allD 27, false⟩, ⟨[], allD 27, true⟩] h0 hm (tabEnv_ok (by intro x hx; simp only [List.mem_singleton] at hx; subst hx; exact hE)) (by kernel_rfl) (by kernel_rfl) ?_
        simp [h, hib, hd, hd', hlen, hlen', hlt, hlt']
        refine brn_app (fun h2 => ?_) (fun h2 => ?_)
        · simp at h2
          simp
          intro he
          exact h2 (htk.2 he).1
        · simp at h2
          simp
          subst hI
          exact Less_mk (n - 1) (by omega) ⟨i + 1, by omega, ⟨fun h4 => htk.1 ⟨h2, h4⟩, fun h4 => (htk.2 h4).2⟩, by rw [wrNext i (by omega)]⟩
      · simp at h
        rw [List.drop_of_length_le (by omega), List.drop_of_length_le (by omega)] at htk
        simp
        exact htk.1 rfl
end Go.V
