/- What functions of the seat's program do, each proved of its code, under the bounds that its theorem names. -/
import Derived.Test.YtmodclnblmoeoaaTaa
set_option linter.all false
namespace Go.V
open Go.Proofs
set_option maxHeartbeats 1000000
set_option maxRecDepth 10000
set_option linter.unusedSimpArgs false
set_option linter.unusedVariables false
theorem ok_eqLeafSS (k k' : Nat) (xs ys : List (List GLeaf)) (ha : lens_LeafSS xs) (hb : lens_LeafSS ys) : CallOK Try.prog 97 [.c (rd k xs.length (xs.map (cLeafSi k))), .c (rd k' ys.length (ys.map (cLeafSi k')))] (.c (pb (decide (xs = ys)))) [.c (rd k xs.length (xs.map (cLeafSi k))), .c (rd k' ys.length (ys.map (cLeafSi k')))] := by
  obtain ⟨ha, hax⟩ := ha
  obtain ⟨hb, hbx⟩ := hb
  refine okS (fn := Try.f97) [] h0 Try.func97 (by kernel_rfl) rfl Try.ntmps97 Try.results97 (by simp) ?_
  simp
  refine brn_app (fun h => ?_) (fun h => ?_)
  · simp at h
    simp
    rintro rfl
    exact h rfl
  · simp at h
    have hl : ys.length = xs.length := by omega
    simp
    refine loopS [0, 1, 5] [] (fun n st => ∃ (i : Nat), i + n = xs.length ∧ (xs.drop i = ys.drop i ↔ xs = ys) ∧ st = ⟨slOf 27 [(0, .t (rd k xs.length (xs.map (cLeafSi k)))), (1, .t (rd k' ys.length (ys.map (cLeafSi k')))), (5, .t (pi i))], ofL []⟩) xs.length ?_ ?_
    · rintro Inv hI
      simp
      subst hI
      exact ⟨0, by omega, by simp, rfl⟩
    · rintro Inv hI n st ⟨i, hi, htk, rfl⟩
      refine ewr_sound (M := []) h0 ?_
      simp
      refine brn_app (fun h => ?_) (fun h => ?_)
      · simp at h
        have hib : i < ys.length := by omega
        rw [drop_step xs i h, drop_step ys i hib, List.cons.injEq] at htk
        simp
        have hE := ok_eqLeafS k k' xs[i] ys[i] (hax _ (List.getElem_mem h)) (hbx _ (List.getElem_mem hib))
        refine drawP (tabEnv [] [(26, [.c (rd k xs[i].length (xs[i].flatMap (GLeaf.ci k))), .c (rd k' ys[i].length (ys[i].flatMap (GLeaf.ci k')))], .c (pb (decide (xs[i] = ys[i]))), [.c (rd k xs[i].length (xs[i].flatMap (GLeaf.ci k))), .c (rd k' ys[i].length (ys[i].flatMap (GLeaf.ci k')))])]) [⟨[], allD 27, true⟩, ⟨[], allD 27, true⟩, ⟨[], allD 27, true⟩, ⟨[], allD 27, true⟩, ⟨[], allD 27, true⟩, ⟨[], allD 27, true⟩, ⟨[], allD 27, true⟩, ⟨[], allD 27, true⟩, ⟨[], allD 27, false⟩, ⟨[], allD 27, true⟩] h0 hm (tabEnv_ok (by intro x hx; simp only [List.mem_singleton] at hx; subst hx; exact hE)) (by kernel_rfl) (by kernel_rfl) ?_
        simp [h, hib]
        refine brn_app (fun h2 => ?_) (fun h2 => ?_)
        · simp at h2
          simp
          intro he
          exact h2 (htk.2 he).1
        · simp at h2
          simp
          subst hI
          exact Less_mk (n - 1) (by omega) ⟨i + 1, by omega, ⟨fun h4 => htk.1 ⟨h2, h4⟩, fun h4 => (htk.2 h4).2⟩, by rw [wrNext i (by omega)]⟩
      · simp at h
        rw [List.drop_of_length_le (by omega), List.drop_of_length_le (by omega)] at htk
        simp
        exact htk.1 rfl
theorem ok_eqStore (k k' : Nat) (x y : GStore) (ha : GStore.lens x) (hb : GStore.lens y) : CallOK Try.prog 42 [.agg (GStore.ci k x), .agg (GStore.ci k' y)] (.c (pb (decide (x = y)))) [.agg (GStore.ci k x), .agg (GStore.ci k' y)] := by
  simp only [GStore.lens] at ha hb
  refine okS (fn := Try.f42) [] h0 Try.func42 (by kernel_rfl) rfl Try.ntmps42 Try.results42 (by simp) ?_
  simp
  refine Inv_intro (ok_eqLeafS k k' x.Candidate y.Candidate (ha.1) (hb.1)) ?_
  simp
  refine brn_app (fun a0 => ?_) (fun a0 => ?_)
  · simp at a0
    simp
    rintro rfl
    exact a0 rfl
  · simp at a0
    simp
    refine Inv_intro (ok_eqLeafS k k' x.Running y.Running (ha.2.1) (hb.2.1)) ?_
    simp
    refine brn_app (fun a1 => ?_) (fun a1 => ?_)
    · simp at a1
      simp
      rintro rfl
      exact a1 rfl
    · simp at a1
      simp
      refine Inv_intro (ok_eqLeafSS k k' x.History y.History (ha.2.2) (hb.2.2)) ?_
      simp
      refine brn_app (fun a2 => ?_) (fun a2 => ?_)
      · simp at a2
        simp
        rintro rfl
        exact a2 rfl
      · simp at a2
        simp
        refine brn_app (fun a3 => ?_) (fun a3 => ?_)
        · simp at a3
          simp
          rintro rfl
          exact a3 rfl
        · simp at a3
          simp
          cases x
          cases y
          simp_all
theorem ok_heldStringS (q : Nat) (xs : List ByteArray) (k : Int) (hls : lens_StringS xs) (hk : 0 < k) (hk2 : k + cn_StringS xs ≤ 2305843009213693952) : CallOK Try.prog 86 [.c (rd q xs.length ((mk_StringS xs k).1.map ps)), .c (pi k)] (.c (pi (mk_StringS xs k).2)) [.c (rd q xs.length ((mk_StringS xs k).1.map ps)), .c (pi k)] := by
  obtain ⟨hl0, hlx⟩ := hls
  unfold mk_StringS
  unfold cn_StringS at hk2
  have hyl := mkR_len (fun (_ : ByteArray) k => (mtext k, k + 1)) xs k
  have hyi : ∀ (i : Nat) (h : i < xs.length) (h' : i < (mkR (fun (_ : ByteArray) k => (mtext k, k + 1)) xs k).1.length), (mkR (fun (_ : ByteArray) k => (mtext k, k + 1)) xs k).1[i] = ((fun (_ : ByteArray) k => (mtext k, k + 1)) xs[i] (mkR (fun (_ : ByteArray) k => (mtext k, k + 1)) (xs.take i) k).2).1 := fun i h _ => mkR_get (fun (_ : ByteArray) k => (mtext k, k + 1)) xs i h k
  have hend : (mkR (fun (_ : ByteArray) k => (mtext k, k + 1)) xs k).2 = k + cnR (fun (_ : ByteArray) => 1) xs := mkR_snd (f := (fun (_ : ByteArray) k => (mtext k, k + 1))) (g := (fun (_ : ByteArray) => 1)) (fun _ _ => rfl) xs k
  generalize hY : (mkR (fun (_ : ByteArray) k => (mtext k, k + 1)) xs k).1 = ys at hyl hyi ⊢
  refine okS (fn := Try.f86) [] h0 Try.func86 (by kernel_rfl) rfl Try.ntmps86 Try.results86 (by simp) ?_
  simp
  refine loopS [0, 1, 5] [] (fun n st => ∃ (i : Nat), i + n = xs.length ∧ st = ⟨slOf 22 [(0, .t (rd q xs.length (ys.map ps))), (1, .t (pi (mkR (fun (_ : ByteArray) k => (mtext k, k + 1)) (xs.take i) k).2)), (5, .t (pi i))], ofL []⟩) xs.length ?_ ?_
  · rintro Inv hI
    simp
    subst hI
    exact ⟨0, by omega, rfl⟩
  · rintro Inv hI n st ⟨i, hi, rfl⟩
    have hKb := mkR_snd (f := (fun (_ : ByteArray) k => (mtext k, k + 1))) (g := (fun (_ : ByteArray) => 1)) (fun _ _ => rfl) (xs.take i) k
    have hyK : ∀ (h : i < xs.length), ys[i]'(by omega) = ((fun (_ : ByteArray) k => (mtext k, k + 1)) xs[i] (mkR (fun (_ : ByteArray) k => (mtext k, k + 1)) (xs.take i) k).2).1 := fun h => hyi i h (by omega)
    generalize hK : (mkR (fun (_ : ByteArray) k => (mtext k, k + 1)) (xs.take i) k).2 = K at hKb hyK ⊢
    refine ewr_sound (M := []) h0 ?_
    simp
    refine brn_app (fun h => ?_) (fun h => ?_)
    · simp at h
      obtain ⟨m, rfl⟩ : ∃ m, n = m + 1 := ⟨n - 1, by omega⟩
      have hcn := cnR_take (fun (_ : ByteArray) => 1) xs i h
      have hb : i < ys.length := by omega
      have ey := hyK h
      have hw0 : IntKind.wrap .i64 (K + 1) = K + 1 := wrap64 (by omega) (by omega)
      simp [h, hb, ey, hw0]
      refine drawP (tabEnv [] _) [⟨[], allD 22, true⟩, ⟨[], allD 22, true⟩, ⟨[], allD 22, true⟩, ⟨[], allD 22, true⟩, ⟨[], allD 22, true⟩, ⟨[], allD 22, false⟩, ⟨[], allD 22, true⟩] h0 hm (tabEnv_ok (tab_cons (ok_markText (K) (by omega)) tab_nil)) (by kernel_rfl) (by kernel_rfl) ?_
      simp [h, hb, ey, hw0]
      have e4 := mkR_take (fun (_ : ByteArray) k => (mtext k, k + 1)) xs i h k
      rw [hK] at e4
      subst hI
      refine Less_mk m (by omega) ⟨i + 1, by omega, ?_⟩
      rw [wrNext i (by omega), e4]
      all_goals rfl
    · simp at h
      have hx : xs.take i = xs := List.take_of_length_le (by omega)
      rw [hx] at hK
      simp [hK]
theorem ok_heldLeafS (q : Nat) (xs : List GLeaf) (k : Int) (hls : lens_LeafS xs) (hk : 0 < k) (hk2 : k + cn_LeafS xs ≤ 2305843009213693952) : CallOK Try.prog 30 [.c (rd q xs.length ((mk_LeafS xs k).1.flatMap (GLeaf.ci q))), .c (pi k)] (.c (pi (mk_LeafS xs k).2)) [.c (rd q xs.length ((mk_LeafS xs k).1.flatMap (GLeaf.ci q))), .c (pi k)] := by
  obtain ⟨hl0, hlx⟩ := hls
  unfold mk_LeafS
  unfold cn_LeafS at hk2
  have hyl := mkR_len GLeaf.mark xs k
  have hyi : ∀ (i : Nat) (h : i < xs.length) (h' : i < (mkR GLeaf.mark xs k).1.length), (mkR GLeaf.mark xs k).1[i] = (GLeaf.mark xs[i] (mkR GLeaf.mark (xs.take i) k).2).1 := fun i h _ => mkR_get GLeaf.mark xs i h k
  have hend : (mkR GLeaf.mark xs k).2 = k + cnR GLeaf.cn xs := mkR_snd (f := GLeaf.mark) (g := GLeaf.cn) (GLeaf.mark_snd) xs k
  generalize hY : (mkR GLeaf.mark xs k).1 = ys at hyl hyi ⊢
  refine okS (fn := Try.f30) [] h0 Try.func30 (by kernel_rfl) rfl Try.ntmps30 Try.results30 (by simp) ?_
  simp
  refine loopS [0, 1, 5] [] (fun n st => ∃ (i : Nat), i + n = xs.length ∧ st = ⟨slOf 32 [(0, .t (rd q xs.length (ys.flatMap (GLeaf.ci q)))), (1, .t (pi (mkR GLeaf.mark (xs.take i) k).2)), (5, .t (pi i))], ofL []⟩) xs.length ?_ ?_
  · rintro Inv hI
    simp
    subst hI
    exact ⟨0, by omega, rfl⟩
  · rintro Inv hI n st ⟨i, hi, rfl⟩
    have hKb := mkR_snd (f := GLeaf.mark) (g := GLeaf.cn) (GLeaf.mark_snd) (xs.take i) k
    have hyK : ∀ (h : i < xs.length), ys[i]'(by omega) = (GLeaf.mark xs[i] (mkR GLeaf.mark (xs.take i) k).2).1 := fun h => hyi i h (by omega)
    generalize hK : (mkR GLeaf.mark (xs.take i) k).2 = K at hKb hyK ⊢
    refine ewr_sound (M := []) h0 ?_
    simp
    refine brn_app (fun h => ?_) (fun h => ?_)
    · simp at h
      obtain ⟨m, rfl⟩ : ∃ m, n = m + 1 := ⟨n - 1, by omega⟩
      have hcn := cnR_take GLeaf.cn xs i h
      have hb : i < ys.length := by omega
      have ey := hyK h
      have hd := fm_drop (GLeaf.ci q) 2 (fun _ => rfl) ys i hb
      have hlen := fm_len (GLeaf.ci q) 2 (fun _ => rfl) ys
      have hlt : i * 2 < ys.length * 2 := by omega
      rw [ey] at hd
      simp only [GLeaf.cn] at hcn
      have hxl := hlx _ (List.getElem_mem h)
      have hs0 := mk_StringS_snd xs[i].Path K
      have hn0 : ¬ (mk_StringS xs[i].Path K).2 < 0 := by omega
      have hw1 : IntKind.wrap .i64 ((mk_StringS xs[i].Path K).2 + 1) = (mk_StringS xs[i].Path K).2 + 1 := wrap64 (by omega) (by omega)
      simp [h, hb, hd, hlen, hlt, GLeaf.mark, hn0, hw1]
      refine Inv_intro (ok_heldStringS q xs[i].Path (K) hxl (by omega) (by omega)) ?_
      simp [h, hb, hd, hlen, hlt, GLeaf.mark, hn0, hw1]
      refine drawP (tabEnv [] _) [⟨[], allD 32, true⟩, ⟨[], allD 32, true⟩, ⟨[], allD 32, true⟩, ⟨[], allD 32, true⟩, ⟨[], allD 32, true⟩, ⟨[], allD 32, true⟩, ⟨[], allD 32, false⟩, ⟨[], allD 32, true⟩] h0 hm (tabEnv_ok (tab_cons (ok_markText ((mk_StringS xs[i].Path K).2) (by omega)) tab_nil)) (by kernel_rfl) (by kernel_rfl) ?_
      simp [h, hb, hd, hlen, hlt, GLeaf.mark, hn0, hw1]
      have e4 := mkR_take GLeaf.mark xs i h k
      rw [hK] at e4
      subst hI
      refine Less_mk m (by omega) ⟨i + 1, by omega, ?_⟩
      rw [wrNext i (by omega), e4]
      all_goals rfl
    · simp at h
      have hx : xs.take i = xs := List.take_of_length_le (by omega)
      rw [hx] at hK
      simp [hK]
theorem ok_heldLeafSS (q : Nat) (xs : List (List GLeaf)) (k : Int) (hls : lens_LeafSS xs) (hk : 0 < k) (hk2 : k + cn_LeafSS xs ≤ 2305843009213693952) : CallOK Try.prog 113 [.c (rd q xs.length ((mk_LeafSS xs k).1.map (cLeafSi q))), .c (pi k)] (.c (pi (mk_LeafSS xs k).2)) [.c (rd q xs.length ((mk_LeafSS xs k).1.map (cLeafSi q))), .c (pi k)] := by
  obtain ⟨hl0, hlx⟩ := hls
  unfold mk_LeafSS
  unfold cn_LeafSS at hk2
  have hyl := mkR_len mk_LeafS xs k
  have hyi : ∀ (i : Nat) (h : i < xs.length) (h' : i < (mkR mk_LeafS xs k).1.length), (mkR mk_LeafS xs k).1[i] = (mk_LeafS xs[i] (mkR mk_LeafS (xs.take i) k).2).1 := fun i h _ => mkR_get mk_LeafS xs i h k
  have hend : (mkR mk_LeafS xs k).2 = k + cnR cn_LeafS xs := mkR_snd (f := mk_LeafS) (g := cn_LeafS) (mk_LeafS_snd) xs k
  generalize hY : (mkR mk_LeafS xs k).1 = ys at hyl hyi ⊢
  refine okS (fn := Try.f113) [] h0 Try.func113 (by kernel_rfl) rfl Try.ntmps113 Try.results113 (by simp) ?_
  simp
  refine loopS [0, 1, 5] [] (fun n st => ∃ (i : Nat), i + n = xs.length ∧ st = ⟨slOf 21 [(0, .t (rd q xs.length (ys.map (cLeafSi q)))), (1, .t (pi (mkR mk_LeafS (xs.take i) k).2)), (5, .t (pi i))], ofL []⟩) xs.length ?_ ?_
  · rintro Inv hI
    simp
    subst hI
    exact ⟨0, by omega, rfl⟩
  · rintro Inv hI n st ⟨i, hi, rfl⟩
    have hKb := mkR_snd (f := mk_LeafS) (g := cn_LeafS) (mk_LeafS_snd) (xs.take i) k
    have hyK : ∀ (h : i < xs.length), ys[i]'(by omega) = (mk_LeafS xs[i] (mkR mk_LeafS (xs.take i) k).2).1 := fun h => hyi i h (by omega)
    generalize hK : (mkR mk_LeafS (xs.take i) k).2 = K at hKb hyK ⊢
    refine ewr_sound (M := []) h0 ?_
    simp
    refine brn_app (fun h => ?_) (fun h => ?_)
    · simp at h
      obtain ⟨m, rfl⟩ : ∃ m, n = m + 1 := ⟨n - 1, by omega⟩
      have hcn := cnR_take cn_LeafS xs i h
      have hb : i < ys.length := by omega
      have ey := hyK h
      have hs0 := mk_LeafS_snd xs[i] K
      have hn0 : ¬ (mk_LeafS xs[i] K).2 < 0 := by omega
      simp [h, hb, ey, cLeafSi, mk_LeafS_len, hn0]
      refine Inv_intro (ok_heldLeafS q xs[i] (K) (hlx _ (List.getElem_mem h)) (by omega) (by omega)) ?_
      simp [h, hb, ey, cLeafSi, mk_LeafS_len, hn0]
      have e4 := mkR_take mk_LeafS xs i h k
      rw [hK] at e4
      subst hI
      refine Less_mk m (by omega) ⟨i + 1, by omega, ?_⟩
      rw [wrNext i (by omega), e4]
      all_goals rfl
    · simp at h
      have hx : xs.take i = xs := List.take_of_length_le (by omega)
      rw [hx] at hK
      simp [hK]
theorem ok_heldStore (q : Nat) (x : GStore) (k : Int) (hls : GStore.lens x) (hk : 0 < k) (hk2 : k + GStore.cnT x ≤ 2305843009213693952) : CallOK Try.prog 62 [.agg (GStore.ci q (GStore.markT x k).1), .c (pi k)] (.c (pi (GStore.markT x k).2)) [.agg (GStore.ci q (GStore.markT x k).1), .c (pi k)] := by
  unfold GStore.cnT at hk2
  unfold GStore.markT
  have hs0 := mk_LeafS_snd x.Candidate k
  have hn0 : ¬ (mk_LeafS x.Candidate k).2 < 0 := by omega
  have hs1 := mk_LeafS_snd x.Running (mk_LeafS x.Candidate k).2
  have hn1 : ¬ (mk_LeafS x.Running (mk_LeafS x.Candidate k).2).2 < 0 := by omega
  have hs2 := mk_LeafSS_snd x.History (mk_LeafS x.Running (mk_LeafS x.Candidate k).2).2
  have hn2 : ¬ (mk_LeafSS x.History (mk_LeafS x.Running (mk_LeafS x.Candidate k).2).2).2 < 0 := by omega
  refine okS (fn := Try.f62) [] h0 Try.func62 (by kernel_rfl) rfl Try.ntmps62 Try.results62 (by simp) ?_
  simp
  refine Inv_intro (ok_heldLeafS q x.Candidate (k) (hls.1) (by omega) (by omega)) ?_
  simp [hn0, hn1, hn2]
  refine Inv_intro (ok_heldLeafS q x.Running ((mk_LeafS x.Candidate k).2) (hls.2.1) (by omega) (by omega)) ?_
  simp [hn0, hn1, hn2]
  refine Inv_intro (ok_heldLeafSS q x.History ((mk_LeafS x.Running (mk_LeafS x.Candidate k).2).2) (hls.2.2) (by omega) (by omega)) ?_
  simp [hn0, hn1, hn2]
theorem ok_markStringS (xs : List ByteArray) (k : Int) (hls : lens_StringS xs) (hk : 0 < k) (hk2 : k + cn_StringS xs ≤ 2305843009213693952) : CallOK Try.prog 29 [.c (.sl 0 9 xs.length (xs.map ps)), .c (pi k)] (.c (pi (mk_StringS xs k).2)) [.c (.sl 0 9 xs.length ((mk_StringS xs k).1.map ps)), .c (pi k)] := by
  obtain ⟨hl0, hlx⟩ := hls
  unfold mk_StringS
  unfold cn_StringS at hk2
  refine okS (fn := Try.f29) [] h0 Try.func29 (by kernel_rfl) rfl Try.ntmps29 Try.results29 (by simp) ?_
  simp
  refine loopS [0, 1, 5] [] (fun n st => ∃ (i : Nat), i + n = xs.length ∧ st = ⟨slOf 20 [(0, .ref ⟨.arg 0 0, []⟩ 0 xs.length), (1, .t (pi (mkR (fun (_ : ByteArray) k => (mtext k, k + 1)) (xs.take i) k).2)), (5, .t (pi i))], ofL [(.arg 0 0, .sl 0 9 xs.length (((mkR (fun (_ : ByteArray) k => (mtext k, k + 1)) (xs.take i) k).1.map ps) ++ ((xs.drop i).map ps)))]⟩) xs.length ?_ ?_
  · rintro Inv hI
    simp
    subst hI
    exact ⟨0, by omega, rfl⟩
  · rintro Inv hI n st ⟨i, hi, rfl⟩
    have hAl : (((mkR (fun (_ : ByteArray) k => (mtext k, k + 1)) (xs.take i) k).1.map ps)).length = i * 1 := by rw [List.length_map, mkR_len, len_take xs i (by omega), Nat.mul_one]
    have hKb := mkR_snd (f := (fun (_ : ByteArray) k => (mtext k, k + 1))) (g := (fun (_ : ByteArray) => 1)) (fun _ _ => rfl) (xs.take i) k
    generalize hA : ((mkR (fun (_ : ByteArray) k => (mtext k, k + 1)) (xs.take i) k).1.map ps) = A at hAl ⊢
    generalize hK : (mkR (fun (_ : ByteArray) k => (mtext k, k + 1)) (xs.take i) k).2 = K at hKb ⊢
    generalize hB : ((xs.drop i).map ps) = B
    refine ewr_sound (M := []) h0 ?_
    simp
    refine brn_app (fun h => ?_) (fun h => ?_)
    · simp at h
      obtain ⟨m, rfl⟩ : ∃ m, n = m + 1 := ⟨n - 1, by omega⟩
      have hcn := cnR_take (fun (_ : ByteArray) => 1) xs i h
      have hBe : B = [ps xs[i]] ++ ((xs.drop (i + 1)).map ps) := by rw [← hB, drop_step xs i h]; rfl
      generalize hC : ((xs.drop (i + 1)).map ps) = D at hBe
      subst hBe
      rw [Nat.mul_one] at hAl
      have hw0 : IntKind.wrap .i64 (K + 1) = K + 1 := wrap64 (by omega) (by omega)
      simp [h, hAl, hw0]
      refine Inv_intro (ok_markText (K) (by omega)) ?_
      simp [h, hAl, hw0]
      have e4 := mkR_take (fun (_ : ByteArray) k => (mtext k, k + 1)) xs i h k
      rw [hK] at e4
      have e3 : ((mkR (fun (_ : ByteArray) k => (mtext k, k + 1)) (xs.take (i + 1)) k).1.map ps) = A ++ [ps ((fun (_ : ByteArray) k => (mtext k, k + 1)) xs[i] K).1] := by rw [e4, List.map_append, hA]; rfl
      subst hI
      refine Less_mk m (by omega) ⟨i + 1, by omega, ?_⟩
      rw [wrNext i (by omega), e3, e4, hC, List.append_assoc]
      all_goals rfl
    · simp at h
      have hx : xs.take i = xs := List.take_of_length_le (by omega)
      have hBn : B = [] := by rw [← hB, List.drop_of_length_le (by omega)]; rfl
      subst hBn
      rw [hx] at hA hK
      subst hK
      subst hA
      simp
theorem ok_markOp (x : GOp) (k : Int) (hls : GOp.lens x) (hk : 0 < k) (hk2 : k + GOp.cnT x ≤ 2305843009213693952) : CallOK Try.prog 61 [.agg (GOp.co x), .c (pi k)] (.c (pi (GOp.markT x k).2)) [.agg (GOp.co (GOp.markT x k).1), .c (pi k)] := by
  unfold GOp.cnT at hk2
  unfold GOp.markT
  have hs0 := mk_StringS_snd x.Path k
  refine okA h0 Try.func61 (by kernel_rfl) rfl Try.ntmps61 Try.results61 (by simp) ?_
  intro A hA
  obtain ⟨v1, hv1⟩ := hA 0 1 rfl
  refine ewpA_ghost 0 (.agg [.t (pi x.Kind), .t (.raw v1), .t (ps x.Value), .t (pi x.N)]) (.inr ⟨_, _, rfl, rfl, (GhL.cons Gh.rfl' (GhL.cons (Gh.raw hv1 (by rfl)) (GhL.cons Gh.rfl' (GhL.cons Gh.rfl' GhL.nil))))⟩) ?_
  refine ewpA_seq (ewpA_of (ewr_sound (M := [(29, [1, 0])]) h0 ?_))
  simp
  refine ewpA_seq (ewpA_region (runA_split (M := [(29, [1, 0])]) (r := 0) 2 h0 (hl_of rfl) ?_))
  simp
  refine runA_ghost 6 (.ref ⟨.arg 0 1, []⟩ 0 x.Path.length) (.inl (Gh.ref hv1 (by rfl))) ?_
  refine runA_of (M := [(29, [1, 0])]) (r := 0) h0 (hl_of rfl) ?_
  simp
  refine Inv_intro (ok_markStringS x.Path (k) (hls) (by omega) (by omega)) ?_
  simp
  refine ewpA_of (ewr_sound (M := [(29, [1, 0])]) h0 ?_)
  simp
theorem ok_markLeafS (xs : List GLeaf) (k : Int) (hls : lens_LeafS xs) (hk : 0 < k) (hk2 : k + cn_LeafS xs ≤ 2305843009213693952) : CallOK Try.prog 28 [.c (.sl 0 103 xs.length (xs.flatMap GLeaf.co)), .c (pi k)] (.c (pi (mk_LeafS xs k).2)) [.c (.sl 0 103 xs.length ((mk_LeafS xs k).1.flatMap GLeaf.co)), .c (pi k)] := by
  obtain ⟨hl0, hlx⟩ := hls
  unfold mk_LeafS
  unfold cn_LeafS at hk2
  refine okS (fn := Try.f28) [(29, [1,0])] h0 Try.func28 (by kernel_rfl) rfl Try.ntmps28 Try.results28 (by simp) ?_
  simp
  refine loopS [0, 1, 5] [] (fun n st => ∃ (i : Nat), i + n = xs.length ∧ st = ⟨slOf 28 [(0, .ref ⟨.arg 0 0, []⟩ 0 xs.length), (1, .t (pi (mkR GLeaf.mark (xs.take i) k).2)), (5, .t (pi i))], ofL [(.arg 0 0, .sl 0 103 xs.length (((mkR GLeaf.mark (xs.take i) k).1.flatMap GLeaf.co) ++ ((xs.drop i).flatMap GLeaf.co)))]⟩) xs.length ?_ ?_
  · rintro Inv hI
    simp
    subst hI
    exact ⟨0, by omega, rfl⟩
  · rintro Inv hI n st ⟨i, hi, rfl⟩
    have hAl : (((mkR GLeaf.mark (xs.take i) k).1.flatMap GLeaf.co)).length = i * 2 := by rw [fm_len GLeaf.co 2 (fun _ => rfl), mkR_len, len_take xs i (by omega)]
    have hKb := mkR_snd (f := GLeaf.mark) (g := GLeaf.cn) (GLeaf.mark_snd) (xs.take i) k
    generalize hA : ((mkR GLeaf.mark (xs.take i) k).1.flatMap GLeaf.co) = A at hAl ⊢
    generalize hK : (mkR GLeaf.mark (xs.take i) k).2 = K at hKb ⊢
    generalize hB : ((xs.drop i).flatMap GLeaf.co) = B
    refine ewr_sound (M := [(29, [1, 0])]) h0 ?_
    simp
    refine brn_app (fun h => ?_) (fun h => ?_)
    · simp at h
      obtain ⟨m, rfl⟩ : ∃ m, n = m + 1 := ⟨n - 1, by omega⟩
      have hcn := cnR_take GLeaf.cn xs i h
      have hBe : B = [.sl 0 9 xs[i].Path.length (xs[i].Path.map ps), ps xs[i].Value] ++ ((xs.drop (i + 1)).flatMap GLeaf.co) := by rw [← hB, drop_step xs i h]; rfl
      generalize hC : ((xs.drop (i + 1)).flatMap GLeaf.co) = D at hBe
      subst hBe
      have hxl := hlx _ (List.getElem_mem h)
      simp only [GLeaf.cn] at hcn
      have hs0 := mk_StringS_snd xs[i].Path K
      have hw1 : IntKind.wrap .i64 ((mk_StringS xs[i].Path K).2 + 1) = (mk_StringS xs[i].Path K).2 + 1 := wrap64 (by omega) (by omega)
      simp [h, hAl, hw1]
      refine Inv_intro (ok_markStringS xs[i].Path (K) hxl (by omega) (by omega)) ?_
      simp [h, hAl, hw1]
      refine Inv_intro (ok_markText ((mk_StringS xs[i].Path K).2) (by omega)) ?_
      simp [h, hAl, hw1]
      have e4 := mkR_take GLeaf.mark xs i h k
      rw [hK] at e4
      have e3 : ((mkR GLeaf.mark (xs.take (i + 1)) k).1.flatMap GLeaf.co) = A ++ GLeaf.co (GLeaf.mark xs[i] K).1 := by rw [e4, List.flatMap_append, hA, List.flatMap_cons, List.flatMap_nil, List.append_nil]
      subst hI
      refine Less_mk m (by omega) ⟨i + 1, by omega, ?_⟩
      rw [wrNext i (by omega), e3, e4, hC, List.append_assoc]
      all_goals first | rfl | simp [GLeaf.mark] | simp
    · simp at h
      have hx : xs.take i = xs := List.take_of_length_le (by omega)
      have hBn : B = [] := by rw [← hB, List.drop_of_length_le (by omega)]; rfl
      subst hBn
      rw [hx] at hA hK
      subst hK
      subst hA
      simp
theorem ok_markLeafSS (xs : List (List GLeaf)) (k : Int) (hls : lens_LeafSS xs) (hk : 0 < k) (hk2 : k + cn_LeafSS xs ≤ 2305843009213693952) : CallOK Try.prog 98 [.c (.sl 0 35 xs.length (xs.map (cLeafSo))), .c (pi k)] (.c (pi (mk_LeafSS xs k).2)) [.c (.sl 0 35 xs.length ((mk_LeafSS xs k).1.map (cLeafSo))), .c (pi k)] := by
  obtain ⟨hl0, hlx⟩ := hls
  unfold mk_LeafSS
  unfold cn_LeafSS at hk2
  refine okS (fn := Try.f98) [(28, [1,0])] h0 Try.func98 (by kernel_rfl) rfl Try.ntmps98 Try.results98 (by simp) ?_
  simp
  refine loopS [0, 1, 5] [] (fun n st => ∃ (i : Nat), i + n = xs.length ∧ st = ⟨slOf 19 [(0, .ref ⟨.arg 0 0, []⟩ 0 xs.length), (1, .t (pi (mkR mk_LeafS (xs.take i) k).2)), (5, .t (pi i))], ofL [(.arg 0 0, .sl 0 35 xs.length (((mkR mk_LeafS (xs.take i) k).1.map (cLeafSo)) ++ ((xs.drop i).map (cLeafSo))))]⟩) xs.length ?_ ?_
  · rintro Inv hI
    simp
    subst hI
    exact ⟨0, by omega, rfl⟩
  · rintro Inv hI n st ⟨i, hi, rfl⟩
    have hAl : (((mkR mk_LeafS (xs.take i) k).1.map (cLeafSo))).length = i * 1 := by rw [List.length_map, mkR_len, len_take xs i (by omega), Nat.mul_one]
    have hKb := mkR_snd (f := mk_LeafS) (g := cn_LeafS) (mk_LeafS_snd) (xs.take i) k
    generalize hA : ((mkR mk_LeafS (xs.take i) k).1.map (cLeafSo)) = A at hAl ⊢
    generalize hK : (mkR mk_LeafS (xs.take i) k).2 = K at hKb ⊢
    generalize hB : ((xs.drop i).map (cLeafSo)) = B
    refine ewr_sound (M := [(28, [1, 0])]) h0 ?_
    simp
    refine brn_app (fun h => ?_) (fun h => ?_)
    · simp at h
      obtain ⟨m, rfl⟩ : ∃ m, n = m + 1 := ⟨n - 1, by omega⟩
      have hcn := cnR_take cn_LeafS xs i h
      have hBe : B = [.sl 0 103 xs[i].length (xs[i].flatMap GLeaf.co)] ++ ((xs.drop (i + 1)).map (cLeafSo)) := by rw [← hB, drop_step xs i h]; rfl
      generalize hC : ((xs.drop (i + 1)).map (cLeafSo)) = D at hBe
      subst hBe
      rw [Nat.mul_one] at hAl
      have hs0 := mk_LeafS_snd xs[i] K
      simp [h, hAl]
      refine Inv_intro (ok_markLeafS xs[i] (K) (hlx _ (List.getElem_mem h)) (by omega) (by omega)) ?_
      simp [h, hAl]
      have e4 := mkR_take mk_LeafS xs i h k
      rw [hK] at e4
      have e3 : ((mkR mk_LeafS (xs.take (i + 1)) k).1.map (cLeafSo)) = A ++ [cLeafSo (mk_LeafS xs[i] K).1] := by rw [e4, List.map_append, hA]; rfl
      subst hI
      refine Less_mk m (by omega) ⟨i + 1, by omega, ?_⟩
      rw [wrNext i (by omega), e3, e4, hC, List.append_assoc]
      all_goals first | rfl | simp [cLeafSo]
    · simp at h
      have hx : xs.take i = xs := List.take_of_length_le (by omega)
      have hBn : B = [] := by rw [← hB, List.drop_of_length_le (by omega)]; rfl
      subst hBn
      rw [hx] at hA hK
      subst hK
      subst hA
      simp
theorem ok_markStore (x : GStore) (k : Int) (hls : GStore.lens x) (hk : 0 < k) (hk2 : k + GStore.cnT x ≤ 2305843009213693952) : CallOK Try.prog 43 [.agg (GStore.co x), .c (pi k)] (.c (pi (GStore.markT x k).2)) [.agg (GStore.co (GStore.markT x k).1), .c (pi k)] := by
  unfold GStore.cnT at hk2
  unfold GStore.markT
  have hs0 := mk_LeafS_snd x.Candidate k
  have hs1 := mk_LeafS_snd x.Running (mk_LeafS x.Candidate k).2
  have hs2 := mk_LeafSS_snd x.History (mk_LeafS x.Running (mk_LeafS x.Candidate k).2).2
  refine okA h0 Try.func43 (by kernel_rfl) rfl Try.ntmps43 Try.results43 (by simp) ?_
  intro A hA
  obtain ⟨v0, hv0⟩ := hA 0 0 rfl
  obtain ⟨v1, hv1⟩ := hA 0 1 rfl
  obtain ⟨v2, hv2⟩ := hA 0 2 rfl
  refine ewpA_ghost 0 (.agg [.t (.raw v0), .t (.raw v1), .t (.raw v2), .t (pi x.Left)]) (.inr ⟨_, _, rfl, rfl, (GhL.cons (Gh.raw hv0 (by rfl)) (GhL.cons (Gh.raw hv1 (by rfl)) (GhL.cons (Gh.raw hv2 (by rfl)) (GhL.cons Gh.rfl' GhL.nil))))⟩) ?_
  refine ewpA_seq (ewpA_of (ewr_sound (M := [(28, [1, 0]), (98, [1, 0])]) h0 ?_))
  simp
  refine ewpA_seq (ewpA_region (runA_split (M := [(28, [1, 0]), (98, [1, 0])]) (r := 0) 2 h0 (hl_of rfl) ?_))
  simp
  refine runA_ghost 6 (.ref ⟨.arg 0 0, []⟩ 0 x.Candidate.length) (.inl (Gh.ref hv0 (by rfl))) ?_
  refine runA_of (M := [(28, [1, 0]), (98, [1, 0])]) (r := 0) h0 (hl_of rfl) ?_
  simp
  refine Inv_intro (ok_markLeafS x.Candidate (k) (hls.1) (by omega) (by omega)) ?_
  simp
  refine ewpA_seq (ewpA_region (runA_split (M := [(28, [1, 0]), (98, [1, 0])]) (r := 0) 2 h0 (hl_of rfl) ?_))
  simp
  refine runA_ghost 10 (.ref ⟨.arg 0 1, []⟩ 0 x.Running.length) (.inl (Gh.ref hv1 (by rfl))) ?_
  refine runA_of (M := [(28, [1, 0]), (98, [1, 0])]) (r := 0) h0 (hl_of rfl) ?_
  simp
  refine Inv_intro (ok_markLeafS x.Running ((mk_LeafS x.Candidate k).2) (hls.2.1) (by omega) (by omega)) ?_
  simp
  refine ewpA_seq (ewpA_region (runA_split (M := [(28, [1, 0]), (98, [1, 0])]) (r := 0) 2 h0 (hl_of rfl) ?_))
  simp
  refine runA_ghost 14 (.ref ⟨.arg 0 2, []⟩ 0 x.History.length) (.inl (Gh.ref hv2 (by rfl))) ?_
  refine runA_of (M := [(28, [1, 0]), (98, [1, 0])]) (r := 0) h0 (hl_of rfl) ?_
  simp
  refine Inv_intro (ok_markLeafSS x.History ((mk_LeafS x.Running (mk_LeafS x.Candidate k).2).2) (hls.2.2) (by omega) (by omega)) ?_
  simp
  refine ewpA_of (ewr_sound (M := [(28, [1, 0]), (98, [1, 0])]) h0 ?_)
  simp
theorem ok_szStringS (k : Nat) (xs : List ByteArray) (left : Int) (h1 : 0 ≤ left) (h2 : left ≤ 1048576) (hf : fits_StringS xs) : CallOK Try.prog 21 [.c (rd k xs.length (xs.map ps)), .c (pi left)] (.c (pi (szr left (wt_StringS xs)))) [.c (rd k xs.length (xs.map ps)), .c (pi left)] := by
  obtain ⟨hl, hx⟩ := hf
  refine okS (fn := Try.f21) [] h0 Try.func21 (by kernel_rfl) rfl Try.ntmps21 Try.results21 (by simp) ?_
  have hw : IntKind.wrap .i64 (left - xs.length) = left - xs.length := wrap64 (by omega) (by omega)
  have hwl := len_wt_StringS xs
  simp [hw]
  refine brn_app (fun h => ?_) (fun h => ?_)
  · simp at h
    have e1 : szr left (wt_StringS xs) = -1 := szr_neg (by omega)
    simp [e1]
  · simp at h
    simp
    refine loopS [0, 1, 5] [] (fun n st => ∃ (i : Nat) (m : Int), i + n = xs.length ∧ 0 ≤ m ∧ m ≤ 1048576 ∧ szr m (((xs.drop i).map ByteArray.size).sum) = szr left (wt_StringS xs) ∧ st = ⟨slOf 28 [(0, .t (rd k xs.length (xs.map ps))), (1, .t (pi m)), (5, .t (pi i))], ofL []⟩) xs.length ?_ ?_
    · rintro Inv hI
      simp
      subst hI
      exact ⟨0, left - xs.length, by omega, by omega, by omega, by rw [List.drop_zero, wt_StringS, wtR, szr_add (by omega)], rfl⟩
    · rintro Inv hI n st ⟨i, m, hi, hm1, hm2, hg, rfl⟩
      refine ewr_sound (M := []) h0 ?_
      simp
      refine brn_app (fun h3 => ?_) (fun h3 => ?_)
      · simp at h3
        have hxi := hx xs[i] (List.getElem_mem h3)
        rw [drop_step xs i h3, List.map_cons, List.sum_cons] at hg
        have hw2 : IntKind.wrap .i64 (m - xs[i].size) = m - xs[i].size := wrap64 (by omega) (by omega)
        simp [h3, hw2]
        refine brn_app (fun h4 => ?_) (fun h4 => ?_)
        · simp at h4
          rw [szr_add_neg (by omega)] at hg
          simp [← hg]
        · simp at h4
          rw [szr_add (by omega)] at hg
          simp
          subst hI
          exact Less_mk (n - 1) (by omega) ⟨i + 1, m - xs[i].size, by omega, by omega, by omega, hg, by rw [wrNext i (by omega)]⟩
      · simp at h3
        rw [List.drop_of_length_le (by omega), List.map_nil, List.sum_nil, szr_zero hm1] at hg
        simp [hg]
theorem ok_szOp (k : Nat) (x : GOp) (left : Int) (h1 : 0 ≤ left) (h2 : left ≤ 1048576) (hf : GOp.fits x) : CallOK Try.prog 56 [.agg (GOp.ci k x), .c (pi left)] (.c (pi (szr left (GOp.wt x)))) [.agg (GOp.ci k x), .c (pi left)] := by
  simp only [GOp.fits] at hf
  obtain ⟨hf0, hf1⟩ := hf
  refine okS (fn := Try.f56) [] h0 Try.func56 (by kernel_rfl) rfl Try.ntmps56 Try.results56 (by simp) ?_
  simp
  refine Inv_intro (ok_szStringS k x.Path (left) (by omega) (by omega) hf0) ?_
  simp
  refine brn_app (fun a0 => ?_) (fun a0 => ?_)
  · simp at a0
    have b0 := szr_lt0 a0 (by omega)
    have e : szr left (GOp.wt x) = -1 := szr_neg (by unfold GOp.wt; omega)
    simp [e]
  · simp at a0
    have b0 := szr_ge0 a0
    have e0 := szr_ge b0
    simp only [e0]
    have hw1 : IntKind.wrap .i64 (left - (wt_StringS x.Path : Nat) - x.Value.size) = left - (wt_StringS x.Path : Nat) - x.Value.size := wrap64 (by omega) (by omega)
    simp [hw1]
    refine brn_app (fun a1 => ?_) (fun a1 => ?_)
    · simp at a1
      have e : szr left (GOp.wt x) = -1 := szr_neg (by unfold GOp.wt; omega)
      simp [e]
    · simp at a1
      have e : szr left (GOp.wt x) = left - (wt_StringS x.Path : Nat) - x.Value.size := by
        rw [szr_ge (by unfold GOp.wt; omega)]
        unfold GOp.wt
        omega
      simp [e]
end Go.V
