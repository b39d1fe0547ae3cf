/- What functions of the seat's program do, each proved of its code, under the bounds that its theorem names. -/
import Derived.Test.YtdelgkhoahmnfaaGreatTat
set_option linter.all false
namespace Go.V
open Go.Proofs
set_option maxHeartbeats 1000000
set_option maxRecDepth 10000
set_option linter.unusedSimpArgs false
set_option linter.unusedVariables false
theorem ok_sTakeAll (k k' : Nat) (own : Int) (peers : List Int) (l : List GUpdate) (hpl : peers.length ≤ 140737488351232) (hl : l.length ≤ 140737488351232) (hus : ∀ u ∈ l, updB u) : CallOK Tryz.prog 31 [.c (pi own), .c (rd k peers.length (peers.map pi)), .c (rd k' l.length (l.flatMap (GUpdate.ci k')))] (.tup [.agg (GRib.co (rTakeAll own peers l).1), .c (pb (rTakeAll own peers l).2)]) [.c (pi own), .c (rd k peers.length (peers.map pi)), .c (rd k' l.length (l.flatMap (GUpdate.ci k')))] := by
  refine okS (fn := Tryz.f31) [] h0 Tryz.func31 (by kernel_rfl) rfl Tryz.ntmps31 Tryz.results31 (by simp) ?_
  simp
  refine Inv_intro (law_sNewRib own) ?_
  cases ho : isAsnB own with
  | false => simp [rTakeAll, rNewRib, ho]
  | true =>
    have hnr : rNewRib own = (⟨own, []⟩, true) := by simp [rNewRib, ho]
    rw [hnr]
    by_cases h40 : l.length ≤ 40
    · have d40 : ¬ (40 : Int) < (l.length : Int) := by omega
      by_cases hpp : peers.length = l.length
      · have dpp : (peers.length : Int) = (l.length : Int) := by omega
        have er : rTakeAll own peers l = match tkI own peers l l.length with
            | some r => (r, true)
            | none => (⟨0, []⟩, false) := by
          unfold rTakeAll
          rw [if_pos ⟨ho, h40, hpp⟩]
          all_goals (cases tkI own peers l l.length <;> rfl)
        simp [d40, dpp]
        refine loopS [1, 6, 8, 35, 36, 37] [.op 0 0 0, .op 1 5 0] (fun m st => ∃ (i : Nat) (r : GRib), i + m = l.length ∧ tkI own peers l i = some r ∧ st = ⟨slOf 59 [(1, .t (rd k peers.length (peers.map pi))), (6, .ptr ⟨.op 0 0 0, []⟩ 0), (8, .ptr ⟨.op 1 5 0, []⟩ 0), (35, .t (rd k' l.length (l.flatMap (GUpdate.ci k')))), (36, .t (pi l.length)), (37, .t (pi i))], ofL [(.op 0 0 0, .sl 0 32 1 [pi 0, .sl 0 nilE 0 []]), (.op 1 5 0, .sl 0 32 1 (GRib.co r))]⟩) l.length ?_ ?_
        · rintro Inv hI
          simp
          subst hI
          exact ⟨0, ⟨own, []⟩, by omega, rfl, rfl⟩
        · rintro Inv hI m st ⟨i, r, hi, hr, rfl⟩
          have hg := tkI_good ho i r hr
          refine ewr_sound (M := []) h0 ?_
          simp
          refine brn_app (fun a => ?_) (fun a => ?_)
          · simp at a
            have ap : i < peers.length := by omega
            have hnx := tkI_succ hr a ap
            have hd := fm_drop (GUpdate.ci k') 8 (fun _ => rfl) l i a
            have hlen := fm_len (GUpdate.ci k') 8 (fun _ => rfl) l
            have hlt : i * 8 < l.length * 8 := by omega
            have hpd : (peers.map pi).drop i = pi peers[i] :: (peers.map pi).drop (i + 1) := by
              rw [← List.map_drop, List.drop_eq_getElem_cons ap, List.map_cons, ← List.map_drop]
            have hT := ok_sTakeUpdate 0 k' r peers[i] l[i] (good_small hg).1 (updB_ok (hus _ (List.getElem_mem a)))
            unfold stepT at hnx
            simp [a, ap, hd, hlen, hlt]
            refine drawP (tabEnv [] _) [⟨[.op 1 5 0], allD 59, true⟩, ⟨[], allD 59, true⟩, ⟨[], allD 59, true⟩, ⟨[], allD 59, true⟩, ⟨[], allD 59, true⟩, ⟨[.op 6 3 0], allD 59, true⟩, ⟨[.op 1 5 0], allD 59, true⟩, ⟨[.op 7 6 1, .op 7 6 2], allD 59, true⟩, ⟨[.op 7 6 1], allD 59, true⟩, ⟨[.op 7 6 2], allD 59, true⟩, ⟨[], allD 59, true⟩, ⟨[], allD 59, false⟩, ⟨[.op 7 11 0, .op 7 6 1], [43, 44, 45, 46, 47, 48, 49, 42, 50, 51, 52, 12, 13, 14], false⟩, ⟨[.op 7 6 2], allD 59, true⟩, ⟨[], allD 59, true⟩] h0 hm (tabEnv_ok (tab_cons hT tab_nil)) (by kernel_rfl) (by kernel_rfl) ?_
            simp [a, ap, hd, hlen, hlt, hpd, hpp]
            cases hb : (rTakeUpdate r peers[i] l[i]).2.2 with
            | false =>
              rw [hb, if_neg (by simp)] at hnx
              have hn := tkI_none hnx l.length (by omega)
              rw [hn] at er
              simp only at er
              rw [er]
              simp
            | true =>
              rw [hb, if_pos rfl] at hnx
              have hOl := fm_len GRow.co 3 (fun _ => rfl) (rTakeUpdate r peers[i] l[i]).1.Rows
              have htO : List.take ((rTakeUpdate r peers[i] l[i]).1.Rows.length * 3) ((rTakeUpdate r peers[i] l[i]).1.Rows.flatMap GRow.co) = (rTakeUpdate r peers[i] l[i]).1.Rows.flatMap GRow.co := List.take_of_length_le (by omega)
              simp [hOl, htO]
              subst hI
              refine Less_mk (m - 1) (by omega) ⟨i + 1, _, by omega, hnx, ?_⟩
              rw [wrNext i (by omega)]
              simp [hpp]
          · simp at a
            have hil : i = l.length := by omega
            subst hil
            rw [hr] at er
            simp only at er
            have hOl := fm_len GRow.co 3 (fun _ => rfl) r.Rows
            have htO : List.take (r.Rows.length * 3) (r.Rows.flatMap GRow.co) = r.Rows.flatMap GRow.co := List.take_of_length_le (by omega)
            rw [er]
            simp [hOl, htO]
      · have dpp : ¬ (peers.length : Int) = (l.length : Int) := by omega
        simp [d40, dpp, rTakeAll, hpp]
    · have d40 : (40 : Int) < (l.length : Int) := by omega
      simp [d40, rTakeAll, h40]
theorem law_iTakeAll (v0 : Int) (v1 : List Int) (v2 : List GUpdate) (h1 : wt_IntS v1 ≤ 1048576) (h2 : wt_UpdateS v2 ≤ 1048576) : CallOK Tryz.prog 34 [.c (pi v0), .c (rd 0 v1.length (v1.map pi)), .c (rd 0 v2.length (v2.flatMap (GUpdate.ci 0)))] (.tup [.agg (GRib.co (rTakeAll v0 v1 v2).1), .c (pb (rTakeAll v0 v1 v2).2)]) [.c (pi v0), .c (rd 0 v1.length (v1.map pi)), .c (rd 0 v2.length (v2.flatMap (GUpdate.ci 0)))] := ok_iTakeAll 0 0 v0 v1 v2 (by unfold wt_IntS at h1; omega) (by have := len_wt_UpdateS v2; omega) (wt_upds h2)
theorem law_sTakeAll (v0 : Int) (v1 : List Int) (v2 : List GUpdate) (h1 : wt_IntS v1 ≤ 1048576) (h2 : wt_UpdateS v2 ≤ 1048576) : CallOK Tryz.prog 31 [.c (pi v0), .c (rd 0 v1.length (v1.map pi)), .c (rd 0 v2.length (v2.flatMap (GUpdate.ci 0)))] (.tup [.agg (GRib.co (rTakeAll v0 v1 v2).1), .c (pb (rTakeAll v0 v1 v2).2)]) [.c (pi v0), .c (rd 0 v1.length (v1.map pi)), .c (rd 0 v2.length (v2.flatMap (GUpdate.ci 0)))] := ok_sTakeAll 0 0 v0 v1 v2 (by unfold wt_IntS at h1; omega) (by have := len_wt_UpdateS v2; omega) (wt_upds h2)
theorem rTakeAll_good (v0 : Int) (v1 : List Int) (v2 : List GUpdate) : GRib.wt (rTakeAll v0 v1 v2).1 ≤ 2100 := by
  unfold rTakeAll
  split
  · rename_i h
    cases ht : tkI v0 v1 v2 v2.length with
    | some r => exact goodRib_wt (tkI_good h.1 _ _ ht)
    | none => exact wt_zeroRib
  · exact wt_zeroRib
theorem rTakeAll_ok (v0 : Int) (v1 : List Int) (v2 : List GUpdate) (h1 : wt_IntS v1 ≤ 1048576) (h2 : wt_UpdateS v2 ≤ 1048576) : GRib.lens (rTakeAll v0 v1 v2).1 ∧ GRib.cnT (rTakeAll v0 v1 v2).1 ≤ 33554432 := by
  have h := rTakeAll_good v0 v1 v2
  have c1 := cn_le_Rib (rTakeAll v0 v1 v2).1
  exact ⟨lens_of_Rib (by omega), by omega⟩
theorem ok_FnExactTakeAll (v0 : Int) (v1 : (List Int)) (v2 : (List GUpdate)) (f1 : fits_IntS v1) (f2 : fits_UpdateS v2) : CallOK Tryz.prog 6 [.c (pi v0), .c (rd 1 v1.length (v1.map pi)), .c (rd 1 v2.length (v2.flatMap (GUpdate.ci 1)))] (.c (pb true)) [.c (pi v0), .c (rd 1 v1.length (v1.map pi)), .c (rd 1 v2.length (v2.flatMap (GUpdate.ci 1)))] := by
  refine okS (fn := Tryz.f6) [(37, [1,0]), (16, [1,0]), (38, [1,0])] h0 Tryz.func6 (by kernel_rfl) rfl Tryz.ntmps6 Tryz.results6 (by simp) ?_
  simp
  refine brn_app (fun b0 => ?_) (fun b0 => ?_)
  · simp
  · simp at b0
    have hv1 : wt_IntS v1 ≤ 1048576 := by unfold wt_IntS; omega
    simp
    refine Inv_intro (ok_szUpdateS 1 v2 _ (by omega) (by omega) f2) ?_
    simp
    refine brn_app (fun b1 => ?_) (fun b1 => ?_)
    · simp
    · simp at b1
      have e1 := szr_ge (szr_ge0 b1)
      have d1 := szr_ge0 b1
      simp
      have hv2 : wt_UpdateS v2 ≤ 1048576 := by omega
      have hlp2 : lens_UpdateS v2 := lens_of_UpdateS hv2
      have hcp2 := cn_le_UpdateS v2
      have hlp1 : lens_IntS v1 := lens_of_IntS hv1
      have hcp1 := cn_le_IntS v1
      have hrr := rTakeAll_ok v0 v1 v2 hv1 hv2
      obtain ⟨hlr0, hcr0⟩ := hrr
      refine Inv_intro (ok_toIntS 1 v1 hv1) ?_
      simp
      refine Inv_intro (ok_toUpdateS 1 v2 hv2) ?_
      simp
      refine Inv_intro (law_sTakeAll v0 v1 v2 hv1 hv2) ?_
      simp
      refine Inv_intro (ok_toIntS 1 v1 hv1) ?_
      simp
      refine Inv_intro (ok_toUpdateS 1 v2 hv2) ?_
      simp
      refine Inv_intro (law_iTakeAll v0 v1 v2 hv1 hv2) ?_
      simp
      refine Inv_intro (ok_eqRib 0 0 ((rTakeAll v0 v1 v2).1) ((rTakeAll v0 v1 v2).1) hlr0 hlr0) ?_
      simp
      refine Inv_intro (ok_toIntS 1 v1 hv1) ?_
      simp
      refine Inv_intro (ok_eqIntS 0 0 (v1) (v1) hlp1 hlp1) ?_
      simp
      refine Inv_intro (ok_toUpdateS 1 v2 hv2) ?_
      simp
      refine Inv_intro (ok_eqUpdateS 0 0 (v2) (v2) hlp2 hlp2) ?_
      simp
      have hm0 := mk_IntS_snd (v1) (1)
      have hn0 : ¬ (mk_IntS (v1) (1)).2 < 0 := by omega
      refine Inv_intro (ok_markIntS (v1) (1) hlp1 (by omega) (by omega)) ?_
      simp [hn0]
      have hm1 := mk_UpdateS_snd (v2) ((mk_IntS (v1) (1)).2)
      have hn1 : ¬ (mk_UpdateS (v2) ((mk_IntS (v1) (1)).2)).2 < 0 := by omega
      have ht1 : List.take ((v2).length * 8) (((mk_UpdateS (v2) ((mk_IntS (v1) (1)).2))).1.flatMap GUpdate.co) = (((mk_UpdateS (v2) ((mk_IntS (v1) (1)).2))).1.flatMap GUpdate.co) := List.take_of_length_le (by rw [fm_len GUpdate.co 8 (fun _ => rfl), mk_UpdateS_len]; exact Nat.le_refl _)
      refine Inv_intro (ok_markUpdateS (v2) ((mk_IntS (v1) (1)).2) hlp2 (by omega) (by omega)) ?_
      simp [hn0, hn1, ht1]
      refine Inv_intro (ok_eqRib 0 0 ((rTakeAll v0 v1 v2).1) ((rTakeAll v0 v1 v2).1) hlr0 hlr0) ?_
      simp [hn0, hn1, ht1]
      have hm2 := GRib.markT_snd ((rTakeAll v0 v1 v2).1) (1)
      have hn2 : ¬ (GRib.markT ((rTakeAll v0 v1 v2).1) (1)).2 < 0 := by omega
      refine Inv_intro (ok_markRib ((rTakeAll v0 v1 v2).1) (1) hlr0 (by omega) (by omega)) ?_
      simp [hn0, hn1, ht1, hn2]
      refine Inv_intro (ok_heldRib 0 ((rTakeAll v0 v1 v2).1) (1) hlr0 (by omega) (by omega)) ?_
      simp [hn0, hn1, ht1, hn2]
      refine Inv_intro (ok_toIntS 1 v1 hv1) ?_
      simp [hn0, hn1, ht1, hn2]
      refine Inv_intro (ok_toUpdateS 1 v2 hv2) ?_
      simp [hn0, hn1, ht1, hn2]
      refine Inv_intro (law_iTakeAll v0 v1 v2 hv1 hv2) ?_
      simp [hn0, hn1, ht1, hn2]
      refine Inv_intro (ok_eqRib 0 0 ((rTakeAll v0 v1 v2).1) ((rTakeAll v0 v1 v2).1) hlr0 hlr0) ?_
      simp [hn0, hn1, ht1, hn2]
      refine Inv_intro (ok_heldRib 0 ((rTakeAll v0 v1 v2).1) (1) hlr0 (by omega) (by omega)) ?_
      simp [hn0, hn1, ht1, hn2]
end Go.V
