/- What functions of the seat's program do, each proved of its code, under the bounds that its theorem names. -/
import Derived.Test.YtcdlflmppicdjaaTad
set_option linter.all false
namespace Go.V
open Go.Proofs
set_option maxHeartbeats 1000000
set_option maxRecDepth 10000
set_option linter.unusedSimpArgs false
set_option linter.unusedVariables false
theorem offers_ok {l : List GOffer} (h : wt_OfferS l ≤ 1048576) : offersOK l := by
  have := len_wt_OfferS l
  refine ⟨by omega, fun x hx => attr_ok ?_⟩
  have h1 := mem_wt_OfferS hx
  unfold GOffer.wt at h1
  omega
theorem rib_ok {r : GRib} (h : GRib.wt r ≤ 1048576) : ribOK r := by
  unfold GRib.wt at h
  have := len_wt_RowS r.Rows
  refine ⟨by omega, fun x hx => offers_ok ?_⟩
  have h1 := mem_wt_RowS hx
  unfold GRow.wt at h1
  omega
def rGoodRib (v0 : GRib) : Bool := goodRib v0
theorem law_iGoodRib (v0 : GRib) (h0 : GRib.wt v0 ≤ 1048576) : CallOK Try.prog 26 [.agg (GRib.ci 0 v0)] (.c (pb (rGoodRib v0))) [.agg (GRib.ci 0 v0)] := ok_iGoodRib 0 v0 (rib_ok h0)
theorem law_sGoodRib (v0 : GRib) (h0 : GRib.wt v0 ≤ 1048576) : CallOK Try.prog 24 [.agg (GRib.ci 0 v0)] (.c (pb (rGoodRib v0))) [.agg (GRib.ci 0 v0)] := ok_sGoodRib 0 v0 (rib_ok h0)
theorem ok_FnExactGoodRib (v0 : GRib) (f0 : GRib.fits v0) : CallOK Try.prog 6 [.agg (GRib.ci 1 v0)] (.c (pb true)) [.agg (GRib.ci 1 v0)] := by
  refine okS (fn := Try.f6) [] h0 Try.func6 (by kernel_rfl) rfl Try.ntmps6 Try.results6 (by simp) ?_
  simp
  refine Inv_intro (ok_szRib 1 v0 _ (by omega) (by omega) f0) ?_
  simp
  refine brn_app (fun b0 => ?_) (fun b0 => ?_)
  · simp
  · simp at b0
    have e0 := szr_ge (szr_ge0 b0)
    have d0 := szr_ge0 b0
    simp
    have hv0 : GRib.wt v0 ≤ 1048576 := by omega
    have hlp0 : GRib.lens v0 := lens_of_Rib hv0
    have hcp0 := cn_le_Rib v0
    refine Inv_intro (ok_toRib 1 v0 hv0) ?_
    simp
    refine Inv_intro (law_sGoodRib v0 hv0) ?_
    simp
    refine Inv_intro (ok_toRib 1 v0 hv0) ?_
    simp
    refine Inv_intro (law_iGoodRib v0 hv0) ?_
    simp
    refine drawP (tabEnv [] _) [⟨[.op 6 2 0], allD 27, true⟩, ⟨[.op 0 0 0], allD 27, true⟩, ⟨[], allD 27, false⟩, ⟨[.op 6 2 0, .op 10 2 1], [22, 23, 24, 25, 26], false⟩, ⟨[], allD 27, true⟩] h0 hm (tabEnv_ok (tab_cons (ok_toRib 1 v0 hv0) (tab_cons (ok_eqRib 0 0 (v0) (v0) hlp0 hlp0) tab_nil))) (by kernel_rfl) (by kernel_rfl) ?_
    simp
end Go.V
