/- What functions of the seat's program do, each proved of its code, under the bounds that its theorem names. -/
import Derived.Test.YtcmdgenpipojpaaGreatTap
set_option linter.all false
namespace Go.V
open Go.Proofs
set_option maxHeartbeats 1000000
set_option maxRecDepth 10000
set_option linter.unusedSimpArgs false
set_option linter.unusedVariables false
theorem rsD_ok {l:List GRoute} (h:rsD l):routesOK l ∧ wt_RouteS l ≤ 1048576:=by
  refine ⟨⟨by have:=h.1; omega,fun r hr => by have:=h.2 r hr; exact ⟨by have:=this.1; omega,by have:=this.2; omega⟩⟩,?_⟩
  have h3:=wtR_leT GRoute.wt 12 l fun r hr => by
    obtain ⟨k1,k2⟩:=h.2 r hr
    simp only [GRoute.wt,GAttrs.wt,wt_IntS]
    omega
  have h4:l.length * (12 + 1) ≤ 20 * 13:=Nat.mul_le_mul h.1 (Nat.le_refl _)
  show wtR GRoute.wt l ≤ 1048576
  omega
theorem rHear_ok2 (v0:List GRoute) (v1:List GUpdate):(rHearAll v0 v1).1.length ≤ 140737488351232 ∧ ∀ r ∈ (rHearAll v0 v1).1,attrOK r.Attrs:=by
  unfold rHearAll
  split
  · rename_i h
    split
    · rename_i o ho
      obtain ⟨h1,h2⟩:=goodRs_L h.1
      have h3:=hrI_good ⟨h1,h2⟩ (fun u hu => List.all_eq_true.1 h.2.2 u hu) _ _ ho
      refine ⟨?_,fun r hr => ?_⟩
      · have:=h3.2
        simp only
        omega
      · have:=goodR_small (h3.1.2 r hr)
        exact ⟨by omega,by omega⟩
    · simp
  · simp
theorem ok_FnTell (code more:List Int) (hc:codeOK code) (hc2:codeOK more):CallOK Tryz.prog 3 [.c (rd 1 code.length (code.map pu)),.c (rd 1 more.length (more.map pu))] (.c (pb true)) [.c (rd 1 code.length (code.map pu)),.c (rd 1 more.length (more.map pu))]:=by
  obtain ⟨A,B,⟨hA,hB⟩,hd1⟩:=ok_DrawTellFrom code hc
  obtain ⟨C,us,⟨hC,hul,hud⟩,hd2⟩:=ok_DrawHearAll more hc2
  obtain ⟨hAr,hAw⟩:=rsD_ok hA
  obtain ⟨hBr,hBw⟩:=rsD_ok hB
  obtain ⟨hCr,hCw⟩:=rsD_ok hC
  have husw:wt_UpdateS us ≤ 1048576:=by
    have h3:=wtR_leT GUpdate.wt 19 us fun u hu => by
      obtain ⟨k1,k2,k3,k4⟩:=hud u hu
      simp only [GUpdate.wt,GAttrs.wt,wt_PrefixS,wt_IntS]
      omega
    have h4:us.length * (19 + 1) ≤ 61 * 20:=Nat.mul_le_mul hul (Nat.le_refl _)
    show wtR GUpdate.wt us ≤ 1048576
    omega
  have i1:=ok_iTellFrom 0 0 A B hAr hBr
  have s1:=ok_sTellFrom 0 0 A B hAr hBr
  have i2:=law_iSameRoutes A B hAw hBw
  have s2:=law_sSameRoutes A B hAw hBw
  have i3:=ok_iGoodRoutes 0 A hAr
  have s3:=ok_sGoodRoutes 0 A hAr
  have hRw:=rTellFrom_wt A B
  have hRl:(rTellFrom A B).1.length ≤ 140737488351232 ∧ ∀ u ∈ (rTellFrom A B).1,updOK u:=by
    refine ⟨?_,fun u hu => ?_⟩
    · have:=len_wt_UpdateS (rTellFrom A B).1
      omega
    · exact updB_ok (wt_upds (l:=(rTellFrom A B).1) (by omega) u hu)
  have j1:=ok_sameUpdates 0 0 (rTellFrom A B).1 hRl.1 hRl.2
  refine callOK_of_lent ?_ rfl (by
    intro q hq
    simp only [List.mem_cons,List.not_mem_nil,or_false] at hq
    rcases hq with rfl | rfl
    · exact ⟨_,rfl,by simp [rd,PT.noTmp]⟩
    · exact ⟨_,rfl,by simp [rd,PT.noTmp]⟩)
  refine okL (fn:=Tryz.f3) h0 Tryz.func3 (by kernel_rfl) rfl Tryz.ntmps3 Tryz.results3 (by simp) ?_
  have hcl:=hc.1
  have hml:=hc2.1
  have w1:IntKind.i64.wrap ((code.length:Int) + more.length) = (code.length:Int) + more.length:=wrap64 (by omega) (by omega)
  by_cases hbig:code.length + more.length ≤ 1048576
  · have d1:¬ (1048576:Int) < (code.length:Int) + more.length:=by omega
    have hTT:List.take ((rTellFrom A B).1.length * 8) ((rTellFrom A B).1.flatMap GUpdate.co) = (rTellFrom A B).1.flatMap GUpdate.co:=List.take_of_length_le (by rw [fm_len GUpdate.co 8 (fun _ => rfl)]; exact Nat.le_refl _)
    refine ewrN_cutL (M:=[]) h0 8 [1,5,6,7,8,11] [.op 4 2 0] ⟨slOf 195 [(1,.t (rd 1 more.length (more.map pu))),(5,.t (rd 0 A.length (A.flatMap (GRoute.ci 0)))),(6,.t (rd 0 B.length (B.flatMap (GRoute.ci 0)))),(7,.ref ⟨.op 4 2 0,[]⟩ 0 (rTellFrom A B).1.length),(8,.t (pb (rTellFrom A B).2)),(11,.t (pb (rSameRoutes A B).1))],ofL [(.op 4 2 0,.sl 0 38 (rTellFrom A B).1.length ((rTellFrom A B).1.flatMap GUpdate.co))]⟩ ?_ ?_
    · simp only [Code.rest]
      refine ewpL_lendRow (.op 4 2 0) rfl 7 (e:=38) (m:=(rTellFrom A B).1.length) (cs:=(rTellFrom A B).1.flatMap GUpdate.co) (by decide) (by simp) (by simp) (fun h => by rw [List.eq_nil_of_length_eq_zero h]; rfl) ?_
      rw [GUpdate.un]
      refine ewpL_cut (st1:=⟨slOf 195 [(1,.t (rd 1 more.length (more.map pu)))],ofL []⟩) [1] [] ?_ ?_
      · intro KQ hKn hKe
        cases hok:(rTellFrom A B).2 with
        | false =>
          refine ewrL_sound (M:=[]) h0 ?_
          simp
          refine hKn _ ?_
          simp
        | true =>
          obtain ⟨gA,gB,hU⟩:goodRs A = true ∧ goodRs B = true ∧ (rTellFrom A B).1 = tellL A B:=by
            unfold rTellFrom at hok ⊢
            split at hok
            · rename_i h
              rw [if_pos h]
              exact ⟨h.1,h.2,rfl⟩
            · cases hok
          have hsame:(rSameRoutes A B).1 = decide (A = B):=by simp [rSameRoutes,gA,gB]
          rw [hU,hsame]
          rw [hU] at hRw hRl
          clear i1 s1 i2 s2 i3 s3 j1 hd1 hTT
          have hmay:A.length + B.length ≤ 20 → (rHearAll A (tellL A B)).2 = true:=fun h => tell_may gA gB h
          obtain ⟨⟨sA,_⟩,_⟩:=goodRs_L gA
          obtain ⟨⟨sB,_⟩,_⟩:=goodRs_L gB
          have hnil:tellL A B = [] ↔ A = B:=tell_nil sA sB
          have hx:(rHearAll A (tellL A B)).2 = true → (rHearAll A (tellL A B)).1 = B:=fun h => (hearAll_two h).trans (hears_tell sA sB fun u => Iff.rfl)
          have hy:(rHearAll A (tellL A B).reverse).2 = true → (rHearAll A (tellL A B).reverse).1 = B:=fun h => (hearAll_two h).trans (hears_tell sA sB fun u => List.mem_reverse)
          have hgood:∀ u ∈ tellL A B,goodU u = true ∧ ¬ (u.Gone = [] ∧ u.Come = []):=fun u hu => ⟨tell_good gA gB hu,tell_ne hu⟩
          have hUl:=(tellL_small gA gB).2
          have hVw:wt_UpdateS (tellL A B).reverse ≤ 1048576:=by
            have h3:=wtR_leT GUpdate.wt 40 (tellL A B).reverse fun u hu => by
              obtain ⟨k1,k2,k3,k4⟩:=(tellL_small gA gB).1 u (List.mem_reverse.1 hu)
              simp only [GUpdate.wt,GAttrs.wt,wt_PrefixS,wt_IntS]
              omega
            rw [List.length_reverse] at h3
            have h4:(tellL A B).length * (40 + 1) ≤ 42 * 41:=Nat.mul_le_mul hUl (Nat.le_refl _)
            show wtR GUpdate.wt (tellL A B).reverse ≤ 1048576
            omega
          generalize tellL A B = U at *
          refine ewrN_cutL (M:=[]) h0 1 [1,5,6,7,11,90] [] ⟨slOf 195 [(1,.t (rd 1 more.length (more.map pu))),(5,.t (rd 0 A.length (A.flatMap (GRoute.ci 0)))),(6,.t (rd 0 B.length (B.flatMap (GRoute.ci 0)))),(7,.t (rd 0 U.length (U.flatMap (GUpdate.ci 0)))),(11,.t (pb (decide (A = B)))),(90,.t (pb true))],ofL []⟩ ?_ (by
            intro KR hRn
            simp
            refine hRn _ ?_
            simp)
          simp only [Code.rest]
          refine ewpL_cond (b:=true) (by simp) (fun _ => ?_) (fun h => by cases h)
          have hUw:wt_UpdateS U ≤ 1048576:=by omega
          have hlen:=fm_len (GUpdate.ci 0) 8 (fun _ => rfl) U
          refine ewpL_cut (st1:=⟨slOf 195 [(1,.t (rd 1 more.length (more.map pu))),(5,.t (rd 0 A.length (A.flatMap (GRoute.ci 0)))),(6,.t (rd 0 B.length (B.flatMap (GRoute.ci 0)))),(7,.t (rd 0 U.length (U.flatMap (GUpdate.ci 0)))),(11,.t (pb (decide (A = B))))],ofL []⟩) [1,5,6,7,11] [] ?_ ?_
          · intro K0 h0n h0e
            refine ewrN_cutL (M:=[]) h0 1 [1,5,6,7,11,91,92,93] [] ⟨slOf 195 [(1,.t (rd 1 more.length (more.map pu))),(5,.t (rd 0 A.length (A.flatMap (GRoute.ci 0)))),(6,.t (rd 0 B.length (B.flatMap (GRoute.ci 0)))),(7,.t (rd 0 U.length (U.flatMap (GUpdate.ci 0)))),(11,.t (pb (decide (A = B)))),(91,.t (rd 0 U.length (U.flatMap (GUpdate.ci 0)))),(92,.t (pi U.length)),(93,.t (pi 0))],ofL []⟩ ?_ (by
              intro KR hRn
              simp
              refine hRn _ ?_
              simp)
            simp only [Code.rest]
            refine ewpL_block ?_
            refine loopL [1,5,6,7,11,91,92,93] [] (fun m st => ∃ (i:Nat),i + m = U.length ∧ st = ⟨slOf 195 [(1,.t (rd 1 more.length (more.map pu))),(5,.t (rd 0 A.length (A.flatMap (GRoute.ci 0)))),(6,.t (rd 0 B.length (B.flatMap (GRoute.ci 0)))),(7,.t (rd 0 U.length (U.flatMap (GUpdate.ci 0)))),(11,.t (pb (decide (A = B)))),(91,.t (rd 0 U.length (U.flatMap (GUpdate.ci 0)))),(92,.t (pi U.length)),(93,.t (pi i))],ofL []⟩) U.length ?_ ?_
            · rintro Inv hI
              simp
              subst hI
              exact ⟨0,by omega,rfl⟩
            · rintro Inv hI m st ⟨i,hi,rfl⟩
              refine ewrL_sound (M:=[]) h0 ?_
              by_cases c:i < U.length
              · have c':(i:Int) < U.length:=by omega
                have hd:=fm_drop (GUpdate.ci 0) 8 (fun _ => rfl) U i c
                have hlt:i * 8 < U.length * 8:=by omega
                have hle:i * 8 + 8 ≤ U.length * 8:=by omega
                have w2:=wrNext i (by omega)
                obtain ⟨hg,hn⟩:=hgood _ (List.getElem_mem c)
                have hj:=ok_iGoodUpdate 0 U[i] (hRl.2 _ (List.getElem_mem c))
                rw [hg] at hj
                generalize U[i] = u at *
                simp [c,c',hd,hlen,hlt,hle]
                refine InvX_intro hj ?_
                by_cases hG:u.Gone = []
                · have hC:¬ u.Come = []:=fun h => hn ⟨hG,h⟩
                  simp [hG,hC,w2]
                  subst hI
                  exact Less_mk (m - 1) (by omega) ⟨i + 1,by omega,rfl⟩
                · simp [hG,w2]
                  subst hI
                  exact Less_mk (m - 1) (by omega) ⟨i + 1,by omega,rfl⟩
              · have c':¬ (i:Int) < U.length:=by omega
                simp [c,c']
                refine h0n _ ?_
                simp
          · refine ewrN_cutL (M:=[]) h0 1 [1,5,6,7,11,17] [] ⟨slOf 195 [(1,.t (rd 1 more.length (more.map pu))),(5,.t (rd 0 A.length (A.flatMap (GRoute.ci 0)))),(6,.t (rd 0 B.length (B.flatMap (GRoute.ci 0)))),(7,.t (rd 0 U.length (U.flatMap (GUpdate.ci 0)))),(11,.t (pb (decide (A = B)))),(17,.t (.sl 0 nilE 0 []))],ofL []⟩ ?_ (by
              intro KR hRn
              simp
              refine hRn _ ?_
              simp)
            simp only [Code.rest]
            refine ewpL_nil 17 (.op 21 6 0) 38 (by decide) rfl rfl rfl ?_
            refine ewpL_cut (st1:=⟨slOf 195 [(1,.t (rd 1 more.length (more.map pu))),(5,.t (rd 0 A.length (A.flatMap (GRoute.ci 0)))),(6,.t (rd 0 B.length (B.flatMap (GRoute.ci 0)))),(7,.t (rd 0 U.length (U.flatMap (GUpdate.ci 0)))),(11,.t (pb (decide (A = B)))),(17,.ref ⟨.op 21 6 0,[]⟩ 0 U.length)],ofL [(.op 21 6 0,.sl 0 38 U.length (U.reverse.flatMap (GUpdate.ci 0)))]⟩) [1,5,6,7,11,17] [.op 21 6 0] ?_ ?_
            · intro K0 h0n h0e
              have w0:IntKind.i64.wrap ((U.length:Int) - 1) = (U.length:Int) - 1:=wrap64 (by omega) (by omega)
              refine ewrN_cutL (M:=[]) h0 1 [1,5,6,7,11,17,18] [.op 21 6 0] ⟨slOf 195 [(1,.t (rd 1 more.length (more.map pu))),(5,.t (rd 0 A.length (A.flatMap (GRoute.ci 0)))),(6,.t (rd 0 B.length (B.flatMap (GRoute.ci 0)))),(7,.t (rd 0 U.length (U.flatMap (GUpdate.ci 0)))),(11,.t (pb (decide (A = B)))),(17,.ref ⟨.op 21 6 0,[]⟩ 0 0),(18,.t (pi ((U.length:Int) - 1 - (0:Nat))))],ofL [(.op 21 6 0,.sl 0 38 0 [])]⟩ ?_ (by
                intro KR hRn
                simp [w0]
                refine hRn _ ?_
                simp)
              simp only [Code.rest]
              refine ewpL_block ?_
              refine loopL [1,5,6,7,11,17,18] [.op 21 6 0] (fun m st => ∃ (i:Nat),i + m = U.length ∧ st = ⟨slOf 195 [(1,.t (rd 1 more.length (more.map pu))),(5,.t (rd 0 A.length (A.flatMap (GRoute.ci 0)))),(6,.t (rd 0 B.length (B.flatMap (GRoute.ci 0)))),(7,.t (rd 0 U.length (U.flatMap (GUpdate.ci 0)))),(11,.t (pb (decide (A = B)))),(17,.ref ⟨.op 21 6 0,[]⟩ 0 i),(18,.t (pi ((U.length:Int) - 1 - i)))],ofL [(.op 21 6 0,.sl 0 38 i ((U.reverse.take i).flatMap (GUpdate.ci 0)))]⟩) U.length ?_ ?_
              · rintro Inv hI
                simp
                subst hI
                exact ⟨0,by omega,by simp⟩
              · rintro Inv hI m st ⟨i,hi,rfl⟩
                refine ewrL_sound (M:=[]) h0 ?_
                by_cases c:i < U.length
                · obtain ⟨j,hj⟩:∃ j:Nat,(U.length:Int) - 1 - i = (j:Int):=⟨U.length - 1 - i,by omega⟩
                  have hjl:j < U.length:=by omega
                  have hjl':(j:Int) < U.length:=by omega
                  have hj0:(0:Int) ≤ (j:Int):=by omega
                  have hd:=fm_drop (GUpdate.ci 0) 8 (fun _ => rfl) U j hjl
                  have hlt:j * 8 < U.length * 8:=by omega
                  have hle:j * 8 + 8 ≤ U.length * 8:=by omega
                  have w2:IntKind.i64.wrap ((j:Int) - 1) = (U.length:Int) - 1 - ((i + 1:Nat):Int):=by rw [wrap64 (by omega) (by omega)]; omega
                  have hil:i < U.reverse.length:=by rw [List.length_reverse]; exact c
                  have hts:=take_step U.reverse i hil
                  have hge:U.reverse[i] = U[j]:=by
                    rw [List.getElem_reverse]
                    congr 1
                    omega
                  rw [hge] at hts
                  have hml:((U.reverse.take i).flatMap (GUpdate.ci 0)).length = i * 8:=by rw [fm_len (GUpdate.ci 0) 8 (fun _ => rfl),List.length_take,List.length_reverse]; congr 1; omega
                  have hmt:List.take (i * 8) ((U.reverse.take i).flatMap (GUpdate.ci 0)) = (U.reverse.take i).flatMap (GUpdate.ci 0):=List.take_of_length_le (by omega)
                  have hb1:(i + 1) * 128 ≤ 140737488355328:=by omega
                  have hb2:i ≤ 9223372036854775806:=by omega
                  have hVl:(U.reverse.take i).length = i:=by rw [List.length_take,List.length_reverse]; omega
                  rw [hj]
                  generalize U.reverse.take i = V0 at *
                  simp [hjl,hjl',hj0,hd,hlen,hlt,hle,hVl,hmt,hb1,hb2,w2]
                  subst hI
                  refine Less_mk (m - 1) (by omega) ⟨i + 1,by omega,?_⟩
                  rw [hts]
                  simp
                · have hiU:i = U.length:=by omega
                  have c':¬ (i:Int) ≤ (U.length:Int) - 1:=by omega
                  simp [c']
                  refine h0n _ ?_
                  rw [hiU,List.take_of_length_le (by rw [List.length_reverse]; exact Nat.le_refl _)]
                  simp
            · have hRl2:=rHear_ok2 A U
              have hRl3:=rHear_ok2 A U.reverse
              have hlB:B.length ≤ 140737488351232:=hBr.1
              have k1:=law_iHearAll A U hAw hUw
              have k2:=law_iHearAll A U.reverse hAw hVw
              have k3:=ok_sameRoutes 0 0 B hBr.1 hBr.2
              have w3:IntKind.i64.wrap ((A.length:Int) + B.length) = (A.length:Int) + B.length:=wrap64 (by have:=hA.1; omega) (by have:=hB.1; omega)
              have hVn:U.reverse.length = U.length:=List.length_reverse
              rw [hVn] at k2
              refine ewrL_sound (M:=[]) h0 ?_
              simp
              refine InvX_intro k1 ?_
              clear hRl2 hRl3
              have hTV:List.take (U.length * 8) (U.reverse.flatMap (GUpdate.ci 0)) = U.reverse.flatMap (GUpdate.ci 0):=List.take_of_length_le (by rw [fm_len (GUpdate.ci 0) 8 (fun _ => rfl),hVn]; exact Nat.le_refl _)
              have huV:=GUpdate.uni 0 U.reverse
              have hrdV:(PT.sl 1 0 U.length (U.reverse.flatMap (GUpdate.ci 0))) = rd 0 U.length (U.reverse.flatMap (GUpdate.ci 0)):=rfl
              generalize rHearAll A U = R1 at *
              generalize rHearAll A U.reverse = R2 at *
              obtain ⟨X1,two⟩:=R1
              obtain ⟨X2,three⟩:=R2
              simp only at hx hy hmay
              cases two with
              | true =>
                have hx1:X1 = B:=hx rfl
                subst hx1
                simp
                refine InvX_intro k3 ?_
                simp [hnil,hTV,huV]
                refine InvX_intro k2 ?_
                cases three with
                | true =>
                  have hy1:=hy rfl
                  subst hy1
                  simp
                  refine InvX_intro k3 ?_
                  simp
                  refine hKn _ ?_
                  simp
                | false =>
                  simp
                  refine hKn _ ?_
                  simp
              | false =>
                have hbg:¬ A.length + B.length ≤ 20:=fun h => by cases hmay h
                have hbgi:¬ (A.length:Int) + B.length ≤ 20:=by omega
                simp [hnil,hTV,huV]
                refine InvX_intro k2 ?_
                cases three with
                | true =>
                  have hy1:=hy rfl
                  subst hy1
                  simp
                  refine InvX_intro k3 ?_
                  simp [w3,hbg,hbgi]
                  refine hKn _ ?_
                  simp
                | false =>
                  simp [w3,hbg,hbgi]
                  refine hKn _ ?_
                  simp
      · have hTU2:List.take (us.length * 8) (us.flatMap GUpdate.co) = us.flatMap GUpdate.co:=List.take_of_length_le (by rw [fm_len GUpdate.co 8 (fun _ => rfl)]; exact Nat.le_refl _)
        refine ewrL_sound (M:=[]) h0 ?_
        simp
        refine InvX_lent hd2 rfl ?_
        simp
        refine InvX_intro (law_iHearAll C us hCw husw) ?_
        simp
        refine InvX_intro (law_sHearAll C us hCw husw) ?_
        simp
        refine InvX_intro (ok_sameRoutes 0 0 (rHearAll C us).1 (rHear_ok2 C us).1 (rHear_ok2 C us).2) ?_
        simp
    · intro KR hRn
      simp [w1,d1]
      refine InvX_lent hd1 rfl ?_
      simp
      refine InvX_intro i1 ?_
      simp
      refine InvX_intro s1 ?_
      simp
      refine InvX_intro i2 ?_
      simp
      refine InvX_intro s2 ?_
      simp
      refine InvX_intro j1 ?_
      simp
      refine InvX_intro i3 ?_
      simp
      refine InvX_intro s3 ?_
      simp
      refine hRn _ ?_
      simp
  · have d1:(1048576:Int) < (code.length:Int) + more.length:=by omega
    refine ewrL_sound (M:=[]) h0 ?_
    simp [w1,d1]
end Go.V
