/- What functions of the seat's program do, each proved of its code, under the bounds that its theorem names. -/
import Derived.Test.YtdelgkhoahmnfaaGreatTan
set_option linter.all false
namespace Go.V
open Go.Proofs
set_option maxHeartbeats 1000000
set_option maxRecDepth 10000
set_option linter.unusedSimpArgs false
set_option linter.unusedVariables false
theorem ok_ownRib (k:Nat) (r:GRib) (hr:r.Rows.length ≤ 1000) (hx:∀ x ∈ r.Rows,x.Offers.length ≤ 1048576 ∧ ∀ o ∈ x.Offers,o.Attrs.Path.length ≤ 1048576 ∧ o.Attrs.Comms.length ≤ 1048576):CallOK Tryz.prog 78 [.agg (GRib.ci k r)] (.agg (GRib.co r)) [.agg (GRib.ci k r)]:=by
  obtain ⟨own,rows⟩:=r
  refine okS (fn:=Tryz.f78) [] h0 Tryz.func78 (by kernel_rfl) rfl Tryz.ntmps78 Tryz.results78 (by simp) ?_
  simp
  simp only at hr hx
  refine loopS [2,3,10,11,12] [.op 0 1 0,.op 1 3 0] (fun m st => ∃ (i:Nat),i + m = rows.length ∧ st = ⟨slOf 29 [(2,.ptr ⟨.op 0 1 0,[]⟩ 0),(3,.ptr ⟨.op 1 3 0,[]⟩ 0),(10,.t (rd k rows.length (rows.flatMap (GRow.ci k)))),(11,.t (pi rows.length)),(12,.t (pi i))],ofL [(.op 0 1 0,.sl 0 32 1 [pi 0,.sl 0 nilE 0 []]),(.op 1 3 0,.sl 0 32 1 [pi own,.sl 0 (if i = 0 then nilE else 79) i ((rows.take i).flatMap GRow.co)])]⟩) rows.length ?_ ?_
  · rintro Inv hI
    simp
    subst hI
    exact ⟨0,by omega,rfl⟩
  · rintro Inv hI m st ⟨i,hi,rfl⟩
    have hA:=fun h:i ≤ rows.length => fm_take_len GRow.co 3 (fun _ => rfl) rows i h
    have hstep:=fun a:i < rows.length => (show ((rows.take (i + 1)).flatMap GRow.co) = (rows.take i).flatMap GRow.co ++ GRow.co rows[i] by rw [take_step rows i a,List.flatMap_append,List.flatMap_cons,List.flatMap_nil,List.append_nil])
    have hA0:i = 0 → (rows.take i).flatMap GRow.co = []:=by rintro rfl; rfl
    have hfin:i = rows.length → (rows.take i).flatMap GRow.co = rows.flatMap GRow.co:=by rintro rfl; rw [List.take_length]
    generalize (rows.take i).flatMap GRow.co = A at hA hstep hA0 hfin ⊢
    refine ewr_sound (M:=[]) h0 ?_
    simp
    refine brn_app (fun a => ?_) (fun a => ?_)
    · simp at a
      have hA':=hA (by omega)
      have e3:=hstep a
      have hp:=hx _ (List.getElem_mem a)
      have hd:=fm_drop (GRow.ci k) 3 (fun _ => rfl) rows i a
      have hlen:=fm_len (GRow.ci k) 3 (fun _ => rfl) rows
      have hlt:i * 3 < rows.length * 3:=by omega
      have hb1:(i + 1) * 40 ≤ 140737488355328:=by omega
      have hb2:i ≤ 9223372036854775806:=by omega
      have ht:A.take (i * 3) = A:=List.take_of_length_le (by omega)
      simp [a,hd,hlen,hlt]
      by_cases hi0:i = 0
      · subst hi0
        have hAn:=hA0 rfl
        subst hAn
        simp
        refine drawP (tabEnv [] _) [⟨[.op 1 3 0],allD 29,true⟩,⟨[.op 1 3 0],allD 29,true⟩,⟨[.op 4 2 0],allD 29,true⟩,⟨[.op 4 2 0],allD 29,true⟩,⟨[.op 4 2 0],allD 29,true⟩,⟨[.op 4 2 0],allD 29,true⟩,⟨[],allD 29,false⟩,⟨[.op 5 6 0],allD 29,true⟩,⟨[.op 5 6 0,.op 5 7 0],[16,17,18,19,20,21,22,23,24,25,26],false⟩,⟨[.op 1 3 0,.op 5 8 0],[16,17,18,19,20,21,22,23,24,25,26],false⟩,⟨[.op 1 3 0],allD 29,true⟩,⟨[.op 1 3 0,.op 5 8 0,.op 5 9 0],[16,17,18,19,20,21,22,23,24,25,26],false⟩] h0 hm (tabEnv_ok (tab_cons (ok_ownOffers k rows[0].Offers hp.1 hp.2) tab_nil)) (by kernel_rfl) (by kernel_rfl) ?_
        simp [hA',hb1,hb2,ht]
        subst hI
        refine Less_mk (m - 1) (by omega) ⟨0 + 1,by omega,?_⟩
        rw [e3,ofL_two (a:=.op 1 3 0) (b:=.op 0 1 0) (by decide),show IntKind.i64.wrap 1 = 1 from rfl]
        simp
      · simp [hi0]
        refine drawP (tabEnv [] _) [⟨[.op 1 3 0],allD 29,true⟩,⟨[.op 1 3 0],allD 29,true⟩,⟨[.op 4 2 0],allD 29,true⟩,⟨[.op 4 2 0],allD 29,true⟩,⟨[.op 4 2 0],allD 29,true⟩,⟨[.op 4 2 0],allD 29,true⟩,⟨[],allD 29,false⟩,⟨[.op 5 6 0],allD 29,true⟩,⟨[.op 5 6 0,.op 5 7 0],[16,17,18,19,20,21,22,23,24,25,26],false⟩,⟨[.op 1 3 0,.op 5 8 0],[16,17,18,19,20,21,22,23,24,25,26],false⟩,⟨[.op 1 3 0],allD 29,true⟩,⟨[.op 1 3 0,.op 5 8 0,.op 5 9 0],[16,17,18,19,20,21,22,23,24,25,26],false⟩] h0 hm (tabEnv_ok (tab_cons (ok_ownOffers k rows[i].Offers hp.1 hp.2) tab_nil)) (by kernel_rfl) (by kernel_rfl) ?_
        simp [hA',hb1,hb2,ht]
        subst hI
        refine Less_mk (m - 1) (by omega) ⟨i + 1,by omega,?_⟩
        rw [if_neg (by omega),e3,wrNext i (by omega),ofL_two (a:=.op 1 3 0) (b:=.op 0 1 0) (by decide)]
        simp
    · simp at a
      have hin:i = rows.length:=by omega
      have hA':=hA (by omega)
      by_cases hi0:i = 0
      · subst hi0
        have:rows = []:=List.length_eq_zero_iff.1 hin.symm
        subst this
        simp [hA0]
      · rw [hfin hin]
        subst hin
        simp [hi0]
theorem good_small {r:GRib} (h:goodRib r = true):ribOK r ∧ ∀ x ∈ r.Rows,x.Offers.length ≤ 1048576 ∧ ∀ o ∈ x.Offers,o.Attrs.Path.length ≤ 1048576 ∧ o.Attrs.Comms.length ≤ 1048576:=by
  obtain ⟨⟨_,h2⟩,h3,_⟩:=goodRib_gW h
  have key:∀ x ∈ r.Rows,x.Offers.length ≤ 6 ∧ ∀ o ∈ x.Offers,o.Attrs.Path.length ≤ 10 ∧ o.Attrs.Comms.length ≤ 6:=fun x hx => by
    have hg:=(goodRow_spec.1 (h2 x hx)).2.2
    exact ⟨goodOs_len hg,fun o ho => goodO_small ((goodOs_pw hg).2 o ho)⟩
  refine ⟨⟨by omega,fun x hx => ⟨by have:=(key x hx).1; omega,fun o ho => by have:=(key x hx).2 o ho; exact ⟨by omega,by omega⟩⟩⟩,fun x hx => ⟨by have:=(key x hx).1; omega,fun o ho => by have:=(key x hx).2 o ho; omega⟩⟩
theorem ok_l10Same (k k':Nat) (xs ys:List Int) (ha:xs.length ≤ 140737488351232) (hb:ys.length ≤ 140737488351232):CallOK Tryz.prog 171 [.c (rd k xs.length (xs.map pi)),.c (rd k' ys.length (ys.map pi))] (.c (pb (decide (xs = ys)))) [.c (rd k xs.length (xs.map pi)),.c (rd k' ys.length (ys.map pi))]:=by
  refine okS (fn:=Tryz.f171) [] h0 Tryz.func171 (by kernel_rfl) rfl Tryz.ntmps171 Tryz.results171 (by simp) ?_
  simp
  refine brn_app (fun h => ?_) (fun h => ?_)
  · simp at h
    simp
    rintro rfl
    exact h rfl
  · simp at h
    have hl:ys.length = xs.length:=by omega
    simp
    refine loopS [0,1,12,13] [] (fun n st => ∃ (i:Nat),i + n = xs.length ∧ (xs.drop i = ys.drop i ↔ xs = ys) ∧ st = ⟨slOf 26 [(0,.t (rd k xs.length (xs.map pi))),(1,.t (rd k' ys.length (ys.map pi))),(12,.t (pi xs.length)),(13,.t (pi i))],ofL []⟩) xs.length ?_ ?_
    · rintro Inv hI
      simp
      subst hI
      exact ⟨0,by omega,by simp,rfl⟩
    · rintro Inv hI n st ⟨i,hi,htk,rfl⟩
      refine ewr_sound (M:=[]) h0 ?_
      simp
      refine brn_app (fun h => ?_) (fun h => ?_)
      · simp at h
        have hib:i < ys.length:=by omega
        rw [drop_step xs i h,drop_step ys i hib,List.cons.injEq] at htk
        simp
        refine drawP E0 [⟨[],allD 26,true⟩,⟨[],allD 26,true⟩,⟨[],allD 26,true⟩,⟨[],allD 26,true⟩,⟨[],allD 26,true⟩,⟨[],allD 26,true⟩,⟨[],allD 26,true⟩,⟨[],allD 26,true⟩,⟨[],allD 26,true⟩] h0 hm (E0_ok _) (by kernel_rfl) (by kernel_rfl) ?_
        simp [h,hib]
        refine brn_app (fun h2 => ?_) (fun h2 => ?_)
        · simp at h2
          simp
          intro he
          exact h2 (htk.2 he).1
        · simp at h2
          simp
          subst hI
          exact Less_mk (n - 1) (by omega) ⟨i + 1,by omega,⟨fun h4 => htk.1 ⟨h2,h4⟩,fun h4 => (htk.2 h4).2⟩,by rw [wrNext i (by omega)]⟩
      · simp at h
        rw [List.drop_of_length_le (by omega),List.drop_of_length_le (by omega)] at htk
        simp
        exact htk.1 rfl
theorem attrs_ext2 (a b:GAttrs):decide (a = b) = (decide (a.Origin = b.Origin) && (decide (a.Next = b.Next) && (decide (a.Med = b.Med) && (decide (a.Pref = b.Pref) && (decide (a.Path = b.Path) && decide (a.Comms = b.Comms)))))):=by
  rw [attrs_ext]
  cases decide (a.Path = b.Path) <;> simp
theorem ok_l13SameAttrs (k k':Nat) (a b:GAttrs) (ha:attrOK a) (hb:attrOK b):CallOK Tryz.prog 124 [.agg (GAttrs.ci k a),.agg (GAttrs.ci k' b)] (.c (pb (decide (a = b)))) [.agg (GAttrs.ci k a),.agg (GAttrs.ci k' b)]:=by
  refine okS (fn:=Tryz.f124) [] h0 Tryz.func124 (by kernel_rfl) rfl Tryz.ntmps124 Tryz.results124 (by simp) ?_
  rw [attrs_ext2]
  by_cases c1:a.Origin = b.Origin
  · by_cases c3:a.Next = b.Next
    · by_cases c4:a.Med = b.Med
      · by_cases c5:a.Pref = b.Pref
        · simp [c1,c3,c4,c5]
          refine Inv_intro (ok_l10Same k k' a.Path b.Path ha.1 hb.1) ?_
          by_cases c2:a.Path = b.Path
          · simp [c2]
            refine Inv_intro (ok_l10Same k k' a.Comms b.Comms ha.2 hb.2) ?_
            simp
          · simp [c2]
        · simp [c1,c3,c4,c5]
      · simp [c1,c3,c4]
    · simp [c1,c3]
  · simp [c1]
theorem putAll_len2 (xs:List GPrefix):(putAll [] xs).length ≤ xs.length:=by
  have:=putAll_len xs []
  simpa using this
set_option maxHeartbeats 4000000 in
theorem ok_l13Changed2 (ka kb:Nat) (a b:GRib) (ha:ribOK a) (hga:goodRib a = true) (hxa:∀ x ∈ a.Rows,x.Offers.length ≤ 1048576) (hb:ribOK b) (hgb:goodRib b = true) (hxb:∀ x ∈ b.Rows,x.Offers.length ≤ 1048576):CallOK Tryz.prog 76 [.agg (GRib.ci (ka + 1) a),.agg (GRib.ci (kb + 1) b)] (.c (.sl 0 77 (changedG a b).length ((changedG a b).flatMap GPrefix.c))) [.agg (GRib.ci (ka + 1) a),.agg (GRib.ci (kb + 1) b)]:=by
  have hna:=(goodRib_gW hga).2.1
  have hnb:=(goodRib_gW hgb).2.1
  refine okS (fn:=Tryz.f76) [(123,[2,0])] h0 Tryz.func76 (by kernel_rfl) rfl Tryz.ntmps76 Tryz.results76 (by simp) ?_
  simp
  refine ewp_nil 5 (.op 5 3 0) 77 (by decide) rfl rfl rfl ?_
  refine loopS [2,3,5,18,19,20] [.op 5 3 0,.op 0 0 0,.op 0 1 0] (fun m st => ∃ (i:Nat),i + m = a.Rows.length ∧ st = ⟨slOf 86 [(2,.ptr ⟨.op 0 0 0,[]⟩ 0),(3,.ptr ⟨.op 0 1 0,[]⟩ 0),(5,.ref ⟨.op 5 3 0,[]⟩ 0 (putAll [] ((a.Rows.take i).map GRow.Prefix)).length),(18,.t (rd (ka + 1) a.Rows.length (a.Rows.flatMap (GRow.ci (ka + 1))))),(19,.t (pi a.Rows.length)),(20,.t (pi i))],ofL [(.op 5 3 0,.sl 0 77 (putAll [] ((a.Rows.take i).map GRow.Prefix)).length ((putAll [] ((a.Rows.take i).map GRow.Prefix)).flatMap GPrefix.c)),(.op 0 0 0,.sl 0 32 1 (GRib.ci (ka + 1) a)),(.op 0 1 0,.sl 0 32 1 (GRib.ci (kb + 1) b))]⟩) a.Rows.length ?_ ?_
  · rintro Inv hI
    simp
    subst hI
    exact ⟨0,by omega,rfl⟩
  · rintro Inv hI m st ⟨i,hi,rfl⟩
    have hsn:∀ h:i < a.Rows.length,putAll [] ((a.Rows.take (i + 1)).map GRow.Prefix) = putP a.Rows[i].Prefix (putAll [] ((a.Rows.take i).map GRow.Prefix)):=fun h => by
      rw [take_step a.Rows i h,List.map_append]
      exact putAll_snoc _ _ _
    have hOl:=putAll_len2 ((a.Rows.take i).map GRow.Prefix)
    rw [List.length_map,List.length_take] at hOl
    have hfin:i = a.Rows.length → putAll [] ((a.Rows.take i).map GRow.Prefix) = putAll [] (prefsOf a):=by
      rintro rfl
      rw [List.take_length]
      rfl
    generalize putAll [] ((a.Rows.take i).map GRow.Prefix) = O at hsn hOl hfin ⊢
    have hOc:=fm_len GPrefix.c 2 (fun _ => rfl) O
    have htO:List.take (O.length * 2) (O.flatMap GPrefix.c) = O.flatMap GPrefix.c:=List.take_of_length_le (by omega)
    refine ewr_sound (M:=[(123,[2,0])]) h0 ?_
    simp
    refine brn_app (fun c => ?_) (fun c => ?_)
    · simp at c
      have hsn':=hsn c
      have hd:=fm_drop (GRow.ci (ka + 1)) 3 (fun _ => rfl) a.Rows i c
      have hlen:=fm_len (GRow.ci (ka + 1)) 3 (fun _ => rfl) a.Rows
      have hlt:i * 3 < a.Rows.length * 3:=by omega
      simp [c,hd,hlen,hlt,hOc,htO]
      refine Inv_intro (ok_l4Put O a.Rows[i].Prefix (by omega)) ?_
      simp
      subst hI
      refine Less_mk (m - 1) (by omega) ⟨i + 1,by omega,?_⟩
      rw [wrNext i (by omega),hsn']
      all_goals simp
    · simp at c
      have hin:i = a.Rows.length:=by omega
      have hfin':=hfin hin
      subst hfin'
      simp
      refine ewp_sw (.op 5 3 0) (.op 10 3 0) rfl rfl ?_
      simp
      refine loopS [2,3,5,30,31,32] [.op 10 3 0,.op 0 0 0,.op 0 1 0] (fun m st => ∃ (i:Nat),i + m = b.Rows.length ∧ st = ⟨slOf 86 [(2,.ptr ⟨.op 0 0 0,[]⟩ 0),(3,.ptr ⟨.op 0 1 0,[]⟩ 0),(5,.ref ⟨.op 10 3 0,[]⟩ 0 (putAll [] (prefsOf a ++ (b.Rows.take i).map GRow.Prefix)).length),(30,.t (rd (kb + 1) b.Rows.length (b.Rows.flatMap (GRow.ci (kb + 1))))),(31,.t (pi b.Rows.length)),(32,.t (pi i))],ofL [(.op 10 3 0,.sl 0 77 (putAll [] (prefsOf a ++ (b.Rows.take i).map GRow.Prefix)).length ((putAll [] (prefsOf a ++ (b.Rows.take i).map GRow.Prefix)).flatMap GPrefix.c)),(.op 0 0 0,.sl 0 32 1 (GRib.ci (ka + 1) a)),(.op 0 1 0,.sl 0 32 1 (GRib.ci (kb + 1) b))]⟩) b.Rows.length ?_ ?_
      · rintro Inv2 hI2
        simp
        subst hI2
        refine ⟨0,by omega,?_⟩
        simp
      · rintro Inv2 hI2 m2 st ⟨j,hj,rfl⟩
        have hsn2:∀ h:j < b.Rows.length,putAll [] (prefsOf a ++ (b.Rows.take (j + 1)).map GRow.Prefix) = putP b.Rows[j].Prefix (putAll [] (prefsOf a ++ (b.Rows.take j).map GRow.Prefix)):=fun h => by
          rw [take_step b.Rows j h,List.map_append,← List.append_assoc]
          exact putAll_snoc _ _ _
        have hXl:=putAll_len2 (prefsOf a ++ (b.Rows.take j).map GRow.Prefix)
        rw [List.length_append,List.length_map,List.length_take,prefsOf,List.length_map] at hXl
        have hfin2:j = b.Rows.length → putAll [] (prefsOf a ++ (b.Rows.take j).map GRow.Prefix) = putAll [] (prefsOf a ++ prefsOf b):=by
          rintro rfl
          rw [List.take_length]
          rfl
        have hXl':(putAll [] (prefsOf a ++ (b.Rows.take j).map GRow.Prefix)).length ≤ 40:=Nat.le_trans hXl (by omega)
        clear hXl
        generalize putAll [] (prefsOf a ++ (b.Rows.take j).map GRow.Prefix) = X at hsn2 hXl' hfin2 ⊢
        have hXc:=fm_len GPrefix.c 2 (fun _ => rfl) X
        have htX:List.take (X.length * 2) (X.flatMap GPrefix.c) = X.flatMap GPrefix.c:=List.take_of_length_le (by omega)
        refine ewr_sound (M:=[(123,[2,0])]) h0 ?_
        simp
        refine brn_app (fun e => ?_) (fun e => ?_)
        · simp at e
          have hsn':=hsn2 e
          have hd:=fm_drop (GRow.ci (kb + 1)) 3 (fun _ => rfl) b.Rows j e
          have hlen:=fm_len (GRow.ci (kb + 1)) 3 (fun _ => rfl) b.Rows
          have hlt:j * 3 < b.Rows.length * 3:=by omega
          simp [e,hd,hlen,hlt,hXc,htX]
          refine Inv_intro (ok_l4Put X b.Rows[j].Prefix (by omega)) ?_
          simp
          subst hI2
          refine Less_mk (m2 - 1) (by omega) ⟨j + 1,by omega,?_⟩
          rw [wrNext j (by omega),hsn']
          all_goals simp
        · simp at e
          have hjn:j = b.Rows.length:=by omega
          have hfin':=hfin2 hjn
          have hch:changedG a b = X.filter fun p => !decide (bestR a p = bestR b p):=by rw [hfin']; rfl
          rw [hch]
          clear hfin' hfin2 hsn2 hch
          simp
          refine ewp_nil 10 (.op 19 3 0) 77 (by decide) rfl rfl rfl ?_
          refine loopS [2,3,10,41,42,43] [.op 19 3 0,.op 10 3 0,.op 0 0 0,.op 0 1 0] (fun m st => ∃ (i:Nat),i + m = X.length ∧ st = ⟨slOf 86 [(2,.ptr ⟨.op 0 0 0,[]⟩ 0),(3,.ptr ⟨.op 0 1 0,[]⟩ 0),(10,.ref ⟨.op 19 3 0,[]⟩ 0 ((X.take i).filter fun p => !decide (bestR a p = bestR b p)).length),(41,.ref ⟨.op 10 3 0,[]⟩ 0 X.length),(42,.t (pi X.length)),(43,.t (pi i))],ofL [(.op 19 3 0,.sl 0 77 ((X.take i).filter fun p => !decide (bestR a p = bestR b p)).length (((X.take i).filter fun p => !decide (bestR a p = bestR b p)).flatMap GPrefix.c)),(.op 10 3 0,.sl 0 77 X.length (X.flatMap GPrefix.c)),(.op 0 0 0,.sl 0 32 1 (GRib.ci (ka + 1) a)),(.op 0 1 0,.sl 0 32 1 (GRib.ci (kb + 1) b))]⟩) X.length ?_ ?_
          · rintro Inv3 hI3
            simp
            subst hI3
            exact ⟨0,by omega,rfl⟩
          · rintro Inv3 hI3 m3 st ⟨q,hq,rfl⟩
            have hsn3:∀ h:q < X.length,((X.take (q + 1)).filter fun p => !decide (bestR a p = bestR b p)) = ((X.take q).filter fun p => !decide (bestR a p = bestR b p)) ++ (if bestR a X[q] = bestR b X[q] then [] else [X[q]]):=fun h => by
              rw [take_step X q h,List.filter_append]
              by_cases hbb:bestR a X[q] = bestR b X[q] <;> simp [hbb]
            have hOl:((X.take q).filter fun p => !decide (bestR a p = bestR b p)).length ≤ 40:=Nat.le_trans (List.length_filter_le _ _) (by rw [List.length_take]; omega)
            have hfin3:q = X.length → ((X.take q).filter fun p => !decide (bestR a p = bestR b p)) = X.filter fun p => !decide (bestR a p = bestR b p):=by
              rintro rfl
              rw [List.take_length]
            generalize ((X.take q).filter fun p => !decide (bestR a p = bestR b p)) = O at hsn3 hOl hfin3 ⊢
            have hOc:=fm_len GPrefix.c 2 (fun _ => rfl) O
            have htO:List.take (O.length * 2) (O.flatMap GPrefix.c) = O.flatMap GPrefix.c:=List.take_of_length_le (by omega)
            have hb1:(O.length + 1) * 16 ≤ 140737488355328:=by omega
            have hb2:O.length ≤ 9223372036854775806:=by omega
            refine ewr_sound (M:=[(123,[2,0])]) h0 ?_
            simp
            refine brn_app (fun g => ?_) (fun g => ?_)
            · simp at g
              have hs3:=hsn3 g
              have hd:=fm_drop GPrefix.c 2 (fun _ => rfl) X q g
              have hlt:q * 2 < X.length * 2:=by omega
              have hle:q * 2 + 2 ≤ X.length * 2:=by omega
              generalize hpe:X[q] = p at hs3 hd
              simp [g,hd,hXc,hlt,hle]
              refine Inv_intro (ok_l13BestAt ka a p ha hxa hga) ?_
              cases h1:bestR a p with
              | none =>
                simp [outO]
                refine Inv_intro (ok_l13BestAt kb b p hb hxb hgb) ?_
                cases h2:bestR b p with
                | none =>
                  rw [h1,h2,if_pos rfl,List.append_nil] at hs3
                  simp [outO]
                  subst hI3
                  refine Less_mk (m3 - 1) (by omega) ⟨q + 1,by omega,?_⟩
                  rw [wrNext q (by omega),hs3]
                  all_goals simp
                | some y =>
                  rw [h1,h2,if_neg (by simp)] at hs3
                  simp [outO,hOc,htO,hb1,hb2]
                  subst hI3
                  refine Less_mk (m3 - 1) (by omega) ⟨q + 1,by omega,?_⟩
                  rw [wrNext q (by omega),hs3]
                  all_goals simp
              | some x =>
                have hx:=bestR_small h1
                simp [outO]
                refine Inv_intro (ok_l13BestAt kb b p hb hxb hgb) ?_
                cases h2:bestR b p with
                | none =>
                  rw [h1,h2,if_neg (by simp)] at hs3
                  simp [outO,hOc,htO,hb1,hb2]
                  subst hI3
                  refine Less_mk (m3 - 1) (by omega) ⟨q + 1,by omega,?_⟩
                  rw [wrNext q (by omega),hs3]
                  all_goals simp
                | some y =>
                  have hy:=bestR_small h2
                  by_cases hpp:x.Peer = y.Peer
                  · have hxy:x = y ↔ x.Attrs = y.Attrs:=by
                      cases x; cases y
                      simp only [GOffer.mk.injEq] at hpp ⊢
                      exact ⟨fun h => h.2,fun h => ⟨hpp,h⟩⟩
                    rw [h1,h2] at hs3
                    simp [outO,hpp]
                    refine Inv_intro (ok_l13SameAttrs (ka + 1) (kb + 1) x.Attrs y.Attrs ⟨by omega,by omega⟩ ⟨by omega,by omega⟩) ?_
                    by_cases hat:x.Attrs = y.Attrs
                    · rw [if_pos (by rw [hxy.2 hat]),List.append_nil] at hs3
                      rw [decide_eq_true hat]
                      simp
                      subst hI3
                      refine Less_mk (m3 - 1) (by omega) ⟨q + 1,by omega,?_⟩
                      rw [wrNext q (by omega),hs3]
                      all_goals simp
                    · rw [if_neg (fun h => hat (hxy.1 (Option.some.inj h)))] at hs3
                      rw [decide_eq_false hat]
                      simp [hOc,htO,hb1,hb2]
                      subst hI3
                      refine Less_mk (m3 - 1) (by omega) ⟨q + 1,by omega,?_⟩
                      rw [wrNext q (by omega),hs3]
                      all_goals simp
                  · have hxy:¬ x = y:=fun h => hpp (by rw [h])
                    rw [h1,h2,if_neg (fun h => hxy (Option.some.inj h))] at hs3
                    simp [outO,hpp,hOc,htO,hb1,hb2]
                    subst hI3
                    refine Less_mk (m3 - 1) (by omega) ⟨q + 1,by omega,?_⟩
                    rw [wrNext q (by omega),hs3]
                    all_goals simp
            · simp at g
              have hqn:q = X.length:=by omega
              rw [hfin3 hqn] at hOc htO
              rw [← hfin3 hqn] at hOc htO ⊢
              simp [hOc,htO]
theorem ok_l13Changed (ka kb:Nat) (a b:GRib) (ha:ribOK a) (hga:goodRib a = true) (hxa:∀ x ∈ a.Rows,x.Offers.length ≤ 1048576) (hb:ribOK b) (hgb:goodRib b = true) (hxb:∀ x ∈ b.Rows,x.Offers.length ≤ 1048576):CallOK Tryz.prog 76 [.agg (GRib.ci ka a),.agg (GRib.ci kb b)] (.c (.sl 0 77 (changedG a b).length ((changedG a b).flatMap GPrefix.c))) [.agg (GRib.ci ka a),.agg (GRib.ci kb b)]:=by
  have h:=ok_l13Changed2 0 0 a b ha hga hxa hb hgb hxb
  refine CallOK.relabel ?_ rfl ?_
  · simpa only [List.map_cons,List.map_nil,rib_up] using h
  · intro w I I' lr he hh
    refine free_c ?_ he hh
    simp only [PT.free]
    exact free_px _
theorem ok_l8Own (k:Nat) (l:List GOffer) (hl:l.length ≤ 1048576) (hx:∀ x ∈ l,x.Attrs.Path.length ≤ 1048576 ∧ x.Attrs.Comms.length ≤ 1048576):CallOK Tryz.prog 120 [.c (rd k l.length (l.flatMap (GOffer.ci k)))] (.c (.sl 0 81 l.length (l.flatMap GOffer.co))) [.c (rd k l.length (l.flatMap (GOffer.ci k)))]:=by
  refine okS (fn:=Tryz.f120) [] h0 Tryz.func120 (by kernel_rfl) rfl Tryz.ntmps120 Tryz.results120 (by simp) ?_
  simp
  refine ewp_nil 3 (.op 5 8 0) 81 (by decide) rfl rfl rfl ?_
  refine loopS [3,6,7,8] [.op 5 8 0] (fun n st => ∃ (i:Nat),i + n = l.length ∧ st = ⟨slOf 23 [(3,.ref ⟨.op 5 8 0,[]⟩ 0 i),(6,.t (rd k l.length (l.flatMap (GOffer.ci k)))),(7,.t (pi l.length)),(8,.t (pi i))],ofL [(.op 5 8 0,.sl 0 81 i ((l.take i).flatMap GOffer.co))]⟩) l.length ?_ ?_
  · rintro Inv hI
    simp
    subst hI
    exact ⟨0,by omega,by simp⟩
  · rintro Inv hI n st ⟨i,hi,rfl⟩
    have hA:=fm_take_len GOffer.co 7 (fun _ => rfl) l i (by omega)
    generalize hAe:((l.take i).flatMap GOffer.co) = A at hA ⊢
    refine ewr_sound (M:=[]) h0 ?_
    simp
    refine brn_app (fun a => ?_) (fun a => ?_)
    · simp at a
      have hd:=fm_drop (GOffer.ci k) 7 (fun _ => rfl) l i a
      have hlen:=fm_len (GOffer.ci k) 7 (fun _ => rfl) l
      have hlt:i * 7 < l.length * 7:=by omega
      have hb1:(i + 1) * 88 ≤ 140737488355328:=by omega
      have hb2:i ≤ 9223372036854775806:=by omega
      have hp:=hx _ (List.getElem_mem a)
      have ht:A.take (i * 7) = A:=List.take_of_length_le (by omega)
      have e3:((l.take (i + 1)).flatMap GOffer.co) = A ++ GOffer.co l[i]:=by rw [take_step l i a,List.flatMap_append,hAe,List.flatMap_cons,List.flatMap_nil,List.append_nil]
      simp [a,hd,hlen,hlt]
      refine drawP (tabEnv [] _) [⟨[.op 5 8 0],allD 23,true⟩,⟨[.op 4 2 0],allD 23,true⟩,⟨[.op 4 2 0],allD 23,true⟩,⟨[.op 4 2 0],allD 23,true⟩,⟨[.op 4 2 0],allD 23,true⟩,⟨[],allD 23,false⟩,⟨[.op 5 5 1,.op 5 5 5],allD 23,true⟩,⟨[.op 5 5 1,.op 5 5 5],[12,13,14,15,16,17,18,19,20,3],false⟩,⟨[.op 5 8 0,.op 5 7 0],[12,13,14,15,16,17,18,19,20,3],false⟩,⟨[.op 5 8 0],allD 23,true⟩] h0 hm (tabEnv_ok (tab_cons (ok_l4Own k l[i].Attrs hp.1 hp.2) tab_nil)) (by kernel_rfl) (by kernel_rfl) ?_
      simp [hA,hb1,hb2,ht]
      subst hI
      refine Less_mk (n - 1) (by omega) ⟨i + 1,by omega,?_⟩
      rw [wrNext i (by omega),e3]
      all_goals simp
    · simp at a
      have hn:n = 0:=by omega
      subst hn
      have ht:List.take i l = l:=List.take_of_length_le (by omega)
      have hil:i = l.length:=by omega
      rw [← hAe,ht,hil]
      simp
theorem ok_l13Own (k:Nat) (r:GRib) (hr:r.Rows.length ≤ 1000) (hx:∀ x ∈ r.Rows,x.Offers.length ≤ 1048576 ∧ ∀ o ∈ x.Offers,o.Attrs.Path.length ≤ 1048576 ∧ o.Attrs.Comms.length ≤ 1048576):CallOK Tryz.prog 74 [.agg (GRib.ci k r)] (.agg (GRib.co r)) [.agg (GRib.ci k r)]:=by
  obtain ⟨own,rows⟩:=r
  refine okS (fn:=Tryz.f74) [] h0 Tryz.func74 (by kernel_rfl) rfl Tryz.ntmps74 Tryz.results74 (by simp) ?_
  simp
  simp only at hr hx
  refine loopS [2,3,10,11,12] [.op 0 1 0,.op 1 3 0] (fun m st => ∃ (i:Nat),i + m = rows.length ∧ st = ⟨slOf 29 [(2,.ptr ⟨.op 0 1 0,[]⟩ 0),(3,.ptr ⟨.op 1 3 0,[]⟩ 0),(10,.t (rd k rows.length (rows.flatMap (GRow.ci k)))),(11,.t (pi rows.length)),(12,.t (pi i))],ofL [(.op 0 1 0,.sl 0 32 1 [pi 0,.sl 0 nilE 0 []]),(.op 1 3 0,.sl 0 32 1 [pi own,.sl 0 (if i = 0 then nilE else 79) i ((rows.take i).flatMap GRow.co)])]⟩) rows.length ?_ ?_
  · rintro Inv hI
    simp
    subst hI
    exact ⟨0,by omega,rfl⟩
  · rintro Inv hI m st ⟨i,hi,rfl⟩
    have hA:=fun h:i ≤ rows.length => fm_take_len GRow.co 3 (fun _ => rfl) rows i h
    have hstep:=fun a:i < rows.length => (show ((rows.take (i + 1)).flatMap GRow.co) = (rows.take i).flatMap GRow.co ++ GRow.co rows[i] by rw [take_step rows i a,List.flatMap_append,List.flatMap_cons,List.flatMap_nil,List.append_nil])
    have hA0:i = 0 → (rows.take i).flatMap GRow.co = []:=by rintro rfl; rfl
    have hfin:i = rows.length → (rows.take i).flatMap GRow.co = rows.flatMap GRow.co:=by rintro rfl; rw [List.take_length]
    generalize (rows.take i).flatMap GRow.co = A at hA hstep hA0 hfin ⊢
    refine ewr_sound (M:=[]) h0 ?_
    simp
    refine brn_app (fun a => ?_) (fun a => ?_)
    · simp at a
      have hA':=hA (by omega)
      have e3:=hstep a
      have hp:=hx _ (List.getElem_mem a)
      have hd:=fm_drop (GRow.ci k) 3 (fun _ => rfl) rows i a
      have hlen:=fm_len (GRow.ci k) 3 (fun _ => rfl) rows
      have hlt:i * 3 < rows.length * 3:=by omega
      have hb1:(i + 1) * 40 ≤ 140737488355328:=by omega
      have hb2:i ≤ 9223372036854775806:=by omega
      have ht:A.take (i * 3) = A:=List.take_of_length_le (by omega)
      simp [a,hd,hlen,hlt]
      by_cases hi0:i = 0
      · subst hi0
        have hAn:=hA0 rfl
        subst hAn
        simp
        refine drawP (tabEnv [] _) [⟨[.op 1 3 0],allD 29,true⟩,⟨[.op 1 3 0],allD 29,true⟩,⟨[.op 4 2 0],allD 29,true⟩,⟨[.op 4 2 0],allD 29,true⟩,⟨[.op 4 2 0],allD 29,true⟩,⟨[.op 4 2 0],allD 29,true⟩,⟨[],allD 29,false⟩,⟨[.op 5 6 0],allD 29,true⟩,⟨[.op 5 6 0,.op 5 7 0],[16,17,18,19,20,21,22,23,24,25,26],false⟩,⟨[.op 1 3 0,.op 5 8 0],[16,17,18,19,20,21,22,23,24,25,26],false⟩,⟨[.op 1 3 0],allD 29,true⟩,⟨[.op 1 3 0,.op 5 8 0,.op 5 9 0],[16,17,18,19,20,21,22,23,24,25,26],false⟩] h0 hm (tabEnv_ok (tab_cons (ok_l8Own k rows[0].Offers hp.1 hp.2) tab_nil)) (by kernel_rfl) (by kernel_rfl) ?_
        simp [hA',hb1,hb2,ht]
        subst hI
        refine Less_mk (m - 1) (by omega) ⟨0 + 1,by omega,?_⟩
        rw [e3,ofL_two (a:=.op 1 3 0) (b:=.op 0 1 0) (by decide),show IntKind.i64.wrap 1 = 1 from rfl]
        simp
      · simp [hi0]
        refine drawP (tabEnv [] _) [⟨[.op 1 3 0],allD 29,true⟩,⟨[.op 1 3 0],allD 29,true⟩,⟨[.op 4 2 0],allD 29,true⟩,⟨[.op 4 2 0],allD 29,true⟩,⟨[.op 4 2 0],allD 29,true⟩,⟨[.op 4 2 0],allD 29,true⟩,⟨[],allD 29,false⟩,⟨[.op 5 6 0],allD 29,true⟩,⟨[.op 5 6 0,.op 5 7 0],[16,17,18,19,20,21,22,23,24,25,26],false⟩,⟨[.op 1 3 0,.op 5 8 0],[16,17,18,19,20,21,22,23,24,25,26],false⟩,⟨[.op 1 3 0],allD 29,true⟩,⟨[.op 1 3 0,.op 5 8 0,.op 5 9 0],[16,17,18,19,20,21,22,23,24,25,26],false⟩] h0 hm (tabEnv_ok (tab_cons (ok_l8Own k rows[i].Offers hp.1 hp.2) tab_nil)) (by kernel_rfl) (by kernel_rfl) ?_
        simp [hA',hb1,hb2,ht]
        subst hI
        refine Less_mk (m - 1) (by omega) ⟨i + 1,by omega,?_⟩
        rw [if_neg (by omega),e3,wrNext i (by omega),ofL_two (a:=.op 1 3 0) (b:=.op 0 1 0) (by decide)]
        simp
    · simp at a
      have hin:i = rows.length:=by omega
      have hA':=hA (by omega)
      by_cases hi0:i = 0
      · subst hi0
        have:rows = []:=List.length_eq_zero_iff.1 hin.symm
        subst this
        simp [hA0]
      · rw [hfin hin]
        subst hin
        simp [hi0]
end Go.V
