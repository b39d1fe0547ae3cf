/- What functions of the seat's program do, each proved of its code, under the bounds that its theorem names. -/
import Derived.Test.YtdelgkhoahmnfaaGreatTae
set_option linter.all false
namespace Go.V
open Go.Proofs
set_option maxHeartbeats 1000000
set_option maxRecDepth 10000
set_option linter.unusedSimpArgs false
set_option linter.unusedVariables false
theorem put_at (p:GPrefix):∀ l:List GPrefix,putP p l = if bsF (fun x:GPrefix => cmpPx x p) l = true then l else l.take (bsI (fun x:GPrefix => cmpPx x p) l) ++ p :: l.drop (bsI (fun x:GPrefix => cmpPx x p) l)
  | [] => rfl
  | x :: l => by
    have hb:=bs_cons (fun x:GPrefix => cmpPx x p) x l
    unfold putP
    by_cases hc:cmpPx x p < 0
    · rw [if_pos hc,(hb.1 hc).1,(hb.1 hc).2,put_at p l]
      split
      · rfl
      · rw [List.take_succ_cons,List.drop_succ_cons,List.cons_append]
    · rw [if_neg hc,(hb.2 hc).1,(hb.2 hc).2]
      simp only [decide_eq_true_eq,cmpPx_eq]
      split
      · rfl
      · simp
theorem ok_l4Put (l:List GPrefix) (p:GPrefix) (hl:l.length ≤ 1000000):CallOK Tryz.prog 123 [.c (.sl 0 77 l.length (l.flatMap GPrefix.c)),.agg p.c] (.c (.sl 0 77 (putP p l).length ((putP p l).flatMap GPrefix.c))) [.c (if bsF (fun x:GPrefix => cmpPx x p) l = true then .hole else .sl 0 77 l.length (l.flatMap GPrefix.c)),.agg p.c]:=by
  refine okS (fn:=Tryz.f123) [] h0 Tryz.func123 (by kernel_rfl) rfl Tryz.ntmps123 Tryz.results123 (by simp) ?_
  rw [put_at]
  simp
  refine loopS [0,3,5] [.arg 0 0,.op 0 0 0] (fun m st => ∃ (i:Nat),i + m = l.length ∧ (∀ (q:Nat) (hq:q < i) (hl:q < l.length),cmpPx l[q] p < 0) ∧ st = ⟨slOf 49 [(0,.ref ⟨.arg 0 0,[]⟩ 0 l.length),(3,.ptr ⟨.op 0 0 0,[]⟩ 0),(5,.t (pi i))],ofL [(.arg 0 0,.sl 0 77 l.length (l.flatMap GPrefix.c)),(.op 0 0 0,.sl 0 77 1 p.c)]⟩) l.length ?_ ?_
  · rintro Inv hI
    simp
    subst hI
    exact ⟨0,by omega,by intro q hq; omega,by simp⟩
  · rintro Inv hI m st ⟨i,hi,hall,rfl⟩
    refine ewr_sound (M:=[]) h0 ?_
    simp
    by_cases a:i < l.length
    · have hd:=fm_drop GPrefix.c 2 (fun _ => rfl) l i a
      have hlen:=fm_len GPrefix.c 2 (fun _ => rfl) l
      have hlt:i * 2 < l.length * 2:=by omega
      have hlt2:i * 2 + 2 ≤ l.length * 2:=by omega
      refine drawP (tabEnv [] _) [⟨[],allD 49,true⟩,⟨[.arg 0 0],allD 49,true⟩,⟨[.arg 0 0],allD 49,true⟩,⟨[],allD 49,true⟩,⟨[],allD 49,true⟩,⟨[.arg 0 0],allD 49,true⟩,⟨[],allD 49,true⟩,⟨[.arg 0 0],allD 49,true⟩,⟨[.arg 0 0],allD 49,true⟩,⟨[.op 0 0 0],allD 49,true⟩,⟨[],allD 49,false⟩,⟨[],allD 49,true⟩,⟨[],allD 49,true⟩] h0 hm (tabEnv_ok (tab_cons (ok_l1Compare l[i] p) tab_nil)) (by kernel_rfl) (by kernel_rfl) ?_
      simp [a,hd,hlen,hlt,hlt2]
      refine brn_app (fun b => ?_) (fun b => ?_)
      · simp at b
        simp
        subst hI
        refine Less_mk (m - 1) (by omega) ⟨i + 1,by omega,?_,by rw [wrNext i (by omega)]; simp⟩
        intro q hq hql
        by_cases hqi:q = i
        · subst hqi; exact b
        · exact hall q (by omega) hql
      · simp at b
        have e1:bsI (fun x:GPrefix => cmpPx x p) l = i:=bsI_eq _ l i (by omega) hall fun h => b
        have e2:bsF (fun x:GPrefix => cmpPx x p) l = decide (cmpPx l[i] p = 0):=by
          simp only [bsF,e1,List.getElem?_eq_getElem a]
        rw [e1,e2]
        simp only [cmpPx_eq,px_ext]
        simp
        refine drawP (tabEnv [] _) [⟨[],allD 49,true⟩,⟨[.arg 0 0],allD 49,true⟩,⟨[.arg 0 0],allD 49,true⟩,⟨[],allD 49,true⟩,⟨[],allD 49,true⟩,⟨[.arg 0 0],allD 49,true⟩,⟨[],allD 49,true⟩,⟨[.arg 0 0],allD 49,true⟩,⟨[.arg 0 0],allD 49,true⟩,⟨[.op 0 0 0],allD 49,true⟩,⟨[],allD 49,true⟩,⟨[],allD 49,true⟩] h0 hm (tabEnv_ok tab_nil) (by kernel_rfl) (by kernel_rfl) ?_
        simp [a,hd,hlen,hlt,hlt2]
        have hxx:(decide (l[i].Addr = p.Addr) && decide (l[i].Len = p.Len)) = decide (l[i].Addr = p.Addr ∧ l[i].Len = p.Len):=by simp
        rw [hxx]
        by_cases e:l[i].Addr = p.Addr ∧ l[i].Len = p.Len
        · rw [decide_eq_true e,if_pos e,if_pos e]
          simp
        · rw [decide_eq_false e,if_neg e,if_neg e]
          have hcells:(l.take i ++ p :: l.drop i).flatMap GPrefix.c = (l.flatMap GPrefix.c).take (i * 2) ++ (p.c ++ (l.flatMap GPrefix.c).drop (i * 2)):=by
            rw [List.flatMap_append,List.flatMap_cons,fm_take GPrefix.c 2 (fun _ => rfl),fm_dropAll GPrefix.c 2 (fun _ => rfl)]
          have hcl:(l.take i ++ p :: l.drop i).length = l.length + 1:=by
            rw [List.length_append,List.length_cons,List.length_take,List.length_drop]
            omega
          rw [hcells,hcl]
          by_cases hi0:i = 0
          · subst hi0
            have hne:l ≠ []:=List.length_pos_iff.1 a
            have hb1:(1 + l.length) * 16 ≤ 140737488355328:=by omega
            have hb2:1 + l.length ≤ 9223372036854775807:=by omega
            have hb3:(1 + l.length) * 2 ≤ l.length * 2 + 1 + 1:=by omega
            have hb4:List.take ((1 + l.length) * 2) (pi p.Addr :: pi p.Len :: l.flatMap GPrefix.c) = pi p.Addr :: pi p.Len :: l.flatMap GPrefix.c:=List.take_of_length_le (by simp only [List.length_cons,hlen]; omega)
            simp [hlen,hne,hb1,hb2,hb3,hb4]
            omega
          · have hile:i ≤ l.length:=by omega
            have hne:l ≠ []:=List.length_pos_iff.1 (by omega)
            have hF:∀ X:List PT,(∀ x ∈ X,x ∈ l.flatMap GPrefix.c) → ((∀ x ∈ X,PT.flat x = true) ↔ True):=fun X hX => ⟨fun _ => trivial,fun _ x hx => by
              have:=hX x hx
              simp only [List.mem_flatMap] at this
              obtain ⟨y,_,hy⟩:=this
              simp at hy
              rcases hy with rfl | rfl <;> rfl⟩
            have hF1:=hF (List.take (i * 2) (l.flatMap GPrefix.c)) fun x hx => List.mem_of_mem_take hx
            have hF2:=hF (List.drop (i * 2) (l.flatMap GPrefix.c)) fun x hx => List.mem_of_mem_drop hx
            have hb1:i * 16 ≤ 140737488355328:=by omega
            have hb2:i ≤ 9223372036854775807:=by omega
            have hb3:List.take ((l.length - i) * 2) (List.drop (i * 2) (l.flatMap GPrefix.c)) = List.drop (i * 2) (l.flatMap GPrefix.c):=List.take_of_length_le (by rw [List.length_drop,hlen]; omega)
            have hlA:(List.take (i * 2) (l.flatMap GPrefix.c)).length = i * 2:=by rw [List.length_take,hlen]; omega
            have hTA:∀ Y,List.take (i * 2) (List.take (i * 2) (l.flatMap GPrefix.c) ++ Y) = List.take (i * 2) (l.flatMap GPrefix.c):=fun Y => List.take_left' hlA
            have hFp:∀ n:Int,PT.flat (pi n) = true:=fun _ => rfl
            have hTA':=List.take_of_length_le (Nat.le_of_eq hlA)
            have hb5:(i + 1) * 16 ≤ 140737488355328:=by omega
            have hb6:i ≤ 9223372036854775806:=by omega
            have hb7:l.length * 2 - i * 2 = (l.length - i) * 2:=by omega
            have hb8:¬ l.length - i = 0:=by omega
            have hb9:(i + 1 + (l.length - i)) * 16 ≤ 140737488355328:=by omega
            have hb10:i + 1 + (l.length - i) ≤ 9223372036854775807:=by omega
            have hb11:i + 1 + (l.length - i) = l.length + 1:=by omega
            have hb15:(l.length + 1) * 2 ≤ i * 2 + ((l.length - i) * 2 + 1 + 1):=by omega
            have hb13:(l.length + 1) * 16 ≤ 140737488355328:=by omega
            have hb14:l.length ≤ 9223372036854775806:=by omega
            have hb12:List.take ((l.length + 1) * 2) (List.take (i * 2) (l.flatMap GPrefix.c) ++ pi p.Addr :: pi p.Len :: List.drop (i * 2) (l.flatMap GPrefix.c)) = List.take (i * 2) (l.flatMap GPrefix.c) ++ pi p.Addr :: pi p.Len :: List.drop (i * 2) (l.flatMap GPrefix.c):=List.take_of_length_le (by simp only [List.length_append,List.length_cons,List.length_drop,hlA,hlen]; omega)
            simp [-PT.flat,hFp,hlen,hi0,hile,hne,hF1,hF2,hb1,hb2,hb3,hTA,hTA',hb5,hb6,hb7,hb8,hb9,hb10,hb11,hb12,hb13,hb14,hb15]
    · have hil:i = l.length:=by omega
      have e1:bsI (fun x:GPrefix => cmpPx x p) l = i:=bsI_eq _ l i (by omega) hall fun h => by omega
      have e2:bsF (fun x:GPrefix => cmpPx x p) l = false:=by
        simp only [bsF,e1,List.getElem?_eq_none (Nat.le_of_not_lt a)]
      rw [e1,e2]
      refine drawP (tabEnv [] _) [⟨[],allD 49,true⟩,⟨[.arg 0 0],allD 49,true⟩,⟨[.arg 0 0],allD 49,true⟩,⟨[],allD 49,true⟩,⟨[],allD 49,true⟩,⟨[.arg 0 0],allD 49,true⟩,⟨[],allD 49,true⟩,⟨[.arg 0 0],allD 49,true⟩,⟨[.arg 0 0],allD 49,true⟩,⟨[.op 0 0 0],allD 49,true⟩,⟨[],allD 49,false⟩,⟨[],allD 49,true⟩,⟨[],allD 49,true⟩] h0 hm (tabEnv_ok tab_nil) (by kernel_rfl) (by kernel_rfl) ?_
      simp [a]
      refine drawP (tabEnv [] _) [⟨[],allD 49,true⟩,⟨[.arg 0 0],allD 49,true⟩,⟨[.arg 0 0],allD 49,true⟩,⟨[],allD 49,true⟩,⟨[],allD 49,true⟩,⟨[.arg 0 0],allD 49,true⟩,⟨[],allD 49,true⟩,⟨[.arg 0 0],allD 49,true⟩,⟨[.arg 0 0],allD 49,true⟩,⟨[.op 0 0 0],allD 49,true⟩,⟨[],allD 49,true⟩,⟨[],allD 49,true⟩] h0 hm (tabEnv_ok tab_nil) (by kernel_rfl) (by kernel_rfl) ?_
      simp [a]
      subst hil
      rw [List.take_length,List.drop_length]
      by_cases hi0:l = []
      · subst hi0
        simp
      · have hlen:=fm_len GPrefix.c 2 (fun _ => rfl) l
        have hb1:l.length * 16 ≤ 140737488355328:=by omega
        have hb2:l.length ≤ 9223372036854775807:=by omega
        have hb3:(l.length + 1) * 16 ≤ 140737488355328:=by omega
        have hb4:l.length ≤ 9223372036854775806:=by omega
        have ht:List.take (l.length * 2) (l.flatMap GPrefix.c) = l.flatMap GPrefix.c:=List.take_of_length_le (by omega)
        simp [hi0,hlen,hb1,hb2,hb3,hb4,ht]
theorem putP_ne (p:GPrefix):∀ l:List GPrefix,putP p l ≠ []
  | [] => by simp [putP]
  | x :: l => by
    unfold putP
    split
    · simp
    · split <;> simp
theorem ok_l4Put0 (p:GPrefix):CallOK Tryz.prog 123 [.c (.sl 0 nilE 0 []),.agg p.c] (.c (.sl 0 77 1 p.c)) [.c (.sl 0 nilE 0 []),.agg p.c]:=by
  refine okS (fn:=Tryz.f123) [] h0 Tryz.func123 (by kernel_rfl) rfl Tryz.ntmps123 Tryz.results123 (by simp) ?_
  simp
  refine loopS [0,3,5] [.arg 0 0,.op 0 0 0] (fun m st => m = 0 ∧ st = ⟨slOf 49 [(0,.ref ⟨.arg 0 0,[]⟩ 0 0),(3,.ptr ⟨.op 0 0 0,[]⟩ 0),(5,.t (pi 0))],ofL [(.arg 0 0,.sl 0 nilE 0 []),(.op 0 0 0,.sl 0 77 1 p.c)]⟩) 0 ?_ ?_
  · rintro Inv hI
    simp
    subst hI
    exact ⟨rfl,rfl⟩
  · rintro Inv hI m st ⟨i,rfl⟩
    refine ewr_sound (M:=[]) h0 ?_
    simp
    refine drawP (tabEnv [] _) [⟨[],allD 49,true⟩,⟨[.arg 0 0],allD 49,true⟩,⟨[.arg 0 0],allD 49,true⟩,⟨[],allD 49,true⟩,⟨[],allD 49,true⟩,⟨[.arg 0 0],allD 49,true⟩,⟨[],allD 49,true⟩,⟨[.arg 0 0],allD 49,true⟩,⟨[.arg 0 0],allD 49,true⟩,⟨[.op 0 0 0],allD 49,true⟩,⟨[],allD 49,false⟩,⟨[],allD 49,true⟩,⟨[],allD 49,true⟩] h0 hm (tabEnv_ok tab_nil) (by kernel_rfl) (by kernel_rfl) ?_
    simp
    refine drawP (tabEnv [] _) [⟨[],allD 49,true⟩,⟨[.arg 0 0],allD 49,true⟩,⟨[.arg 0 0],allD 49,true⟩,⟨[],allD 49,true⟩,⟨[],allD 49,true⟩,⟨[.arg 0 0],allD 49,true⟩,⟨[],allD 49,true⟩,⟨[.arg 0 0],allD 49,true⟩,⟨[.arg 0 0],allD 49,true⟩,⟨[.op 0 0 0],allD 49,true⟩,⟨[],allD 49,true⟩,⟨[],allD 49,true⟩] h0 hm (tabEnv_ok tab_nil) (by kernel_rfl) (by kernel_rfl) ?_
    simp
set_option maxHeartbeats 4000000 in
theorem ok_update (code:List Int) (hc:codeOK code) (a s:Int) (ha:0 ≤ a) (ha2:a ≤ 3999800):∃ (u:GUpdate) (a' s':Int),(u.Gone.length ≤ 4 ∧ u.Come.length ≤ 3 ∧ u.Attrs.Path.length ≤ 6 ∧ u.Attrs.Comms.length ≤ 6) ∧ (a ≤ a' ∧ a' ≤ a + 55) ∧ CallOK Tryz.prog 94 [.bp (curP code a s)] (.agg (GUpdate.co u)) [.bp (curP code a' s')]:=by
  obtain ⟨n0,a1,s1,hn0,ha1,q1⟩:=ok_pick code hc 4 (by decide) (by decide) a s ha (by omega)
  obtain ⟨N,rfl⟩:∃ N:Nat,n0 = (N:Int):=⟨n0.toNat,by omega⟩
  obtain ⟨run,run0,runI,runR⟩:=exists_run (α:=List GPrefix × Int × Int) N ([],a1,s1) (fun i x => x.1.length ≤ i ∧ (x.1 = [] → i = 0) ∧ a1 ≤ x.2.1 ∧ x.2.1 ≤ a1 + 4 * i)
    (fun x y => ∃ p:GPrefix,y.1 = putP p x.1 ∧ CallOK Tryz.prog 148 [.bp (curP code x.2.1 x.2.2)] (.agg p.c) [.bp (curP code y.2.1 y.2.2)])
    ⟨by simp,by simp,by simp,by simp⟩ (by
      rintro i ⟨l,b,t⟩ hi ⟨g1,g2,g3,g4⟩
      simp only at g1 g2 g3 g4
      obtain ⟨p,b1,t1,hg,hb1,c1⟩:=ok_fine code hc b t (by omega) (by omega)
      have:=putP_len p l
      exact ⟨(putP p l,b1,t1),⟨p,rfl,c1⟩,by simp only; omega,fun h => absurd h (putP_ne p l),by simp only; omega,by simp only; omega⟩)
  obtain ⟨e1,e1',e2,e3⟩:=runI N (Nat.le_refl _)
  obtain ⟨G,hG⟩:∃ G,G = (run N).1:=⟨_,rfl⟩
  obtain ⟨a2,ha2'⟩:∃ a2,a2 = (run N).2.1:=⟨_,rfl⟩
  obtain ⟨s2,hs2⟩:∃ s2,s2 = (run N).2.2:=⟨_,rfl⟩
  obtain ⟨n1,a3,s3,hn1,ha3,q2⟩:=ok_pick code hc 4 (by decide) (by decide) a2 s2 (by omega) (by omega)
  obtain ⟨K,rfl⟩:∃ K:Nat,n1 = (K:Int):=⟨n1.toNat,by omega⟩
  obtain ⟨ron,ron0,ronI,ronR⟩:=exists_run (α:=List GPrefix × Int × Int) K ([],a3,s3) (fun i x => x.1.length ≤ i ∧ a3 ≤ x.2.1 ∧ x.2.1 ≤ a3 + 4 * i)
    (fun x y => ∃ p:GPrefix,y.1 = (if p ∈ G then x.1 else putP p x.1) ∧ CallOK Tryz.prog 148 [.bp (curP code x.2.1 x.2.2)] (.agg p.c) [.bp (curP code y.2.1 y.2.2)])
    ⟨by simp,by simp,by simp⟩ (by
      rintro i ⟨l,b,t⟩ hi ⟨g1,g2,g3⟩
      simp only at g1 g2 g3
      obtain ⟨p,b1,t1,hg,hb1,c1⟩:=ok_fine code hc b t (by omega) (by omega)
      have:=putP_len p l
      refine ⟨(if p ∈ G then l else putP p l,b1,t1),⟨p,rfl,c1⟩,?_,by simp only; omega,by simp only; omega⟩
      simp only
      split <;> omega)
  obtain ⟨f1,f2,f3⟩:=ronI K (Nat.le_refl _)
  obtain ⟨C,hC⟩:∃ C,C = (ron K).1:=⟨_,rfl⟩
  obtain ⟨a4,ha4⟩:∃ a4,a4 = (ron K).2.1:=⟨_,rfl⟩
  obtain ⟨s4,hs4⟩:∃ s4,s4 = (ron K).2.2:=⟨_,rfl⟩
  obtain ⟨g,a5,s5,hgl,ha5,hA⟩:∃ (g:GAttrs) (a5 s5:Int),(g.Path.length ≤ 6 ∧ g.Comms.length ≤ 6) ∧ (a4 ≤ a5 ∧ a5 ≤ a4 + 21) ∧ ((C ≠ [] ∧ CallOK Tryz.prog 149 [.bp (curP code a4 s4)] (.agg (GAttrs.co g)) [.bp (curP code a5 s5)]) ∨ (C = [] ∧ ∃ (b:Bool) (a6 s6:Int),CallOK Tryz.prog 106 [.bp (curP code a4 s4),.c (pi 20)] (.c (pb b)) [.bp (curP code a6 s6),.c (pi 20)] ∧ ((b = false ∧ g = zeroA ∧ a5 = a6 ∧ s5 = s6) ∨ (b = true ∧ CallOK Tryz.prog 149 [.bp (curP code a6 s6)] (.agg (GAttrs.co g)) [.bp (curP code a5 s5)])))):=by
    by_cases hz:C = []
    · obtain ⟨b,a6,s6,hb,c1⟩:=ok_one code hc 20 (by decide) (by decide) a4 s4 (by omega) (by omega)
      cases b with
      | false => exact ⟨zeroA,a6,s6,by decide,by omega,.inr ⟨hz,false,a6,s6,c1,.inl ⟨rfl,rfl,rfl,rfl⟩⟩⟩
      | true =>
        obtain ⟨g,a7,s7,hg,ha7,c2⟩:=ok_attrs code hc a6 s6 (by omega) (by omega)
        exact ⟨g,a7,s7,hg,by omega,.inr ⟨hz,true,a6,s6,c1,.inr ⟨rfl,c2⟩⟩⟩
    · obtain ⟨g,a7,s7,hg,ha7,c2⟩:=ok_attrs code hc a4 s4 (by omega) (by omega)
      exact ⟨g,a7,s7,hg,by omega,.inl ⟨hz,c2⟩⟩
  obtain ⟨b,a6,s6,ha6,q3⟩:=ok_one code hc 30 (by decide) (by decide) a5 s5 (by omega) (by omega)
  obtain ⟨u,a7,s7,hul,ha7,hfin⟩:∃ (u:GUpdate) (a7 s7:Int),(u.Gone.length ≤ 4 ∧ u.Come.length ≤ 3 ∧ u.Attrs.Path.length ≤ 6 ∧ u.Attrs.Comms.length ≤ 6) ∧ (a6 ≤ a7 ∧ a7 ≤ a6 + 4) ∧ ((b = false ∧ u = ⟨G,g,C⟩ ∧ a7 = a6 ∧ s7 = s6) ∨ (b = true ∧ ∃ p:GPrefix,u = ⟨G ++ [p],g,C⟩ ∧ CallOK Tryz.prog 107 [.bp (curP code a6 s6)] (.agg p.c) [.bp (curP code a7 s7)])):=by
    have hGl:G.length ≤ 3:=by rw [hG]; omega
    have hCl:C.length ≤ 3:=by rw [hC]; omega
    cases b with
    | false => exact ⟨_,a6,s6,⟨by simp only; omega,by simp only; omega,hgl.1,hgl.2⟩,by omega,.inl ⟨rfl,rfl,rfl,rfl⟩⟩
    | true =>
      obtain ⟨p,b1,t1,hb1,c1⟩:=ok_prefix code hc a6 s6 (by omega) (by omega)
      exact ⟨_,b1,t1,⟨by simp only [List.length_append,List.length_singleton]; omega,by simp only; omega,hgl.1,hgl.2⟩,by omega,.inr ⟨rfl,p,rfl,c1⟩⟩
  refine ⟨u,a7,s7,hul,by omega,?_⟩
  refine okS (fn:=Tryz.f94) [(93,[1]),(106,[1]),(148,[1]),(107,[1]),(149,[1]),(123,[2,0])] h0 Tryz.func94 (by kernel_rfl) rfl Tryz.ntmps94 Tryz.results94 (by simp) ?_
  unfold curP at q1 q2 q3 runR ronR hA hfin ⊢
  simp
  refine Inv_intro q1 ?_
  simp
  refine loopS [0,2,3,4] [.arg 0 0,.op 0 0 0,.op 1 1 0] (fun m st => ∃ (i:Nat),i + m = N ∧ st = ⟨slOf 59 [(0,.ptr ⟨.arg 0 0,[]⟩ 0),(2,.ptr ⟨.op 0 0 0,[]⟩ 0),(3,.ptr ⟨.op 1 1 0,[]⟩ 0),(4,.t (pi m))],ofL [(.arg 0 0,.sl 0 129 1 [rd 1 code.length (code.map pu),pi (run i).2.1,.raw (.int .u64 (run i).2.2)]),(.op 0 0 0,.sl 0 54 1 [.sl 0 nilE 0 [],pi 0,.sl 0 nilE 0 [],pi 0,pi 0,pi 0,.sl 0 nilE 0 [],.sl 0 nilE 0 []]),(.op 1 1 0,.sl 0 54 1 [.sl 0 (if i = 0 then nilE else 77) (run i).1.length ((run i).1.flatMap GPrefix.c),pi 0,.sl 0 nilE 0 [],pi 0,pi 0,pi 0,.sl 0 nilE 0 [],.sl 0 nilE 0 []])]⟩) N ?_ ?_
  · rintro Inv hI
    simp
    subst hI
    exact ⟨0,by omega,by rw [run0]; rfl⟩
  · rintro Inv hI m st ⟨i,hi,rfl⟩
    refine ewr_sound (M:=[(93,[1]),(106,[1]),(148,[1]),(107,[1]),(149,[1]),(123,[2,0])]) h0 ?_
    by_cases c:0 < m
    · obtain ⟨g1,g1',g2,g3⟩:=runI i (by omega)
      obtain ⟨p,k1,k2⟩:=runR i (by omega)
      have c':(0:Int) < (m:Int):=by omega
      have w2:IntKind.i64.wrap ((m:Int) - 1) = ((m - 1:Nat):Int):=by rw [wrap64 (by omega) (by omega)]; omega
      simp [c,c']
      by_cases hi0:i = 0
      · subst hi0
        rw [run0] at k1 k2
        simp only [run0,List.length_nil,List.flatMap_nil] at k1 k2 ⊢
        simp
        refine drawP (tabEnv [(93,[1]),(106,[1]),(148,[1]),(107,[1]),(149,[1]),(123,[2,0])] _) [⟨[.op 1 1 0],allD 59,true⟩,⟨[.op 1 1 0],allD 59,true⟩,⟨[.arg 0 0],allD 59,true⟩,⟨[.arg 0 0],[14,15,16,17,18,19],false⟩,⟨[.op 1 1 0],[14,15,16,17,18,19],false⟩,⟨[.op 1 1 0],allD 59,true⟩,⟨[.op 1 1 0,.op 5 4 0],[14,15,16,17,18,19],false⟩] h0 hm (tabEnv_ok (tab_cons k2 (tab_cons (ok_l4Put0 p) tab_nil))) (by kernel_rfl) (by kernel_rfl) ?_
        simp [w2]
        refine Less_mk (m - 1) (by omega) ?_
        subst hI
        refine ⟨1,by omega,?_⟩
        rw [show putP p [] = [p] from rfl] at k1
        simp [k1]
        exact ofL_mv 2 _ _ _ (by simp)
      · generalize (run i).1 = O at g1 g1' k1 ⊢
        have hOc:=fm_len GPrefix.c 2 (fun _ => rfl) O
        have htO:List.take (O.length * 2) (O.flatMap GPrefix.c) = O.flatMap GPrefix.c:=List.take_of_length_le (by omega)
        have hO0:O ≠ []:=fun h => hi0 (g1' h)
        simp [hi0]
        refine drawP (tabEnv [(93,[1]),(106,[1]),(148,[1]),(107,[1]),(149,[1]),(123,[2,0])] _) [⟨[.op 1 1 0],allD 59,true⟩,⟨[.op 1 1 0],allD 59,true⟩,⟨[.arg 0 0],allD 59,true⟩,⟨[.arg 0 0],[14,15,16,17,18,19],false⟩,⟨[.op 1 1 0],[14,15,16,17,18,19],false⟩,⟨[.op 1 1 0],allD 59,true⟩,⟨[.op 1 1 0,.op 5 4 0],[14,15,16,17,18,19],false⟩] h0 hm (tabEnv_ok (tab_cons k2 (tab_cons (ok_l4Put O p (by omega)) tab_nil))) (by kernel_rfl) (by kernel_rfl) ?_
        simp [w2,hOc,htO,hO0]
        refine Less_mk (m - 1) (by omega) ?_
        subst hI
        refine ⟨i + 1,by omega,?_⟩
        simp [k1]
        exact ofL_mv 2 _ _ _ (by simp)
    · have hm0:m = 0:=by omega
      have hiN:i = N:=by omega
      subst hm0
      subst hiN
      rw [← hG,← ha2',← hs2]
      obtain ⟨eG,heG⟩:∃ e,e = (if i = 0 then nilE else 77):=⟨_,rfl⟩
      have hGc:=fm_len GPrefix.c 2 (fun _ => rfl) G
      obtain ⟨hzG,htG,hoG,qG⟩:(G.length * tsz Tryz.prog eG ≤ G.length * 2 ∧ 0 < tsz Tryz.prog eG ∨ G = []) ∧ List.take (G.length * tsz Tryz.prog eG) (G.flatMap GPrefix.c) = G.flatMap GPrefix.c ∧ (eG = 77 ∨ eG = nilE) ∧ (eG = nilE ∧ G = [] ∨ eG = 77):=by
        by_cases hi0:i = 0
        · have hGn:G = []:=List.eq_nil_of_length_eq_zero (by rw [hG]; omega)
          rw [heG,if_pos hi0,hGn]
          simp
        · rw [heG,if_neg hi0]
          have:=List.take_of_length_le (Nat.le_of_eq hGc)
          simp [this]
      have hzG':G.length * tsz Tryz.prog eG ≤ G.length * 2 ∧ 0 < tsz Tryz.prog eG ∨ ∀ (x:GPrefix),¬ x ∈ G:=hzG.imp id fun h x => by rw [h]; simp
      rw [← heG]
      have hGl:G.length ≤ 3:=by rw [hG]; omega
      clear runI runR run0 e1 e1' e2 e3 q1
      simp
      refine Inv_intro q2 ?_
      simp
      refine loopS [0,2,3,5] [.arg 0 0,.op 0 0 0,.op 1 1 0] (fun m st => ∃ (i:Nat),i + m = K ∧ st = ⟨slOf 59 [(0,.ptr ⟨.arg 0 0,[]⟩ 0),(2,.ptr ⟨.op 0 0 0,[]⟩ 0),(3,.ptr ⟨.op 1 1 0,[]⟩ 0),(5,.t (pi m))],ofL [(.arg 0 0,.sl 0 129 1 [rd 1 code.length (code.map pu),pi (ron i).2.1,.raw (.int .u64 (ron i).2.2)]),(.op 0 0 0,.sl 0 54 1 [.sl 0 nilE 0 [],pi 0,.sl 0 nilE 0 [],pi 0,pi 0,pi 0,.sl 0 nilE 0 [],.sl 0 nilE 0 []]),(.op 1 1 0,.sl 0 54 1 [.sl 0 eG G.length (G.flatMap GPrefix.c),pi 0,.sl 0 nilE 0 [],pi 0,pi 0,pi 0,.sl 0 nilE 0 [],.sl 0 (if (ron i).1 = [] then nilE else 77) (ron i).1.length ((ron i).1.flatMap GPrefix.c)])]⟩) K ?_ ?_
      · rintro Inv hI
        simp
        subst hI
        exact ⟨0,by omega,by rw [ron0]; rfl⟩
      · rintro Inv hI m st ⟨i,hi,rfl⟩
        refine ewr_sound (M:=[(93,[1]),(106,[1]),(148,[1]),(107,[1]),(149,[1]),(123,[2,0])]) h0 ?_
        by_cases c:0 < m
        · obtain ⟨g1,g2,g3⟩:=ronI i (by omega)
          obtain ⟨p,k1,k2⟩:=ronR i (by omega)
          have c':(0:Int) < (m:Int):=by omega
          have w2:IntKind.i64.wrap ((m:Int) - 1) = ((m - 1:Nat):Int):=by rw [wrap64 (by omega) (by omega)]; omega
          generalize (ron i).1 = O at g1 k1 ⊢
          have hOc:=fm_len GPrefix.c 2 (fun _ => rfl) O
          have htO:List.take (O.length * 2) (O.flatMap GPrefix.c) = O.flatMap GPrefix.c:=List.take_of_length_le (by omega)
          obtain ⟨eO,heO⟩:∃ e,e = (if O = [] then nilE else 77):=⟨_,rfl⟩
          rw [← heO]
          simp [c,c']
          refine Inv_intro k2 ?_
          simp [hzG,htG]
          refine Inv_intro (ok_l4In 0 G p (by omega)) ?_
          by_cases hpG:p ∈ G
          · rw [if_pos hpG] at k1
            simp [hpG,w2]
            refine Less_mk (m - 1) (by omega) ?_
            subst hI
            refine ⟨i + 1,by omega,?_⟩
            rw [k1,heO]
          · rw [if_neg hpG] at k1
            by_cases hO0:O = []
            · subst hO0
              rw [show putP p [] = [p] from rfl] at k1
              simp at heO
              subst heO
              simp [hpG]
              refine Inv_intro (ok_l4Put0 p) ?_
              simp [w2]
              refine Less_mk (m - 1) (by omega) ?_
              subst hI
              refine ⟨i + 1,by omega,?_⟩
              rw [k1]
              simp
            · rw [if_neg hO0] at heO
              subst heO
              simp [hpG,hO0,hOc,htO]
              refine Inv_intro (ok_l4Put O p (by omega)) ?_
              simp [w2]
              refine Less_mk (m - 1) (by omega) ?_
              subst hI
              refine ⟨i + 1,by omega,?_⟩
              rw [k1]
              simp [putP_ne]
        · have hm0:m = 0:=by omega
          have hiK:i = K:=by omega
          subst hm0
          subst hiK
          rw [← hC,← ha4,← hs4]
          obtain ⟨eC,heC⟩:∃ e,e = (if C = [] then nilE else 77):=⟨_,rfl⟩
          have hCc:=fm_len GPrefix.c 2 (fun _ => rfl) C
          have hTC:=List.take_of_length_le (Nat.le_of_eq hCc)
          have hCl:C.length ≤ 3:=by rw [hC]; omega
          have hTP:List.take g.Path.length (g.Path.map pi) = g.Path.map pi:=List.take_of_length_le (by rw [List.length_map]; exact Nat.le_refl _)
          have hTQ:List.take g.Comms.length (g.Comms.map pi) = g.Comms.map pi:=List.take_of_length_le (by rw [List.length_map]; exact Nat.le_refl _)
          clear ronI ronR ron0 f1 f2 f3
          rcases hA with ⟨hz,c1⟩ | ⟨hz,b0,a8,s8,c0,hA⟩
          · rw [if_neg hz] at heC
            have hz':0 < C.length:=List.length_pos_iff.2 hz
            subst heC
            simp [hz,hz',hCc,hTC]
            refine Inv_intro c1 ?_
            simp
            refine Inv_intro q3 ?_
            rcases hfin with ⟨rfl,rfl,rfl,rfl⟩ | ⟨rfl,p,rfl,c2⟩
            · simp [hzG',htG,qG,hz,hCc,hTC,hTP,hTQ]
              exact qG.imp (fun h => ⟨h.1,h.2,by rw [h.2]; simp,h.2,by rw [h.2]; simp⟩) id
            · have hb1:(G.length + 1) * 16 ≤ 140737488355328:=by omega
              have hb2:G.length ≤ 9223372036854775806:=by omega
              simp
              refine drawP (tabEnv [(93,[1]),(106,[1]),(148,[1]),(107,[1]),(149,[1]),(123,[2,0])] _) [⟨[.op 1 1 0],allD 59,true⟩,⟨[.op 1 1 0],allD 59,true⟩,⟨[.arg 0 0],allD 59,true⟩,⟨[.arg 0 0],[51,52,53,54,55,56,57],false⟩,⟨[],allD 59,false⟩,⟨[.op 1 1 0,.op 15 4 0],[51,52,53,54,55,56,57],false⟩,⟨[.op 1 1 0],allD 59,true⟩,⟨[.op 1 1 0,.op 15 4 0,.op 15 5 0],[51,52,53,54,55,56,57],false⟩] h0 hm (tabEnv_ok (tab_cons c2 tab_nil)) (by kernel_rfl) (by kernel_rfl) ?_
              simp [hzG',htG,hoG,hb1,hb2,hz,hCc,hTC,hTP,hTQ]
          · subst hz
            simp at heC
            subst heC
            simp
            refine Inv_intro c0 ?_
            rcases hA with ⟨rfl,rfl,rfl,rfl⟩ | ⟨rfl,c1⟩
            · unfold zeroA at hfin
              simp
              refine Inv_intro q3 ?_
              rcases hfin with ⟨rfl,rfl,rfl,rfl⟩ | ⟨rfl,p,rfl,c2⟩
              · simp [hzG',htG,qG]
                exact qG.imp (fun h => ⟨h.1,h.2,by rw [h.2]; simp,h.2,by rw [h.2]; simp⟩) id
              · have hb1:(G.length + 1) * 16 ≤ 140737488355328:=by omega
                have hb2:G.length ≤ 9223372036854775806:=by omega
                simp
                refine drawP (tabEnv [(93,[1]),(106,[1]),(148,[1]),(107,[1]),(149,[1]),(123,[2,0])] _) [⟨[.op 1 1 0],allD 59,true⟩,⟨[.op 1 1 0],allD 59,true⟩,⟨[.arg 0 0],allD 59,true⟩,⟨[.arg 0 0],[51,52,53,54,55,56,57],false⟩,⟨[],allD 59,false⟩,⟨[.op 1 1 0,.op 15 4 0],[51,52,53,54,55,56,57],false⟩,⟨[.op 1 1 0],allD 59,true⟩,⟨[.op 1 1 0,.op 15 4 0,.op 15 5 0],[51,52,53,54,55,56,57],false⟩] h0 hm (tabEnv_ok (tab_cons c2 tab_nil)) (by kernel_rfl) (by kernel_rfl) ?_
                simp [hzG',htG,hoG,hb1,hb2]
            · simp
              refine Inv_intro c1 ?_
              simp
              refine Inv_intro q3 ?_
              rcases hfin with ⟨rfl,rfl,rfl,rfl⟩ | ⟨rfl,p,rfl,c2⟩
              · simp [hzG',htG,qG,hTP,hTQ]
                exact qG.imp (fun h => ⟨h.1,h.2,by rw [h.2]; simp,h.2,by rw [h.2]; simp⟩) id
              · have hb1:(G.length + 1) * 16 ≤ 140737488355328:=by omega
                have hb2:G.length ≤ 9223372036854775806:=by omega
                simp
                refine drawP (tabEnv [(93,[1]),(106,[1]),(148,[1]),(107,[1]),(149,[1]),(123,[2,0])] _) [⟨[.op 1 1 0],allD 59,true⟩,⟨[.op 1 1 0],allD 59,true⟩,⟨[.arg 0 0],allD 59,true⟩,⟨[.arg 0 0],[51,52,53,54,55,56,57],false⟩,⟨[],allD 59,false⟩,⟨[.op 1 1 0,.op 15 4 0],[51,52,53,54,55,56,57],false⟩,⟨[.op 1 1 0],allD 59,true⟩,⟨[.op 1 1 0,.op 15 4 0,.op 15 5 0],[51,52,53,54,55,56,57],false⟩] h0 hm (tabEnv_ok (tab_cons c2 tab_nil)) (by kernel_rfl) (by kernel_rfl) ?_
                simp [hzG',htG,hoG,hb1,hb2,hTP,hTQ]
theorem ok_IndexFunc_Prefix (k q g:Nat) (caps:List (List PT)) (p:GPrefix → Bool) (xs:List GPrefix) (ha:xs.length ≤ 140737488351232)
    (hg:∀ x ∈ xs,CallOK Tryz.prog g (.agg (GPrefix.c x) :: caps.map (PV.ip q)) (.c (pb (p x))) (.agg (GPrefix.c x) :: caps.map (PV.ip q))) :
    CallOK Tryz.prog 174 [.c (rd k xs.length (xs.flatMap GPrefix.c)),.c (.fn q g caps)] (.c (pi (idxOf p xs))) [.c (rd k xs.length (xs.flatMap GPrefix.c)),.c (.fn q g caps)]:=by
  refine okS (fn:=Tryz.f174) [] h0 Tryz.func174 (by kernel_rfl) rfl Tryz.ntmps174 Tryz.results174 (by simp) ?_
  simp
  refine loopS [0,1,7,8] [] (fun n st => ∃ (i:Nat),i + n = xs.length ∧ (∀ (j:Nat) (hj:j < i) (hj':j < xs.length),p xs[j] = false) ∧ st = ⟨slOf 19 [(0,.t (rd k xs.length (xs.flatMap GPrefix.c))),(1,.t (.fn q g caps)),(7,.t (pi xs.length)),(8,.t (pi i))],ofL []⟩) xs.length ?_ ?_
  · rintro Inv hI
    simp
    subst hI
    exact ⟨0,by omega,by intro j hj; omega,rfl⟩
  · rintro Inv hI n st ⟨i,hi,hall,rfl⟩
    refine ewr_sound (M:=[]) h0 ?_
    simp
    refine brn_app (fun h => ?_) (fun h => ?_)
    · simp at h
      have hd:=fm_drop GPrefix.c 2 (fun _ => rfl) xs i h
      have hlen:=fm_len GPrefix.c 2 (fun _ => rfl) xs
      have hlt:i * 2 < xs.length * 2:=by omega
      simp [h,hd,hlen,hlt]
      refine Inv_intro (hg _ (List.getElem_mem h)) ?_
      simp
      refine brn_app (fun h2 => ?_) (fun h2 => ?_)
      · simp
        exact (idxOf_hit p xs i h h2 fun j hj => hall j hj (by omega)).symm
      · simp
        subst hI
        refine Less_mk (n - 1) (by omega) ⟨i + 1,by omega,?_,by rw [wrNext i (by omega)]⟩
        intro j hj hj'
        by_cases hji:j = i
        · subst hji; exact h2
        · exact hall j (by omega) hj'
    · simp at h
      simp
      exact (idxOf_no p xs fun j hj => hall j (by omega) hj).symm
end Go.V
