/- What functions of the seat's program do, each proved of its code, under the bounds that its theorem names. -/
import Derived.Test.YtcmdgenpipojpaaGreatTae
set_option linter.all false
namespace Go.V
open Go.Proofs
set_option maxHeartbeats 1000000
set_option maxRecDepth 10000
set_option linter.unusedSimpArgs false
set_option linter.unusedVariables false
set_option maxHeartbeats 4000000 in
theorem ok_changed (code:List Int) (hc:codeOK code) (l:List GRoute) (hlD:rsD l) (a s:Int) (ha:0 ≤ a) (ha2:a ≤ 3990000):∃ (o:List GRoute) (a' s':Int),rsD o ∧ (a ≤ a' ∧ a' ≤ a + 500) ∧ CallOKL Tryz.prog 19 [.bp (curP code a s),.c (rd 0 l.length (l.flatMap (GRoute.ci 0)))] (.c (rd 0 o.length (o.flatMap (GRoute.ci 0)))) [.bp (curP code a' s'),.c (rd 0 l.length (l.flatMap (GRoute.ci 0)))]:=by
  obtain ⟨hl20,hlr⟩:=hlD
  obtain ⟨run,run0,runI,runR⟩:=exists_run (α:=Nat × (List GRoute × List PT) × Int × Int) l.length (0,([],[]),a,s) (fun i x => x.1 = i ∧ x.2.1.1.length ≤ i ∧ (∀ r ∈ x.2.1.1,rD r) ∧ (x.2.1.2.map frzDC = x.2.1.1.flatMap (GRoute.ci 0) ∧ x.2.1.2.length = x.2.1.1.length * 8) ∧ a ≤ x.2.2.1 ∧ x.2.2.1 ≤ a + 21 * i)
    (fun x y => ∃ (n b t:Int),CallOK Tryz.prog 18 [.bp (curP code x.2.2.1 x.2.2.2),.c (pi 5)] (.c (pi n)) [.bp (curP code b t),.c (pi 5)] ∧ ((n = 0 ∧ y.2 = (x.2.1,b,t)) ∨ (n = 1 ∧ ∃ (g:GAttrs) (r:GRoute),(g.Path.length ≤ 6 ∧ g.Comms.length ≤ 6) ∧ l[x.1]? = some r ∧ CallOK Tryz.prog 54 [.bp (curP code b t)] (.agg (GAttrs.co g)) [.bp (curP code y.2.2.1 y.2.2.2)] ∧ y.2.1 = (x.2.1.1 ++ [⟨r.Prefix,if goodA g = true then g else r.Attrs⟩],x.2.1.2 ++ (if goodA g = true then GRoute.co ⟨r.Prefix,g⟩ else GRoute.ci 0 r))) ∨ ((n ≠ 0 ∧ n ≠ 1) ∧ ∃ r:GRoute,l[x.1]? = some r ∧ y.2 = ((x.2.1.1 ++ [r],x.2.1.2 ++ GRoute.ci 0 r),b,t))))
    ⟨rfl,by simp,by simp,by simp,by simp,by simp⟩ (by
      rintro i ⟨j,⟨o,X⟩,b,t⟩ hi ⟨g1,g2,g3,⟨gx,gy⟩,g4,g5⟩
      simp only at g1 g2 g3 gx gy g4 g5
      have hco:∀ r:GRoute,(GRoute.co r).map frzDC = GRoute.ci 0 r:=fun r => by simp [frzDC,rd,unown_pi]
      have hci:∀ r:GRoute,(GRoute.ci 0 r).map frzDC = GRoute.ci 0 r:=fun r => by simp [frzDC,rd]
      subst g1
      obtain ⟨n,b1,t1,hn,hb1,c1⟩:=ok_pick code hc 5 (by decide) (by decide) b t (by omega) (by omega)
      have hr:l[j]? = some l[j]:=List.getElem?_eq_getElem hi
      have hrD:=hlr _ (List.getElem_mem hi)
      have happ:∀ r:GRoute,rD r → ∀ v ∈ o ++ [r],rD v:=by
        intro r hr v hv
        rcases List.mem_append.1 hv with h | h
        · exact g3 v h
        · rw [List.mem_singleton.1 h]; exact hr
      by_cases h0:n = 0
      · exact ⟨(j + 1,(o,X),b1,t1),⟨n,b1,t1,c1,.inl ⟨h0,rfl⟩⟩,rfl,by simp only; omega,g3,⟨gx,gy⟩,by simp only; omega,by simp only; omega⟩
      · by_cases h1:n = 1
        · obtain ⟨g,b2,t2,hg,hb2,c2⟩:=ok_attrs code hc b1 t1 (by omega) (by omega)
          refine ⟨(j + 1,(o ++ [⟨l[j].Prefix,if goodA g = true then g else l[j].Attrs⟩],X ++ (if goodA g = true then GRoute.co ⟨l[j].Prefix,g⟩ else GRoute.ci 0 l[j])),b2,t2),⟨n,b1,t1,c1,.inr (.inl ⟨h1,g,l[j],hg,hr,c2,rfl⟩)⟩,rfl,by simp only [List.length_append,List.length_singleton]; omega,happ _ ?_,⟨?_,?_⟩,by simp only; omega,by simp only; omega⟩
          · unfold rD
            simp only
            split
            · exact hg
            · exact hrD
          · simp only [List.map_append,List.flatMap_append,gx]
            congr 1
            split
            · rw [hco]; simp
            · rw [hci]; simp
          · simp only [List.length_append,gy,List.length_singleton]
            split <;> simp <;> omega
        · exact ⟨(j + 1,(o ++ [l[j]],X ++ GRoute.ci 0 l[j]),b1,t1),⟨n,b1,t1,c1,.inr (.inr ⟨⟨h0,h1⟩,l[j],hr,rfl⟩)⟩,rfl,by simp only [List.length_append,List.length_singleton]; omega,happ _ hrD,⟨by simp only [List.map_append,List.flatMap_append,gx,hci]; simp,by simp only [List.length_append,gy,List.length_singleton,GRoute.len_i]; omega⟩,by simp only; omega,by simp only; omega⟩)
  obtain ⟨e0,e1,e2,⟨ex,ey⟩,e3,e4⟩:=runI l.length (Nat.le_refl _)
  obtain ⟨L,hL⟩:∃ L,L = (run l.length).2.1.1:=⟨_,rfl⟩
  obtain ⟨X,hX⟩:∃ X,X = (run l.length).2.1.2:=⟨_,rfl⟩
  obtain ⟨a4,ha4⟩:∃ a4,a4 = (run l.length).2.2.1:=⟨_,rfl⟩
  obtain ⟨s4,hs4⟩:∃ s4,s4 = (run l.length).2.2.2:=⟨_,rfl⟩
  rw [← hL] at e1 e2
  rw [← hL,← hX] at ex ey
  rw [← ha4] at e3 e4
  obtain ⟨o,a5,s5,ho,ha5,hfin⟩:∃ (o:List GRoute) (a5 s5:Int),rsD o ∧ (a4 ≤ a5 ∧ a5 ≤ a4 + 4) ∧ ((¬ L.length < 20 ∧ o = L ∧ a5 = a4 ∧ s5 = s4) ∨ (L.length < 20 ∧ ∃ p:GPrefix,o = putU ⟨p,⟨0,[3],0,0,100,[]⟩⟩ L ∧ CallOK Tryz.prog 57 [.bp (curP code a4 s4)] (.agg p.c) [.bp (curP code a5 s5)])):=by
    by_cases hz:L.length < 20
    · obtain ⟨p,a6,s6,hp,ha6,c1⟩:=ok_fine code hc a4 s4 (by omega) (by omega)
      refine ⟨_,a6,s6,⟨?_,?_⟩,by omega,.inr ⟨hz,p,rfl,c1⟩⟩
      · have:=putU_len ⟨p,⟨0,[3],0,0,100,[]⟩⟩ L
        omega
      · intro v hv
        rcases mem_putU hv with h | h
        · rw [h]; exact ⟨by simp,by simp⟩
        · exact e2 v h
    · exact ⟨L,a4,s4,⟨by omega,e2⟩,by omega,.inl ⟨hz,rfl,rfl,rfl⟩⟩
  refine ⟨o,a5,s5,ho,by omega,?_⟩
  refine okL (fn:=Tryz.f19) h0 Tryz.func19 (by kernel_rfl) rfl Tryz.ntmps19 Tryz.results19 (by simp) ?_
  unfold curP at runR hfin ⊢
  refine ewrN_cutL (M:=[]) h0 2 [0,1,5] [] ⟨slOf 43 [(0,.ptr ⟨.arg 0 0,[]⟩ 0),(1,.t (rd 0 l.length (l.flatMap (GRoute.ci 0)))),(5,.t (.sl 0 nilE 0 []))],ofL [(.arg 0 0,.sl 0 49 1 [rd 1 code.length (code.map pu),pi a,.raw (.int .u64 s)])]⟩ ?_ ?_
  · simp only [Code.rest]
    refine ewpL_nil 5 (.op 11 3 0) 56 (by decide) rfl rfl rfl ?_
    refine ewpL_cut (st1:=⟨slOf 43 [(0,.ptr ⟨.arg 0 0,[]⟩ 0),(5,.ref ⟨.op 11 3 0,[]⟩ 0 L.length)],ofL [(.op 11 3 0,.sl 0 56 L.length X),(.arg 0 0,.sl 0 49 1 [rd 1 code.length (code.map pu),pi a4,.raw (.int .u64 s4)])]⟩) [0,5] [.op 11 3 0] ?_ ?_
    · intro KQ hKn hKe
      refine ewrN_cutL (M:=[]) h0 1 [0,5,9,10,11] [.op 11 3 0] ⟨slOf 43 [(0,.ptr ⟨.arg 0 0,[]⟩ 0),(5,.ref ⟨.op 11 3 0,[]⟩ 0 0),(9,.t (rd 0 l.length (l.flatMap (GRoute.ci 0)))),(10,.t (pi l.length)),(11,.t (pi 0))],ofL [(.op 11 3 0,.sl 0 56 0 []),(.arg 0 0,.sl 0 49 1 [rd 1 code.length (code.map pu),pi a,.raw (.int .u64 s)])]⟩ ?_ (by
        intro KR hRn
        simp
        refine hRn _ ?_
        simp)
      simp only [Code.rest]
      refine ewpL_block ?_
      refine loopL [0,5,9,10,11] [.op 11 3 0] (fun m st => ∃ (i:Nat),i + m = l.length ∧ st = ⟨slOf 43 [(0,.ptr ⟨.arg 0 0,[]⟩ 0),(5,.ref ⟨.op 11 3 0,[]⟩ 0 (run i).2.1.1.length),(9,.t (rd 0 l.length (l.flatMap (GRoute.ci 0)))),(10,.t (pi l.length)),(11,.t (pi i))],ofL [(.op 11 3 0,.sl 0 56 (run i).2.1.1.length (run i).2.1.2),(.arg 0 0,.sl 0 49 1 [rd 1 code.length (code.map pu),pi (run i).2.2.1,.raw (.int .u64 (run i).2.2.2)])]⟩) l.length ?_ ?_
      · rintro Inv hI
        simp
        subst hI
        exact ⟨0,by omega,by rw [run0]; rfl⟩
      · rintro Inv hI m st ⟨i,hi,rfl⟩
        refine ewrL_sound (M:=[(18,[1]),(54,[1])]) h0 ?_
        by_cases c:i < l.length
        · obtain ⟨f0,f1,f2,⟨fx,fy⟩,f3,f4⟩:=runI i (by omega)
          obtain ⟨n,b,t,c1,hcs⟩:=runR i (by omega)
          rw [f0] at hcs
          have hri:∀ r,l[i]? = some r → r = l[i]:=fun r h => by rw [List.getElem?_eq_getElem c] at h; exact (Option.some.inj h).symm
          have c':(i:Int) < l.length:=by omega
          have hd:=fm_drop (GRoute.ci 0) 8 (fun _ => rfl) l i c
          have hlen:=fm_len (GRoute.ci 0) 8 (fun _ => rfl) l
          have hlt:i * 8 < l.length * 8:=by omega
          have hle:i * 8 + 8 ≤ l.length * 8:=by omega
          have w2:=wrNext i (by omega)
          obtain ⟨o0,ho0⟩:∃ o0,o0 = (run i).2.1.1:=⟨_,rfl⟩
          obtain ⟨X0,hX0⟩:∃ X0,X0 = (run i).2.1.2:=⟨_,rfl⟩
          rw [← ho0] at f1 f2
          rw [← ho0,← hX0] at fx fy hcs ⊢
          have hb1:(o0.length + 1) * 96 ≤ 140737488355328:=by omega
          have hb2:o0.length ≤ 9223372036854775806:=by omega
          have hmt:List.take (o0.length * 8) X0 = X0:=List.take_of_length_le (by omega)
          simp [c,c',hd,hlen,hlt,hle]
          refine InvX_intro c1 ?_
          rcases hcs with ⟨rfl,hy⟩ | ⟨rfl,g,r,hg,hr,c2,hy⟩ | ⟨⟨n0,n1⟩,r,hr,hy⟩
          · simp [w2]
            subst hI
            refine Less_mk (m - 1) (by omega) ⟨i + 1,by omega,?_⟩
            simp [hy,ho0,hX0]
          · have hr':=hri r hr
            subst hr'
            have hTP:List.take g.Path.length (g.Path.map pi) = g.Path.map pi:=List.take_of_length_le (by rw [List.length_map]; exact Nat.le_refl _)
            have hTQ:List.take g.Comms.length (g.Comms.map pi) = g.Comms.map pi:=List.take_of_length_le (by rw [List.length_map]; exact Nat.le_refl _)
            have hgA2:=ok_sGoodAttrs 0 g ⟨by omega,by omega⟩
            simp
            refine InvX_intro c2 ?_
            simp [hTP,hTQ]
            refine InvX_intro hgA2 ?_
            cases hgd:goodA g with
            | true =>
              simp [hb1,hb2,fy,hmt,w2,hTP,hTQ]
              subst hI
              refine Less_mk (m - 1) (by omega) ⟨i + 1,by omega,?_⟩
              rw [hy]
              simp [hgd]
            | false =>
              simp [hb1,hb2,fy,hmt,w2]
              subst hI
              refine Less_mk (m - 1) (by omega) ⟨i + 1,by omega,?_⟩
              rw [hy]
              simp [hgd]
          · have hr':=hri r hr
            subst hr'
            simp [n0,n1,hb1,hb2,fy,hmt,w2]
            subst hI
            refine Less_mk (m - 1) (by omega) ⟨i + 1,by omega,?_⟩
            rw [hy]
            simp
        · have hil:i = l.length:=by omega
          subst hil
          rw [← hL,← hX,← ha4,← hs4]
          simp
          refine hKn _ ?_
          simp
    · by_cases hz:L = []
      · have hX0:X = L.flatMap (GRoute.ci 0):=by
          rw [hz] at ey ⊢
          simpa using List.eq_nil_of_length_eq_zero ey
        rw [hX0]
        rcases hfin with ⟨hz20,rfl,rfl,rfl⟩ | ⟨hz20,p,rfl,c1⟩
        · have hz20i:¬ (o.length:Int) < 20:=by omega
          refine ewrN_cutL (M:=[]) h0 1 [0,5] [.op 11 3 0] ⟨slOf 43 [(0,.ptr ⟨.arg 0 0,[]⟩ 0),(5,.ref ⟨.op 11 3 0,[]⟩ 0 o.length)],ofL [(.op 11 3 0,.sl 0 56 o.length (o.flatMap (GRoute.ci 0))),(.arg 0 0,.sl 0 49 1 [rd 1 code.length (code.map pu),pi a5,.raw (.int .u64 s5)])]⟩ ?_ (by
            intro KR hRn
            simp [hz20,hz20i]
            refine hRn _ ?_
            simp)
          simp only [Code.rest]
          refine ewpL_lendRow (.op 11 3 0) rfl 5 (e:=56) (m:=o.length) (cs:=o.flatMap (GRoute.ci 0)) (by decide) (by simp) (by simp) (fun h => by rw [List.eq_nil_of_length_eq_zero h]; rfl) ?_
          rw [GRoute.uni]
          refine ewrL_sound (M:=[]) h0 ?_
          simp
        · have hz20i:(L.length:Int) < 20:=by omega
          have hput:=ok_l14PutM L ⟨p,⟨0,[3],0,0,100,[]⟩⟩ (by omega)
          refine ewrN_cutL (M:=[(57,[1]),(56,[2,2])]) h0 1 [0,5] [.op 14 6 0] ⟨slOf 43 [(0,.ptr ⟨.arg 0 0,[]⟩ 0),(5,.ref ⟨.op 14 6 0,[]⟩ 0 (putU ⟨p,⟨0,[3],0,0,100,[]⟩⟩ L).length)],ofL [(.arg 0 0,.sl 0 49 1 [rd 1 code.length (code.map pu),pi a5,.raw (.int .u64 s5)]),(.op 14 6 0,.sl 0 56 (putU ⟨p,⟨0,[3],0,0,100,[]⟩⟩ L).length (putUC ⟨p,⟨0,[3],0,0,100,[]⟩⟩ L))]⟩ ?_ (by
            intro KR hRn
            simp [hz20,hz20i]
            refine InvX_intro c1 ?_
            simp
            refine InvX_intro hput ?_
            simp
            refine hRn _ ?_
            simp)
          simp only [Code.rest]
          refine ewpL_lendRow (.op 14 6 0) rfl 5 (e:=56) (m:=(putU ⟨p,⟨0,[3],0,0,100,[]⟩⟩ L).length) (cs:=putUC ⟨p,⟨0,[3],0,0,100,[]⟩⟩ L) (by decide) (by simp) (by simp) (fun h => by simp [putU] at h) ?_
          rw [putUC_un _ rfl]
          refine ewrL_sound (M:=[]) h0 ?_
          simp
      · refine ewpL_freeze (.op 11 3 0) rfl (e:=56) (n:=L.length) (cs:=X) (by simp) (List.length_pos_iff.2 hz) ?_
        simp
        rw [ex]
        rcases hfin with ⟨hz20,rfl,rfl,rfl⟩ | ⟨hz20,p,rfl,c1⟩
        · have hz20i:¬ (o.length:Int) < 20:=by omega
          refine ewrN_cutL (M:=[]) h0 1 [0,5] [.op 11 3 0] ⟨slOf 43 [(0,.ptr ⟨.arg 0 0,[]⟩ 0),(5,.ref ⟨.op 11 3 0,[]⟩ 0 o.length)],ofL [(.op 11 3 0,.sl 0 56 o.length (o.flatMap (GRoute.ci 0))),(.arg 0 0,.sl 0 49 1 [rd 1 code.length (code.map pu),pi a5,.raw (.int .u64 s5)])]⟩ ?_ (by
            intro KR hRn
            simp [hz20,hz20i]
            refine hRn _ ?_
            simp)
          simp only [Code.rest]
          refine ewpL_lendRow (.op 11 3 0) rfl 5 (e:=56) (m:=o.length) (cs:=o.flatMap (GRoute.ci 0)) (by decide) (by simp) (by simp) (fun h => by rw [List.eq_nil_of_length_eq_zero h]; rfl) ?_
          rw [GRoute.uni]
          refine ewrL_sound (M:=[]) h0 ?_
          simp
        · have hz20i:(L.length:Int) < 20:=by omega
          have hput:=ok_l14PutM L ⟨p,⟨0,[3],0,0,100,[]⟩⟩ (by omega)
          refine ewrN_cutL (M:=[(57,[1]),(56,[2,2])]) h0 1 [0,5] [.op 14 6 0] ⟨slOf 43 [(0,.ptr ⟨.arg 0 0,[]⟩ 0),(5,.ref ⟨.op 14 6 0,[]⟩ 0 (putU ⟨p,⟨0,[3],0,0,100,[]⟩⟩ L).length)],ofL [(.arg 0 0,.sl 0 49 1 [rd 1 code.length (code.map pu),pi a5,.raw (.int .u64 s5)]),(.op 14 6 0,.sl 0 56 (putU ⟨p,⟨0,[3],0,0,100,[]⟩⟩ L).length (putUC ⟨p,⟨0,[3],0,0,100,[]⟩⟩ L))]⟩ ?_ (by
            intro KR hRn
            simp [hz20,hz20i]
            refine InvX_intro c1 ?_
            simp
            refine InvX_intro hput ?_
            simp
            refine hRn _ ?_
            simp)
          simp only [Code.rest]
          refine ewpL_lendRow (.op 14 6 0) rfl 5 (e:=56) (m:=(putU ⟨p,⟨0,[3],0,0,100,[]⟩⟩ L).length) (cs:=putUC ⟨p,⟨0,[3],0,0,100,[]⟩⟩ L) (by decide) (by simp) (by simp) (fun h => by simp [putU] at h) ?_
          rw [putUC_un _ rfl]
          refine ewrL_sound (M:=[]) h0 ?_
          simp
  · intro K hK
    simp
    refine hK _ ?_
    simp
theorem ok_DrawTellFrom (code:List Int) (hc:codeOK code):∃ (x y:List GRoute),(rsD x ∧ rsD y) ∧ CallOKL Tryz.prog 4 [.c (rd 1 code.length (code.map pu))] (.tup [.c (rd 0 x.length (x.flatMap (GRoute.ci 0))),.c (rd 0 y.length (y.flatMap (GRoute.ci 0)))]) [.c (rd 1 code.length (code.map pu))]:=by
  obtain ⟨l,a1,s1,hl,ha1,q1⟩:=ok_told code hc 0 0 (by decide) (by decide)
  obtain ⟨n,a2,s2,hn,ha2,q2⟩:=ok_pick code hc 6 (by decide) (by decide) a1 s1 (by omega) (by omega)
  by_cases hz0:n = 0
  · refine ⟨l,l,⟨hl,hl⟩,?_⟩
    refine okL (fn:=Tryz.f4) h0 Tryz.func4 (by kernel_rfl) rfl Tryz.ntmps4 Tryz.results4 (by simp) ?_
    unfold curP at q1 q2
    refine ewrL_sound (M:=[(17,[1]),(18,[1]),(19,[1,0])]) h0 ?_
    simp
    refine InvX_lent q1 rfl ?_
    simp
    refine InvX_intro q2 ?_
    simp [hz0]
  · by_cases h12:n = 1 ∨ n = 2
    · obtain ⟨m,a3,s3,hm,ha3,q3⟩:=ok_told code hc a2 s2 (by omega) (by omega)
      refine ⟨l,m,⟨hl,hm⟩,?_⟩
      refine okL (fn:=Tryz.f4) h0 Tryz.func4 (by kernel_rfl) rfl Tryz.ntmps4 Tryz.results4 (by simp) ?_
      unfold curP at q1 q2 q3
      refine ewrL_sound (M:=[(17,[1]),(18,[1]),(19,[1,0])]) h0 ?_
      simp
      refine InvX_lent q1 rfl ?_
      simp
      refine InvX_intro q2 ?_
      rcases h12 with rfl | rfl
      · simp
        refine InvX_lent q3 rfl ?_
        simp
      · simp
        refine InvX_lent q3 rfl ?_
        simp
    · obtain ⟨m,a3,s3,hm,ha3,q3⟩:=ok_changed code hc l hl a2 s2 (by omega) (by omega)
      refine ⟨l,m,⟨hl,hm⟩,?_⟩
      refine okL (fn:=Tryz.f4) h0 Tryz.func4 (by kernel_rfl) rfl Tryz.ntmps4 Tryz.results4 (by simp) ?_
      unfold curP at q1 q2 q3
      refine ewrL_sound (M:=[(17,[1]),(18,[1]),(19,[1,0])]) h0 ?_
      simp
      refine InvX_lent q1 rfl ?_
      simp
      refine InvX_intro q2 ?_
      have h1:¬ n = 1:=fun h => h12 (.inl h)
      have h2:¬ n = 2:=fun h => h12 (.inr h)
      simp [hz0,h1,h2]
      refine InvX_lent q3 rfl ?_
      simp
def putP (p:GPrefix):List GPrefix → List GPrefix
  | [] => [p]
  | x :: l => if cmpPx x p < 0 then x :: putP p l else if x = p then x :: l else p :: x :: l
theorem putP_len (p:GPrefix):∀ l:List GPrefix,(putP p l).length ≤ l.length + 1
  | [] => by simp [putP]
  | y :: l => by
    have:=putP_len p l
    unfold putP
    split
    · simpa using this
    · split <;> simp
theorem bs_consP {α:Type} (c:α → Int) (x:α) (l:List α):(c x < 0 → bsI c (x :: l) = bsI c l + 1 ∧ bsF c (x :: l) = bsF c l) ∧ (¬ c x < 0 → bsI c (x :: l) = 0 ∧ bsF c (x :: l) = decide (c x = 0)):=by
  constructor
  · intro h
    have e:bsI c (x :: l) = bsI c l + 1:=by simp [bsI,List.takeWhile_cons,h]
    refine ⟨e,?_⟩
    unfold bsF
    rw [e]
    simp
  · intro h
    have e:bsI c (x :: l) = 0:=by simp [bsI,List.takeWhile_cons,h]
    refine ⟨e,?_⟩
    unfold bsF
    rw [e]
    simp
theorem put_at (p:GPrefix):∀ l:List GPrefix,putP p l = if bsF (fun x:GPrefix => cmpPx x p) l = true then l else l.take (bsI (fun x:GPrefix => cmpPx x p) l) ++ p :: l.drop (bsI (fun x:GPrefix => cmpPx x p) l)
  | [] => rfl
  | x :: l => by
    have hb:=bs_consP (fun x:GPrefix => cmpPx x p) x l
    unfold putP
    by_cases hc:cmpPx x p < 0
    · rw [if_pos hc,(hb.1 hc).1,(hb.1 hc).2,put_at p l]
      split
      · rfl
      · rw [List.take_succ_cons,List.drop_succ_cons,List.cons_append]
    · rw [if_neg hc,(hb.2 hc).1,(hb.2 hc).2]
      simp only [decide_eq_true_eq,cmpPx_eq]
      split
      · rfl
      · simp
theorem ok_l4Put (l:List GPrefix) (p:GPrefix) (hl:l.length ≤ 1000000):CallOK Tryz.prog 107 [.c (.sl 0 54 l.length (l.flatMap GPrefix.c)),.agg p.c] (.c (.sl 0 54 (putP p l).length ((putP p l).flatMap GPrefix.c))) [.c (if bsF (fun x:GPrefix => cmpPx x p) l = true then .hole else .sl 0 54 l.length (l.flatMap GPrefix.c)),.agg p.c]:=by
  refine okS (fn:=Tryz.f107) [] h0 Tryz.func107 (by kernel_rfl) rfl Tryz.ntmps107 Tryz.results107 (by simp) ?_
  rw [put_at]
  simp
  refine loopS [0,3,5] [.arg 0 0,.op 0 0 0] (fun m st => ∃ (i:Nat),i + m = l.length ∧ (∀ (q:Nat) (hq:q < i) (hl:q < l.length),cmpPx l[q] p < 0) ∧ st = ⟨slOf 49 [(0,.ref ⟨.arg 0 0,[]⟩ 0 l.length),(3,.ptr ⟨.op 0 0 0,[]⟩ 0),(5,.t (pi i))],ofL [(.arg 0 0,.sl 0 54 l.length (l.flatMap GPrefix.c)),(.op 0 0 0,.sl 0 54 1 p.c)]⟩) l.length ?_ ?_
  · rintro Inv hI
    simp
    subst hI
    exact ⟨0,by omega,by intro q hq; omega,by simp⟩
  · rintro Inv hI m st ⟨i,hi,hall,rfl⟩
    refine ewr_sound (M:=[]) h0 ?_
    simp
    by_cases a:i < l.length
    · have hd:=fm_drop GPrefix.c 2 (fun _ => rfl) l i a
      have hlen:=fm_len GPrefix.c 2 (fun _ => rfl) l
      have hlt:i * 2 < l.length * 2:=by omega
      have hlt2:i * 2 + 2 ≤ l.length * 2:=by omega
      refine drawP (tabEnv [] _) [⟨[],allD 49,true⟩,⟨[.arg 0 0],allD 49,true⟩,⟨[.arg 0 0],allD 49,true⟩,⟨[],allD 49,true⟩,⟨[],allD 49,true⟩,⟨[.arg 0 0],allD 49,true⟩,⟨[],allD 49,true⟩,⟨[.arg 0 0],allD 49,true⟩,⟨[.arg 0 0],allD 49,true⟩,⟨[.op 0 0 0],allD 49,true⟩,⟨[],allD 49,false⟩,⟨[],allD 49,true⟩,⟨[],allD 49,true⟩] h0 hm (tabEnv_ok (tab_cons (ok_l1Compare l[i] p) tab_nil)) (by kernel_rfl) (by kernel_rfl) ?_
      simp [a,hd,hlen,hlt,hlt2]
      refine brn_app (fun b => ?_) (fun b => ?_)
      · simp at b
        simp
        subst hI
        refine Less_mk (m - 1) (by omega) ⟨i + 1,by omega,?_,by rw [wrNext i (by omega)]; simp⟩
        intro q hq hql
        by_cases hqi:q = i
        · subst hqi; exact b
        · exact hall q (by omega) hql
      · simp at b
        have e1:bsI (fun x:GPrefix => cmpPx x p) l = i:=bsI_eq _ l i (by omega) hall fun h => b
        have e2:bsF (fun x:GPrefix => cmpPx x p) l = decide (cmpPx l[i] p = 0):=by
          simp only [bsF,e1,List.getElem?_eq_getElem a]
        rw [e1,e2]
        simp only [cmpPx_eq,px_ext]
        simp
        refine drawP (tabEnv [] _) [⟨[],allD 49,true⟩,⟨[.arg 0 0],allD 49,true⟩,⟨[.arg 0 0],allD 49,true⟩,⟨[],allD 49,true⟩,⟨[],allD 49,true⟩,⟨[.arg 0 0],allD 49,true⟩,⟨[],allD 49,true⟩,⟨[.arg 0 0],allD 49,true⟩,⟨[.arg 0 0],allD 49,true⟩,⟨[.op 0 0 0],allD 49,true⟩,⟨[],allD 49,true⟩,⟨[],allD 49,true⟩] h0 hm (tabEnv_ok tab_nil) (by kernel_rfl) (by kernel_rfl) ?_
        simp [a,hd,hlen,hlt,hlt2]
        have hxx:(decide (l[i].Addr = p.Addr) && decide (l[i].Len = p.Len)) = decide (l[i].Addr = p.Addr ∧ l[i].Len = p.Len):=by simp
        rw [hxx]
        by_cases e:l[i].Addr = p.Addr ∧ l[i].Len = p.Len
        · rw [decide_eq_true e,if_pos e,if_pos e]
          simp
        · rw [decide_eq_false e,if_neg e,if_neg e]
          have hcells:(l.take i ++ p :: l.drop i).flatMap GPrefix.c = (l.flatMap GPrefix.c).take (i * 2) ++ (p.c ++ (l.flatMap GPrefix.c).drop (i * 2)):=by
            rw [List.flatMap_append,List.flatMap_cons,fm_take GPrefix.c 2 (fun _ => rfl),fm_dropAll GPrefix.c 2 (fun _ => rfl)]
          have hcl:(l.take i ++ p :: l.drop i).length = l.length + 1:=by
            rw [List.length_append,List.length_cons,List.length_take,List.length_drop]
            omega
          rw [hcells,hcl]
          by_cases hi0:i = 0
          · subst hi0
            have hne:l ≠ []:=List.length_pos_iff.1 a
            have hb1:(1 + l.length) * 16 ≤ 140737488355328:=by omega
            have hb2:1 + l.length ≤ 9223372036854775807:=by omega
            have hb3:(1 + l.length) * 2 ≤ l.length * 2 + 1 + 1:=by omega
            have hb4:List.take ((1 + l.length) * 2) (pi p.Addr :: pi p.Len :: l.flatMap GPrefix.c) = pi p.Addr :: pi p.Len :: l.flatMap GPrefix.c:=List.take_of_length_le (by simp only [List.length_cons,hlen]; omega)
            simp [hlen,hne,hb1,hb2,hb3,hb4]
            omega
          · have hile:i ≤ l.length:=by omega
            have hne:l ≠ []:=List.length_pos_iff.1 (by omega)
            have hF:∀ X:List PT,(∀ x ∈ X,x ∈ l.flatMap GPrefix.c) → ((∀ x ∈ X,PT.flat x = true) ↔ True):=fun X hX => ⟨fun _ => trivial,fun _ x hx => by
              have:=hX x hx
              simp only [List.mem_flatMap] at this
              obtain ⟨y,_,hy⟩:=this
              simp at hy
              rcases hy with rfl | rfl <;> rfl⟩
            have hF1:=hF (List.take (i * 2) (l.flatMap GPrefix.c)) fun x hx => List.mem_of_mem_take hx
            have hF2:=hF (List.drop (i * 2) (l.flatMap GPrefix.c)) fun x hx => List.mem_of_mem_drop hx
            have hb1:i * 16 ≤ 140737488355328:=by omega
            have hb2:i ≤ 9223372036854775807:=by omega
            have hb3:List.take ((l.length - i) * 2) (List.drop (i * 2) (l.flatMap GPrefix.c)) = List.drop (i * 2) (l.flatMap GPrefix.c):=List.take_of_length_le (by rw [List.length_drop,hlen]; omega)
            have hlA:(List.take (i * 2) (l.flatMap GPrefix.c)).length = i * 2:=by rw [List.length_take,hlen]; omega
            have hTA:∀ Y,List.take (i * 2) (List.take (i * 2) (l.flatMap GPrefix.c) ++ Y) = List.take (i * 2) (l.flatMap GPrefix.c):=fun Y => List.take_left' hlA
            have hFp:∀ n:Int,PT.flat (pi n) = true:=fun _ => rfl
            have hTA':=List.take_of_length_le (Nat.le_of_eq hlA)
            have hb5:(i + 1) * 16 ≤ 140737488355328:=by omega
            have hb6:i ≤ 9223372036854775806:=by omega
            have hb7:l.length * 2 - i * 2 = (l.length - i) * 2:=by omega
            have hb8:¬ l.length - i = 0:=by omega
            have hb9:(i + 1 + (l.length - i)) * 16 ≤ 140737488355328:=by omega
            have hb10:i + 1 + (l.length - i) ≤ 9223372036854775807:=by omega
            have hb11:i + 1 + (l.length - i) = l.length + 1:=by omega
            have hb15:(l.length + 1) * 2 ≤ i * 2 + ((l.length - i) * 2 + 1 + 1):=by omega
            have hb13:(l.length + 1) * 16 ≤ 140737488355328:=by omega
            have hb14:l.length ≤ 9223372036854775806:=by omega
            have hb12:List.take ((l.length + 1) * 2) (List.take (i * 2) (l.flatMap GPrefix.c) ++ pi p.Addr :: pi p.Len :: List.drop (i * 2) (l.flatMap GPrefix.c)) = List.take (i * 2) (l.flatMap GPrefix.c) ++ pi p.Addr :: pi p.Len :: List.drop (i * 2) (l.flatMap GPrefix.c):=List.take_of_length_le (by simp only [List.length_append,List.length_cons,List.length_drop,hlA,hlen]; omega)
            simp [-PT.flat,hFp,hlen,hi0,hile,hne,hF1,hF2,hb1,hb2,hb3,hTA,hTA',hb5,hb6,hb7,hb8,hb9,hb10,hb11,hb12,hb13,hb14,hb15]
    · have hil:i = l.length:=by omega
      have e1:bsI (fun x:GPrefix => cmpPx x p) l = i:=bsI_eq _ l i (by omega) hall fun h => by omega
      have e2:bsF (fun x:GPrefix => cmpPx x p) l = false:=by
        simp only [bsF,e1,List.getElem?_eq_none (Nat.le_of_not_lt a)]
      rw [e1,e2]
      refine drawP (tabEnv [] _) [⟨[],allD 49,true⟩,⟨[.arg 0 0],allD 49,true⟩,⟨[.arg 0 0],allD 49,true⟩,⟨[],allD 49,true⟩,⟨[],allD 49,true⟩,⟨[.arg 0 0],allD 49,true⟩,⟨[],allD 49,true⟩,⟨[.arg 0 0],allD 49,true⟩,⟨[.arg 0 0],allD 49,true⟩,⟨[.op 0 0 0],allD 49,true⟩,⟨[],allD 49,false⟩,⟨[],allD 49,true⟩,⟨[],allD 49,true⟩] h0 hm (tabEnv_ok tab_nil) (by kernel_rfl) (by kernel_rfl) ?_
      simp [a]
      refine drawP (tabEnv [] _) [⟨[],allD 49,true⟩,⟨[.arg 0 0],allD 49,true⟩,⟨[.arg 0 0],allD 49,true⟩,⟨[],allD 49,true⟩,⟨[],allD 49,true⟩,⟨[.arg 0 0],allD 49,true⟩,⟨[],allD 49,true⟩,⟨[.arg 0 0],allD 49,true⟩,⟨[.arg 0 0],allD 49,true⟩,⟨[.op 0 0 0],allD 49,true⟩,⟨[],allD 49,true⟩,⟨[],allD 49,true⟩] h0 hm (tabEnv_ok tab_nil) (by kernel_rfl) (by kernel_rfl) ?_
      simp [a]
      subst hil
      rw [List.take_length,List.drop_length]
      by_cases hi0:l = []
      · subst hi0
        simp
      · have hlen:=fm_len GPrefix.c 2 (fun _ => rfl) l
        have hb1:l.length * 16 ≤ 140737488355328:=by omega
        have hb2:l.length ≤ 9223372036854775807:=by omega
        have hb3:(l.length + 1) * 16 ≤ 140737488355328:=by omega
        have hb4:l.length ≤ 9223372036854775806:=by omega
        have ht:List.take (l.length * 2) (l.flatMap GPrefix.c) = l.flatMap GPrefix.c:=List.take_of_length_le (by omega)
        simp [hi0,hlen,hb1,hb2,hb3,hb4,ht]
end Go.V
