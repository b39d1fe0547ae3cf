/- What functions of the seat's program do, each proved of its code, under the bounds that its theorem names. -/
import Derived.Test.YtcmdgenpipojpaaTaa
set_option linter.all false
namespace Go.V
open Go.Proofs
set_option maxHeartbeats 1000000
set_option maxRecDepth 10000
set_option linter.unusedSimpArgs false
set_option linter.unusedVariables false
theorem ok_eqUpdate (k k':Nat) (x y:GUpdate) (ha:GUpdate.lens x) (hb:GUpdate.lens y):CallOK Try.prog 28 [.agg (GUpdate.ci k x),.agg (GUpdate.ci k' y)] (.c (pb (decide (x = y)))) [.agg (GUpdate.ci k x),.agg (GUpdate.ci k' y)]:=by
  simp only [GUpdate.lens] at ha hb
  refine okS (fn:=Try.f28) [] h0 Try.func28 (by kernel_rfl) rfl Try.ntmps28 Try.results28 (by simp) ?_
  simp
  refine Inv_intro (ok_eqPrefixS k k' x.Gone y.Gone (ha.1) (hb.1)) ?_
  simp
  refine brn_app (fun a0 => ?_) (fun a0 => ?_)
  · simp at a0
    simp
    rintro rfl
    exact a0 rfl
  · simp at a0
    simp
    refine Inv_intro (ok_eqAttrs k k' x.Attrs y.Attrs (ha.2.1) (hb.2.1)) ?_
    simp
    refine brn_app (fun a1 => ?_) (fun a1 => ?_)
    · simp at a1
      simp
      rintro rfl
      exact a1 rfl
    · simp at a1
      simp
      refine Inv_intro (ok_eqPrefixS k k' x.Come y.Come (ha.2.2) (hb.2.2)) ?_
      simp
      refine brn_app (fun a2 => ?_) (fun a2 => ?_)
      · simp at a2
        simp
        rintro rfl
        exact a2 rfl
      · simp at a2
        simp
        cases x
        cases y
        simp_all
def wt_UpdateS (xs:List GUpdate):Nat:=wtR GUpdate.wt xs
theorem len_wt_UpdateS (xs:List GUpdate):xs.length ≤ wt_UpdateS xs:=by unfold wt_UpdateS wtR; omega
theorem mem_wt_UpdateS {xs:List GUpdate} {x:GUpdate} (h:x ∈ xs):GUpdate.wt x ≤ wt_UpdateS xs:=by
  have:=wt_mem GUpdate.wt h
  unfold wt_UpdateS wtR
  omega
def lens_UpdateS (xs:List GUpdate):Prop:=xs.length ≤ 140737488351232 ∧ ∀ x ∈ xs,GUpdate.lens x
def mk_UpdateS (xs:List GUpdate) (k:Int):List GUpdate × Int:=mkR GUpdate.mark xs k
def cn_UpdateS (xs:List GUpdate):Nat:=cnR GUpdate.cn xs
theorem mk_UpdateS_len (xs:List GUpdate) (k:Int):(mk_UpdateS xs k).1.length = xs.length:=mkR_len _ xs k
attribute [simp] mk_UpdateS_len
theorem mk_UpdateS_snd (xs:List GUpdate) (k:Int):(mk_UpdateS xs k).2 = k + cn_UpdateS xs:=mkR_snd (GUpdate.mark_snd) xs k
theorem lens_of_UpdateS {xs:List GUpdate} (h:wt_UpdateS xs ≤ 1048576):lens_UpdateS xs:=by
  have hl:=len_wt_UpdateS xs
  exact ⟨by omega,fun x hx => lens_of_Update (by have:=mem_wt_UpdateS hx; omega)⟩
theorem cn_le_UpdateS (xs:List GUpdate):cn_UpdateS xs ≤ 32 * wt_UpdateS xs:=cnR_le (fun x => by have:=cnE_le_Update x; omega) xs
theorem ok_eqUpdateS (k k':Nat) (xs ys:List GUpdate) (ha:lens_UpdateS xs) (hb:lens_UpdateS ys):CallOK Try.prog 8 [.c (rd k xs.length (xs.flatMap (GUpdate.ci k))),.c (rd k' ys.length (ys.flatMap (GUpdate.ci k')))] (.c (pb (decide (xs = ys)))) [.c (rd k xs.length (xs.flatMap (GUpdate.ci k))),.c (rd k' ys.length (ys.flatMap (GUpdate.ci k')))]:=by
  obtain ⟨ha,hax⟩:=ha
  obtain ⟨hb,hbx⟩:=hb
  refine okS (fn:=Try.f8) [] h0 Try.func8 (by kernel_rfl) rfl Try.ntmps8 Try.results8 (by simp) ?_
  simp
  refine brn_app (fun h => ?_) (fun h => ?_)
  · simp at h
    simp
    rintro rfl
    exact h rfl
  · simp at h
    have hl:ys.length = xs.length:=by omega
    simp
    refine loopS [0,1,5] [] (fun n st => ∃ (i:Nat),i + n = xs.length ∧ (xs.drop i = ys.drop i ↔ xs = ys) ∧ st = ⟨slOf 27 [(0,.t (rd k xs.length (xs.flatMap (GUpdate.ci k)))),(1,.t (rd k' ys.length (ys.flatMap (GUpdate.ci k')))),(5,.t (pi i))],ofL []⟩) xs.length ?_ ?_
    · rintro Inv hI
      simp
      subst hI
      exact ⟨0,by omega,by simp,rfl⟩
    · rintro Inv hI n st ⟨i,hi,htk,rfl⟩
      refine ewr_sound (M:=[]) h0 ?_
      simp
      refine brn_app (fun h => ?_) (fun h => ?_)
      · simp at h
        have hib:i < ys.length:=by omega
        rw [drop_step xs i h,drop_step ys i hib,List.cons.injEq] at htk
        simp
        have hd:=fm_drop (GUpdate.ci k) 8 (fun _ => rfl) xs i h
        have hd':=fm_drop (GUpdate.ci k') 8 (fun _ => rfl) ys i hib
        have hlen:=fm_len (GUpdate.ci k) 8 (fun _ => rfl) xs
        have hlen':=fm_len (GUpdate.ci k') 8 (fun _ => rfl) ys
        have hlt:i * 8 < xs.length * 8:=by omega
        have hlt':i * 8 < ys.length * 8:=by omega
        have hE:=ok_eqUpdate k k' xs[i] ys[i] (hax _ (List.getElem_mem h)) (hbx _ (List.getElem_mem hib))
        refine drawP (tabEnv [] [(28,[.agg (GUpdate.ci k xs[i]),.agg (GUpdate.ci k' ys[i])],.c (pb (decide (xs[i] = ys[i]))),[.agg (GUpdate.ci k xs[i]),.agg (GUpdate.ci k' ys[i])])]) [⟨[],allD 27,true⟩,⟨[],allD 27,true⟩,⟨[],allD 27,true⟩,⟨[],allD 27,true⟩,⟨[],allD 27,true⟩,⟨[],allD 27,true⟩,⟨[],allD 27,true⟩,⟨[],allD 27,true⟩,⟨[],allD 27,false⟩,⟨[],allD 27,true⟩] h0 hm (tabEnv_ok (by intro x hx; simp only [List.mem_singleton] at hx; subst hx; exact hE)) (by kernel_rfl) (by kernel_rfl) ?_
        simp [h,hib,hd,hd',hlen,hlen',hlt,hlt']
        refine brn_app (fun h2 => ?_) (fun h2 => ?_)
        · simp at h2
          simp
          intro he
          exact h2 (htk.2 he).1
        · simp at h2
          simp
          subst hI
          exact Less_mk (n - 1) (by omega) ⟨i + 1,by omega,⟨fun h4 => htk.1 ⟨h2,h4⟩,fun h4 => (htk.2 h4).2⟩,by rw [wrNext i (by omega)]⟩
      · simp at h
        rw [List.drop_of_length_le (by omega),List.drop_of_length_le (by omega)] at htk
        simp
        exact htk.1 rfl
theorem ok_heldIntS (q:Nat) (xs:List Int) (k:Int) (hls:lens_IntS xs) (hk:0 < k) (hk2:k + cn_IntS xs ≤ 2305843009213693952):CallOK Try.prog 33 [.c (rd q xs.length ((mk_IntS xs k).1.map pi)),.c (pi k)] (.c (pi (mk_IntS xs k).2)) [.c (rd q xs.length ((mk_IntS xs k).1.map pi)),.c (pi k)]:=by
  obtain ⟨hl0,hlx⟩:=hls
  unfold mk_IntS
  unfold cn_IntS at hk2
  have hyl:=mkR_len (fun (_:Int) k => (k,k + 1)) xs k
  have hyi:∀ (i:Nat) (h:i < xs.length) (h':i < (mkR (fun (_:Int) k => (k,k + 1)) xs k).1.length),(mkR (fun (_:Int) k => (k,k + 1)) xs k).1[i] = ((fun (_:Int) k => (k,k + 1)) xs[i] (mkR (fun (_:Int) k => (k,k + 1)) (xs.take i) k).2).1:=fun i h _ => mkR_get (fun (_:Int) k => (k,k + 1)) xs i h k
  have hend:(mkR (fun (_:Int) k => (k,k + 1)) xs k).2 = k + cnR (fun (_:Int) => 1) xs:=mkR_snd (f:=(fun (_:Int) k => (k,k + 1))) (g:=(fun (_:Int) => 1)) (fun _ _ => rfl) xs k
  generalize hY:(mkR (fun (_:Int) k => (k,k + 1)) xs k).1 = ys at hyl hyi ⊢
  refine okS (fn:=Try.f33) [] h0 Try.func33 (by kernel_rfl) rfl Try.ntmps33 Try.results33 (by simp) ?_
  simp
  refine loopS [0,1,5] [] (fun n st => ∃ (i:Nat),i + n = xs.length ∧ st = ⟨slOf 21 [(0,.t (rd q xs.length (ys.map pi))),(1,.t (pi (mkR (fun (_:Int) k => (k,k + 1)) (xs.take i) k).2)),(5,.t (pi i))],ofL []⟩) xs.length ?_ ?_
  · rintro Inv hI
    simp
    subst hI
    exact ⟨0,by omega,rfl⟩
  · rintro Inv hI n st ⟨i,hi,rfl⟩
    have hKb:=mkR_snd (f:=(fun (_:Int) k => (k,k + 1))) (g:=(fun (_:Int) => 1)) (fun _ _ => rfl) (xs.take i) k
    have hyK:∀ (h:i < xs.length),ys[i]'(by omega) = ((fun (_:Int) k => (k,k + 1)) xs[i] (mkR (fun (_:Int) k => (k,k + 1)) (xs.take i) k).2).1:=fun h => hyi i h (by omega)
    generalize hK:(mkR (fun (_:Int) k => (k,k + 1)) (xs.take i) k).2 = K at hKb hyK ⊢
    refine ewr_sound (M:=[]) h0 ?_
    simp
    refine brn_app (fun h => ?_) (fun h => ?_)
    · simp at h
      obtain ⟨m,rfl⟩:∃ m,n = m + 1:=⟨n - 1,by omega⟩
      have hcn:=cnR_take (fun (_:Int) => 1) xs i h
      have hb:i < ys.length:=by omega
      have ey:=hyK h
      have hw0:IntKind.wrap .i64 (K + 1) = K + 1:=wrap64 (by omega) (by omega)
      simp [h,hb,ey,hw0]
      have e4:=mkR_take (fun (_:Int) k => (k,k + 1)) xs i h k
      rw [hK] at e4
      subst hI
      refine Less_mk m (by omega) ⟨i + 1,by omega,?_⟩
      rw [wrNext i (by omega),e4]
      all_goals rfl
    · simp at h
      have hx:xs.take i = xs:=List.take_of_length_le (by omega)
      rw [hx] at hK
      simp [hK]
theorem ok_heldPrefixS (q:Nat) (xs:List GPrefix) (k:Int) (hls:lens_PrefixS xs) (hk:0 < k) (hk2:k + cn_PrefixS xs ≤ 2305843009213693952):CallOK Try.prog 32 [.c (rd q xs.length ((mk_PrefixS xs k).1.flatMap GPrefix.c)),.c (pi k)] (.c (pi (mk_PrefixS xs k).2)) [.c (rd q xs.length ((mk_PrefixS xs k).1.flatMap GPrefix.c)),.c (pi k)]:=by
  obtain ⟨hl0,hlx⟩:=hls
  unfold mk_PrefixS
  unfold cn_PrefixS at hk2
  have hyl:=mkR_len GPrefix.mark xs k
  have hyi:∀ (i:Nat) (h:i < xs.length) (h':i < (mkR GPrefix.mark xs k).1.length),(mkR GPrefix.mark xs k).1[i] = (GPrefix.mark xs[i] (mkR GPrefix.mark (xs.take i) k).2).1:=fun i h _ => mkR_get GPrefix.mark xs i h k
  have hend:(mkR GPrefix.mark xs k).2 = k + cnR GPrefix.cn xs:=mkR_snd (f:=GPrefix.mark) (g:=GPrefix.cn) (GPrefix.mark_snd) xs k
  generalize hY:(mkR GPrefix.mark xs k).1 = ys at hyl hyi ⊢
  refine okS (fn:=Try.f32) [] h0 Try.func32 (by kernel_rfl) rfl Try.ntmps32 Try.results32 (by simp) ?_
  simp
  refine loopS [0,1,5] [] (fun n st => ∃ (i:Nat),i + n = xs.length ∧ st = ⟨slOf 31 [(0,.t (rd q xs.length (ys.flatMap GPrefix.c))),(1,.t (pi (mkR GPrefix.mark (xs.take i) k).2)),(5,.t (pi i))],ofL []⟩) xs.length ?_ ?_
  · rintro Inv hI
    simp
    subst hI
    exact ⟨0,by omega,rfl⟩
  · rintro Inv hI n st ⟨i,hi,rfl⟩
    have hKb:=mkR_snd (f:=GPrefix.mark) (g:=GPrefix.cn) (GPrefix.mark_snd) (xs.take i) k
    have hyK:∀ (h:i < xs.length),ys[i]'(by omega) = (GPrefix.mark xs[i] (mkR GPrefix.mark (xs.take i) k).2).1:=fun h => hyi i h (by omega)
    generalize hK:(mkR GPrefix.mark (xs.take i) k).2 = K at hKb hyK ⊢
    refine ewr_sound (M:=[]) h0 ?_
    simp
    refine brn_app (fun h => ?_) (fun h => ?_)
    · simp at h
      obtain ⟨m,rfl⟩:∃ m,n = m + 1:=⟨n - 1,by omega⟩
      have hcn:=cnR_take GPrefix.cn xs i h
      have hb:i < ys.length:=by omega
      have ey:=hyK h
      have hd:=fm_drop GPrefix.c 2 (fun _ => rfl) ys i hb
      have hlen:=fm_len GPrefix.c 2 (fun _ => rfl) ys
      have hlt:i * 2 < ys.length * 2:=by omega
      rw [ey] at hd
      simp only [GPrefix.cn] at hcn
      have hw0:IntKind.wrap .i64 (K + 1) = K + 1:=wrap64 (by omega) (by omega)
      have hw1:IntKind.wrap .i64 ((K + 1) + 1) = (K + 1) + 1:=wrap64 (by omega) (by omega)
      simp [h,hb,hd,hlen,hlt,GPrefix.mark,hw0,hw1]
      have e4:=mkR_take GPrefix.mark xs i h k
      rw [hK] at e4
      subst hI
      refine Less_mk m (by omega) ⟨i + 1,by omega,?_⟩
      rw [wrNext i (by omega),e4]
      all_goals rfl
    · simp at h
      have hx:xs.take i = xs:=List.take_of_length_le (by omega)
      rw [hx] at hK
      simp [hK]
theorem ok_heldUpdateS (q:Nat) (xs:List GUpdate) (k:Int) (hls:lens_UpdateS xs) (hk:0 < k) (hk2:k + cn_UpdateS xs ≤ 2305843009213693952):CallOK Try.prog 12 [.c (rd q xs.length ((mk_UpdateS xs k).1.flatMap (GUpdate.ci q))),.c (pi k)] (.c (pi (mk_UpdateS xs k).2)) [.c (rd q xs.length ((mk_UpdateS xs k).1.flatMap (GUpdate.ci q))),.c (pi k)]:=by
  obtain ⟨hl0,hlx⟩:=hls
  unfold mk_UpdateS
  unfold cn_UpdateS at hk2
  have hyl:=mkR_len GUpdate.mark xs k
  have hyi:∀ (i:Nat) (h:i < xs.length) (h':i < (mkR GUpdate.mark xs k).1.length),(mkR GUpdate.mark xs k).1[i] = (GUpdate.mark xs[i] (mkR GUpdate.mark (xs.take i) k).2).1:=fun i h _ => mkR_get GUpdate.mark xs i h k
  have hend:(mkR GUpdate.mark xs k).2 = k + cnR GUpdate.cn xs:=mkR_snd (f:=GUpdate.mark) (g:=GUpdate.cn) (GUpdate.mark_snd) xs k
  generalize hY:(mkR GUpdate.mark xs k).1 = ys at hyl hyi ⊢
  refine okS (fn:=Try.f12) [] h0 Try.func12 (by kernel_rfl) rfl Try.ntmps12 Try.results12 (by simp) ?_
  simp
  refine loopS [0,1,5] [] (fun n st => ∃ (i:Nat),i + n = xs.length ∧ st = ⟨slOf 91 [(0,.t (rd q xs.length (ys.flatMap (GUpdate.ci q)))),(1,.t (pi (mkR GUpdate.mark (xs.take i) k).2)),(5,.t (pi i))],ofL []⟩) xs.length ?_ ?_
  · rintro Inv hI
    simp
    subst hI
    exact ⟨0,by omega,rfl⟩
  · rintro Inv hI n st ⟨i,hi,rfl⟩
    have hKb:=mkR_snd (f:=GUpdate.mark) (g:=GUpdate.cn) (GUpdate.mark_snd) (xs.take i) k
    have hyK:∀ (h:i < xs.length),ys[i]'(by omega) = (GUpdate.mark xs[i] (mkR GUpdate.mark (xs.take i) k).2).1:=fun h => hyi i h (by omega)
    generalize hK:(mkR GUpdate.mark (xs.take i) k).2 = K at hKb hyK ⊢
    refine ewr_sound (M:=[]) h0 ?_
    simp
    refine brn_app (fun h => ?_) (fun h => ?_)
    · simp at h
      obtain ⟨m,rfl⟩:∃ m,n = m + 1:=⟨n - 1,by omega⟩
      have hcn:=cnR_take GUpdate.cn xs i h
      have hb:i < ys.length:=by omega
      have ey:=hyK h
      have hd:=fm_drop (GUpdate.ci q) 8 (fun _ => rfl) ys i hb
      have hlen:=fm_len (GUpdate.ci q) 8 (fun _ => rfl) ys
      have hlt:i * 8 < ys.length * 8:=by omega
      rw [ey] at hd
      simp only [GUpdate.cn] at hcn
      have hxl:=hlx _ (List.getElem_mem h)
      have hs0:=mk_PrefixS_snd xs[i].Gone K
      have hn0:¬ (mk_PrefixS xs[i].Gone K).2 < 0:=by omega
      have hw1:IntKind.wrap .i64 ((mk_PrefixS xs[i].Gone K).2 + 1) = (mk_PrefixS xs[i].Gone K).2 + 1:=wrap64 (by omega) (by omega)
      have hs2:=mk_IntS_snd xs[i].Attrs.Path ((mk_PrefixS xs[i].Gone K).2 + 1)
      have hn2:¬ (mk_IntS xs[i].Attrs.Path ((mk_PrefixS xs[i].Gone K).2 + 1)).2 < 0:=by omega
      have hw3:IntKind.wrap .i64 ((mk_IntS xs[i].Attrs.Path ((mk_PrefixS xs[i].Gone K).2 + 1)).2 + 1) = (mk_IntS xs[i].Attrs.Path ((mk_PrefixS xs[i].Gone K).2 + 1)).2 + 1:=wrap64 (by omega) (by omega)
      have hw4:IntKind.wrap .i64 (((mk_IntS xs[i].Attrs.Path ((mk_PrefixS xs[i].Gone K).2 + 1)).2 + 1) + 1) = ((mk_IntS xs[i].Attrs.Path ((mk_PrefixS xs[i].Gone K).2 + 1)).2 + 1) + 1:=wrap64 (by omega) (by omega)
      have hw5:IntKind.wrap .i64 ((((mk_IntS xs[i].Attrs.Path ((mk_PrefixS xs[i].Gone K).2 + 1)).2 + 1) + 1) + 1) = (((mk_IntS xs[i].Attrs.Path ((mk_PrefixS xs[i].Gone K).2 + 1)).2 + 1) + 1) + 1:=wrap64 (by omega) (by omega)
      have hs6:=mk_IntS_snd xs[i].Attrs.Comms ((((mk_IntS xs[i].Attrs.Path ((mk_PrefixS xs[i].Gone K).2 + 1)).2 + 1) + 1) + 1)
      have hn6:¬ (mk_IntS xs[i].Attrs.Comms ((((mk_IntS xs[i].Attrs.Path ((mk_PrefixS xs[i].Gone K).2 + 1)).2 + 1) + 1) + 1)).2 < 0:=by omega
      have hs7:=mk_PrefixS_snd xs[i].Come (mk_IntS xs[i].Attrs.Comms ((((mk_IntS xs[i].Attrs.Path ((mk_PrefixS xs[i].Gone K).2 + 1)).2 + 1) + 1) + 1)).2
      have hn7:¬ (mk_PrefixS xs[i].Come (mk_IntS xs[i].Attrs.Comms ((((mk_IntS xs[i].Attrs.Path ((mk_PrefixS xs[i].Gone K).2 + 1)).2 + 1) + 1) + 1)).2).2 < 0:=by omega
      simp [h,hb,hd,hlen,hlt,GUpdate.mark,hn0,hw1,hn2,hw3,hw4,hw5,hn6,hn7]
      refine Inv_intro (ok_heldPrefixS q xs[i].Gone (K) hxl.1 (by omega) (by omega)) ?_
      simp [h,hb,hd,hlen,hlt,GUpdate.mark,hn0,hw1,hn2,hw3,hw4,hw5,hn6,hn7]
      refine Inv_intro (ok_heldIntS q xs[i].Attrs.Path (((mk_PrefixS xs[i].Gone K).2 + 1)) hxl.2.1.1 (by omega) (by omega)) ?_
      simp [h,hb,hd,hlen,hlt,GUpdate.mark,hn0,hw1,hn2,hw3,hw4,hw5,hn6,hn7]
      refine Inv_intro (ok_heldIntS q xs[i].Attrs.Comms (((((mk_IntS xs[i].Attrs.Path ((mk_PrefixS xs[i].Gone K).2 + 1)).2 + 1) + 1) + 1)) hxl.2.1.2 (by omega) (by omega)) ?_
      simp [h,hb,hd,hlen,hlt,GUpdate.mark,hn0,hw1,hn2,hw3,hw4,hw5,hn6,hn7]
      refine Inv_intro (ok_heldPrefixS q xs[i].Come ((mk_IntS xs[i].Attrs.Comms ((((mk_IntS xs[i].Attrs.Path ((mk_PrefixS xs[i].Gone K).2 + 1)).2 + 1) + 1) + 1)).2) hxl.2.2 (by omega) (by omega)) ?_
      simp [h,hb,hd,hlen,hlt,GUpdate.mark,hn0,hw1,hn2,hw3,hw4,hw5,hn6,hn7]
      have e4:=mkR_take GUpdate.mark xs i h k
      rw [hK] at e4
      subst hI
      refine Less_mk m (by omega) ⟨i + 1,by omega,?_⟩
      rw [wrNext i (by omega),e4]
      all_goals rfl
    · simp at h
      have hx:xs.take i = xs:=List.take_of_length_le (by omega)
      rw [hx] at hK
      simp [hK]
theorem ok_markIntS (xs:List Int) (k:Int) (hls:lens_IntS xs) (hk:0 < k) (hk2:k + cn_IntS xs ≤ 2305843009213693952):CallOK Try.prog 30 [.c (.sl 0 3 xs.length (xs.map pi)),.c (pi k)] (.c (pi (mk_IntS xs k).2)) [.c (.sl 0 3 xs.length ((mk_IntS xs k).1.map pi)),.c (pi k)]:=by
  obtain ⟨hl0,hlx⟩:=hls
  unfold mk_IntS
  unfold cn_IntS at hk2
  refine okS (fn:=Try.f30) [] h0 Try.func30 (by kernel_rfl) rfl Try.ntmps30 Try.results30 (by simp) ?_
  simp
  refine loopS [0,1,5] [] (fun n st => ∃ (i:Nat),i + n = xs.length ∧ st = ⟨slOf 19 [(0,.ref ⟨.arg 0 0,[]⟩ 0 xs.length),(1,.t (pi (mkR (fun (_:Int) k => (k,k + 1)) (xs.take i) k).2)),(5,.t (pi i))],ofL [(.arg 0 0,.sl 0 3 xs.length (((mkR (fun (_:Int) k => (k,k + 1)) (xs.take i) k).1.map pi) ++ ((xs.drop i).map pi)))]⟩) xs.length ?_ ?_
  · rintro Inv hI
    simp
    subst hI
    exact ⟨0,by omega,rfl⟩
  · rintro Inv hI n st ⟨i,hi,rfl⟩
    have hAl:(((mkR (fun (_:Int) k => (k,k + 1)) (xs.take i) k).1.map pi)).length = i * 1:=by rw [List.length_map,mkR_len,len_take xs i (by omega),Nat.mul_one]
    have hKb:=mkR_snd (f:=(fun (_:Int) k => (k,k + 1))) (g:=(fun (_:Int) => 1)) (fun _ _ => rfl) (xs.take i) k
    generalize hA:((mkR (fun (_:Int) k => (k,k + 1)) (xs.take i) k).1.map pi) = A at hAl ⊢
    generalize hK:(mkR (fun (_:Int) k => (k,k + 1)) (xs.take i) k).2 = K at hKb ⊢
    generalize hB:((xs.drop i).map pi) = B
    refine ewr_sound (M:=[]) h0 ?_
    simp
    refine brn_app (fun h => ?_) (fun h => ?_)
    · simp at h
      obtain ⟨m,rfl⟩:∃ m,n = m + 1:=⟨n - 1,by omega⟩
      have hcn:=cnR_take (fun (_:Int) => 1) xs i h
      have hBe:B = [pi xs[i]] ++ ((xs.drop (i + 1)).map pi):=by rw [← hB,drop_step xs i h]; rfl
      generalize hC:((xs.drop (i + 1)).map pi) = D at hBe
      subst hBe
      rw [Nat.mul_one] at hAl
      have hw0:IntKind.wrap .i64 (K + 1) = K + 1:=wrap64 (by omega) (by omega)
      simp [h,hAl,hw0]
      have e4:=mkR_take (fun (_:Int) k => (k,k + 1)) xs i h k
      rw [hK] at e4
      have e3:((mkR (fun (_:Int) k => (k,k + 1)) (xs.take (i + 1)) k).1.map pi) = A ++ [pi ((fun (_:Int) k => (k,k + 1)) xs[i] K).1]:=by rw [e4,List.map_append,hA]; rfl
      subst hI
      refine Less_mk m (by omega) ⟨i + 1,by omega,?_⟩
      rw [wrNext i (by omega),e3,e4,hC,List.append_assoc]
      all_goals rfl
    · simp at h
      have hx:xs.take i = xs:=List.take_of_length_le (by omega)
      have hBn:B = []:=by rw [← hB,List.drop_of_length_le (by omega)]; rfl
      subst hBn
      rw [hx] at hA hK
      subst hK
      subst hA
      simp
theorem ok_markRouteS (xs:List GRoute) (k:Int) (hls:lens_RouteS xs) (hk:0 < k) (hk2:k + cn_RouteS xs ≤ 2305843009213693952):CallOK Try.prog 10 [.c (.sl 0 47 xs.length (xs.flatMap GRoute.co)),.c (pi k)] (.c (pi (mk_RouteS xs k).2)) [.c (.sl 0 47 xs.length ((mk_RouteS xs k).1.flatMap GRoute.co)),.c (pi k)]:=by
  obtain ⟨hl0,hlx⟩:=hls
  unfold mk_RouteS
  unfold cn_RouteS at hk2
  refine okS (fn:=Try.f10) [(30,[1,0])] h0 Try.func10 (by kernel_rfl) rfl Try.ntmps10 Try.results10 (by simp) ?_
  simp
  refine loopS [0,1,5] [] (fun n st => ∃ (i:Nat),i + n = xs.length ∧ st = ⟨slOf 77 [(0,.ref ⟨.arg 0 0,[]⟩ 0 xs.length),(1,.t (pi (mkR GRoute.mark (xs.take i) k).2)),(5,.t (pi i))],ofL [(.arg 0 0,.sl 0 47 xs.length (((mkR GRoute.mark (xs.take i) k).1.flatMap GRoute.co) ++ ((xs.drop i).flatMap GRoute.co)))]⟩) xs.length ?_ ?_
  · rintro Inv hI
    simp
    subst hI
    exact ⟨0,by omega,rfl⟩
  · rintro Inv hI n st ⟨i,hi,rfl⟩
    have hAl:(((mkR GRoute.mark (xs.take i) k).1.flatMap GRoute.co)).length = i * 8:=by rw [fm_len GRoute.co 8 (fun _ => rfl),mkR_len,len_take xs i (by omega)]
    have hKb:=mkR_snd (f:=GRoute.mark) (g:=GRoute.cn) (GRoute.mark_snd) (xs.take i) k
    generalize hA:((mkR GRoute.mark (xs.take i) k).1.flatMap GRoute.co) = A at hAl ⊢
    generalize hK:(mkR GRoute.mark (xs.take i) k).2 = K at hKb ⊢
    generalize hB:((xs.drop i).flatMap GRoute.co) = B
    refine ewr_sound (M:=[(30,[1,0])]) h0 ?_
    simp
    refine brn_app (fun h => ?_) (fun h => ?_)
    · simp at h
      obtain ⟨m,rfl⟩:∃ m,n = m + 1:=⟨n - 1,by omega⟩
      have hcn:=cnR_take GRoute.cn xs i h
      have hBe:B = [pi xs[i].Prefix.Addr,pi xs[i].Prefix.Len,pi xs[i].Attrs.Origin,.sl 0 3 xs[i].Attrs.Path.length (xs[i].Attrs.Path.map pi),pi xs[i].Attrs.Next,pi xs[i].Attrs.Med,pi xs[i].Attrs.Pref,.sl 0 3 xs[i].Attrs.Comms.length (xs[i].Attrs.Comms.map pi)] ++ ((xs.drop (i + 1)).flatMap GRoute.co):=by rw [← hB,drop_step xs i h]; rfl
      generalize hC:((xs.drop (i + 1)).flatMap GRoute.co) = D at hBe
      subst hBe
      have hxl:=hlx _ (List.getElem_mem h)
      simp only [GRoute.cn] at hcn
      have hw0:IntKind.wrap .i64 (K + 1) = K + 1:=wrap64 (by omega) (by omega)
      have hw1:IntKind.wrap .i64 ((K + 1) + 1) = (K + 1) + 1:=wrap64 (by omega) (by omega)
      have hw2:IntKind.wrap .i64 (((K + 1) + 1) + 1) = ((K + 1) + 1) + 1:=wrap64 (by omega) (by omega)
      have hs3:=mk_IntS_snd xs[i].Attrs.Path (((K + 1) + 1) + 1)
      have hw4:IntKind.wrap .i64 ((mk_IntS xs[i].Attrs.Path (((K + 1) + 1) + 1)).2 + 1) = (mk_IntS xs[i].Attrs.Path (((K + 1) + 1) + 1)).2 + 1:=wrap64 (by omega) (by omega)
      have hw5:IntKind.wrap .i64 (((mk_IntS xs[i].Attrs.Path (((K + 1) + 1) + 1)).2 + 1) + 1) = ((mk_IntS xs[i].Attrs.Path (((K + 1) + 1) + 1)).2 + 1) + 1:=wrap64 (by omega) (by omega)
      have hw6:IntKind.wrap .i64 ((((mk_IntS xs[i].Attrs.Path (((K + 1) + 1) + 1)).2 + 1) + 1) + 1) = (((mk_IntS xs[i].Attrs.Path (((K + 1) + 1) + 1)).2 + 1) + 1) + 1:=wrap64 (by omega) (by omega)
      have hs7:=mk_IntS_snd xs[i].Attrs.Comms ((((mk_IntS xs[i].Attrs.Path (((K + 1) + 1) + 1)).2 + 1) + 1) + 1)
      have hq0:i * 8 + 2 + 1 = i * 8 + 3:=by omega
      have hq1:i * 8 + 2 + 2 = i * 8 + 4:=by omega
      have hq2:i * 8 + 2 + 3 = i * 8 + 5:=by omega
      have hq3:i * 8 + 2 + 4 = i * 8 + 6:=by omega
      have hq4:i * 8 + 2 + 5 = i * 8 + 7:=by omega
      simp [h,hAl,hw0,hw1,hw2,hw4,hw5,hw6,hq0,hq1,hq2,hq3,hq4]
      refine Inv_intro (ok_markIntS xs[i].Attrs.Path ((((K + 1) + 1) + 1)) hxl.1 (by omega) (by omega)) ?_
      simp [h,hAl,hw0,hw1,hw2,hw4,hw5,hw6,hq0,hq1,hq2,hq3,hq4]
      refine Inv_intro (ok_markIntS xs[i].Attrs.Comms (((((mk_IntS xs[i].Attrs.Path (((K + 1) + 1) + 1)).2 + 1) + 1) + 1)) hxl.2 (by omega) (by omega)) ?_
      simp [h,hAl,hw0,hw1,hw2,hw4,hw5,hw6,hq0,hq1,hq2,hq3,hq4]
      have e4:=mkR_take GRoute.mark xs i h k
      rw [hK] at e4
      have e3:((mkR GRoute.mark (xs.take (i + 1)) k).1.flatMap GRoute.co) = A ++ GRoute.co (GRoute.mark xs[i] K).1:=by rw [e4,List.flatMap_append,hA,List.flatMap_cons,List.flatMap_nil,List.append_nil]
      subst hI
      refine Less_mk m (by omega) ⟨i + 1,by omega,?_⟩
      rw [wrNext i (by omega),e3,e4,hC,List.append_assoc]
      all_goals first | rfl | simp [GRoute.mark] | simp
    · simp at h
      have hx:xs.take i = xs:=List.take_of_length_le (by omega)
      have hBn:B = []:=by rw [← hB,List.drop_of_length_le (by omega)]; rfl
      subst hBn
      rw [hx] at hA hK
      subst hK
      subst hA
      simp
theorem ok_markPrefixS (xs:List GPrefix) (k:Int) (hls:lens_PrefixS xs) (hk:0 < k) (hk2:k + cn_PrefixS xs ≤ 2305843009213693952):CallOK Try.prog 31 [.c (.sl 0 44 xs.length (xs.flatMap GPrefix.c)),.c (pi k)] (.c (pi (mk_PrefixS xs k).2)) [.c (.sl 0 44 xs.length ((mk_PrefixS xs k).1.flatMap GPrefix.c)),.c (pi k)]:=by
  obtain ⟨hl0,hlx⟩:=hls
  unfold mk_PrefixS
  unfold cn_PrefixS at hk2
  refine okS (fn:=Try.f31) [] h0 Try.func31 (by kernel_rfl) rfl Try.ntmps31 Try.results31 (by simp) ?_
  simp
  refine loopS [0,1,5] [] (fun n st => ∃ (i:Nat),i + n = xs.length ∧ st = ⟨slOf 27 [(0,.ref ⟨.arg 0 0,[]⟩ 0 xs.length),(1,.t (pi (mkR GPrefix.mark (xs.take i) k).2)),(5,.t (pi i))],ofL [(.arg 0 0,.sl 0 44 xs.length (((mkR GPrefix.mark (xs.take i) k).1.flatMap GPrefix.c) ++ ((xs.drop i).flatMap GPrefix.c)))]⟩) xs.length ?_ ?_
  · rintro Inv hI
    simp
    subst hI
    exact ⟨0,by omega,rfl⟩
  · rintro Inv hI n st ⟨i,hi,rfl⟩
    have hAl:(((mkR GPrefix.mark (xs.take i) k).1.flatMap GPrefix.c)).length = i * 2:=by rw [fm_len GPrefix.c 2 (fun _ => rfl),mkR_len,len_take xs i (by omega)]
    have hKb:=mkR_snd (f:=GPrefix.mark) (g:=GPrefix.cn) (GPrefix.mark_snd) (xs.take i) k
    generalize hA:((mkR GPrefix.mark (xs.take i) k).1.flatMap GPrefix.c) = A at hAl ⊢
    generalize hK:(mkR GPrefix.mark (xs.take i) k).2 = K at hKb ⊢
    generalize hB:((xs.drop i).flatMap GPrefix.c) = B
    refine ewr_sound (M:=[]) h0 ?_
    simp
    refine brn_app (fun h => ?_) (fun h => ?_)
    · simp at h
      obtain ⟨m,rfl⟩:∃ m,n = m + 1:=⟨n - 1,by omega⟩
      have hcn:=cnR_take GPrefix.cn xs i h
      have hBe:B = [pi xs[i].Addr,pi xs[i].Len] ++ ((xs.drop (i + 1)).flatMap GPrefix.c):=by rw [← hB,drop_step xs i h]; rfl
      generalize hC:((xs.drop (i + 1)).flatMap GPrefix.c) = D at hBe
      subst hBe
      simp only [GPrefix.cn] at hcn
      have hw0:IntKind.wrap .i64 (K + 1) = K + 1:=wrap64 (by omega) (by omega)
      have hw1:IntKind.wrap .i64 ((K + 1) + 1) = (K + 1) + 1:=wrap64 (by omega) (by omega)
      simp [h,hAl,hw0,hw1]
      have e4:=mkR_take GPrefix.mark xs i h k
      rw [hK] at e4
      have e3:((mkR GPrefix.mark (xs.take (i + 1)) k).1.flatMap GPrefix.c) = A ++ GPrefix.c (GPrefix.mark xs[i] K).1:=by rw [e4,List.flatMap_append,hA,List.flatMap_cons,List.flatMap_nil,List.append_nil]
      subst hI
      refine Less_mk m (by omega) ⟨i + 1,by omega,?_⟩
      rw [wrNext i (by omega),e3,e4,hC,List.append_assoc]
      all_goals first | rfl | simp [GPrefix.mark] | simp
    · simp at h
      have hx:xs.take i = xs:=List.take_of_length_le (by omega)
      have hBn:B = []:=by rw [← hB,List.drop_of_length_le (by omega)]; rfl
      subst hBn
      rw [hx] at hA hK
      subst hK
      subst hA
      simp
theorem ok_markUpdateS (xs:List GUpdate) (k:Int) (hls:lens_UpdateS xs) (hk:0 < k) (hk2:k + cn_UpdateS xs ≤ 2305843009213693952):CallOK Try.prog 11 [.c (.sl 0 63 xs.length (xs.flatMap GUpdate.co)),.c (pi k)] (.c (pi (mk_UpdateS xs k).2)) [.c (.sl 0 63 xs.length ((mk_UpdateS xs k).1.flatMap GUpdate.co)),.c (pi k)]:=by
  obtain ⟨hl0,hlx⟩:=hls
  unfold mk_UpdateS
  unfold cn_UpdateS at hk2
  refine okS (fn:=Try.f11) [(30,[1,0]),(31,[1,0])] h0 Try.func11 (by kernel_rfl) rfl Try.ntmps11 Try.results11 (by simp) ?_
  simp
  refine loopS [0,1,5] [] (fun n st => ∃ (i:Nat),i + n = xs.length ∧ st = ⟨slOf 75 [(0,.ref ⟨.arg 0 0,[]⟩ 0 xs.length),(1,.t (pi (mkR GUpdate.mark (xs.take i) k).2)),(5,.t (pi i))],ofL [(.arg 0 0,.sl 0 63 xs.length (((mkR GUpdate.mark (xs.take i) k).1.flatMap GUpdate.co) ++ ((xs.drop i).flatMap GUpdate.co)))]⟩) xs.length ?_ ?_
  · rintro Inv hI
    simp
    subst hI
    exact ⟨0,by omega,rfl⟩
  · rintro Inv hI n st ⟨i,hi,rfl⟩
    have hAl:(((mkR GUpdate.mark (xs.take i) k).1.flatMap GUpdate.co)).length = i * 8:=by rw [fm_len GUpdate.co 8 (fun _ => rfl),mkR_len,len_take xs i (by omega)]
    have hKb:=mkR_snd (f:=GUpdate.mark) (g:=GUpdate.cn) (GUpdate.mark_snd) (xs.take i) k
    generalize hA:((mkR GUpdate.mark (xs.take i) k).1.flatMap GUpdate.co) = A at hAl ⊢
    generalize hK:(mkR GUpdate.mark (xs.take i) k).2 = K at hKb ⊢
    generalize hB:((xs.drop i).flatMap GUpdate.co) = B
    refine ewr_sound (M:=[(30,[1,0]),(31,[1,0])]) h0 ?_
    simp
    refine brn_app (fun h => ?_) (fun h => ?_)
    · simp at h
      obtain ⟨m,rfl⟩:∃ m,n = m + 1:=⟨n - 1,by omega⟩
      have hcn:=cnR_take GUpdate.cn xs i h
      have hBe:B = [.sl 0 44 xs[i].Gone.length (xs[i].Gone.flatMap GPrefix.c),pi xs[i].Attrs.Origin,.sl 0 3 xs[i].Attrs.Path.length (xs[i].Attrs.Path.map pi),pi xs[i].Attrs.Next,pi xs[i].Attrs.Med,pi xs[i].Attrs.Pref,.sl 0 3 xs[i].Attrs.Comms.length (xs[i].Attrs.Comms.map pi),.sl 0 44 xs[i].Come.length (xs[i].Come.flatMap GPrefix.c)] ++ ((xs.drop (i + 1)).flatMap GUpdate.co):=by rw [← hB,drop_step xs i h]; rfl
      generalize hC:((xs.drop (i + 1)).flatMap GUpdate.co) = D at hBe
      subst hBe
      have hxl:=hlx _ (List.getElem_mem h)
      simp only [GUpdate.cn] at hcn
      have hs0:=mk_PrefixS_snd xs[i].Gone K
      have hw1:IntKind.wrap .i64 ((mk_PrefixS xs[i].Gone K).2 + 1) = (mk_PrefixS xs[i].Gone K).2 + 1:=wrap64 (by omega) (by omega)
      have hs2:=mk_IntS_snd xs[i].Attrs.Path ((mk_PrefixS xs[i].Gone K).2 + 1)
      have hw3:IntKind.wrap .i64 ((mk_IntS xs[i].Attrs.Path ((mk_PrefixS xs[i].Gone K).2 + 1)).2 + 1) = (mk_IntS xs[i].Attrs.Path ((mk_PrefixS xs[i].Gone K).2 + 1)).2 + 1:=wrap64 (by omega) (by omega)
      have hw4:IntKind.wrap .i64 (((mk_IntS xs[i].Attrs.Path ((mk_PrefixS xs[i].Gone K).2 + 1)).2 + 1) + 1) = ((mk_IntS xs[i].Attrs.Path ((mk_PrefixS xs[i].Gone K).2 + 1)).2 + 1) + 1:=wrap64 (by omega) (by omega)
      have hw5:IntKind.wrap .i64 ((((mk_IntS xs[i].Attrs.Path ((mk_PrefixS xs[i].Gone K).2 + 1)).2 + 1) + 1) + 1) = (((mk_IntS xs[i].Attrs.Path ((mk_PrefixS xs[i].Gone K).2 + 1)).2 + 1) + 1) + 1:=wrap64 (by omega) (by omega)
      have hs6:=mk_IntS_snd xs[i].Attrs.Comms ((((mk_IntS xs[i].Attrs.Path ((mk_PrefixS xs[i].Gone K).2 + 1)).2 + 1) + 1) + 1)
      have hs7:=mk_PrefixS_snd xs[i].Come (mk_IntS xs[i].Attrs.Comms ((((mk_IntS xs[i].Attrs.Path ((mk_PrefixS xs[i].Gone K).2 + 1)).2 + 1) + 1) + 1)).2
      have hq0:i * 8 + 1 + 1 = i * 8 + 2:=by omega
      have hq1:i * 8 + 1 + 2 = i * 8 + 3:=by omega
      have hq2:i * 8 + 1 + 3 = i * 8 + 4:=by omega
      have hq3:i * 8 + 1 + 4 = i * 8 + 5:=by omega
      have hq4:i * 8 + 1 + 5 = i * 8 + 6:=by omega
      simp [h,hAl,hw1,hw3,hw4,hw5,hq0,hq1,hq2,hq3,hq4]
      refine Inv_intro (ok_markPrefixS xs[i].Gone (K) hxl.1 (by omega) (by omega)) ?_
      simp [h,hAl,hw1,hw3,hw4,hw5,hq0,hq1,hq2,hq3,hq4]
      refine Inv_intro (ok_markIntS xs[i].Attrs.Path (((mk_PrefixS xs[i].Gone K).2 + 1)) hxl.2.1.1 (by omega) (by omega)) ?_
      simp [h,hAl,hw1,hw3,hw4,hw5,hq0,hq1,hq2,hq3,hq4]
      refine Inv_intro (ok_markIntS xs[i].Attrs.Comms (((((mk_IntS xs[i].Attrs.Path ((mk_PrefixS xs[i].Gone K).2 + 1)).2 + 1) + 1) + 1)) hxl.2.1.2 (by omega) (by omega)) ?_
      simp [h,hAl,hw1,hw3,hw4,hw5,hq0,hq1,hq2,hq3,hq4]
      refine Inv_intro (ok_markPrefixS xs[i].Come ((mk_IntS xs[i].Attrs.Comms ((((mk_IntS xs[i].Attrs.Path ((mk_PrefixS xs[i].Gone K).2 + 1)).2 + 1) + 1) + 1)).2) hxl.2.2 (by omega) (by omega)) ?_
      simp [h,hAl,hw1,hw3,hw4,hw5,hq0,hq1,hq2,hq3,hq4]
      have e4:=mkR_take GUpdate.mark xs i h k
      rw [hK] at e4
      have e3:((mkR GUpdate.mark (xs.take (i + 1)) k).1.flatMap GUpdate.co) = A ++ GUpdate.co (GUpdate.mark xs[i] K).1:=by rw [e4,List.flatMap_append,hA,List.flatMap_cons,List.flatMap_nil,List.append_nil]
      subst hI
      refine Less_mk m (by omega) ⟨i + 1,by omega,?_⟩
      rw [wrNext i (by omega),e3,e4,hC,List.append_assoc]
      all_goals first | rfl | simp [GUpdate.mark] | simp
    · simp at h
      have hx:xs.take i = xs:=List.take_of_length_le (by omega)
      have hBn:B = []:=by rw [← hB,List.drop_of_length_le (by omega)]; rfl
      subst hBn
      rw [hx] at hA hK
      subst hK
      subst hA
      simp
end Go.V
