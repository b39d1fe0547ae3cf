/- What functions of the seat's program do, each proved of its code, under the bounds that its theorem names. -/
import Derived.Test.YtcmdgenpipojpaaGreatTam
set_option linter.all false
namespace Go.V
open Go.Proofs
set_option maxHeartbeats 1000000
set_option maxRecDepth 10000
set_option linter.unusedSimpArgs false
set_option linter.unusedVariables false
def goneK (p:List GPrefix):PT:=.sl 0 54 p.length (p.flatMap GPrefix.c)
def zeroC:List PT:=[pi 0,.sl 0 nilE 0 [],pi 0,pi 0,pi 0,.sl 0 nilE 0 [],.sl 0 nilE 0 []]
def zeroE:List PT:=[pi 0,.sl 0 3 0 [],pi 0,pi 0,pi 0,.sl 0 3 0 [],.sl 0 54 0 []]
def putC (Z C:List PT) (k:Nat) (p:List GPrefix):List PT:=if k * 8 < C.length then C.take (k * 8) ++ goneK p :: C.drop (k * 8 + 1) else C ++ goneK p :: Z
def putCs (D:List GPrefix) (C:List PT):Nat → List PT
  | 0 => C
  | i + 1 => putC zeroC (putCs D C i) i (partC D i)
theorem putC_len (Z C:List PT) (k n:Nat) (p:List GPrefix) (hZ:Z.length = 7) (hC:C.length = n * 8):(putC Z C k p).length = (if k < n then n else n + 1) * 8:=by
  unfold putC
  by_cases h:k < n
  · rw [if_pos (by omega),if_pos h,List.length_append,List.length_cons,List.length_take,List.length_drop]
    omega
  · rw [if_neg (by omega),if_neg h,List.length_append,List.length_cons]
    omega
theorem putCs_len (D:List GPrefix) (C:List PT) (U:List GUpdate) (hC:C.length = U.length * 8):∀ i,(putCs D C i).length = (putGs D U i).length * 8
  | 0 => hC
  | i + 1 => by
    simp only [putCs,putGs,putG_len]
    rw [putC_len _ _ _ _ _ rfl (putCs_len D C U hC i)]
theorem putG_cells (o:List GUpdate) (k:Nat) (p:List GPrefix):(putG o k p).flatMap GUpdate.co = putC zeroE (o.flatMap GUpdate.co) k p:=by
  have hl:=fm_len GUpdate.co 8 (fun _ => rfl) o
  unfold putG putC
  split
  · rename_i u hu
    obtain ⟨hk,he⟩:=List.getElem?_eq_some_iff.1 hu
    rw [if_pos (by omega),List.set_eq_take_append_cons_drop,if_pos hk,List.flatMap_append,List.flatMap_cons]
    have h1:=fm_take GUpdate.co 8 (fun _ => rfl) o k
    have h2:=fm_drop GUpdate.co 8 (fun _ => rfl) o k hk
    have h3:(o.flatMap GUpdate.co).drop (k * 8 + 1) = (GUpdate.co u).drop 1 ++ (o.drop (k + 1)).flatMap GUpdate.co:=by
      rw [← List.drop_drop,h2,he,List.drop_append_of_le_length (by simp [GUpdate.co]),fm_dropAll GUpdate.co 8 (fun _ => rfl)]
    rw [h1,h3]
    rfl
  · rename_i hn
    rw [List.getElem?_eq_none_iff] at hn
    rw [if_neg (by omega),List.flatMap_append]
    rfl
theorem nleL_append:∀ {a b c d:List PT},PT.nleL a b → PT.nleL c d → PT.nleL (a ++ c) (b ++ d)
  | [],b,c,d,h1,h2 => by
    rw [nleL_nil] at h1
    subst h1
    exact h2
  | x :: a,[],c,d,h1,h2 => by simp [PT.nleL] at h1
  | x :: a,y :: b,c,d,h1,h2 => by
    rw [nleL_cons] at h1
    rw [List.cons_append,List.cons_append,nleL_cons]
    exact ⟨h1.1,nleL_append h1.2 h2⟩
theorem nleL_len:∀ {a b:List PT},PT.nleL a b → a.length = b.length
  | [],b,h => by rw [nleL_nil] at h; subst h; rfl
  | x :: a,[],h => by simp [PT.nleL] at h
  | x :: a,y :: b,h => by
    rw [nleL_cons] at h
    rw [List.length_cons,List.length_cons,nleL_len h.2]
theorem nleL_cut:∀ (n:Nat) {a b:List PT},PT.nleL a b → PT.nleL (a.take n) (b.take n) ∧ PT.nleL (a.drop n) (b.drop n)
  | 0,a,b,h => ⟨by simp [PT.nleL],h⟩
  | n + 1,[],b,h => by rw [nleL_nil] at h; subst h; simp [PT.nleL]
  | n + 1,x :: a,[],h => by simp [PT.nleL] at h
  | n + 1,x :: a,y :: b,h => by
    rw [nleL_cons] at h
    have ih:=nleL_cut n h.2
    rw [List.take_succ_cons,List.take_succ_cons,List.drop_succ_cons,List.drop_succ_cons,nleL_cons]
    exact ⟨⟨h.1,ih.1⟩,ih.2⟩
theorem nleL_put {C E:List PT} (h:PT.nleL C E) (k:Nat) (p:List GPrefix):PT.nleL (putC zeroC C k p) (putC zeroE E k p):=by
  have hl:=nleL_len h
  unfold putC
  by_cases hk:k * 8 < C.length
  · rw [if_pos hk,if_pos (by omega)]
    refine nleL_append (nleL_cut _ h).1 ?_
    rw [nleL_cons]
    exact ⟨nle_refl_all.1 _,(nleL_cut _ h).2⟩
  · rw [if_neg hk,if_neg (by omega)]
    refine nleL_append h ?_
    rw [nleL_cons]
    exact ⟨nle_refl_all.1 _,by simp [zeroC,zeroE,nleL_cons,nle_own,nle_raw,nleL_nil]⟩
theorem nleL_cz:∀ (U:List GUpdate),(∀ u ∈ U,u.Gone = []) → PT.nleL (U.flatMap GUpdate.cz) (U.flatMap GUpdate.co)
  | [],_ => by simp [PT.nleL]
  | u :: U,h => by
    rw [List.flatMap_cons,List.flatMap_cons]
    refine nleL_append ?_ (nleL_cz U fun x hx => h x (List.mem_cons_of_mem _ hx))
    have hu:=h u (by simp)
    have e:GUpdate.co u = .sl 0 54 0 [] :: (GUpdate.co u).drop 1:=by simp [GUpdate.co,hu]
    rw [e]
    unfold GUpdate.cz
    rw [nleL_cons]
    refine ⟨?_,nle_refl_all.2 _⟩
    rw [nle_own]
    exact .inl ⟨rfl,rfl,rfl,rfl,rfl⟩
theorem nleL_puts (D:List GPrefix) (U:List GUpdate) (h:∀ u ∈ U,u.Gone = []):∀ i,PT.nleL (putCs D (U.flatMap GUpdate.cz) i) ((putGs D U i).flatMap GUpdate.co)
  | 0 => nleL_cz U h
  | i + 1 => by
    simp only [putCs,putGs]
    rw [putG_cells]
    exact nleL_put (nleL_puts D U h i) _ _
theorem noTmp_put {C:List PT} (h:PT.noTmpL C = true) (k:Nat) (p:List GPrefix):PT.noTmpL (putC zeroC C k p) = true:=by
  rw [PT.noTmpL_iff] at h ⊢
  have hg:(goneK p).noTmp = true:=by simp [goneK,PT.noTmp]
  unfold putC
  intro c hc
  split at hc
  · rcases List.mem_append.1 hc with hc | hc
    · exact h c (List.mem_of_mem_take hc)
    · rcases List.mem_cons.1 hc with rfl | hc
      · exact hg
      · exact h c (List.mem_of_mem_drop hc)
  · rcases List.mem_append.1 hc with hc | hc
    · exact h c hc
    · rcases List.mem_cons.1 hc with rfl | hc
      · exact hg
      · exact (PT.noTmpL_iff zeroC).1 (by simp [zeroC,PT.noTmpL,PT.noTmp]) c hc
theorem noTmp_puts (D:List GPrefix) (U:List GUpdate):∀ i,PT.noTmpL (putCs D (U.flatMap GUpdate.cz) i) = true
  | 0 => noTmpL_fm _ U fun x => by simp [GUpdate.cz,GUpdate.co,PT.noTmpL,PT.noTmp]
  | i + 1 => by
    simp only [putCs]
    exact noTmp_put (noTmp_puts D U i) _ _
theorem part_cellsP (g:List GPrefix) (q:Nat):((g.flatMap GPrefix.c).drop (q * 10 * 2)).take (minN g.length q * 2) = (partC g q).flatMap GPrefix.c ∧ minN g.length q = (partC g q).length:=by
  refine ⟨?_,(partC_len g q).symm⟩
  unfold partC minN
  rw [fm_dropAll GPrefix.c 2 (fun _ => rfl),fm_take GPrefix.c 2 (fun _ => rfl)]
  congr 1
  rcases Nat.lt_or_ge (g.length - q * 10) 10 with h | h
  · rw [Nat.min_eq_right (by omega),List.take_of_length_le (by rw [List.length_drop]; exact Nat.le_refl _),List.take_of_length_le (by rw [List.length_drop]; omega)]
  · rw [Nat.min_eq_left (by omega)]
theorem ok_TellFrom1 (q k k2:Nat) (l:List GRoute) (hl:routesOK l) (hs:srt l) (r:GRoute) (hr:attrOK r.Attrs):CallOK Tryz.prog 23 [.agg (GRoute.ci k r),.ip q [rd k2 l.length (l.flatMap (GRoute.ci k2))]] (.c (pb (decide (r ∈ l)))) [.agg (GRoute.ci k r),.ip q [rd k2 l.length (l.flatMap (GRoute.ci k2))]]:=by
  have hfm:=fnd_mem (r:=r) hs
  have hlen:=fm_len (GRoute.ci k2) 8 (fun _ => rfl) l
  refine okS (fn:=Tryz.f23) [] h0 Tryz.func23 (by kernel_rfl) rfl Tryz.ntmps23 Tryz.results23 (by simp) ?_
  simp
  refine Inv_intro (ok_findRoute k2 l r.Prefix hl.1 hs) ?_
  simp
  cases hf:fnd r.Prefix l with
  | false =>
    rw [hf] at hfm
    have hn:¬ r ∈ l:=fun h => by simpa using hfm.2 h
    simp [hn]
    refine drawP (tabEnv [] []) [⟨[],allD 22,true⟩,⟨[],allD 22,true⟩,⟨[],allD 22,true⟩,⟨[],allD 22,true⟩,⟨[],allD 22,true⟩,⟨[],allD 22,true⟩,⟨[.op 0 0 0],allD 22,true⟩,⟨[],allD 22,false⟩,⟨[],allD 22,true⟩,⟨[],allD 22,true⟩] h0 hm (tabEnv_ok tab_nil) (by kernel_rfl) (by kernel_rfl) ?_
    simp
  | true =>
    obtain ⟨hk,hp⟩:=(fnd_spec hs).1 hf
    have hd:=fm_drop (GRoute.ci k2) 8 (fun _ => rfl) l (kAt r.Prefix l) hk
    have hlt:kAt r.Prefix l * 8 < l.length * 8:=by omega
    rw [hf,List.getElem?_eq_getElem hk] at hfm
    have e:decide (r ∈ l) = decide (l[kAt r.Prefix l] = r):=by
      rw [decide_eq_decide,← hfm]
      simp
    have hx:=hl.2 _ (List.getElem_mem hk)
    rw [e]
    refine drawP (tabEnv [] _) [⟨[],allD 22,true⟩,⟨[],allD 22,true⟩,⟨[],allD 22,true⟩,⟨[],allD 22,true⟩,⟨[],allD 22,true⟩,⟨[],allD 22,true⟩,⟨[.op 0 0 0],allD 22,true⟩,⟨[.op 0 0 0],[13,14,15,16,17,18,19,20,21,3],false⟩,⟨[],allD 22,true⟩,⟨[],allD 22,true⟩] h0 hm (tabEnv_ok (tab_cons (ok_sameRoute k2 k l[kAt r.Prefix l] r hx hr) tab_nil)) (by kernel_rfl) (by kernel_rfl) ?_
    simp [hk,hd,hlen,hlt]
theorem ok_IndexFunc_Route (k q g:Nat) (caps:List (List PT)) (p:GRoute → Bool) (xs:List GRoute) (ha:xs.length ≤ 140737488351232)
    (hg:∀ x ∈ xs,CallOK Tryz.prog g (.agg (GRoute.ci k x) :: caps.map (PV.ip q)) (.c (pb (p x))) (.agg (GRoute.ci k x) :: caps.map (PV.ip q))) :
    CallOK Tryz.prog 62 [.c (rd k xs.length (xs.flatMap (GRoute.ci k))),.c (.fn q g caps)] (.c (pi (idxOf p xs))) [.c (rd k xs.length (xs.flatMap (GRoute.ci k))),.c (.fn q g caps)]:=by
  refine okS (fn:=Tryz.f62) [] h0 Tryz.func62 (by kernel_rfl) rfl Tryz.ntmps62 Tryz.results62 (by simp) ?_
  simp
  refine loopS [0,1,7,8] [] (fun n st => ∃ (i:Nat),i + n = xs.length ∧ (∀ (j:Nat) (hj:j < i) (hj':j < xs.length),p xs[j] = false) ∧ st = ⟨slOf 19 [(0,.t (rd k xs.length (xs.flatMap (GRoute.ci k)))),(1,.t (.fn q g caps)),(7,.t (pi xs.length)),(8,.t (pi i))],ofL []⟩) xs.length ?_ ?_
  · rintro Inv hI
    simp
    subst hI
    exact ⟨0,by omega,by intro j hj; omega,rfl⟩
  · rintro Inv hI n st ⟨i,hi,hall,rfl⟩
    refine ewr_sound (M:=[]) h0 ?_
    simp
    refine brn_app (fun h => ?_) (fun h => ?_)
    · simp at h
      have hd:=fm_drop (GRoute.ci k) 8 (fun _ => rfl) xs i h
      have hlen:=fm_len (GRoute.ci k) 8 (fun _ => rfl) xs
      have hlt:i * 8 < xs.length * 8:=by omega
      simp [h,hd,hlen,hlt]
      refine Inv_intro (hg _ (List.getElem_mem h)) ?_
      simp
      refine brn_app (fun h2 => ?_) (fun h2 => ?_)
      · simp
        exact (idxOf_hit p xs i h h2 fun j hj => hall j hj (by omega)).symm
      · simp
        subst hI
        refine Less_mk (n - 1) (by omega) ⟨i + 1,by omega,?_,by rw [wrNext i (by omega)]⟩
        intro j hj hj'
        by_cases hji:j = i
        · subst hji; exact h2
        · exact hall j (by omega) hj'
    · simp at h
      simp
      exact (idxOf_no p xs fun j hj => hall j (by omega) hj).symm
theorem put8 {α:Type} (C Y:List α) (i j:Nat) (hY:Y.length = 8) (h:i * 8 + 8 ≤ C.length) (hij:i < j):(C.take (i * 8) ++ (Y ++ C.drop (i * 8 + 8))).length = C.length ∧ (C.take (i * 8) ++ (Y ++ C.drop (i * 8 + 8))).take ((i + 1) * 8) = C.take (i * 8) ++ Y ∧ (C.take (i * 8) ++ (Y ++ C.drop (i * 8 + 8))).drop ((j + 1) * 8) = C.drop ((j + 1) * 8):=by
  have hl:(C.take (i * 8)).length = i * 8:=by rw [List.length_take]; omega
  have hl2:(C.take (i * 8) ++ Y).length = (i + 1) * 8:=by rw [List.length_append,hl,hY]; omega
  refine ⟨?_,?_,?_⟩
  · simp only [List.length_append,List.length_drop,hl,hY]
    omega
  · rw [← List.append_assoc]
    exact List.take_left' hl2
  · rw [← List.append_assoc,show (j + 1) * 8 = (C.take (i * 8) ++ Y).length + (j - i) * 8 by rw [hl2]; omega,List.drop_length_add_append,List.drop_drop,hl2]
    congr 1
    omega
theorem ok_DeleteFunc_Route (k q g:Nat) (caps:List (List PT)) (p:GRoute → Bool) (xs:List GRoute) (ha:xs.length ≤ 140737488351232)
    (hg:∀ k',∀ x ∈ xs,CallOK Tryz.prog g (.agg (GRoute.ci k' x) :: caps.map (PV.ip q)) (.c (pb (p x))) (.agg (GRoute.ci k' x) :: caps.map (PV.ip q))) :
    CallOK Tryz.prog 21 [.c (.sl 0 56 xs.length (xs.flatMap (GRoute.ci k))),.c (.fn q g caps)] (.c (.sl 0 56 (xs.filter fun x => !p x).length ((xs.filter fun x => !p x).flatMap (GRoute.ci k)))) [.c .hole,.c (.fn q g caps)]:=by
  refine okS (fn:=Tryz.f21) [] h0 Tryz.func21 (by kernel_rfl) rfl Tryz.ntmps21 Tryz.results21 (by simp) ?_
  simp
  refine Inv_intro (ok_IndexFunc_Route 0 q g caps p xs ha (hg 0)) ?_
  simp
  rcases idxOf_find p xs with ⟨e,hf⟩ | ⟨i0,hi0,e,hf⟩
  · rw [e]
    have hall:xs.filter (fun x => !p x) = xs:=by
      rw [List.findIdx?_eq_none_iff] at hf
      exact List.filter_eq_self.2 fun x hx => by simp [hf x hx]
    rw [hall]
    simp
  · rw [e]
    have hne:¬ (i0:Int) = -1:=by omega
    have hw0:IntKind.wrap .i64 ((i0:Int) + 1) = ((i0 + 1:Nat):Int):=wrNext i0 (by omega)
    simp [hne,hw0]
    refine loopS [0,1,5,6] [.arg 0 0] (fun m st => ∃ (j i:Nat) (C:List PT),j + m = xs.length ∧ i < j ∧ ((xs.take j).filter fun x => !p x).length = i ∧ C.length = xs.length * 8 ∧ C.take (i * 8) = ((xs.take j).filter fun x => !p x).flatMap (GRoute.ci k) ∧ C.drop (j * 8) = (xs.drop j).flatMap (GRoute.ci k) ∧ st = ⟨slOf 42 [(0,.ref ⟨.arg 0 0,[]⟩ 0 xs.length),(1,.t (.fn q g caps)),(5,.t (pi i)),(6,.t (pi j))],ofL [(.arg 0 0,.sl 0 56 xs.length C)]⟩) (xs.length - (i0 + 1)) ?_ ?_
    · rintro Inv hI
      have hfirst:(xs.take (i0 + 1)).filter (fun x => !p x) = xs.take i0:=by
        rw [List.findIdx?_eq_some_iff_getElem] at hf
        obtain ⟨h1,h2,h3⟩:=hf
        rw [take_step xs i0 hi0,List.filter_append]
        have e1:(xs.take i0).filter (fun x => !p x) = xs.take i0:=by
          refine List.filter_eq_self.2 fun x hx => ?_
          obtain ⟨j,hj,rfl⟩:=List.mem_iff_getElem.1 hx
          have hj':j < i0:=by rw [List.length_take] at hj; omega
          rw [List.getElem_take]
          simpa using h3 j hj'
        rw [e1]
        simp [h2]
      simp
      subst hI
      refine ⟨i0 + 1,i0,xs.flatMap (GRoute.ci k),by omega,by omega,by rw [hfirst,List.length_take]; omega,fm_len (GRoute.ci k) 8 (fun _ => rfl) xs,?_,?_,?_⟩
      · have hx:=congrArg (List.flatMap (GRoute.ci k)) (List.take_append_drop i0 xs)
        rw [List.flatMap_append] at hx
        rw [hfirst,← hx,List.take_left' (by rw [fm_len (GRoute.ci k) 8 (fun _ => rfl),List.length_take]; omega)]
      · have hx:=congrArg (List.flatMap (GRoute.ci k)) (List.take_append_drop (i0 + 1) xs)
        rw [List.flatMap_append] at hx
        rw [← hx,List.drop_left' (by rw [fm_len (GRoute.ci k) 8 (fun _ => rfl),List.length_take]; omega)]
      · rfl
    · rintro Inv hI m st ⟨j,i,C,hj,hlt,hi,hCl,hCt,hCd0,rfl⟩
      refine ewr_sound (M:=[]) h0 ?_
      simp
      refine brn_app (fun a => ?_) (fun a => ?_)
      · simp at a
        have hCd:C.drop (j * 8) = GRoute.ci k xs[j] ++ (xs.drop (j + 1)).flatMap (GRoute.ci k):=by
          rw [hCd0,drop_step _ j a,List.flatMap_cons]
        have hCn:C.drop ((j + 1) * 8) = (xs.drop (j + 1)).flatMap (GRoute.ci k):=by
          have:(j + 1) * 8 = j * 8 + 8:=by omega
          rw [this,← List.drop_drop,hCd]
          rfl
        have hb:j * 8 + 8 ≤ xs.length * 8:=by omega
        have hfs:(xs.take (j + 1)).filter (fun x => !p x) = (xs.take j).filter (fun x => !p x) ++ (if p xs[j] = true then [] else [xs[j]]):=by
          rw [take_step xs j a,List.filter_append]
          cases hpx:p xs[j] <;> simp [hpx]
        simp at hCd
        simp [a,hCl,hCd,hb]
        refine Inv_intro (hg k _ (List.getElem_mem a)) ?_
        simp
        refine brn_app (fun b => ?_) (fun b => ?_)
        · simp at b
          rw [if_neg (by simp [b])] at hfs
          have hib:i * 8 < xs.length * 8:=by omega
          have hib2:i < xs.length:=by omega
          have hib3:i * 8 + 8 ≤ xs.length * 8:=by omega
          simp [hCl,hib,hib2,hib3]
          subst hI
          obtain ⟨g1,g2,g3⟩:=put8 C (GRoute.ci k xs[j]) i j rfl (by omega) hlt
          refine Less_mk (m - 1) (by omega) ⟨j + 1,i + 1,_,by omega,by omega,by rw [hfs,List.length_append,hi]; rfl,g1.trans hCl,?_,?_,?_⟩
          · rw [g2,hCt,hfs,List.flatMap_append]
            simp
          · rw [g3,hCn]
          · rw [wrNext i (by omega),wrNext j (by omega)]
            rfl
        · simp at b
          rw [if_pos b,List.append_nil] at hfs
          simp
          subst hI
          refine Less_mk (m - 1) (by omega) ⟨j + 1,i,C,by omega,by omega,by rw [hfs,hi],hCl,?_,?_,?_⟩
          · rw [hCt,hfs]
          · rw [hCn]
          · rw [wrNext j (by omega)]
      · simp at a
        have hjn:j = xs.length:=by omega
        subst hjn
        rw [List.take_length] at hi hCt
        have hil:i ≤ xs.length:=by omega
        have hCtl:(C.take (i * 8)).length = i * 8:=by rw [List.length_take]; omega
        have hz0:¬ xs.length - i = 0:=by omega
        have hz1:i * 8 + (xs.length - i) * 8 ≤ C.length:=by omega
        have hz2:i * 8 ≤ min (i * 8) C.length + ((xs.length - i) * 8 + (C.length - (i * 8 + (xs.length - i) * 8))):=by omega
        have hTT:∀ Y,List.take (i * 8) (C.take (i * 8) ++ Y) = C.take (i * 8):=fun Y => List.take_left' hCtl
        rw [hi,← hCt]
        simp [hil,hz0,hz1,hz2,hTT]
theorem ok_iTellFrom1 (k k':Nat) (a b:List GRoute) (hra:routesOK a) (hrb:routesOK b):CallOK Tryz.prog 5 [.c (rd (k + 1) a.length (a.flatMap (GRoute.ci (k + 1)))),.c (rd (k' + 1) b.length (b.flatMap (GRoute.ci (k' + 1))))] (.tup [.c (.sl 0 38 (rTellFrom a b).1.length ((rTellFrom a b).1.flatMap GUpdate.co)),.c (pb (rTellFrom a b).2)]) [.c (rd (k + 1) a.length (a.flatMap (GRoute.ci (k + 1)))),.c (rd (k' + 1) b.length (b.flatMap (GRoute.ci (k' + 1))))]:=by
  have g1:=ok_iGoodRoutes (k + 1) a hra
  have g2:=ok_iGoodRoutes (k' + 1) b hrb
  refine okF [4,5] [.op 12 1 0] (fn:=Tryz.f5) h0 Tryz.func5 (by kernel_rfl) rfl Tryz.ntmps5 Tryz.results5 (by simp) rfl ?_
  by_cases hg:goodRs a = true ∧ goodRs b = true
  · obtain ⟨hga,hgb⟩:=hg
    have e:rTellFrom a b = (tellL a b,true):=by simp [rTellFrom,hga,hgb]
    rw [e]
    obtain ⟨⟨hsa,_⟩,hla⟩:=goodRs_L hga
    obtain ⟨⟨hsb,hgoodb⟩,hlb⟩:=goodRs_L hgb
    rw [hga] at g1
    rw [hgb] at g2
    refine ewrN_cutD (M:=[(21,[2,0])]) h0 6 [6,11,12] [.op 9 4 0,.op 11 4 0,.op 12 1 0] ⟨slOf 117 [(6,.ref ⟨.op 9 4 0,[]⟩ 0 (goneT a b).length),(11,.ptr ⟨.op 11 4 0,[]⟩ 0),(12,.ptr ⟨.op 12 1 0,[]⟩ 0)],ofL [(.op 9 4 0,.sl 0 54 (goneT a b).length ((goneT a b).flatMap GPrefix.c)),(.op 11 4 0,.sl 0 23 1 [.sl 0 56 (comeT a b).length ((comeT a b).flatMap (GRoute.ci (k' + 1)))]),(.op 12 1 0,.sl 0 26 1 [.sl 0 38 0 []])]⟩ ?_ ?_
    · clear g1 g2 e
      simp only [Code.rest]
      have hcl:(comeT a b).length ≤ 20:=Nat.le_trans (comeT_len a b) hlb
      have hco:routesOK (comeT a b):=⟨by omega,fun r hr => hrb.2 r (List.mem_filter.1 hr).1⟩
      have hGo:=ok_groupsOf 0 (comeT a b) hco hcl
      have hCg:∀ r ∈ comeT a b,goodR r = true:=fun r hr => hgoodb r (List.mem_filter.1 hr).1
      have hCl:=fm_len (GRoute.ci (k' + 1)) 8 (fun _ => rfl) (comeT a b)
      have hCT:=List.take_of_length_le (Nat.le_of_eq hCl)
      have hgl:(goneT a b).length ≤ 20:=Nat.le_trans (goneT_len a b) hla
      have hgk:gOK (comeT a b).length (groupsL (comeT a b)):=groupsN_ok _ _
      unfold tellL
      generalize groupsL (comeT a b) = G at *
      generalize comeT a b = C at *
      generalize goneT a b = D at *
      have hGl:G.length ≤ 20:=Nat.le_trans hgk.1 hcl
      refine ewpD_lendRow (.op 9 4 0) 6 (e:=54) (m:=D.length) (cs:=D.flatMap GPrefix.c) (by decide) (by simp) (by simp) (fun h => by simp [List.eq_nil_of_length_eq_zero h]) ?_
      simp
      refine ewpD_freeze (.op 11 4 0) rfl (e:=23) (n:=1) (cs:=[.sl 0 56 C.length (C.flatMap (GRoute.ci (k' + 1)))]) (by simp) (by decide) ?_
      simp
      refine ewpD_seq ?_
      refine ewpD_cut (st1:=⟨slOf 117 [(6,.t (rd 0 D.length (D.flatMap GPrefix.c))),(11,.ptr ⟨.op 11 4 0,[]⟩ 0),(12,.ptr ⟨.op 12 1 0,[]⟩ 0),(57,.ref ⟨.op 13 1 0,[]⟩ 0 G.length),(58,.t (pi G.length)),(59,.t (pi 0))],ofL [(.op 11 4 0,.sl 0 23 1 [rd 0 C.length (C.flatMap (GRoute.ci 0))]),(.op 12 1 0,.sl 0 26 1 [.sl 0 38 0 []]),(.op 13 1 0,.sl 0 34 G.length (G.map cIntSo))]⟩) (keep:=[6,11,12,57,58,59]) (ids:=[.op 11 4 0,.op 12 1 0,.op 13 1 0]) ?_ ?_
      · intro K hK _
        refine ewr_sound (M:=[]) h0 ?_
        simp [hCT]
        refine Inv_intro hGo ?_
        simp
        refine hK _ ?_
        simp
      · refine ewpD_lendRow (.op 13 1 0) 57 (e:=34) (m:=G.length) (cs:=G.map cIntSo) (by decide) (by simp) (by simp) (fun h => by simp [List.eq_nil_of_length_eq_zero h]) ?_
        simp
        refine ewpD_sw (.op 11 4 0) (.arg 9 0) ?_
        simp
        refine ewpD_sw (.op 12 1 0) (.arg 9 1) ?_
        simp
        refine ewpD_block ?_
        refine loopD [6,11,12,57,58,59] [] (fun n st => ∃ (i:Nat),i + n = G.length ∧ st = ⟨slOf 117 [(6,.t (rd 0 D.length (D.flatMap GPrefix.c))),(11,.ptr ⟨.arg 9 0,[]⟩ 0),(12,.ptr ⟨.arg 9 1,[]⟩ 0),(57,.t (rd 0 G.length (G.map (cIntSi 0)))),(58,.t (pi G.length)),(59,.t (pi i))],ofL [(.arg 9 0,.sl 0 23 1 [rd 0 C.length (C.flatMap (GRoute.ci 0))]),(.arg 9 1,.sl 0 26 1 [.sl 0 38 (upds1 C (G.take i)).length ((upds1 C (G.take i)).flatMap GUpdate.cz)])]⟩) G.length ?_ ?_
        · rintro Inv hI
          simp
          subst hI
          exact ⟨0,by omega,by simp [upds1]⟩
        · rintro Inv hI n st ⟨i,hi,rfl⟩
          refine ewpD_cut (st1:=⟨slOf 117 [(6,.t (rd 0 D.length (D.flatMap GPrefix.c))),(11,.ptr ⟨.arg 9 0,[]⟩ 0),(12,.ptr ⟨.arg 9 1,[]⟩ 0),(57,.t (rd 0 G.length (G.map (cIntSi 0)))),(58,.t (pi G.length)),(59,.t (pi i)),(60,.t (pb (decide (i < G.length))))],ofL [(.arg 9 0,.sl 0 23 1 [rd 0 C.length (C.flatMap (GRoute.ci 0))]),(.arg 9 1,.sl 0 26 1 [.sl 0 38 (upds1 C (G.take i)).length ((upds1 C (G.take i)).flatMap GUpdate.cz)])]⟩) (keep:=[6,11,12,57,58,59,60]) (ids:=[]) ?_ ?_
          · intro K hK _
            refine ewr_sound (M:=[]) h0 ?_
            simp
            refine hK _ ?_
            simp
          · refine ewpD_seq ?_
            refine ewpD_cond (b:=decide (i < G.length)) (by simp) (fun c => ?_) (fun c => ?_)
            · simp at c
              refine ewpD_skip ?_
              simp only [eThen]
              obtain ⟨a0,t0,hg,hgl1,hgl2⟩:=gOK_mem hgk i c
              have hUl:(upds1 C (G.take i)).length ≤ 40:=Nat.le_trans (upds1_len C (G.take i) fun g hg => Nat.le_trans (hgk.2 g (List.mem_of_mem_take hg)).2.1 hcl) (by rw [List.length_take]; omega)
              generalize hU:upds1 C (G.take i) = U at *
              have hUs:=upds1_snoc C G i c
              rw [hU] at hUs
              refine ewpD_seq ?_
              refine ewpD_block ?_
              refine ewpD_cut (st1:=⟨slOf 117 [(6,.t (rd 0 D.length (D.flatMap GPrefix.c))),(11,.ptr ⟨.arg 9 0,[]⟩ 0),(12,.ptr ⟨.arg 9 1,[]⟩ 0),(14,.ptr ⟨.op 15 2 0,[]⟩ 0),(57,.t (rd 0 G.length (G.map (cIntSi 0)))),(58,.t (pi G.length)),(59,.t (pi i))],ofL [(.arg 9 0,.sl 0 23 1 [rd 0 C.length (C.flatMap (GRoute.ci 0))]),(.arg 9 1,.sl 0 26 1 [.sl 0 38 U.length (U.flatMap GUpdate.cz)]),(.op 15 2 0,.sl 0 34 1 [rd 0 G[i].length (G[i].map pi)])]⟩) (keep:=[6,11,12,14,57,58,59]) (ids:=[.op 15 2 0]) ?_ ?_
              · intro K hK _
                refine ewr_sound (M:=[]) h0 ?_
                simp [c]
                refine hK _ ?_
                simp
              · refine ewpD_cut (st1:=⟨slOf 117 [(6,.t (rd 0 D.length (D.flatMap GPrefix.c))),(11,.ptr ⟨.arg 9 0,[]⟩ 0),(12,.ptr ⟨.arg 9 1,[]⟩ 0),(14,.ptr ⟨.op 15 2 0,[]⟩ 0),(57,.t (rd 0 G.length (G.map (cIntSi 0)))),(58,.t (pi G.length)),(59,.t (pi i)),(64,.fnc 65 [.ptr ⟨.op 16 1 0,[]⟩ 0,.ptr ⟨.op 16 1 1,[]⟩ 0])],ofL [(.arg 9 0,.sl 0 23 1 [rd 0 C.length (C.flatMap (GRoute.ci 0))]),(.arg 9 1,.sl 0 26 1 [.sl 0 38 U.length (U.flatMap GUpdate.cz)]),(.op 15 2 0,.sl 0 34 1 [rd 0 G[i].length (G[i].map pi)]),(.op 16 1 0,.sl 0 34 1 [rd 0 G[i].length (G[i].map pi)]),(.op 16 1 1,.sl 0 3 1 [pi 10])]⟩) (keep:=[6,11,12,14,57,58,59,64]) (ids:=[.op 15 2 0,.op 16 1 0,.op 16 1 1]) ?_ ?_
                · intro K hK _
                  refine ewr_sound (M:=[]) h0 ?_
                  simp
                  refine Inv_intro (ok_Chunk_int 0 G[i].length (G[i].map pi)) ?_
                  simp
                  refine hK _ ?_
                  simp
                · refine ewpD_lend 64 (f:=65) (ss:=[.ptr ⟨.op 16 1 0,[]⟩ 0,.ptr ⟨.op 16 1 1,[]⟩ 0]) (ids:=[.op 16 1 0,.op 16 1 1]) (ps:=[.sl 0 34 1 [rd 0 G[i].length (G[i].map pi)],.sl 0 3 1 [pi 10]]) (by decide) (by simp) (by simp [Id.isOp]) (by simp) ?_
                  simp
                  refine ewpD_sw (.op 15 2 0) (.arg 9 2) ?_
                  simp
                  refine ewpD_block ?_
                  refine ewpD_drop [6,11,12,14,57,58,59,64] [] ?_
                  simp
                  have hn1:n - 1 < n:=by omega
                  have hi1:i + 1 + (n - 1) = G.length:=by omega
                  have hgl3:G[i].length ≤ 20:=by rw [hg]; omega
                  have hgl4:∀ x ∈ G[i],0 ≤ x ∧ x < (C.length:Int):=by rw [hg]; exact hgl2
                  generalize hge:G[i] = g at *
                  refine rangeD2 (n:=1) (m:=partN g) (q:=1) (f:=65) (caps:=[[rd 0 g.length (g.map pi)],[pi 10]]) (fun q => [(.arg 9 0,.sl 0 23 1 [rd 0 C.length (C.flatMap (GRoute.ci 0))]),(.arg 9 1,.sl 0 26 1 [.sl 0 38 (U ++ (List.range q).map (updA C g)).length ((U ++ (List.range q).map (updA C g)).flatMap GUpdate.cz)]),(.arg 9 2,.sl 0 34 1 [rd 0 g.length (g.map pi)])]) (fun q => .t (rd 0 (partC g q).length ((partC g q).map pi))) (fun q => ⟨slOf 117 [(11,.ptr ⟨.arg 9 0,[]⟩ 0),(12,.ptr ⟨.arg 9 1,[]⟩ 0),(14,.ptr ⟨.arg 9 2,[]⟩ 0),(15,.t (rd 0 (partC g q).length ((partC g q).map pi)))],ofL [(.arg 9 0,.sl 0 23 1 [rd 0 C.length (C.flatMap (GRoute.ci 0))]),(.arg 9 1,.sl 0 26 1 [.sl 0 38 (U ++ (List.range q).map (updA C g)).length ((U ++ (List.range q).map (updA C g)).flatMap GUpdate.cz)]),(.arg 9 2,.sl 0 34 1 [rd 0 g.length (g.map pi)])]⟩) (fun q => slOf 117 []) (by decide) (by simp) (by simp) chunk_int_cf ?_ ?_ ?_ ?_ ?_
                  · intro I lb vs J W hvs hIW hJb hJg hY hJ0
                    simp only [ImC] at hvs
                    obtain ⟨x,vs',rfl,hx,y,vs'',rfl,hy,rfl⟩:=hvs
                    refine chunk_int_in (g.map pi) g.length 0 lb 1 x y I J W (by omega) (by simp) hx hy hIW hJb hJg (fun q hq W1 va hJi hva => hY q hq W1 va hJi fun L => ?_) hJ0
                    have:=hva L
                    rw [(part_cells g q).1,(part_cells g q).2] at this
                    exact this
                  · intro I lb q hq
                    refine stepIn_of (M:=[]) [11,12,14,15] [] h0 ?_
                    intro K hK
                    simp
                    refine hK _ ?_
                    simp
                  · intro I lb q hq
                    refine stepIn_of (M:=[]) [] [] h0 ?_
                    intro K hK
                    subst hg
                    obtain ⟨ha1,ha2⟩:=hgl4 a0 (by simp)
                    have hBs:(U ++ (List.range (q + 1)).map (updA C (a0 :: t0))).flatMap GUpdate.cz = (U ++ (List.range q).map (updA C (a0 :: t0))).flatMap GUpdate.cz ++ GUpdate.cz (updA C (a0 :: t0) q):=by
                      rw [updsG_step,← List.append_assoc,List.flatMap_append]
                      simp
                    have hns:(U ++ (List.range (q + 1)).map (updA C (a0 :: t0))).length = (U ++ (List.range q).map (updA C (a0 :: t0))).length + 1:=by
                      rw [updsG_step,← List.append_assoc,List.length_append]
                      rfl
                    have hBl:=fm_len GUpdate.cz 8 (fun _ => rfl) (U ++ (List.range q).map (updA C (a0 :: t0)))
                    have hnb:(U ++ (List.range q).map (updA C (a0 :: t0))).length ≤ 60:=by
                      rw [List.length_append,List.length_map,List.length_range]
                      unfold partN at hq
                      omega
                    rw [hBs,hns] at hK
                    generalize (U ++ (List.range q).map (updA C (a0 :: t0))).flatMap GUpdate.cz = B at *
                    generalize (U ++ (List.range q).map (updA C (a0 :: t0))).length = nB at *
                    simp
                    have hk:a0.toNat < C.length:=by omega
                    have hd0:=fm_drop (GRoute.ci 0) 8 (fun _ => rfl) C a0.toNat hk
                    have hlC:=fm_len (GRoute.ci 0) 8 (fun _ => rfl) C
                    have hlt:a0.toNat * 8 < C.length * 8:=by omega
                    have hsm:=goodR_small (hCg _ (List.getElem_mem hk))
                    refine drawPR (tabEnv [] _) [⟨[.arg 9 0],allD 117,true⟩,⟨[.arg 9 2],allD 117,true⟩,⟨[],allD 117,true⟩,⟨[],allD 117,true⟩,⟨[],allD 117,true⟩,⟨[],allD 117,true⟩,⟨[],allD 117,true⟩,⟨[],allD 117,false⟩,⟨[.op 18 7 1,.op 18 7 5],allD 117,true⟩,⟨[],allD 117,false⟩,⟨[.op 18 7 1,.op 18 7 5,.op 18 9 0],[66,67,68,69,70,71,72,73,74,16],false⟩] h0 hm (tabEnv_ok (tab_cons (ok_ownAttrs 0 C[a0.toNat].Attrs (by omega) (by omega)) tab_nil)) (by kernel_rfl) (by kernel_rfl) ?_
                    simp [ha1,ha2,hk,hd0,hlC,hlt]
                    have hpl:(partC (a0 :: t0) q).length ≤ 10 ∧ 0 < (partC (a0 :: t0) q).length:=by
                      rw [partC_len]
                      unfold partN at hq
                      omega
                    have hpm:∀ x ∈ partC (a0 :: t0) q,0 ≤ x ∧ x < (C.length:Int):=fun x hx => hgl4 x (List.mem_of_mem_drop (List.mem_of_mem_take hx))
                    have hUn:updA C (a0 :: t0) q = ⟨[],C[a0.toNat].Attrs,(partC (a0 :: t0) q).map (prefAt C)⟩:=by
                      unfold updA attrAt
                      simp only [List.getElem?_eq_getElem hk]
                    generalize partC (a0 :: t0) q = p at *
                    generalize C[a0.toNat].Attrs = at0 at *
                    obtain ⟨hpl1,hpl2⟩:=hpl
                    refine loopSR [11,12,16,75,76,77] [.op 18 9 0] (fun m st => ∃ (j:Nat) (Cm:PT),j + m = p.length ∧ Cm = (if j = 0 then .sl 0 nilE 0 [] else .sl 0 54 j (((p.take j).map (prefAt C)).flatMap GPrefix.c)) ∧ st = ⟨slOf 117 [(11,.ptr ⟨.arg 9 0,[]⟩ 0),(12,.ptr ⟨.arg 9 1,[]⟩ 0),(16,.ptr ⟨.op 18 9 0,[]⟩ 0),(75,.t (rd 0 p.length (p.map pi))),(76,.t (pi p.length)),(77,.t (pi j))],ofL [(.op 18 9 0,.sl 0 38 1 [.sl 0 nilE 0 [],pi at0.Origin,.sl 0 3 at0.Path.length (at0.Path.map pi),pi at0.Next,pi at0.Med,pi at0.Pref,.sl 0 3 at0.Comms.length (at0.Comms.map pi),Cm]),(.arg 9 0,.sl 0 23 1 [rd 0 C.length (C.flatMap (GRoute.ci 0))]),(.arg 9 1,.sl 0 26 1 [.sl 0 38 nB B]),(.arg 9 2,.sl 0 34 1 [rd 0 (t0.length + 1) (pi a0 :: t0.map pi)])]⟩) p.length ?_ ?_
                    · rintro Inv hI2
                      simp
                      subst hI2
                      exact ⟨0,_,by omega,rfl,rfl⟩
                    · rintro Inv hI2 m st ⟨j,Cm,hj,hCm,rfl⟩
                      refine ewrR_sound (M:=[]) h0 ?_
                      simp
                      refine brn_app (fun d => ?_) (fun d => ?_)
                      · simp at d
                        obtain ⟨hx1,hx2⟩:=hpm _ (List.getElem_mem d)
                        have hkx:p[j].toNat < C.length:=by omega
                        have hdx:=fm_drop (GRoute.ci 0) 8 (fun _ => rfl) C p[j].toNat hkx
                        have hltx:p[j].toNat * 8 < C.length * 8:=by omega
                        have hpre:prefAt C p[j] = C[p[j].toNat].Prefix:=by
                          unfold prefAt
                          rw [List.getElem?_eq_getElem hkx]
                        have hsn:((p.take (j + 1)).map (prefAt C)).flatMap GPrefix.c = ((p.take j).map (prefAt C)).flatMap GPrefix.c ++ GPrefix.c C[p[j].toNat].Prefix:=by
                          rw [take_step p j d,List.map_append,List.flatMap_append]
                          simp [hpre]
                        have hlp:(((p.take j).map (prefAt C)).flatMap GPrefix.c).length = j * 2:=by
                          rw [fm_len GPrefix.c 2 (fun _ => rfl),List.length_map,List.length_take,Nat.min_eq_left (by omega)]
                        generalize ((p.take j).map (prefAt C)).flatMap GPrefix.c = A at *
                        have htA:A.take (j * 2) = A:=List.take_of_length_le (by omega)
                        have hb1:(j + 1) * 16 ≤ 140737488355328:=by omega
                        have hb2:j ≤ 9223372036854775806:=by omega
                        simp [d]
                        by_cases hj0:j = 0
                        · subst hj0
                          rw [if_pos rfl] at hCm
                          subst hCm
                          refine drawPR (tabEnv [] []) [⟨[.op 18 9 0],allD 117,true⟩,⟨[.op 18 9 0],allD 117,true⟩,⟨[.arg 9 0],allD 117,true⟩,⟨[],allD 117,true⟩,⟨[],allD 117,true⟩,⟨[],allD 117,true⟩,⟨[],allD 117,true⟩,⟨[],allD 117,false⟩,⟨[.op 18 9 0,.op 22 7 0],[81,82,83,84,85,86,87,88,89,90],false⟩,⟨[.op 18 9 0],allD 117,true⟩,⟨[.op 18 9 0,.op 22 8 0],[81,82,83,84,85,86,87,88,89,90],false⟩] h0 hm (tabEnv_ok tab_nil) (by kernel_rfl) (by kernel_rfl) ?_
                          simp [hx1,hx2,hkx,hdx,hlC,hltx]
                          subst hI2
                          refine Less_mk (m - 1) (by omega) ⟨1,_,by omega,rfl,?_⟩
                          have hA0:A = []:=List.eq_nil_of_length_eq_zero (by omega)
                          rw [hA0,List.map_take] at hsn
                          have hw1:IntKind.i64.wrap 1 = 1:=by decide
                          simp at hsn
                          simp [hsn,hw1]
                        · rw [if_neg hj0] at hCm
                          subst hCm
                          refine drawPR (tabEnv [] []) [⟨[.op 18 9 0],allD 117,true⟩,⟨[.op 18 9 0],allD 117,true⟩,⟨[.arg 9 0],allD 117,true⟩,⟨[],allD 117,true⟩,⟨[],allD 117,true⟩,⟨[],allD 117,true⟩,⟨[],allD 117,true⟩,⟨[],allD 117,false⟩,⟨[.op 18 9 0,.op 22 7 0],[81,82,83,84,85,86,87,88,89,90],false⟩,⟨[.op 18 9 0],allD 117,true⟩,⟨[.op 18 9 0,.op 22 8 0],[81,82,83,84,85,86,87,88,89,90],false⟩] h0 hm (tabEnv_ok tab_nil) (by kernel_rfl) (by kernel_rfl) ?_
                          simp [hx1,hx2,hkx,hdx,hlC,hltx,hb1,hb2,htA,hlp]
                          subst hI2
                          refine Less_mk (m - 1) (by omega) ⟨j + 1,_,by omega,rfl,?_⟩
                          rw [List.map_take] at hsn
                          simp at hsn
                          rw [wrNext j (by omega)]
                          simp [hsn]
                      · simp at d
                        have hjp:j = p.length:=by omega
                        subst hjp
                        rw [List.take_length,if_neg (by omega)] at hCm
                        subst hCm
                        have hpt:=List.take_of_length_le (Nat.le_of_eq (fm_len GPrefix.c 2 (fun _ => rfl) (p.map (prefAt C))))
                        rw [List.length_map] at hpt
                        have hBt:B.take (nB * 8) = B:=List.take_of_length_le (by omega)
                        have hb1:(nB + 1) * 128 ≤ 140737488355328:=by omega
                        have hb2:nB ≤ 9223372036854775806:=by omega
                        have hBle:nB * 8 ≤ B.length:=by omega
                        have hB8:(nB + 1) * 8 ≤ B.length + 8:=by omega
                        have hBt2:∀ c1 c2 c3 c4 c5 c6 c7 c8:PT,List.take ((nB + 1) * 8) (B ++ [c1,c2,c3,c4,c5,c6,c7,c8]) = B ++ [c1,c2,c3,c4,c5,c6,c7,c8]:=fun c1 c2 c3 c4 c5 c6 c7 c8 => List.take_of_length_le (by rw [List.length_append]; simp; omega)
                        simp [hpt,hBt,hb1,hb2,hBle,hB8,hBt2]
                        refine hK _ ?_
                        simp [hUn,GUpdate.cz,GUpdate.co]
                  · intro q hq x hx
                    simp only [List.mem_cons,List.not_mem_nil,or_false] at hx
                    rcases hx with rfl | rfl | rfl | rfl | rfl | rfl | rfl | rfl <;> simp [SlotOK]
                  · simp only [eBlock,eThen]
                    refine ewpD_sw (.arg 9 2) (.op 15 2 0) ?_
                    simp
                    refine ewpD_of (ewr_sound (M:=[]) h0 ?_)
                    simp
                    subst hI
                    refine Less_mk (n - 1) hn1 ⟨i + 1,hi1,?_⟩
                    rw [wrNext i (by omega),hUs]
                    simp [updsG]
            · simp at c
              have hig:i = G.length:=by omega
              subst hig
              refine ewpD_exit ?_
              simp only [eThen,eBlock,if_true]
              have hgk2:=hgk.2
              clear hI hi c hgk hGo hCl hCT hco hCg
              rw [List.take_length]
              have hUl:(upds1 C G).length ≤ 40:=Nat.le_trans (upds1_len C G fun g hg => Nat.le_trans (hgk2 g hg).2.1 hcl) (by omega)
              have hUg:∀ u ∈ upds1 C G,u.Gone = []:=fun u hu => by
                obtain ⟨g,_,hu⟩:=List.mem_flatMap.1 hu
                obtain ⟨x,_,rfl⟩:=List.mem_map.1 hu
                rfl
              clear hgk2
              generalize upds1 C G = U at *
              have hUc:=fm_len GUpdate.cz 8 (fun _ => rfl) U
              refine ewpD_drop [6,11,12] [] ?_
              simp
              refine ewpD_cut (st1:=⟨slOf 117 [(6,.t (rd 0 D.length (D.flatMap GPrefix.c))),(11,.ptr ⟨.arg 9 0,[]⟩ 0),(12,.ptr ⟨.arg 9 1,[]⟩ 0),(19,.ptr ⟨.op 26 0 0,[]⟩ 0)],ofL [(.arg 9 0,.sl 0 23 1 [rd 0 C.length (C.flatMap (GRoute.ci 0))]),(.arg 9 1,.sl 0 26 1 [.sl 0 38 U.length (U.flatMap GUpdate.cz)]),(.op 26 0 0,.sl 0 3 1 [pi 0])]⟩) (keep:=[6,11,12,19]) (ids:=[.op 26 0 0]) ?_ ?_
              · intro K hK _
                refine ewr_sound (M:=[]) h0 ?_
                simp
                refine hK _ ?_
                simp
              refine ewpD_seq ?_
              refine ewpD_cut (st1:=⟨slOf 117 [(11,.ptr ⟨.arg 9 0,[]⟩ 0),(12,.ptr ⟨.arg 9 1,[]⟩ 0),(19,.ptr ⟨.op 26 0 0,[]⟩ 0),(98,.fnc 67 [.ptr ⟨.op 27 1 0,[]⟩ 0,.ptr ⟨.op 27 1 1,[]⟩ 0])],ofL [(.arg 9 0,.sl 0 23 1 [rd 0 C.length (C.flatMap (GRoute.ci 0))]),(.arg 9 1,.sl 0 26 1 [.sl 0 38 U.length (U.flatMap GUpdate.cz)]),(.op 26 0 0,.sl 0 3 1 [pi 0]),(.op 27 1 0,.sl 0 33 1 [rd 0 D.length (D.flatMap GPrefix.c)]),(.op 27 1 1,.sl 0 3 1 [pi 10])]⟩) (keep:=[11,12,19,98]) (ids:=[.op 26 0 0,.op 27 1 0,.op 27 1 1]) ?_ ?_
              · intro K hK _
                refine ewr_sound (M:=[]) h0 ?_
                simp
                refine Inv_intro (ok_Chunk_px 0 D.length (D.flatMap GPrefix.c)) ?_
                simp
                refine hK _ ?_
                simp
              refine ewpD_lend 98 (f:=67) (ss:=[.ptr ⟨.op 27 1 0,[]⟩ 0,.ptr ⟨.op 27 1 1,[]⟩ 0]) (ids:=[.op 27 1 0,.op 27 1 1]) (ps:=[.sl 0 33 1 [rd 0 D.length (D.flatMap GPrefix.c)],.sl 0 3 1 [pi 10]]) (by decide) (by simp) (by simp [Id.isOp]) (by simp) ?_
              simp
              refine ewpD_sw (.op 26 0 0) (.arg 9 2) ?_
              simp
              refine ewpD_drop [11,12,19,98] [] ?_
              simp
              refine ewpD_block ?_
              refine rangeD2 (n:=1) (m:=partN D) (q:=1) (f:=67) (caps:=[[rd 0 D.length (D.flatMap GPrefix.c)],[pi 10]]) (fun q => [(.arg 9 0,.sl 0 23 1 [rd 0 C.length (C.flatMap (GRoute.ci 0))]),(.arg 9 1,.sl 0 26 1 [.sl 0 38 (putGs D U q).length (putCs D (U.flatMap GUpdate.cz) q)]),(.arg 9 2,.sl 0 3 1 [pi q])]) (fun q => .t (rd 0 (partC D q).length ((partC D q).flatMap GPrefix.c))) (fun q => ⟨slOf 117 [(12,.ptr ⟨.arg 9 1,[]⟩ 0),(19,.ptr ⟨.arg 9 2,[]⟩ 0),(20,.t (rd 0 (partC D q).length ((partC D q).flatMap GPrefix.c)))],ofL [(.arg 9 0,.sl 0 23 1 [rd 0 C.length (C.flatMap (GRoute.ci 0))]),(.arg 9 1,.sl 0 26 1 [.sl 0 38 (putGs D U q).length (putCs D (U.flatMap GUpdate.cz) q)]),(.arg 9 2,.sl 0 3 1 [pi q])]⟩) (fun q => slOf 117 []) (by decide) (by simp) (by simp [putGs,putCs]) chunk_px_cf ?_ ?_ ?_ ?_ ?_
              · intro I lb vs J W hvs hIW hJb hJg hY hJ0
                simp only [ImC] at hvs
                obtain ⟨x,vs',rfl,hx,y,vs'',rfl,hy,rfl⟩:=hvs
                refine chunk_px_in (D.flatMap GPrefix.c) D.length 0 lb 1 x y I J W (by omega) (fm_len GPrefix.c 2 (fun _ => rfl) D) hx hy hIW hJb hJg (fun q hq W1 va hJi hva => hY q hq W1 va hJi fun L => ?_) hJ0
                have:=hva L
                rw [(part_cellsP D q).1,(part_cellsP D q).2] at this
                exact this
              · intro I lb q hq
                refine stepIn_of (M:=[]) [12,19,20] [] h0 ?_
                intro K hK
                simp
                refine hK _ ?_
                simp
              · intro I lb q hq
                refine stepIn_of (M:=[]) [] [] h0 ?_
                intro K hK
                have hql:q ≤ 2:=by unfold partN at hq; omega
                have hge:=putGs_ge D U q
                have hle:=putGs_le D U q
                have hCl:=putCs_len D (U.flatMap GUpdate.cz) U hUc q
                simp only [putGs,putCs] at hK
                have hpl:(partC D q).length ≤ 10:=by rw [partC_len]; omega
                rw [putG_len] at hK
                generalize putGs D U q = O at *
                generalize putCs D (U.flatMap GUpdate.cz) q = B at *
                generalize partC D q = p at *
                have hBt:B.take (O.length * 8) = B:=List.take_of_length_le (by omega)
                have hb1:(O.length + 1) * 128 ≤ 140737488355328:=by omega
                have hb2:O.length ≤ 9223372036854775806:=by omega
                have hBle:O.length * 8 ≤ B.length:=by omega
                have hpw:IntKind.i64.wrap ((q:Int) + 1) = ((q + 1:Nat):Int):=wrNext q (by omega)
                simp
                refine brn_app (fun d => ?_) (fun d => ?_)
                · simp at d
                  have hqO:q = O.length:=by omega
                  subst hqO
                  rw [if_neg (Nat.lt_irrefl _)] at hK
                  have hputc:putC zeroC B O.length p = B ++ goneK p :: zeroC:=by
                    unfold putC
                    rw [if_neg (by omega)]
                  rw [hputc] at hK
                  have hB8:(O.length + 1) * 8 ≤ B.length + 8:=by omega
                  have hBt2:∀ c1 c2 c3 c4 c5 c6 c7 c8:PT,List.take ((O.length + 1) * 8) (B ++ [c1,c2,c3,c4,c5,c6,c7,c8]) = B ++ [c1,c2,c3,c4,c5,c6,c7,c8]:=fun c1 c2 c3 c4 c5 c6 c7 c8 => List.take_of_length_le (by rw [List.length_append]; simp; omega)
                  have hBt3:∀ Y:List PT,List.take (O.length * 8) (B ++ Y) = B:=fun Y => List.take_left' hCl
                  have hBd3:∀ c1 c2 c3 c4 c5 c6 c7 c8:PT,List.drop (O.length * 8 + 1) (B ++ [c1,c2,c3,c4,c5,c6,c7,c8]) = [c2,c3,c4,c5,c6,c7,c8]:=fun c1 c2 c3 c4 c5 c6 c7 c8 => by rw [← hCl,List.drop_length_add_append]; rfl
                  have hlt:O.length * 8 < B.length + 8:=by omega
                  simp [hBt,hb1,hb2,hBle,hB8,hBt2]
                  refine drawPR (tabEnv [] _) [⟨[.arg 9 1],allD 117,true⟩,⟨[.arg 9 2],allD 117,true⟩,⟨[],allD 117,true⟩,⟨[],allD 117,false⟩,⟨[.arg 9 1],allD 117,true⟩,⟨[.arg 9 1],allD 117,true⟩,⟨[.arg 9 1,.op 31 3 0],[108,109,110,111,112,113],false⟩] h0 hm (tabEnv_ok (tab_cons (ok_Clone_Prefix 0 p (by omega)) tab_nil)) (by kernel_rfl) (by kernel_rfl) ?_
                  have hl2:(O.length:Int) < (O.length:Int) + 1:=by omega
                  have hl3:O.length * 8 + 1 ≤ O.length * 8 + 8:=by omega
                  have hl4:O.length * 8 < O.length * 8 + 8:=by omega
                  simp [hBt3,hBd3,hlt,hCl,hpw,hl2,hl3,hl4]
                  refine hK _ ?_
                  simp [goneK,zeroC]
                  exact ofL_mv 1 _ _ _ (by simp)
                · simp at d
                  have hqO:q < O.length:=by omega
                  rw [if_pos hqO] at hK
                  have hlt:q * 8 < O.length * 8:=by omega
                  have hputc:putC zeroC B q p = B.take (q * 8) ++ goneK p :: B.drop (q * 8 + 1):=by
                    unfold putC
                    rw [if_pos (by omega)]
                  rw [hputc] at hK
                  simp
                  refine drawPR (tabEnv [] _) [⟨[.arg 9 1],allD 117,true⟩,⟨[.arg 9 2],allD 117,true⟩,⟨[],allD 117,true⟩,⟨[],allD 117,false⟩,⟨[.arg 9 1],allD 117,true⟩,⟨[.arg 9 1],allD 117,true⟩,⟨[.arg 9 1,.op 31 3 0],[108,109,110,111,112,113],false⟩] h0 hm (tabEnv_ok (tab_cons (ok_Clone_Prefix 0 p (by omega)) tab_nil)) (by kernel_rfl) (by kernel_rfl) ?_
                  have hl3:q * 8 + 1 ≤ O.length * 8:=by omega
                  simp [hlt,hCl,hpw,hqO,hl3]
                  refine hK _ ?_
                  simp [goneK]
                  exact ofL_mv 1 _ _ _ (by simp)
              · intro q hq x hx
                simp only [List.mem_cons,List.not_mem_nil,or_false] at hx
                rcases hx with rfl | rfl | rfl | rfl <;> simp [SlotOK]
              · simp only [eBlock,eThen]
                have hN:=nleL_puts D U hUg (partN D)
                have hT:=noTmp_puts D U (partN D)
                have hCl:=putCs_len D (U.flatMap GUpdate.cz) U hUc (partN D)
                generalize putGs D U (partN D) = O at *
                generalize putCs D (U.flatMap GUpdate.cz) (partN D) = B at *
                have hBt:B.take (O.length * 8) = B:=List.take_of_length_le (by omega)
                refine ewpD_sw (.arg 9 1) (.op 12 1 0) ?_
                simp
                refine ewpD_sw (.arg 9 0) (.op 11 4 0) ?_
                simp
                refine ewpD_sw (.arg 9 2) (.op 26 0 0) ?_
                simp
                refine ewpD_of (ewr_sound (M:=[]) h0 ?_)
                simp
                refine ThawedX_mk ?_
                have hBle:O.length * 8 ≤ B.length:=by omega
                simp [hT,hBle,hBt,hN,regroup]
    · intro K hK
      simp
      refine Inv_intro g1 ?_
      simp
      refine Inv_intro g2 ?_
      simp
      refine ewp_sw (.op 3 0 0) (.op 9 4 0) rfl rfl ?_
      simp
      refine loopS [1,2,6,30,31,32] [.op 0 0 0,.op 9 4 0] (fun n st => ∃ (i:Nat),i + n = a.length ∧ st = ⟨slOf 117 [(1,.t (rd (k' + 1) b.length (b.flatMap (GRoute.ci (k' + 1))))),(2,.ptr ⟨.op 0 0 0,[]⟩ 0),(6,.ref ⟨.op 9 4 0,[]⟩ 0 (goneT (a.take i) b).length),(30,.t (rd (k + 1) a.length (a.flatMap (GRoute.ci (k + 1))))),(31,.t (pi a.length)),(32,.t (pi i))],ofL [(.op 0 0 0,.sl 0 23 1 [rd (k + 1) a.length (a.flatMap (GRoute.ci (k + 1)))]),(.op 9 4 0,.sl 0 54 (goneT (a.take i) b).length ((goneT (a.take i) b).flatMap GPrefix.c))]⟩) a.length ?_ ?_
      · rintro Inv hI
        simp
        subst hI
        exact ⟨0,by omega,by simp [goneT]⟩
      · rintro Inv hI n st ⟨i,hi,rfl⟩
        have hgl:(goneT (a.take i) b).length ≤ i:=Nat.le_trans (goneT_len _ _) (by rw [List.length_take]; omega)
        refine ewr_sound (M:=[]) h0 ?_
        simp
        refine brn_app (fun c => ?_) (fun c => ?_)
        · simp at c
          have hd:=fm_drop (GRoute.ci (k + 1)) 8 (fun _ => rfl) a i c
          have hlen:=fm_len (GRoute.ci (k + 1)) 8 (fun _ => rfl) a
          have hlt:i * 8 < a.length * 8:=by omega
          have hsn:=goneT_snoc a b i c
          have hGl:=fm_len GPrefix.c 2 (fun _ => rfl) (goneT (a.take i) b)
          have hb1:((goneT (a.take i) b).length + 1) * 16 ≤ 140737488355328:=by omega
          have hb2:(goneT (a.take i) b).length ≤ 9223372036854775806:=by omega
          have ht:List.take ((goneT (a.take i) b).length * 2) ((goneT (a.take i) b).flatMap GPrefix.c) = (goneT (a.take i) b).flatMap GPrefix.c:=List.take_of_length_le (by omega)
          simp [c,hd,hlen,hlt]
          refine Inv_intro (ok_findRoute (k' + 1) b a[i].Prefix hrb.1 hsb) ?_
          rw [fnd_in hsb]
          simp
          cases hin:inT b a[i].Prefix with
          | true =>
            rw [hin] at hsn
            simp
            subst hI
            refine Less_mk (n - 1) (by omega) ⟨i + 1,by omega,?_⟩
            rw [wrNext i (by omega),hsn]
            simp
          | false =>
            rw [hin] at hsn
            simp [hGl,hb1,hb2,ht]
            subst hI
            refine Less_mk (n - 1) (by omega) ⟨i + 1,by omega,?_⟩
            rw [wrNext i (by omega),hsn]
            simp
        · simp at c
          have hil:i = a.length:=by omega
          subst hil
          rw [List.take_length]
          simp
          refine Inv_intro (ok_Clone_Route (k' + 1) b (by omega)) ?_
          simp
          refine Inv_intro (ok_DeleteFunc_Route (k' + 1) 1 23 [[rd (k + 1) a.length (a.flatMap (GRoute.ci (k + 1)))]] (fun r => decide (r ∈ a)) b (by omega) (fun k3 x hx => ok_TellFrom1 1 k3 (k + 1) a hra hsa x (hrb.2 x hx))) ?_
          rw [show b.filter (fun r => !decide (r ∈ a)) = comeT a b from rfl]
          have hcl:(comeT a b).length ≤ 20:=Nat.le_trans (comeT_len a b) hlb
          have hCl:=fm_len (GRoute.ci (k' + 1)) 8 (fun _ => rfl) (comeT a b)
          have hCT:=List.take_of_length_le (Nat.le_of_eq hCl)
          simp [hCT]
          refine hK _ ?_
          simp
  · have e:rTellFrom a b = ([],false):=by simp only [rTellFrom,if_neg hg]
    rw [e]
    refine ewpD_of (ewr_sound (M:=[]) h0 ?_)
    simp
    refine Inv_intro g1 ?_
    by_cases hga:goodRs a = true
    · have hgb:goodRs b = false:=by
        cases h:goodRs b with
        | false => rfl
        | true => exact absurd ⟨hga,h⟩ hg
      rw [hgb] at g2
      simp [hga]
      refine Inv_intro g2 ?_
      simp
      refine ThawedX_mk ?_
      simp
    · simp [hga]
      refine ThawedX_mk ?_
      simp
theorem route_up (k:Nat) (xs:List GRoute):PV.up (.c (rd k xs.length (xs.flatMap (GRoute.ci k)))) = .c (rd 1 xs.length (xs.flatMap (GRoute.ci 1))):=by
  simp [PV.up,PT.up,PT.upL_eq,List.map_flatMap,Function.comp_def,rd]
  rfl
theorem free_upd (l:List GUpdate):PT.freeL (l.flatMap GUpdate.co) = true:=freeL_fm _ _ fun u => by
  have h1:∀ l:List GPrefix,PT.freeL (l.flatMap GPrefix.c) = true:=fun l => freeL_fm _ _ fun o => by simp [PT.freeL,PT.free]
  simp [PT.freeL,PT.free,freeL_pi,h1]
theorem ok_iTellFrom (k k':Nat) (a b:List GRoute) (hra:routesOK a) (hrb:routesOK b):CallOK Tryz.prog 5 [.c (rd k a.length (a.flatMap (GRoute.ci k))),.c (rd k' b.length (b.flatMap (GRoute.ci k')))] (.tup [.c (.sl 0 38 (rTellFrom a b).1.length ((rTellFrom a b).1.flatMap GUpdate.co)),.c (pb (rTellFrom a b).2)]) [.c (rd k a.length (a.flatMap (GRoute.ci k))),.c (rd k' b.length (b.flatMap (GRoute.ci k')))]:=by
  have h:=ok_iTellFrom1 0 0 a b hra hrb
  refine CallOK.relabel ?_ rfl ?_
  · simpa only [List.map_cons,List.map_nil,route_up] using h
  · intro w I I' lr he hh
    refine free_cc ?_ rfl he hh
    simp only [PT.free]
    exact free_upd _
end Go.V
