/- What functions of the seat's program do, each proved of its code, under the bounds that its theorem names. -/
import Derived.Test.YtcmdgenpipojpaaGreatTan
set_option linter.all false
namespace Go.V
open Go.Proofs
set_option maxHeartbeats 1000000
set_option maxRecDepth 10000
set_option linter.unusedSimpArgs false
set_option linter.unusedVariables false
theorem ok_l14Groups (k:Nat) (l:List GRoute) (hl:routesOK l) (h20:l.length ≤ 20):CallOK Tryz.prog 69 [.c (rd k l.length (l.flatMap (GRoute.ci k)))] (.c (.sl 0 34 (groupsL l).length ((groupsL l).map cIntSo))) [.c (rd k l.length (l.flatMap (GRoute.ci k)))]:=by
  refine okS (fn:=Tryz.f69) [] h0 Tryz.func69 (by kernel_rfl) rfl Tryz.ntmps69 Tryz.results69 (by simp) ?_
  simp
  refine ewp_nil 3 (.op 14 4 0) 34 (by decide) rfl rfl rfl ?_
  refine loopS [0,3,9,10,11] [.op 14 4 0] (fun m st => ∃ (i:Nat),i + m = l.length ∧ st = ⟨slOf 57 [(0,.t (rd k l.length (l.flatMap (GRoute.ci k)))),(3,.ref ⟨.op 14 4 0,[]⟩ 0 (groupsN l i).length),(9,.t (rd k l.length (l.flatMap (GRoute.ci k)))),(10,.t (pi l.length)),(11,.t (pi i))],ofL [(.op 14 4 0,.sl 0 34 (groupsN l i).length ((groupsN l i).map cIntSo))]⟩) l.length ?_ ?_
  · rintro Inv hI
    simp
    subst hI
    exact ⟨0,by omega,rfl⟩
  · rintro Inv hI m st ⟨i,hi,rfl⟩
    have hG:=groupsN_ok l i
    have hS:=groupsN_succ l i
    generalize hGe:groupsN l i = G at hG hS ⊢
    obtain ⟨hGl,hGx⟩:=hG
    refine ewr_sound (M:=[]) h0 ?_
    simp
    refine brn_app (fun a => ?_) (fun a => ?_)
    · simp at a
      have hd:=fm_drop (GRoute.ci k) 8 (fun _ => rfl) l i a
      have hlen:=fm_len (GRoute.ci k) 8 (fun _ => rfl) l
      have hlt:i * 8 < l.length * 8:=by omega
      have hr:=hl.2 _ (List.getElem_mem a)
      have hS':=hS a
      have hxs:∀ x ∈ G,x.length ≤ i:=fun g hg => (hGx g hg).2.1
      simp [a,hd,hlen,hlt]
      generalize hX:l[i] = r at hr hS' ⊢
      refine loopS [0,3,4,5,6,9,10,11,16,17,18] [.op 14 4 0,.op 4 3 0] (fun m2 st => ∃ (j:Nat) (f:Bool) (H:List (List Int)),j + m2 = G.length ∧ (f = false ∧ H = G ∧ (∀ (q:Nat) (hq:q < j) (hl:q < G.length),pG l r.Attrs G[q] = false) ∨ f = true ∧ H = stepG l G i r.Attrs ∧ H.length = G.length) ∧ st = ⟨slOf 57 [(0,.t (rd k l.length (l.flatMap (GRoute.ci k)))),(3,.ref ⟨.op 14 4 0,[]⟩ 0 G.length),(4,.t (pi i)),(5,.ptr ⟨.op 4 3 0,[]⟩ 0),(6,.t (pb f)),(9,.t (rd k l.length (l.flatMap (GRoute.ci k)))),(10,.t (pi l.length)),(11,.t (pi i)),(16,.ref ⟨.op 14 4 0,[]⟩ 0 G.length),(17,.t (pi G.length)),(18,.t (pi j))],ofL [(.op 14 4 0,.sl 0 34 G.length (H.map cIntSo)),(.op 4 3 0,.sl 0 56 1 (GRoute.ci k r))]⟩) G.length ?_ ?_
      · rintro Inv2 hI2
        simp
        subst hI2
        exact ⟨0,false,G,by omega,.inl ⟨rfl,rfl,by intro q hq; omega⟩,rfl⟩
      · rintro Inv2 hI2 m2 st ⟨j,f,H,hj,hf,rfl⟩
        refine ewr_sound (M:=[]) h0 ?_
        simp
        refine brn_app (fun b => ?_) (fun b => ?_)
        · simp at b
          rcases hf with ⟨rfl,rfl,hno⟩ | ⟨rfl,hH,hHl⟩
          · have hxq:=hxs _ (List.getElem_mem b)
            obtain ⟨⟨h,t,hg⟩,_,hb⟩:=hGx _ (List.getElem_mem b)
            have hhb:=hb h (by rw [hg]; simp)
            have hhl:h.toNat < l.length:=by omega
            have hhl2:h < (l.length:Int):=by omega
            have hpe:pG l r.Attrs H[j] = decide (l[h.toNat].Attrs = r.Attrs):=by rw [hg]; simp only [pG,List.getElem?_eq_getElem hhl]
            have hsp:H.map cIntSo = (H.take j).map cIntSo ++ cIntSo H[j] :: (H.drop (j + 1)).map cIntSo:=by
              rw [← List.map_cons,← List.drop_eq_getElem_cons b,← List.map_append,List.take_append_drop]
            have hsp2:(H.set j (H[j] ++ [(i:Int)])).map cIntSo = (H.take j).map cIntSo ++ cIntSo (H[j] ++ [(i:Int)]) :: (H.drop (j + 1)).map cIntSo:=by
              rw [List.set_eq_take_append_cons_drop,if_pos b,List.map_append,List.map_cons]
            have hAl:((H.take j).map cIntSo).length = j:=by simp; omega
            have hll:H.length = ((H.take j).map cIntSo).length + ((H.drop (j + 1)).map cIntSo).length + 1:=by simp; omega
            have hb1:(H[j].length + 1) * 8 ≤ 140737488355328:=by omega
            have hb2:H[j].length ≤ 9223372036854775806:=by omega
            have hgl:H[j].length = t.length + 1:=by rw [hg]; rfl
            have hdh:=fm_drop (GRoute.ci k) 8 (fun _ => rfl) l h.toNat hhl
            have hlth:h.toNat * 8 < l.length * 8:=by omega
            have hcall:=ok_l13SameAttrs k k l[h.toNat].Attrs r.Attrs (hl.2 _ (List.getElem_mem hhl)) hr
            rw [hsp]
            generalize (H.take j).map cIntSo = A at hsp hsp2 hAl hll ⊢
            generalize (H.drop (j + 1)).map cIntSo = D at hsp hsp2 hll ⊢
            have hb1':(t.length + 1 + 1) * 8 ≤ 140737488355328:=by omega
            have hb2':t.length + 1 ≤ 9223372036854775806:=by omega
            simp [b,hAl,hg]
            refine drawP (tabEnv [] _) [⟨[],allD 57,true⟩,⟨[],allD 57,true⟩,⟨[],allD 57,true⟩,⟨[],allD 57,true⟩,⟨[.op 14 4 0],allD 57,true⟩,⟨[.op 14 4 0],allD 57,true⟩,⟨[.op 14 4 0],allD 57,true⟩,⟨[],allD 57,true⟩,⟨[],allD 57,true⟩,⟨[],allD 57,true⟩,⟨[.op 4 3 0],allD 57,true⟩,⟨[.op 4 3 0],allD 57,true⟩,⟨[],allD 57,false⟩,⟨[],allD 57,true⟩] h0 hm (tabEnv_ok (tab_cons hcall tab_nil)) (by kernel_rfl) (by kernel_rfl) ?_
            simp [hAl,hhb.1,hhl2,hhl,hdh,hlen,hlth]
            refine brn_app (fun c => ?_) (fun c => ?_)
            · rw [c] at hpe
              have hfi:H.findIdx? (pG l r.Attrs) = some j:=List.findIdx?_eq_some_iff_getElem.2 ⟨b,hpe,fun q hq => by simpa using hno q hq (by omega)⟩
              have hst:stepG l H i r.Attrs = H.set j (H[j] ++ [(i:Int)]):=by simp only [stepG,hfi,List.getElem?_eq_getElem b,Option.getD_some]
              have hb3':t.length ≤ 9223372036854775805:=by omega
              simp [b,hAl,hb1',hb2',hb3']
              subst hI2
              refine Less_mk (m2 - 1) (by omega) ⟨j + 1,true,H.set j (H[j] ++ [(i:Int)]),by omega,.inr ⟨rfl,hst.symm,by simp⟩,?_⟩
              rw [wrNext j (by omega),hsp2,hg]
              simp [cIntSo]
            · rw [c] at hpe
              simp
              subst hI2
              refine Less_mk (m2 - 1) (by omega) ⟨j + 1,false,H,by omega,.inl ⟨rfl,rfl,fun q hq hl => ?_⟩,?_⟩
              · rcases Nat.eq_or_lt_of_le (Nat.le_of_lt_succ hq) with e | e
                · subst e; exact hpe
                · exact hno q e hl
              · rw [wrNext j (by omega),hsp,hg]
                simp [cIntSo]
          · have hjH:j < H.length:=by omega
            simp [b,hHl,hjH]
            refine drawP (tabEnv [] _) [⟨[],allD 57,true⟩,⟨[],allD 57,true⟩,⟨[],allD 57,true⟩,⟨[],allD 57,true⟩,⟨[.op 14 4 0],allD 57,true⟩,⟨[.op 14 4 0],allD 57,true⟩,⟨[.op 14 4 0],allD 57,true⟩,⟨[],allD 57,true⟩,⟨[],allD 57,true⟩,⟨[],allD 57,true⟩,⟨[.op 4 3 0],allD 57,true⟩,⟨[.op 4 3 0],allD 57,true⟩,⟨[],allD 57,false⟩,⟨[],allD 57,true⟩] h0 hm (tabEnv_ok tab_nil) (by kernel_rfl) (by kernel_rfl) ?_
            simp [b,hHl,hjH]
            subst hI2
            refine Less_mk (m2 - 1) (by omega) ⟨j + 1,true,H,by omega,.inr ⟨rfl,hH,hHl⟩,?_⟩
            rw [wrNext j (by omega)]
            rfl
        · simp at b
          rcases hf with ⟨rfl,rfl,hno⟩ | ⟨rfl,hH,hHl⟩
          · have hfi:H.findIdx? (pG l r.Attrs) = none:=by
              rw [List.findIdx?_eq_none_iff]
              intro x hx
              obtain ⟨q,hq,rfl⟩:=List.mem_iff_getElem.1 hx
              exact hno q (by omega) hq
            have hst:stepG l H i r.Attrs = H ++ [[(i:Int)]]:=by simp only [stepG,hfi]
            have hb1:(H.length + 1) * 24 ≤ 140737488355328:=by omega
            have hb2:H.length ≤ 9223372036854775806:=by omega
            simp [hb1,hb2]
            subst hI
            refine Less_mk (m - 1) (by omega) ⟨i + 1,by omega,?_⟩
            rw [wrNext i (by omega),hS',hst]
            simp [cIntSo]
          · simp
            subst hI
            refine Less_mk (m - 1) (by omega) ⟨i + 1,by omega,?_⟩
            rw [wrNext i (by omega),hS',← hH,hHl]
    · simp at a
      have hil:i = l.length:=by omega
      subst hil
      have hGe':groupsL l = G:=hGe
      rw [hGe']
      simp
def fR (l:List GRoute) (p:GPrefix):Option GRoute:=l.find? fun x => decide (x.Prefix = p)
theorem fR_in (l:List GRoute) (p:GPrefix):(fR l p).isSome = inT l p:=by
  unfold fR inT
  induction l with
  | nil => rfl
  | cons x l ih =>
    rw [List.find?_cons,List.any_cons]
    by_cases h:x.Prefix = p <;> simp [h,ih]
theorem fR_mem {l:List GRoute} (hs:srt l) (r:GRoute):fR l r.Prefix = some r ↔ r ∈ l:=by
  constructor
  · exact fun h => List.mem_of_find?_eq_some h
  · intro h
    obtain ⟨hf,hk⟩:=(fnd_spec hs).2 r h rfl
    have hi:inT l r.Prefix = true:=by rw [← fnd_in hs]; exact hf
    rw [← fR_in] at hi
    obtain ⟨x,hx⟩:=Option.isSome_iff_exists.1 hi
    have hxm:=List.mem_of_find?_eq_some hx
    have hxp:x.Prefix = r.Prefix:=by simpa using List.find?_some hx
    have hkx:=((fnd_spec hs).2 x hxm hxp).2
    rw [hx]
    rw [hk] at hkx
    exact hkx.symm
def zeroRc:List PT:=[pi 0,pi 0,pi 0,.sl 0 nilE 0 [],pi 0,pi 0,pi 0,.sl 0 nilE 0 []]
def findC (k:Nat) (o:Option GRoute):List PT:=match o with
  | some r => GRoute.ci k r
  | none => zeroRc
theorem ok_l14Find (k:Nat) (l:List GRoute) (p:GPrefix) (hl:l.length ≤ 140737488351232):CallOK Tryz.prog 68 [.c (rd k l.length (l.flatMap (GRoute.ci k))),.agg p.c] (.tup [.agg (findC k (fR l p)),.c (pb (fR l p).isSome)]) [.c (rd k l.length (l.flatMap (GRoute.ci k))),.agg p.c]:=by
  refine okS (fn:=Tryz.f68) [] h0 Tryz.func68 (by kernel_rfl) rfl Tryz.ntmps68 Tryz.results68 (by simp) ?_
  simp
  refine loopS [3,4,8,9,10] [.op 0 0 0,.op 0 1 0] (fun m st => ∃ (i:Nat),i + m = l.length ∧ fR l p = fR (l.drop i) p ∧ st = ⟨slOf 21 [(3,.ptr ⟨.op 0 0 0,[]⟩ 0),(4,.ptr ⟨.op 0 1 0,[]⟩ 0),(8,.t (rd k l.length (l.flatMap (GRoute.ci k)))),(9,.t (pi l.length)),(10,.t (pi i))],ofL [(.op 0 0 0,.sl 0 54 1 p.c),(.op 0 1 0,.sl 0 56 1 [pi 0,pi 0,pi 0,.sl 0 nilE 0 [],pi 0,pi 0,pi 0,.sl 0 nilE 0 []])]⟩) l.length ?_ ?_
  · rintro Inv hI
    simp
    subst hI
    exact ⟨0,by omega,by simp,rfl⟩
  · rintro Inv hI m st ⟨i,hi,hall,rfl⟩
    refine ewr_sound (M:=[]) h0 ?_
    simp
    refine brn_app (fun a => ?_) (fun a => ?_)
    · simp at a
      have hd:=fm_drop (GRoute.ci k) 8 (fun _ => rfl) l i a
      have hlen:=fm_len (GRoute.ci k) 8 (fun _ => rfl) l
      have hlt:i * 8 < l.length * 8:=by omega
      rw [drop_step l i a] at hall
      unfold fR at hall
      rw [List.find?_cons] at hall
      simp [a,hd,hlen,hlt]
      by_cases h1:l[i].Prefix = p
      · have hh:(decide (l[i].Prefix.Addr = p.Addr) && decide (l[i].Prefix.Len = p.Len)) = true:=by simp [h1]
        have hf:fR l p = some l[i]:=by
          unfold fR
          rw [hall]
          simp [h1]
        rw [hf]
        simp [hh,findC,zeroRc]
      · have hh:(decide (l[i].Prefix.Addr = p.Addr) && decide (l[i].Prefix.Len = p.Len)) = false:=by
          rw [← Bool.decide_and]
          exact decide_eq_false fun h => h1 ((px_ext _ _).2 h)
        simp [hh]
        subst hI
        refine Less_mk (m - 1) (by omega) ⟨i + 1,by omega,?_,by rw [wrNext i (by omega)]; simp⟩
        unfold fR
        rw [hall]
        simp [h1]
    · simp at a
      rw [List.drop_of_length_le (by omega)] at hall
      have hf:fR l p = none:=by rw [hall]; rfl
      rw [hf]
      simp [findC,zeroRc]
def sameG (l:List GRoute) (g:List Int):Prop:=g ≠ [] ∧ ∀ x ∈ g,∃ r,l[x.toNat]? = some r ∧ r.Attrs = attrAt l g
theorem stepG_same {l:List GRoute} {gs:List (List Int)} {i:Nat} {r:GRoute} (hr:l[i]? = some r) (h:∀ g ∈ gs,sameG l g):∀ g ∈ stepG l gs i r.Attrs,sameG l g:=by
  intro g hg
  unfold stepG at hg
  split at hg
  · rename_i k hk
    rw [List.findIdx?_eq_some_iff_getElem] at hk
    obtain ⟨hkl,hp,_⟩:=hk
    rcases List.mem_or_eq_of_mem_set hg with hg | hg
    · exact h g hg
    · obtain ⟨h1,h2⟩:=h _ (List.getElem_mem hkl)
      rw [List.getElem?_eq_getElem hkl,Option.getD_some] at hg
      generalize gs[k] = g0 at *
      cases g0 with
      | nil => exact absurd rfl h1
      | cons a t =>
        have ha:attrAt l g = attrAt l (a :: t):=by rw [hg]; rfl
        have hx:r.Attrs = attrAt l (a :: t):=by
          obtain ⟨ra,hra,hrb⟩:=h2 a (by simp)
          simp only [pG,hra,decide_eq_true_eq] at hp
          rw [← hrb,hp]
        refine ⟨by rw [hg]; simp,fun x hx2 => ?_⟩
        rw [ha]
        rw [hg] at hx2
        rcases List.mem_append.1 hx2 with hx2 | hx2
        · exact h2 x hx2
        · simp only [List.mem_singleton] at hx2
          subst hx2
          exact ⟨r,by simpa using hr,hx⟩
  · rcases List.mem_append.1 hg with hg | hg
    · exact h g hg
    · simp only [List.mem_singleton] at hg
      subst hg
      have ha:attrAt l [(i:Int)] = r.Attrs:=by simp [attrAt,hr]
      refine ⟨by simp,fun x hx => ?_⟩
      simp only [List.mem_singleton] at hx
      subst hx
      exact ⟨r,by simpa using hr,ha.symm⟩
theorem groupsN_same (l:List GRoute):∀ i,∀ g ∈ groupsN l i,sameG l g
  | 0 => by simp [groupsN]
  | i + 1 => by
    unfold groupsN
    split
    · rename_i r hr
      exact stepG_same hr (groupsN_same l i)
    · exact groupsN_same l i
theorem ok_l14Tell1 (k k':Nat) (a b:List GRoute) (hra:routesOK a) (hrb:routesOK b) (hga:goodRs a = true) (hgb:goodRs b = true):CallOK Tryz.prog 30 [.c (rd (k + 1) a.length (a.flatMap (GRoute.ci (k + 1)))),.c (rd (k' + 1) b.length (b.flatMap (GRoute.ci (k' + 1))))] (.c (.sl 0 38 (tellL a b).length ((tellL a b).flatMap GUpdate.co))) [.c (rd (k + 1) a.length (a.flatMap (GRoute.ci (k + 1)))),.c (rd (k' + 1) b.length (b.flatMap (GRoute.ci (k' + 1))))]:=by
  obtain ⟨⟨hsa,hgooda⟩,hla⟩:=goodRs_L hga
  obtain ⟨⟨hsb,hgoodb⟩,hlb⟩:=goodRs_L hgb
  refine okF [4] [.op 31 3 0] (fn:=Tryz.f30) h0 Tryz.func30 (by kernel_rfl) rfl Tryz.ntmps30 Tryz.results30 (by simp) rfl ?_
  have hcl:(comeT a b).length ≤ 20:=Nat.le_trans (comeT_len a b) hlb
  have hco:routesOK (comeT a b):=⟨by omega,fun r hr => hrb.2 r (List.mem_filter.1 hr).1⟩
  have hGo:=ok_l14Groups 0 (comeT a b) hco hcl
  have hCg:∀ r ∈ comeT a b,goodR r = true:=fun r hr => hgoodb r (List.mem_filter.1 hr).1
  have hCl:=fm_len (GRoute.ci (k' + 1)) 8 (fun _ => rfl) (comeT a b)
  have hCT:=List.take_of_length_le (Nat.le_of_eq hCl)
  have hgl:(goneT a b).length ≤ 20:=Nat.le_trans (goneT_len a b) hla
  have hgk:gOK (comeT a b).length (groupsL (comeT a b)):=groupsN_ok _ _
  have hgs:=groupsN_same (comeT a b) (comeT a b).length
  refine ewrN_cutD (M:=[]) h0 6 [5,10,15] [.op 7 4 0,.op 15 3 0] ⟨slOf 151 [(5,.ref ⟨.op 7 4 0,[]⟩ 0 (goneT a b).length),(10,.ref ⟨.op 15 3 0,[]⟩ 0 (comeT a b).length),(15,.t (.sl 0 nilE 0 []))],ofL [(.op 15 3 0,.sl 0 56 (comeT a b).length ((comeT a b).flatMap (GRoute.ci (k' + 1)))),(.op 7 4 0,.sl 0 54 (goneT a b).length ((goneT a b).flatMap GPrefix.c))]⟩ ?_ ?_
  · simp only [Code.rest]
    unfold tellL
    have hgs:∀ g ∈ groupsL (comeT a b),sameG (comeT a b) g:=hgs
    generalize groupsL (comeT a b) = G at *
    generalize comeT a b = C at *
    generalize goneT a b = D at *
    have hGl:G.length ≤ 20:=Nat.le_trans hgk.1 hcl
    refine ewpD_lendRow (.op 7 4 0) 5 (e:=54) (m:=D.length) (cs:=D.flatMap GPrefix.c) (by decide) (by simp) (by simp) (fun h => by simp [List.eq_nil_of_length_eq_zero h]) ?_
    simp
    refine ewpD_lendRow (.op 15 3 0) 10 (e:=56) (m:=C.length) (cs:=C.flatMap (GRoute.ci (k' + 1))) (by decide) (by simp) (by simp) (fun h => by simp [List.eq_nil_of_length_eq_zero h]) ?_
    simp
    refine ewpD_seq ?_
    refine ewpD_cut (st1:=⟨slOf 151 [(5,.t (rd 0 D.length (D.flatMap GPrefix.c))),(10,.t (rd 0 C.length (C.flatMap (GRoute.ci 0)))),(15,.t (.sl 0 nilE 0 [])),(72,.ref ⟨.op 18 1 0,[]⟩ 0 G.length),(73,.t (pi G.length)),(74,.t (pi 0))],ofL [(.op 18 1 0,.sl 0 34 G.length (G.map cIntSo))]⟩) (keep:=[5,10,15,72,73,74]) (ids:=[.op 18 1 0]) ?_ ?_
    · intro K hK _
      refine ewr_sound (M:=[]) h0 ?_
      simp
      refine Inv_intro hGo ?_
      simp
      refine hK _ ?_
      simp
    refine ewpD_lendRow (.op 18 1 0) 72 (e:=34) (m:=G.length) (cs:=G.map cIntSo) (by decide) (by simp) (by simp) (fun h => by simp [List.eq_nil_of_length_eq_zero h]) ?_
    simp [un_IntSS]
    refine ewpD_of (ewp_block ?_)
    refine ewp_nil 15 (.op 31 3 0) 38 (by decide) rfl rfl rfl ?_
    refine loopS [5,10,15,72,73,74] [.op 31 3 0] (fun n st => ∃ (i:Nat),i + n = G.length ∧ st = ⟨slOf 151 [(5,.t (rd 0 D.length (D.flatMap GPrefix.c))),(10,.t (rd 0 C.length (C.flatMap (GRoute.ci 0)))),(15,.ref ⟨.op 31 3 0,[]⟩ 0 (upds1 C (G.take i)).length),(72,.t (rd 0 G.length (G.map (cIntSi 0)))),(73,.t (pi G.length)),(74,.t (pi i))],ofL [(.op 31 3 0,.sl 0 38 (upds1 C (G.take i)).length ((upds1 C (G.take i)).flatMap GUpdate.cz))]⟩) G.length ?_ ?_
    · rintro Inv hI
      simp
      subst hI
      exact ⟨0,by omega,by simp [upds1]⟩
    · rintro Inv hI n st ⟨i,hi,rfl⟩
      refine ewr_sound (M:=[]) h0 ?_
      simp
      refine brn_app (fun c => ?_) (fun c => ?_)
      · simp at c
        have hUl:(upds1 C (G.take i)).length ≤ 40:=Nat.le_trans (upds1_len C (G.take i) fun g hg => Nat.le_trans (hgk.2 g (List.mem_of_mem_take hg)).2.1 hcl) (by rw [List.length_take]; omega)
        have hUs:=upds1_snoc C G i c
        obtain ⟨a0,t0,hg,hgl1,hgl2⟩:=gOK_mem hgk i c
        have hsame:=hgs _ (List.getElem_mem c)
        simp [c]
        have hn1:n - 1 < n:=by omega
        have hi1:i + 1 + (n - 1) = G.length:=by omega
        have hgl3:G[i].length ≤ 20:=by rw [hg]; omega
        have hgl4:∀ x ∈ G[i],0 ≤ x ∧ x < (C.length:Int):=by rw [hg]; exact hgl2
        clear hg hgl1 hgl2
        generalize G[i] = g at *
        generalize upds1 C (G.take i) = U at *
        refine loopS [5,10,15,17,72,73,74] [.op 31 3 0] (fun m st => ∃ (q:Nat) (R:List Int),q + m = partN g ∧ R = g.drop (q * 10) ∧ st = ⟨slOf 151 [(5,.t (rd 0 D.length (D.flatMap GPrefix.c))),(10,.t (rd 0 C.length (C.flatMap (GRoute.ci 0)))),(15,.ref ⟨.op 31 3 0,[]⟩ 0 (U ++ (List.range q).map (updA C g)).length),(17,.t (rd 0 R.length (R.map pi))),(72,.t (rd 0 G.length (G.map (cIntSi 0)))),(73,.t (pi G.length)),(74,.t (pi i))],ofL [(.op 31 3 0,.sl 0 38 (U ++ (List.range q).map (updA C g)).length ((U ++ (List.range q).map (updA C g)).flatMap GUpdate.cz))]⟩) (partN g) ?_ ?_
        · rintro Inv2 hI2
          simp
          subst hI2
          exact ⟨0,g,by omega,by simp,by simp⟩
        · rintro Inv2 hI2 m st ⟨q,R,hq,hR,rfl⟩
          have hBs:(U ++ (List.range (q + 1)).map (updA C g)).flatMap GUpdate.cz = (U ++ (List.range q).map (updA C g)).flatMap GUpdate.cz ++ GUpdate.cz (updA C g q):=by
            rw [updsG_step,← List.append_assoc,List.flatMap_append]
            simp
          have hns:(U ++ (List.range (q + 1)).map (updA C g)).length = (U ++ (List.range q).map (updA C g)).length + 1:=by
            rw [updsG_step,← List.append_assoc,List.length_append]
            rfl
          have hBl:=fm_len GUpdate.cz 8 (fun _ => rfl) (U ++ (List.range q).map (updA C g))
          have hnb:(U ++ (List.range q).map (updA C g)).length ≤ 60:=by
            rw [List.length_append,List.length_map,List.length_range]
            unfold partN at hq
            omega
          by_cases hR0:R.length = 0
          · have hqm:q = partN g:=by
              rw [hR,List.length_drop] at hR0
              unfold partN at hq ⊢
              omega
            refine ewr_sound (M:=[]) h0 ?_
            have hn:¬ 0 < R.length:=by omega
            rw [hqm]
            simp [hn]
            subst hI
            refine Less_mk (n - 1) hn1 ⟨i + 1,hi1,?_⟩
            rw [wrNext i (by omega),hUs]
            simp [updsG]
          · have hm1:q + 1 + (m - 1) = partN g ∧ m - 1 < m:=by
              rw [hR,List.length_drop] at hR0
              unfold partN at hq ⊢
              omega
            obtain ⟨f0,R1,hR1⟩:=List.exists_cons_of_ne_nil (fun h:R = [] => hR0 (by rw [h]; rfl))
            have hf0:f0 ∈ g:=by
              have:f0 ∈ R:=by rw [hR1]; simp
              rw [hR] at this
              exact List.mem_of_mem_drop this
            obtain ⟨ha1,ha2⟩:=hgl4 f0 hf0
            have hk:f0.toNat < C.length:=by omega
            have hat:C[f0.toNat].Attrs = attrAt C g:=by
              obtain ⟨r,hr,hra2⟩:=hsame.2 f0 hf0
              rw [List.getElem?_eq_getElem hk] at hr
              rw [← hra2]
              exact congrArg GRoute.Attrs (Option.some.inj hr)
            have hRl:R.length ≤ 20:=by rw [hR,List.length_drop]; omega
            have hpR:partC g q = R.take 10:=by rw [hR]; rfl
            have hpl:(partC g q).length = min 10 R.length:=by rw [hpR,List.length_take]
            have hpc:(R.map pi).take (partC g q).length = (partC g q).map pi:=by
              rw [hpl,hpR,← List.map_take]
              rcases Nat.le_total 10 R.length with h | h
              · rw [Nat.min_eq_left h]
              · rw [Nat.min_eq_right h,List.take_of_length_le (Nat.le_refl _),List.take_of_length_le h]
            have hdc:R.drop (partC g q).length = g.drop ((q + 1) * 10):=by
              rw [hpl,hR,List.drop_drop]
              rcases Nat.le_total 10 (g.drop (q * 10)).length with h | h
              · rw [Nat.min_eq_left h]
                congr 1
                omega
              · rw [Nat.min_eq_right h]
                rw [List.length_drop] at h ⊢
                rw [List.drop_of_length_le (by omega),List.drop_of_length_le (by omega)]
            have hpm:∀ x ∈ partC g q,0 ≤ x ∧ x < (C.length:Int):=fun x hx => hgl4 x (List.mem_of_mem_drop (List.mem_of_mem_take hx))
            have hUn:updA C g q = ⟨[],C[f0.toNat].Attrs,(partC g q).map (prefAt C)⟩:=by
              unfold updA
              rw [hat]
            have hd0:=fm_drop (GRoute.ci 0) 8 (fun _ => rfl) C f0.toNat hk
            have hlC:=fm_len (GRoute.ci 0) 8 (fun _ => rfl) C
            have hlt:f0.toNat * 8 < C.length * 8:=by omega
            have hsm:=goodR_small (hCg _ (List.getElem_mem hk))
            have fin:∀ (st:St) (R':List Int),R' = g.drop ((q + 1) * 10) → st = ⟨slOf 151 [(5,.t (rd 0 D.length (D.flatMap GPrefix.c))),(10,.t (rd 0 C.length (C.flatMap (GRoute.ci 0)))),(15,.ref ⟨.op 31 3 0,[]⟩ 0 ((U ++ (List.range q).map (updA C g)).length + 1)),(17,.t (rd 0 R'.length (R'.map pi))),(72,.t (rd 0 G.length (G.map (cIntSi 0)))),(73,.t (pi G.length)),(74,.t (pi i))],ofL [(.op 31 3 0,.sl 0 38 ((U ++ (List.range q).map (updA C g)).length + 1) ((U ++ (List.range q).map (updA C g)).flatMap GUpdate.cz ++ GUpdate.cz (updA C g q)))]⟩ → Less Inv2 m st:=by
              intro st R' h1 h2
              subst hI2
              exact Less_mk (m - 1) hm1.2 ⟨q + 1,R',hm1.1,h1,by rw [h2,hBs,hns]⟩
            clear hI2 hBs hns hI hsame hgl4
            rw [hUn] at fin
            generalize (U ++ (List.range q).map (updA C g)).flatMap GUpdate.cz = B at *
            generalize (U ++ (List.range q).map (updA C g)).length = nB at *
            have hpl1:(partC g q).length ≤ 10:=by omega
            have hpl2:0 < (partC g q).length:=by omega
            generalize partC g q = p at *
            refine ewrN_cut (M:=[]) h0 1 [5,10,15,17,72,73,74] [.op 31 3 0] ⟨slOf 151 [(5,.t (rd 0 D.length (D.flatMap GPrefix.c))),(10,.t (rd 0 C.length (C.flatMap (GRoute.ci 0)))),(15,.ref ⟨.op 31 3 0,[]⟩ 0 nB),(17,.t (rd 0 R.length (R.map pi))),(72,.t (rd 0 G.length (G.map (cIntSi 0)))),(73,.t (pi G.length)),(74,.t (pi i))],ofL [(.op 31 3 0,.sl 0 38 nB B)]⟩ ?_ ?_
            · simp only [Code.rest]
              refine ewp_block ?_
              refine ewrN_cut (M:=[]) h0 2 [5,10,15,17,18,72,73,74] [.op 31 3 0] ⟨slOf 151 [(5,.t (rd 0 D.length (D.flatMap GPrefix.c))),(10,.t (rd 0 C.length (C.flatMap (GRoute.ci 0)))),(15,.ref ⟨.op 31 3 0,[]⟩ 0 nB),(17,.t (rd 0 R.length (R.map pi))),(18,.t (pi p.length)),(72,.t (rd 0 G.length (G.map (cIntSi 0)))),(73,.t (pi G.length)),(74,.t (pi i))],ofL [(.op 31 3 0,.sl 0 38 nB B)]⟩ ?_ ?_
              · simp only [Code.rest]
                refine ewr_sound (M:=[]) h0 ?_
                subst hR1
                simp [ha1,ha2,hk,hd0,hlC,hlt]
                refine Inv_intro (ok_l4Own 0 C[f0.toNat].Attrs (by omega) (by omega)) ?_
                have hpc':List.take p.length (pi f0 :: List.map pi R1) = List.map pi p:=hpc
                have hple:p.length ≤ R1.length + 1:=by
                  rw [List.length_cons] at hpl
                  omega
                have hplz:(p.length:Int) ≤ (R1.length:Int) + 1:=by omega
                simp [hple,hplz,hpc']
                generalize C[f0.toNat].Attrs = at0 at *
                refine loopS [5,10,15,17,18,19,72,73,74,96,97,98] [.op 31 3 0,.op 25 9 0] (fun m st => ∃ (j:Nat) (Cm:PT),j + m = p.length ∧ Cm = (if j = 0 then .sl 0 nilE 0 [] else .sl 0 54 j (((p.take j).map (prefAt C)).flatMap GPrefix.c)) ∧ st = ⟨slOf 151 [(5,.t (rd 0 D.length (D.flatMap GPrefix.c))),(10,.t (rd 0 C.length (C.flatMap (GRoute.ci 0)))),(15,.ref ⟨.op 31 3 0,[]⟩ 0 nB),(17,.t (rd 0 (R1.length + 1) (pi f0 :: R1.map pi))),(18,.t (pi p.length)),(19,.ptr ⟨.op 25 9 0,[]⟩ 0),(72,.t (rd 0 G.length (G.map (cIntSi 0)))),(73,.t (pi G.length)),(74,.t (pi i)),(96,.t (rd 0 p.length (p.map pi))),(97,.t (pi p.length)),(98,.t (pi j))],ofL [(.op 31 3 0,.sl 0 38 nB B),(.op 25 9 0,.sl 0 38 1 [.sl 0 nilE 0 [],pi at0.Origin,.sl 0 3 at0.Path.length (at0.Path.map pi),pi at0.Next,pi at0.Med,pi at0.Pref,.sl 0 3 at0.Comms.length (at0.Comms.map pi),Cm])]⟩) p.length ?_ ?_
                · rintro Inv3 hI3
                  simp
                  subst hI3
                  exact ⟨0,_,by omega,rfl,rfl⟩
                · rintro Inv3 hI3 m3 st ⟨j,Cm,hj,hCm,rfl⟩
                  refine ewr_sound (M:=[]) h0 ?_
                  simp
                  refine brn_app (fun d => ?_) (fun d => ?_)
                  · simp at d
                    obtain ⟨hx1,hx2⟩:=hpm _ (List.getElem_mem d)
                    have hkx:p[j].toNat < C.length:=by omega
                    have hdx:=fm_drop (GRoute.ci 0) 8 (fun _ => rfl) C p[j].toNat hkx
                    have hltx:p[j].toNat * 8 < C.length * 8:=by omega
                    have hpre:prefAt C p[j] = C[p[j].toNat].Prefix:=by
                      unfold prefAt
                      rw [List.getElem?_eq_getElem hkx]
                    have hsn:((p.take (j + 1)).map (prefAt C)).flatMap GPrefix.c = ((p.take j).map (prefAt C)).flatMap GPrefix.c ++ GPrefix.c C[p[j].toNat].Prefix:=by
                      rw [take_step p j d,List.map_append,List.flatMap_append]
                      simp [hpre]
                    have hlp:(((p.take j).map (prefAt C)).flatMap GPrefix.c).length = j * 2:=by
                      rw [fm_len GPrefix.c 2 (fun _ => rfl),List.length_map,List.length_take,Nat.min_eq_left (by omega)]
                    generalize ((p.take j).map (prefAt C)).flatMap GPrefix.c = A at *
                    have htA:A.take (j * 2) = A:=List.take_of_length_le (by omega)
                    have hb1:(j + 1) * 16 ≤ 140737488355328:=by omega
                    have hb2:j ≤ 9223372036854775806:=by omega
                    simp [d]
                    by_cases hj0:j = 0
                    · subst hj0
                      rw [if_pos rfl] at hCm
                      subst hCm
                      refine drawP (tabEnv [] []) [⟨[.op 25 9 0],allD 151,true⟩,⟨[.op 25 9 0],allD 151,true⟩,⟨[],allD 151,true⟩,⟨[],allD 151,true⟩,⟨[],allD 151,true⟩,⟨[],allD 151,true⟩,⟨[],allD 151,true⟩,⟨[],allD 151,false⟩,⟨[.op 25 9 0,.op 29 7 0],[102,103,104,105,106,107,108,109,110,111],false⟩,⟨[.op 25 9 0],allD 151,true⟩,⟨[.op 25 9 0,.op 29 8 0],[102,103,104,105,106,107,108,109,110,111],false⟩] h0 hm (tabEnv_ok tab_nil) (by kernel_rfl) (by kernel_rfl) ?_
                      simp [hx1,hx2,hkx,hdx,hlC,hltx]
                      subst hI3
                      refine Less_mk (m3 - 1) (by omega) ⟨1,_,by omega,rfl,?_⟩
                      have hA0:A = []:=List.eq_nil_of_length_eq_zero (by omega)
                      rw [hA0,List.map_take] at hsn
                      have hw1:IntKind.i64.wrap 1 = 1:=by decide
                      simp at hsn
                      simp [hsn,hw1]
                      exact ofL_two (by decide)
                    · rw [if_neg hj0] at hCm
                      subst hCm
                      refine drawP (tabEnv [] []) [⟨[.op 25 9 0],allD 151,true⟩,⟨[.op 25 9 0],allD 151,true⟩,⟨[],allD 151,true⟩,⟨[],allD 151,true⟩,⟨[],allD 151,true⟩,⟨[],allD 151,true⟩,⟨[],allD 151,true⟩,⟨[],allD 151,false⟩,⟨[.op 25 9 0,.op 29 7 0],[102,103,104,105,106,107,108,109,110,111],false⟩,⟨[.op 25 9 0],allD 151,true⟩,⟨[.op 25 9 0,.op 29 8 0],[102,103,104,105,106,107,108,109,110,111],false⟩] h0 hm (tabEnv_ok tab_nil) (by kernel_rfl) (by kernel_rfl) ?_
                      simp [hx1,hx2,hkx,hdx,hlC,hltx,hb1,hb2,htA,hlp]
                      subst hI3
                      refine Less_mk (m3 - 1) (by omega) ⟨j + 1,_,by omega,rfl,?_⟩
                      rw [List.map_take] at hsn
                      simp at hsn
                      rw [wrNext j (by omega)]
                      simp [hsn]
                      exact ofL_two (by decide)
                  · simp at d
                    have hjp:j = p.length:=by omega
                    subst hjp
                    rw [List.take_length,if_neg (by omega)] at hCm
                    subst hCm
                    have hpt:=List.take_of_length_le (Nat.le_of_eq (fm_len GPrefix.c 2 (fun _ => rfl) (p.map (prefAt C))))
                    rw [List.length_map] at hpt
                    have hBt:B.take (nB * 8) = B:=List.take_of_length_le (by omega)
                    have hb1:(nB + 1) * 128 ≤ 140737488355328:=by omega
                    have hb2:nB ≤ 9223372036854775806:=by omega
                    have hBle:nB * 8 ≤ B.length:=by omega
                    simp [hpt,hBt,hb1,hb2,hBle,hple,hplz]
                    obtain ⟨R',hR'⟩:∃ R',R' = (f0 :: R1).drop p.length:=⟨_,rfl⟩
                    have hlen:R'.length = R1.length + 1 - p.length:=by rw [hR',List.length_drop]; rfl
                    have hcel:List.take (R1.length + 1 - p.length) (List.drop p.length (pi f0 :: List.map pi R1)) = R'.map pi:=by
                      rw [hR',List.map_drop,List.take_of_length_le (by rw [List.length_drop]; simp)]
                      rfl
                    refine fin _ R' (hR'.trans hdc) ?_
                    simp [hlen,hcel,GUpdate.cz,GUpdate.co]
              · intro K hK
                simp
                refine brn_app (fun d => ?_) (fun d => ?_)
                · simp at d
                  have e:p.length = 10:=by omega
                  rw [e] at hK
                  simp
                  refine hK _ ?_
                  simp
                · simp at d
                  have e:p.length = R.length:=by omega
                  rw [e] at hK
                  simp
                  refine hK _ ?_
                  simp
            · intro K hK
              have hp:0 < R.length:=by omega
              simp [hp]
              refine hK _ ?_
              simp
      · simp at c
        have hig:i = G.length:=by omega
        subst hig
        rw [List.take_length]
        have hUl:(upds1 C G).length ≤ 40:=Nat.le_trans (upds1_len C G fun g hg => Nat.le_trans (hgk.2 g hg).2.1 hcl) (by omega)
        have hUg:∀ u ∈ upds1 C G,u.Gone = []:=fun u hu => by
          obtain ⟨g,_,hu⟩:=List.mem_flatMap.1 hu
          obtain ⟨x,_,rfl⟩:=List.mem_map.1 hu
          rfl
        simp
        clear hI hi c
        generalize upds1 C G = U at *
        have hUc:=fm_len GUpdate.cz 8 (fun _ => rfl) U
        refine ewpD_of (ewr_sound (M:=[]) h0 ?_)
        simp
        refine loopW [5,15,22] [.op 31 3 0,.op 41 3 0] [.op 31 3 0] (fun m st => ∃ (q:Nat) (R:List GPrefix),q + m = partN D ∧ R = D.drop (q * 10) ∧ st = ⟨slOf 151 [(5,.t (rd 0 R.length (R.flatMap GPrefix.c))),(15,.ref ⟨.op 31 3 0,[]⟩ 0 (putGs D U q).length),(22,.t (pi q))],ofL [(.op 31 3 0,.sl 0 38 (putGs D U q).length (putCs D (U.flatMap GUpdate.cz) q))]⟩) (partN D) ?_ ?_
        · rintro Inv2 hI2
          simp
          subst hI2
          exact ⟨0,D,by omega,by simp,by simp [putGs,putCs]⟩
        · rintro Inv2 hI2 m st ⟨q,R,hq,hR,rfl⟩
          have hge:=putGs_ge D U q
          have hle:=putGs_le D U q
          have hCl2:=putCs_len D (U.flatMap GUpdate.cz) U hUc q
          by_cases hR0:R.length = 0
          · have hqm:q = partN D:=by
              rw [hR,List.length_drop] at hR0
              unfold partN at hq ⊢
              omega
            have hN:=nleL_puts D U hUg q
            have hT:=noTmp_puts D U q
            rw [← hqm]
            refine ewr_sound (M:=[]) h0 ?_
            have hn:¬ 0 < R.length:=by omega
            generalize putGs D U q = O at *
            generalize putCs D (U.flatMap GUpdate.cz) q = B at *
            have hBt:B.take (O.length * 8) = B:=List.take_of_length_le (by omega)
            have hBle:O.length * 8 ≤ B.length:=by omega
            simp [hn]
            refine ThawedX_mk ?_
            simp [hT,hBle,hBt,hN,regroup]
          · have hm1:q + 1 + (m - 1) = partN D ∧ m - 1 < m:=by
              rw [hR,List.length_drop] at hR0
              unfold partN at hq ⊢
              omega
            have hql:q ≤ 2:=by unfold partN at hq; omega
            have hRl:R.length ≤ 20:=by rw [hR,List.length_drop]; omega
            have hpR:partC D q = R.take 10:=by rw [hR]; rfl
            have hpl:(partC D q).length = min 10 R.length:=by rw [hpR,List.length_take]
            have hRc:=fm_len GPrefix.c 2 (fun _ => rfl) R
            have hpc:(R.flatMap GPrefix.c).take ((partC D q).length * 2) = (partC D q).flatMap GPrefix.c:=by
              rw [hpl,hpR,fm_take GPrefix.c 2 (fun _ => rfl)]
              rcases Nat.le_total 10 R.length with h | h
              · rw [Nat.min_eq_left h]
              · rw [Nat.min_eq_right h,List.take_of_length_le (Nat.le_refl _),List.take_of_length_le h]
            have hdc:R.drop (partC D q).length = D.drop ((q + 1) * 10):=by
              rw [hpl,hR,List.drop_drop]
              rcases Nat.le_total 10 (D.drop (q * 10)).length with h | h
              · rw [Nat.min_eq_left h]
                congr 1
                omega
              · rw [Nat.min_eq_right h]
                rw [List.length_drop] at h ⊢
                rw [List.drop_of_length_le (by omega),List.drop_of_length_le (by omega)]
            have hOn:(putGs D U (q + 1)).length = if q < (putGs D U q).length then (putGs D U q).length else (putGs D U q).length + 1:=by simp only [putGs,putG_len]
            have hBn:putCs D (U.flatMap GUpdate.cz) (q + 1) = putC zeroC (putCs D (U.flatMap GUpdate.cz) q) q (partC D q):=rfl
            have hJ:∀ (R':List GPrefix) (O2:Nat) (B2:List PT),R' = D.drop ((q + 1) * 10) → O2 = (putGs D U (q + 1)).length → B2 = putCs D (U.flatMap GUpdate.cz) (q + 1) → Inv2 (m - 1) ⟨slOf 151 [(5,.t (rd 0 R'.length (R'.flatMap GPrefix.c))),(15,.ref ⟨.op 31 3 0,[]⟩ 0 O2),(22,.t (pi ((q + 1:Nat):Int)))],ofL [(.op 31 3 0,.sl 0 38 O2 B2)]⟩:=by
              intro R' O2 B2 h1 h2 h3
              subst hI2
              exact ⟨q + 1,R',hm1.1,h1,by rw [h2,h3]⟩
            rw [hOn,hBn] at hJ
            clear hI2 hOn hBn
            generalize putGs D U q = O at *
            generalize putCs D (U.flatMap GUpdate.cz) q = B at *
            have hpl1:(partC D q).length ≤ 10:=by omega
            have hpl2:0 < (partC D q).length:=by omega
            generalize partC D q = p at *
            refine ewrN_cut (M:=[]) h0 1 [5,15,22] [.op 31 3 0] ⟨slOf 151 [(5,.t (rd 0 R.length (R.flatMap GPrefix.c))),(15,.ref ⟨.op 31 3 0,[]⟩ 0 O.length),(22,.t (pi q))],ofL [(.op 31 3 0,.sl 0 38 O.length B)]⟩ ?_ ?_
            · simp only [Code.rest]
              refine ewp_seq ?_
              refine ewp_block ?_
              refine ewrN_cut (M:=[]) h0 2 [5,15,22,23] [.op 31 3 0] ⟨slOf 151 [(5,.t (rd 0 R.length (R.flatMap GPrefix.c))),(15,.ref ⟨.op 31 3 0,[]⟩ 0 O.length),(22,.t (pi q)),(23,.t (pi p.length))],ofL [(.op 31 3 0,.sl 0 38 O.length B)]⟩ ?_ ?_
              · simp only [Code.rest]
                have hBt:B.take (O.length * 8) = B:=List.take_of_length_le (by omega)
                have hb1:(O.length + 1) * 128 ≤ 140737488355328:=by omega
                have hb2:O.length ≤ 9223372036854775806:=by omega
                have hBle:O.length * 8 ≤ B.length:=by omega
                have hpw:IntKind.i64.wrap ((q:Int) + 1) = ((q + 1:Nat):Int):=wrNext q (by omega)
                have hple:p.length ≤ R.length:=by omega
                have hp1:p.length * 16 ≤ 140737488355328:=by omega
                have hp2:p.length ≤ 9223372036854775807:=by omega
                have hp0:¬ p.length = 0:=by omega
                have hpcl:=fm_len GPrefix.c 2 (fun _ => rfl) p
                have hpt:List.take (p.length * 2) (p.flatMap GPrefix.c) = p.flatMap GPrefix.c:=List.take_of_length_le (by omega)
                obtain ⟨R',hR'⟩:∃ R',R' = R.drop p.length:=⟨_,rfl⟩
                have hlen:R'.length = R.length - p.length:=by rw [hR',List.length_drop]
                have hcel:List.take ((R.length - p.length) * 2) (List.drop (p.length * 2) (R.flatMap GPrefix.c)) = R'.flatMap GPrefix.c:=by
                  rw [hR',fm_dropAll GPrefix.c 2 (fun _ => rfl),List.take_of_length_le]
                  rw [fm_len GPrefix.c 2 (fun _ => rfl),List.length_drop]
                  exact Nat.le_refl _
                have hpc2:=hpc
                refine ewr_sound (M:=[]) h0 ?_
                simp
                refine brn_app (fun d => ?_) (fun d => ?_)
                · simp at d
                  have hqO:q = O.length:=by omega
                  subst hqO
                  rw [if_neg (Nat.lt_irrefl _)] at hJ
                  have hputc:putC zeroC B O.length p = B ++ goneK p :: zeroC:=by
                    unfold putC
                    rw [if_neg (by omega)]
                  rw [hputc] at hJ
                  have hB8:(O.length + 1) * 8 ≤ B.length + 8:=by omega
                  have hBt2:∀ c1 c2 c3 c4 c5 c6 c7 c8:PT,List.take ((O.length + 1) * 8) (B ++ [c1,c2,c3,c4,c5,c6,c7,c8]) = B ++ [c1,c2,c3,c4,c5,c6,c7,c8]:=fun c1 c2 c3 c4 c5 c6 c7 c8 => List.take_of_length_le (by rw [List.length_append]; simp; omega)
                  have hBt3:∀ Y:List PT,List.take (O.length * 8) (B ++ Y) = B:=fun Y => List.take_left' hCl2
                  have hBd3:∀ c1 c2 c3 c4 c5 c6 c7 c8:PT,List.drop (O.length * 8 + 1) (B ++ [c1,c2,c3,c4,c5,c6,c7,c8]) = [c2,c3,c4,c5,c6,c7,c8]:=fun c1 c2 c3 c4 c5 c6 c7 c8 => by rw [← hCl2,List.drop_length_add_append]; rfl
                  have hl2:(O.length:Int) < (O.length:Int) + 1:=by omega
                  have hl3:O.length * 8 + 1 ≤ O.length * 8 + 8:=by omega
                  have hl4:O.length * 8 < O.length * 8 + 8:=by omega
                  simp [hBt,hb1,hb2,hBle,hB8,hBt2,hple,hp1,hp2,hp0,hpc,hpt,hpcl,hBt3,hBd3,hCl2,hl2,hl3,hl4,hpw]
                  refine ewr_sound (M:=[]) h0 ?_
                  simp [hpw]
                  refine LessW_mk (m - 1) (.op 41 3 0) (.op 31 3 0) hm1.2 rfl rfl ?_
                  have:=hJ R' _ _ (hR'.trans hdc) rfl rfl
                  simp [hlen,goneK,zeroC] at this
                  simp [hcel]
                  exact this
                · simp at d
                  have hqO:q < O.length:=by omega
                  rw [if_pos hqO] at hJ
                  have hputc:putC zeroC B q p = B.take (q * 8) ++ goneK p :: B.drop (q * 8 + 1):=by
                    unfold putC
                    rw [if_pos (by omega)]
                  rw [hputc] at hJ
                  have hlt:q * 8 < O.length * 8:=by omega
                  have hl3:q * 8 + 1 ≤ O.length * 8:=by omega
                  simp [hBt,hb1,hb2,hBle,hple,hp1,hp2,hp0,hpc,hpt,hpcl,hCl2,hlt,hl3,hpw,hqO]
                  refine ewr_sound (M:=[]) h0 ?_
                  simp [hpw]
                  refine LessW_mk (m - 1) (.op 31 3 0) (.op 31 3 0) hm1.2 rfl rfl ?_
                  have:=hJ R' _ _ (hR'.trans hdc) rfl rfl
                  simp [hlen,goneK,zeroC] at this
                  simp [hcel]
                  exact this
              · intro K hK
                simp
                refine brn_app (fun d => ?_) (fun d => ?_)
                · simp at d
                  have e:p.length = 10:=by omega
                  rw [e] at hK
                  simp
                  refine hK _ ?_
                  simp
                · simp at d
                  have e:p.length = R.length:=by omega
                  rw [e] at hK
                  simp
                  refine hK _ ?_
                  simp
            · intro K hK
              have hp:0 < R.length:=by omega
              simp [hp]
              refine hK _ ?_
              simp
  · intro K hK
    simp
    refine ewp_nil 5 (.op 7 4 0) 54 (by decide) rfl rfl rfl ?_
    refine loopS [0,1,5,24,25,26] [.op 7 4 0] (fun n st => ∃ (i:Nat),i + n = a.length ∧ st = ⟨slOf 151 [(0,.t (rd (k + 1) a.length (a.flatMap (GRoute.ci (k + 1))))),(1,.t (rd (k' + 1) b.length (b.flatMap (GRoute.ci (k' + 1))))),(5,.ref ⟨.op 7 4 0,[]⟩ 0 (goneT (a.take i) b).length),(24,.t (rd (k + 1) a.length (a.flatMap (GRoute.ci (k + 1))))),(25,.t (pi a.length)),(26,.t (pi i))],ofL [(.op 7 4 0,.sl 0 54 (goneT (a.take i) b).length ((goneT (a.take i) b).flatMap GPrefix.c))]⟩) a.length ?_ ?_
    · rintro Inv hI
      simp
      subst hI
      exact ⟨0,by omega,by simp [goneT]⟩
    · rintro Inv hI n st ⟨i,hi,rfl⟩
      have hgl:(goneT (a.take i) b).length ≤ i:=Nat.le_trans (goneT_len _ _) (by rw [List.length_take]; omega)
      refine ewr_sound (M:=[]) h0 ?_
      simp
      refine brn_app (fun c => ?_) (fun c => ?_)
      · simp at c
        have hd:=fm_drop (GRoute.ci (k + 1)) 8 (fun _ => rfl) a i c
        have hlen:=fm_len (GRoute.ci (k + 1)) 8 (fun _ => rfl) a
        have hlt:i * 8 < a.length * 8:=by omega
        have hsn:=goneT_snoc a b i c
        have hGl:=fm_len GPrefix.c 2 (fun _ => rfl) (goneT (a.take i) b)
        have hb1:((goneT (a.take i) b).length + 1) * 16 ≤ 140737488355328:=by omega
        have hb2:(goneT (a.take i) b).length ≤ 9223372036854775806:=by omega
        have ht:List.take ((goneT (a.take i) b).length * 2) ((goneT (a.take i) b).flatMap GPrefix.c) = (goneT (a.take i) b).flatMap GPrefix.c:=List.take_of_length_le (by omega)
        have hf:=ok_l14Find (k' + 1) b a[i].Prefix hrb.1
        have hin:=fR_in b a[i].Prefix
        simp [c,hd,hlen,hlt]
        refine Inv_intro hf ?_
        cases hfr:fR b a[i].Prefix with
        | some r =>
          rw [hfr] at hin
          rw [← hin] at hsn
          simp [findC]
          subst hI
          refine Less_mk (n - 1) (by omega) ⟨i + 1,by omega,?_⟩
          rw [wrNext i (by omega),hsn]
          simp
        | none =>
          rw [hfr] at hin
          rw [← hin] at hsn
          simp [findC,zeroRc,hGl,hb1,hb2,ht]
          subst hI
          refine Less_mk (n - 1) (by omega) ⟨i + 1,by omega,?_⟩
          rw [wrNext i (by omega),hsn]
          simp
      · simp at c
        have hil:i = a.length:=by omega
        subst hil
        rw [List.take_length]
        clear hi hgl
        simp
        refine ewp_nil 10 (.op 15 3 0) 56 (by decide) rfl rfl rfl ?_
        refine loopS [0,5,10,45,46,47] [.op 7 4 0,.op 15 3 0] (fun n st => ∃ (i:Nat),i + n = b.length ∧ st = ⟨slOf 151 [(0,.t (rd (k + 1) a.length (a.flatMap (GRoute.ci (k + 1))))),(5,.ref ⟨.op 7 4 0,[]⟩ 0 (goneT a b).length),(10,.ref ⟨.op 15 3 0,[]⟩ 0 (comeT a (b.take i)).length),(45,.t (rd (k' + 1) b.length (b.flatMap (GRoute.ci (k' + 1))))),(46,.t (pi b.length)),(47,.t (pi i))],ofL [(.op 15 3 0,.sl 0 56 (comeT a (b.take i)).length ((comeT a (b.take i)).flatMap (GRoute.ci (k' + 1)))),(.op 7 4 0,.sl 0 54 (goneT a b).length ((goneT a b).flatMap GPrefix.c))]⟩) b.length ?_ ?_
        · rintro Inv2 hI2
          simp
          subst hI2
          exact ⟨0,by omega,by simp [comeT]⟩
        · rintro Inv2 hI2 n st ⟨i,hi,rfl⟩
          have hcl2:(comeT a (b.take i)).length ≤ i:=Nat.le_trans (comeT_len _ _) (by rw [List.length_take]; omega)
          refine ewr_sound (M:=[]) h0 ?_
          simp
          refine brn_app (fun c => ?_) (fun c => ?_)
          · simp at c
            have hd:=fm_drop (GRoute.ci (k' + 1)) 8 (fun _ => rfl) b i c
            have hlen:=fm_len (GRoute.ci (k' + 1)) 8 (fun _ => rfl) b
            have hlt:i * 8 < b.length * 8:=by omega
            have hsn:=comeT_snoc a b i c
            have hGl:=fm_len (GRoute.ci (k' + 1)) 8 (fun _ => rfl) (comeT a (b.take i))
            have hb1:((comeT a (b.take i)).length + 1) * 96 ≤ 140737488355328:=by omega
            have hb2:(comeT a (b.take i)).length ≤ 9223372036854775806:=by omega
            have ht:List.take ((comeT a (b.take i)).length * 8) ((comeT a (b.take i)).flatMap (GRoute.ci (k' + 1))) = (comeT a (b.take i)).flatMap (GRoute.ci (k' + 1)):=List.take_of_length_le (by omega)
            have hf:=ok_l14Find (k + 1) a b[i].Prefix hra.1
            have hmm:=fR_mem hsa b[i]
            simp [c,hd,hlen,hlt]
            refine Inv_intro hf ?_
            cases hfr:fR a b[i].Prefix with
            | some r =>
              rw [hfr] at hmm
              have hrm:=List.mem_of_find?_eq_some hfr
              simp [findC]
              refine Inv_intro (ok_l14Same (k + 1) (k' + 1) r b[i] (hra.2 r hrm) (hrb.2 _ (List.getElem_mem c))) ?_
              by_cases hrr:r = b[i]
              · have hmem:b[i] ∈ a:=hmm.1 (by rw [hrr])
                rw [if_pos hmem] at hsn
                simp [hrr]
                subst hI2
                refine Less_mk (n - 1) (by omega) ⟨i + 1,by omega,?_⟩
                rw [wrNext i (by omega),hsn]
                simp
              · have hmem:¬ b[i] ∈ a:=fun h => hrr (Option.some.inj (hmm.2 h))
                rw [if_neg hmem] at hsn
                simp [hrr,hGl,hb1,hb2,ht]
                subst hI2
                refine Less_mk (n - 1) (by omega) ⟨i + 1,by omega,?_⟩
                rw [wrNext i (by omega),hsn]
                simp
            | none =>
              rw [hfr] at hmm
              have hmem:¬ b[i] ∈ a:=fun h => by cases hmm.2 h
              rw [if_neg hmem] at hsn
              simp [findC,zeroRc,hGl,hb1,hb2,ht]
              subst hI2
              refine Less_mk (n - 1) (by omega) ⟨i + 1,by omega,?_⟩
              rw [wrNext i (by omega),hsn]
              simp
          · simp at c
            have hil:i = b.length:=by omega
            subst hil
            rw [List.take_length]
            simp
            refine hK _ ?_
            simp
theorem ok_sTellFrom1 (k k':Nat) (a b:List GRoute) (hra:routesOK a) (hrb:routesOK b):CallOK Tryz.prog 6 [.c (rd (k + 1) a.length (a.flatMap (GRoute.ci (k + 1)))),.c (rd (k' + 1) b.length (b.flatMap (GRoute.ci (k' + 1))))] (.tup [.c (.sl 0 38 (rTellFrom a b).1.length ((rTellFrom a b).1.flatMap GUpdate.co)),.c (pb (rTellFrom a b).2)]) [.c (rd (k + 1) a.length (a.flatMap (GRoute.ci (k + 1)))),.c (rd (k' + 1) b.length (b.flatMap (GRoute.ci (k' + 1))))]:=by
  have g1:=ok_sGoodRoutes (k + 1) a hra
  have g2:=ok_sGoodRoutes (k' + 1) b hrb
  by_cases hg:goodRs a = true ∧ goodRs b = true
  · obtain ⟨hga,hgb⟩:=hg
    have e:rTellFrom a b = (tellL a b,true):=by simp [rTellFrom,hga,hgb]
    rw [e]
    rw [hga] at g1
    rw [hgb] at g2
    refine okS (fn:=Tryz.f6) [] h0 Tryz.func6 (by kernel_rfl) rfl Tryz.ntmps6 Tryz.results6 (by simp) ?_
    simp
    refine Inv_intro g1 ?_
    simp
    refine Inv_intro g2 ?_
    simp
    refine Inv_intro (ok_l14Tell1 k k' a b hra hrb hga hgb) ?_
    simp
  · have e:rTellFrom a b = ([],false):=by simp only [rTellFrom,if_neg hg]
    rw [e]
    refine okS (fn:=Tryz.f6) [] h0 Tryz.func6 (by kernel_rfl) rfl Tryz.ntmps6 Tryz.results6 (by simp) ?_
    simp
    refine Inv_intro g1 ?_
    by_cases hga:goodRs a = true
    · have hgb:goodRs b = false:=by
        cases h:goodRs b with
        | false => rfl
        | true => exact absurd ⟨hga,h⟩ hg
      rw [hgb] at g2
      simp [hga]
      refine Inv_intro g2 ?_
      simp
    · simp [hga]
theorem ok_sTellFrom (k k':Nat) (a b:List GRoute) (hra:routesOK a) (hrb:routesOK b):CallOK Tryz.prog 6 [.c (rd k a.length (a.flatMap (GRoute.ci k))),.c (rd k' b.length (b.flatMap (GRoute.ci k')))] (.tup [.c (.sl 0 38 (rTellFrom a b).1.length ((rTellFrom a b).1.flatMap GUpdate.co)),.c (pb (rTellFrom a b).2)]) [.c (rd k a.length (a.flatMap (GRoute.ci k))),.c (rd k' b.length (b.flatMap (GRoute.ci k')))]:=by
  have h:=ok_sTellFrom1 0 0 a b hra hrb
  refine CallOK.relabel ?_ rfl ?_
  · simpa only [List.map_cons,List.map_nil,route_up] using h
  · intro w I I' lr he hh
    refine free_cc ?_ rfl he hh
    simp only [PT.free]
    exact free_upd _
end Go.V
