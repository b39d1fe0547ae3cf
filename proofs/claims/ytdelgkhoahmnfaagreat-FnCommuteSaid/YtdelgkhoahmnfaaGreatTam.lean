/- What functions of the seat's program do, each proved of its code, under the bounds that its theorem names. -/
import Derived.Test.YtdelgkhoahmnfaaGreatTal
import Derived.Deep.AppendSrc
import Derived.Lib.AppendZeros
import Derived.Shelf.SlSortCmp.NoneTotal
import Derived.Shelf.SlSortCmp.WholeK
import Derived.Shelf.Spec.SlicesInsert
import Derived.WalkKit
set_option linter.all false
namespace Go.V
open Go.Proofs
set_option maxHeartbeats 1000000
set_option maxRecDepth 10000
set_option linter.unusedSimpArgs false
set_option linter.unusedVariables false
theorem putp2 {α:Type} (C:List α) (a b:α) (i j:Nat) (h:i * 2 + 2 ≤ C.length) (hij:i < j):(C.take (i * 2) ++ a :: b :: C.drop (i * 2 + 2)).length = C.length ∧ (C.take (i * 2) ++ a :: b :: C.drop (i * 2 + 2)).take ((i + 1) * 2) = C.take (i * 2) ++ [a,b] ∧ (C.take (i * 2) ++ a :: b :: C.drop (i * 2 + 2)).drop ((j + 1) * 2) = C.drop ((j + 1) * 2):=by
  have hl:(C.take (i * 2)).length = i * 2:=by rw [List.length_take]; omega
  have e1:(i + 1) * 2 = (C.take (i * 2)).length + 2:=by omega
  refine ⟨?_,?_,?_⟩
  · simp only [List.length_append,List.length_cons,List.length_drop,hl]
    omega
  · rw [e1,List.take_length_add_append]
    rfl
  · have e2:(j + 1) * 2 = (C.take (i * 2)).length + (2 + (j - i) * 2):=by omega
    rw [e2,List.drop_length_add_append,← List.drop_drop]
    show List.drop ((j - i) * 2) (C.drop (i * 2 + 2)) = _
    rw [List.drop_drop,hl]
    congr 1
    omega
theorem ok_DeleteFunc_Prefix (q g:Nat) (caps:List (List PT)) (p:GPrefix → Bool) (xs:List GPrefix) (ha:xs.length ≤ 140737488351232)
    (hg:∀ x ∈ xs,CallOK Tryz.prog g (.agg (GPrefix.c x) :: caps.map (PV.ip q)) (.c (pb (p x))) (.agg (GPrefix.c x) :: caps.map (PV.ip q))) :
    CallOK Tryz.prog 129 [.c (.sl 0 77 xs.length (xs.flatMap GPrefix.c)),.c (.fn q g caps)] (.c (.sl 0 77 (xs.filter fun x => !p x).length ((xs.filter fun x => !p x).flatMap GPrefix.c))) [.c .hole,.c (.fn q g caps)]:=by
  refine okS (fn:=Tryz.f129) [] h0 Tryz.func129 (by kernel_rfl) rfl Tryz.ntmps129 Tryz.results129 (by simp) ?_
  simp
  refine Inv_intro (ok_IndexFunc_Prefix 0 q g caps p xs ha hg) ?_
  simp
  rcases idxOf_find p xs with ⟨e,hf⟩ | ⟨i0,hi0,e,hf⟩
  · rw [e]
    have hall:xs.filter (fun x => !p x) = xs:=by
      rw [List.findIdx?_eq_none_iff] at hf
      exact List.filter_eq_self.2 fun x hx => by simp [hf x hx]
    rw [hall]
    simp
  · rw [e]
    have hne:¬ (i0:Int) = -1:=by omega
    have hw0:IntKind.wrap .i64 ((i0:Int) + 1) = ((i0 + 1:Nat):Int):=wrNext i0 (by omega)
    simp [hne,hw0]
    refine loopS [0,1,5,6] [.arg 0 0] (fun m st => ∃ (j i:Nat) (C:List PT),j + m = xs.length ∧ i < j ∧ ((xs.take j).filter fun x => !p x).length = i ∧ C.length = xs.length * 2 ∧ C.take (i * 2) = ((xs.take j).filter fun x => !p x).flatMap GPrefix.c ∧ C.drop (j * 2) = (xs.drop j).flatMap GPrefix.c ∧ st = ⟨slOf 42 [(0,.ref ⟨.arg 0 0,[]⟩ 0 xs.length),(1,.t (.fn q g caps)),(5,.t (pi i)),(6,.t (pi j))],ofL [(.arg 0 0,.sl 0 77 xs.length C)]⟩) (xs.length - (i0 + 1)) ?_ ?_
    · rintro Inv hI
      have hfirst:(xs.take (i0 + 1)).filter (fun x => !p x) = xs.take i0:=by
        rw [List.findIdx?_eq_some_iff_getElem] at hf
        obtain ⟨h1,h2,h3⟩:=hf
        rw [take_step xs i0 hi0,List.filter_append]
        have e1:(xs.take i0).filter (fun x => !p x) = xs.take i0:=by
          refine List.filter_eq_self.2 fun x hx => ?_
          obtain ⟨j,hj,rfl⟩:=List.mem_iff_getElem.1 hx
          have hj':j < i0:=by rw [List.length_take] at hj; omega
          rw [List.getElem_take]
          simpa using h3 j hj'
        rw [e1]
        simp [h2]
      simp
      subst hI
      refine ⟨i0 + 1,i0,xs.flatMap GPrefix.c,by omega,by omega,by rw [hfirst,List.length_take]; omega,fm_len GPrefix.c 2 (fun _ => rfl) xs,?_,?_,?_⟩
      · rw [hfirst]; exact fm_take GPrefix.c 2 (fun _ => rfl) xs i0
      · exact fm_dropAll GPrefix.c 2 (fun _ => rfl) xs (i0 + 1)
      · rfl
    · rintro Inv hI m st ⟨j,i,C,hj,hlt,hi,hCl,hCt,hCd0,rfl⟩
      refine ewr_sound (M:=[]) h0 ?_
      simp
      refine brn_app (fun a => ?_) (fun a => ?_)
      · simp at a
        have hCd:C.drop (j * 2) = GPrefix.c xs[j] ++ (xs.drop (j + 1)).flatMap GPrefix.c:=by
          rw [hCd0,drop_step _ j a,List.flatMap_cons]
        have hCn:C.drop ((j + 1) * 2) = (xs.drop (j + 1)).flatMap GPrefix.c:=by
          have:(j + 1) * 2 = j * 2 + 2:=by omega
          rw [this,← List.drop_drop,hCd]
          rfl
        have hb:j * 2 + 2 ≤ xs.length * 2:=by omega
        have hfs:(xs.take (j + 1)).filter (fun x => !p x) = (xs.take j).filter (fun x => !p x) ++ (if p xs[j] = true then [] else [xs[j]]):=by
          rw [take_step xs j a,List.filter_append]
          cases hpx:p xs[j] <;> simp [hpx]
        simp [a,hCl,hCd,hb]
        refine Inv_intro (hg _ (List.getElem_mem a)) ?_
        simp
        refine brn_app (fun b => ?_) (fun b => ?_)
        · simp at b
          rw [if_neg (by simp [b])] at hfs
          have hib:i * 2 < xs.length * 2:=by omega
          have hib2:i < xs.length:=by omega
          have hib3:i * 2 + 2 ≤ xs.length * 2:=by omega
          simp [hCl,hib,hib2,hib3]
          subst hI
          obtain ⟨g1,g2,g3⟩:=putp2 C (pi xs[j].Addr) (pi xs[j].Len) i j (by omega) hlt
          refine Less_mk (m - 1) (by omega) ⟨j + 1,i + 1,_,by omega,by omega,by rw [hfs,List.length_append,hi]; rfl,g1.trans hCl,?_,?_,?_⟩
          · rw [g2,hCt,hfs,List.flatMap_append]
            simp
          · rw [g3,hCn]
          · rw [wrNext i (by omega),wrNext j (by omega)]
        · simp at b
          rw [if_pos b,List.append_nil] at hfs
          simp
          subst hI
          refine Less_mk (m - 1) (by omega) ⟨j + 1,i,C,by omega,by omega,by rw [hfs,hi],hCl,?_,hCn,?_⟩
          · rw [hCt,hfs]
          · rw [wrNext j (by omega)]
      · simp at a
        have hjn:j = xs.length:=by omega
        subst hjn
        rw [List.take_length] at hi hCt
        have hil:i ≤ xs.length:=by omega
        have hCtl:(C.take (i * 2)).length = i * 2:=by rw [List.length_take]; omega
        have hz0:¬ xs.length - i = 0:=by omega
        have hz1:i * 2 + (xs.length - i) * 2 ≤ C.length:=by omega
        have hz2:i * 2 ≤ min (i * 2) C.length + ((xs.length - i) * 2 + (C.length - (i * 2 + (xs.length - i) * 2))):=by omega
        have hTT:∀ Y,List.take (i * 2) (C.take (i * 2) ++ Y) = C.take (i * 2):=fun Y => List.take_left' hCtl
        rw [hi,← hCt]
        simp [hil,hz0,hz1,hz2,hTT]
end Go.V
namespace Go.Proofs
open Go.Shelf
def Tryz.laysSF_ren:Go.Shelf.Ren:=⟨fun | 6 => 128 | 15 => 173 | 14 => 172 | 28 => 199 | 29 => 200 | 20 => 191 | 21 => 192 | 22 => 193 | 23 => 194 | 24 => 195 | 25 => 196 | 26 => 197 | 27 => 198 | 46 => 209 | 47 => 210 | 48 => 211 | 49 => 212 | 50 => 213 | 57 => 220 | n => n,fun | 22 => 27 | 24 => 77 | 25 => 134 | 3 => 3 | 39 => 187 | 0 => 0 | 53 => 207 | 55 => 127 | 4 => 4 | 46 => 201 | 45 => 200 | 50 => 137 | 5 => 5 | 9 => 9 | 66 => 215 | 70 => 219 | 76 => 225 | 77 => 226 | n => n,fun | n => n⟩
theorem Tryz.laysSF:Go.Proofs.SlLaysF0.n6 Tryz.prog Tryz.laysSF_ren:={
  mixed:=by kernel_rfl
  f6:=⟨Tryz.f128.name,by decide,Tryz.func128.trans (congrArg some (by kernel_rfl))⟩
  f14:=⟨Tryz.f172.name,by decide,Tryz.func172.trans (congrArg some (by kernel_rfl))⟩
  f15:=Tryz.func173.trans (congrArg some (by kernel_rfl))
  f20:=⟨Tryz.f191.name,by decide,Tryz.func191.trans (congrArg some (by kernel_rfl))⟩
  f21:=⟨Tryz.f192.name,by decide,Tryz.func192.trans (congrArg some (by kernel_rfl))⟩
  f22:=⟨Tryz.f193.name,by decide,Tryz.func193.trans (congrArg some (by kernel_rfl))⟩
  f23:=⟨Tryz.f194.name,by decide,Tryz.func194.trans (congrArg some (by kernel_rfl))⟩
  f24:=⟨Tryz.f195.name,by decide,Tryz.func195.trans (congrArg some (by kernel_rfl))⟩
  f25:=⟨Tryz.f196.name,by decide,Tryz.func196.trans (congrArg some (by kernel_rfl))⟩
  f26:=⟨Tryz.f197.name,by decide,Tryz.func197.trans (congrArg some (by kernel_rfl))⟩
  f27:=⟨Tryz.f198.name,by decide,Tryz.func198.trans (congrArg some (by kernel_rfl))⟩
  f28:=Tryz.func199.trans (congrArg some (by kernel_rfl))
  f29:=Tryz.func200.trans (congrArg some (by kernel_rfl))
  f46:=⟨Tryz.f209.name,by decide,Tryz.func209.trans (congrArg some (by kernel_rfl))⟩
  f47:=Tryz.func210.trans (congrArg some (by kernel_rfl))
  f48:=Tryz.func211.trans (congrArg some (by kernel_rfl))
  f49:=⟨Tryz.f212.name,by decide,Tryz.func212.trans (congrArg some (by kernel_rfl))⟩
  f50:=⟨Tryz.f213.name,by decide,Tryz.func213.trans (congrArg some (by kernel_rfl))⟩
  f57:=⟨Tryz.f220.name,by decide,Tryz.func220.trans (congrArg some (by kernel_rfl))⟩
  t0:=Tryz.underlying0
  a0:=Tryz.isAgg0
  z0:=Tryz.sizeOf0
  v0:=Tryz.zeroValue0
  t3:=Tryz.underlying3
  a3:=Tryz.isAgg3
  z3:=Tryz.sizeOf3
  v3:=Tryz.zeroValue3
  t4:=Tryz.underlying4
  a4:=Tryz.isAgg4
  z4:=Tryz.sizeOf4
  v4:=Tryz.zeroValue4
  t5:=Tryz.underlying5
  a5:=Tryz.isAgg5
  z5:=Tryz.sizeOf5
  v5:=Tryz.zeroValue5
  t9:=Tryz.underlying9
  a9:=Tryz.isAgg9
  z9:=Tryz.sizeOf9
  v9:=Tryz.zeroValue9
  t22:=Tryz.underlying27
  a22:=Tryz.isAgg27
  z22:=Tryz.sizeOf27
  v22:=Tryz.zeroValue27
  t25:=Tryz.underlying134
  a25:=Tryz.isAgg134
  z25:=Tryz.sizeOf134
  v25:=Tryz.zeroValue134
  t39:=Tryz.underlying187
  a39:=Tryz.isAgg187
  z39:=Tryz.sizeOf187
  v39:=Tryz.zeroValue187
  t45:=Tryz.underlying200
  a45:=Tryz.isAgg200
  z45:=Tryz.sizeOf200
  v45:=Tryz.zeroValue200
  t46:=Tryz.underlying201
  a46:=Tryz.isAgg201
  z46:=Tryz.sizeOf201
  v46:=Tryz.zeroValue201
  t50:=Tryz.underlying137
  a50:=Tryz.isAgg137
  z50:=Tryz.sizeOf137
  v50:=Tryz.zeroValue137
  t53:=Tryz.underlying207
  a53:=Tryz.isAgg207
  z53:=Tryz.sizeOf207
  v53:=Tryz.zeroValue207
  t55:=Tryz.underlying127
  a55:=Tryz.isAgg127
  z55:=Tryz.sizeOf127
  v55:=Tryz.zeroValue127
  t66:=Tryz.underlying215
  a66:=Tryz.isAgg215
  z66:=Tryz.sizeOf215
  v66:=Tryz.zeroValue215
  t70:=Tryz.underlying219
  a70:=Tryz.isAgg219
  z70:=Tryz.sizeOf219
  v70:=Tryz.zeroValue219
  t76:=Tryz.underlying225
  a76:=Tryz.isAgg225
  z76:=Tryz.sizeOf225
  v76:=Tryz.zeroValue225
  t77:=Tryz.underlying226
  a77:=Tryz.isAgg226
  z77:=Tryz.sizeOf226
  v77:=Tryz.zeroValue226 }
end Go.Proofs
namespace Go.V
open Go.Proofs
set_option maxHeartbeats 1000000
set_option maxRecDepth 10000
set_option linter.unusedSimpArgs false
set_option linter.unusedVariables false
theorem callOK_same0 {P:Program} {f e g:Nat} (hcall:∀ (ad:Option Addr) (cap:Nat) (w:World),CallsF P f #[.slice ad 0 cap,.func (.func g) #[] #[]] w fun e' w' => e' = .returned (.tuple #[]) ∧ w' = w):CallOK P f [.c (.sl 0 e 0 []),.c (.fn 0 g [])] (.tup []) [.c (.sl 0 e 0 []),.c (.fn 0 g [])]:=by
  intro I w las he hh hnd hI
  obtain ⟨l0,r,rfl⟩:∃ l0 r,las = l0 :: r:=by cases las with
    | nil => simp at he
    | cons l0 r => exact ⟨l0,r,rfl⟩
  obtain ⟨l1,r,rfl⟩:∃ l1 r',r = l1 :: r':=by cases r with
    | nil => simp at he
    | cons l0 r => exact ⟨l0,r,rfl⟩
  simp only [List.map_cons,List.cons.injEq,List.map_eq_nil_iff] at he
  obtain ⟨e0,e1,rfl⟩:=he
  obtain ⟨t0,rfl,e0'⟩:=LV.c_of_erase e0
  obtain ⟨t1,rfl,e1'⟩:=LV.c_of_erase e1
  obtain ⟨v1,rfl⟩:=leaf_of_erase e1' rfl
  have hh0:=hh (.c t0) (by simp)
  have hh1:=hh (.c (.leaf v1 (.fn 0 g []))) (by simp)
  simp only [LV.holds] at hh0 hh1
  have hh1':=hh1
  simp only [LT.holds,Im,ImC] at hh1
  obtain ⟨⟨us,rfl,rfl⟩,hone⟩:=hh1
  have hv0:∃ ad cap,t0.val = .slice ad 0 cap:=by
    cases t0 with
    | own b cap e' n ls =>
      simp only [LT.erase,PT.sl.injEq,true_and] at e0'
      obtain ⟨rfl,rfl,hls⟩:=e0'
      exact ⟨_,_,rfl⟩
    | leaf v p =>
      simp only [LT.erase] at e0'
      subst e0'
      simp only [LT.holds,Im] at hh0
      obtain ⟨⟨_,_,ad,rfl⟩,hv1⟩:=hh0
      exact ⟨_,_,rfl⟩
  obtain ⟨ad,cap,hv0⟩:=hv0
  have ev:[LV.c t0,LV.c (.leaf (.func (.func g) #[] #[]) (.fn 0 g []))].map LV.val = [.slice ad 0 cap,.func (.func g) #[] #[]]:=by
    simp only [List.map_cons,List.map_nil,LV.val,hv0]
    simp only [LT.val]
  rw [ev]
  refine (hcall ad cap w).mono ?_
  rintro e1 w' ⟨rfl,rfl⟩
  refine ⟨.tup [],[.c t0,.c (.leaf (.func (.func g) #[] #[]) (.fn 0 g []))],by simp [LV.val,LV.valL],by simp [LV.erase,LV.eraseL],by simp [LV.erase,LT.erase,e0'],by simp [LV.full,LV.trees,LT.val,hv0],by simp [LV.holds,LV.holdsL],?_,?_,?_,?_⟩
  · intro l hl
    simp only [List.mem_cons,List.not_mem_nil,or_false] at hl
    rcases hl with rfl | rfl
    · exact hh0
    · exact hh1'
  · simpa [LV.blocks,LV.blocksL,LT.blocks] using hnd
  · intro b hb
    left
    simpa [LV.blocks,LV.blocksL,LT.blocks] using hb
  · exact Kp.refl _ _
def encP (p:GPrefix):List Value:=[.int .i64 p.Addr,.int .i64 p.Len]
instance:Inhabited GPrefix:=⟨⟨0,0⟩⟩
def srtOf (xs:List GPrefix):List GPrefix:=xs.mergeSort fun x y => !Go.Proofs.ltOf cmpPx y x
theorem swoP:Go.Sort.SWO (Go.Proofs.ltOf cmpPx) where
  irrefl:=fun x => by
    unfold Go.Proofs.ltOf
    exact decide_eq_false (ltP_irr x)
  trans:=fun x y z h1 h2 => by
    unfold Go.Proofs.ltOf at *
    exact decide_eq_true (ltP_trans (of_decide_eq_true h1) (of_decide_eq_true h2))
  ntrans:=fun x y z h1 h2 => by
    unfold Go.Proofs.ltOf at *
    have g1:=of_decide_eq_false h1
    have g2:=of_decide_eq_false h2
    refine decide_eq_false ?_
    rw [cmpPx_lt] at *
    omega
theorem totP (x y:GPrefix) (h1:Go.Proofs.ltOf cmpPx x y = false) (h2:Go.Proofs.ltOf cmpPx y x = false):x = y:=by
  unfold Go.Proofs.ltOf at *
  have g1:=of_decide_eq_false h1
  have g2:=of_decide_eq_false h2
  rw [cmpPx_lt] at g1 g2
  rw [px_ext]
  omega
theorem srtOf_le (xs:List GPrefix):leP (srtOf xs):=by
  have h:=List.pairwise_mergeSort (le:=fun x y => !Go.Proofs.ltOf cmpPx y x) (fun a b c h1 h2 => by
    simp only [Bool.not_eq_true'] at *
    exact swoP.ntrans c b a h2 h1) (fun a b => by
    simp only [Bool.or_eq_true,Bool.not_eq_true']
    unfold Go.Proofs.ltOf
    by_cases h:cmpPx b a < 0
    · right
      refine decide_eq_false ?_
      rw [cmpPx_lt] at *
      omega
    · left
      exact decide_eq_false h) xs
  unfold leP srtOf
  refine h.imp ?_
  intro a b hab
  simp only [Bool.not_eq_true'] at hab
  unfold Go.Proofs.ltOf at hab
  exact of_decide_eq_false hab
theorem srtOf_mem (xs:List GPrefix) (x:GPrefix):x ∈ srtOf xs ↔ x ∈ xs:=by simp [srtOf]
theorem srtOf_len (xs:List GPrefix):(srtOf xs).length = xs.length:=by simp [srtOf]
theorem srtOf_nil:srtOf [] = []:=by simp [srtOf]
theorem ok_SortFunc_Prefix (xs:List GPrefix) (hl:xs.length ≤ 1000000):CallOK Tryz.prog 128 [.c (.sl 0 77 xs.length (xs.flatMap GPrefix.c)),.c (.fn 0 97 [])] (.tup []) [.c (.sl 0 77 (srtOf xs).length ((srtOf xs).flatMap GPrefix.c)),.c (.fn 0 97 [])]:=by
  have hen:∀ f,(f = 128 ∨ f = 97) → ∀ args w,(callFunc f args).run Tryz.prog w = .ok (.enter f args) w:=by
    rintro f (rfl | rfl)
    · exact enters_of Tryz.func128 (by kernel_rfl) rfl
    · exact enters_of Tryz.func97 (by kernel_rfl) rfl
  by_cases hx:xs = []
  · subst hx
    rw [srtOf_nil]
    refine callOK_same0 fun ad cap w => ?_
    exact CallsF.of_calls Tryz.func128 (by kernel_rfl) rfl (Go.Proofs.AnyF.slices_SortFunc_none Tryz.laysSF ad cap (.func (.func 97) #[] #[]) w)
  · have e1:∀ l:List GPrefix,l.flatMap GPrefix.c = rowC encP l:=fun l => by
      unfold rowC
      rfl
    rw [e1,e1]
    refine callOK_sort (k:=2) encP (by kernel_rfl) (by decide) (fun _ => rfl) (fun x v hv => by
      simp only [encP,List.mem_cons,List.not_mem_nil,or_false] at hv
      rcases hv with rfl | rfl <;> rfl) xs (srtOf xs) hx (srtOf_len xs) (hen _ (.inl rfl)) ?_
    intro blk cap w hH hb
    have h:=Go.Proofs.AnyQ.slices_SortFunc_total Tryz.laysSF 2 (fun w => by kernel_rfl) (fun w => by kernel_rfl) encP (fun _ => rfl) (fun x v hv => by
      simp only [encP,List.mem_cons,List.not_mem_nil,or_false] at hv
      rcases hv with rfl | rfl <;> rfl) cmpPx swoP 97 #[] blk 0 cap xs.toArray w (hen _ (.inr rfl)) (cmpLays_of encP (fun x v hv => by
      simp only [encP,List.mem_cons,List.not_mem_nil,or_false] at hv
      rcases hv with rfl | rfl <;> rfl) (hen _ (.inr rfl)) (fun x y => ok_compare x y) blk 0 _ w) hH hb (by simp; omega) totP
    have h2:Calls Tryz.prog 128 _ w _:=h
    simpa [srtOf] using h2
theorem ok_changed1 (q ka kb:Nat) (a b:GRib) (p:GPrefix) (ha:ribOK a) (hga:goodRib a = true) (hb:ribOK b) (hgb:goodRib b = true):CallOK Tryz.prog 131 [.agg p.c,.ip q (GRib.ci (ka + 1) a),.ip q (GRib.ci (kb + 1) b)] (.c (pb (decide (bestR a p = bestR b p)))) [.agg p.c,.ip q (GRib.ci (ka + 1) a),.ip q (GRib.ci (kb + 1) b)]:=by
  refine okS (fn:=Tryz.f131) [] h0 Tryz.func131 (by kernel_rfl) rfl Tryz.ntmps131 Tryz.results131 (by simp) ?_
  simp
  refine Inv_intro (ok_bestAt ka a p ha hga) ?_
  cases h1:bestR a p with
  | none =>
    simp [outO]
    refine Inv_intro (ok_bestAt kb b p hb hgb) ?_
    cases h2:bestR b p with
    | none =>
      simp [outO]
      refine Inv_intro (ok_sameAttrs 0 0 zeroO.Attrs zeroO.Attrs ⟨by decide,by decide⟩ ⟨by decide,by decide⟩) ?_
      simp
    | some y => simp [outO]
  | some x =>
    have hx:=bestR_small h1
    simp [outO]
    refine Inv_intro (ok_bestAt kb b p hb hgb) ?_
    cases h2:bestR b p with
    | none => simp [outO]
    | some y =>
      have hy:=bestR_small h2
      by_cases hp:x.Peer = y.Peer
      · simp [outO,hp]
        refine Inv_intro (ok_sameAttrs (ka + 1) (kb + 1) x.Attrs y.Attrs ⟨by omega,by omega⟩ ⟨by omega,by omega⟩) ?_
        have:x = y ↔ x.Attrs = y.Attrs:=by
          cases x; cases y
          simp only [GOffer.mk.injEq] at hp ⊢
          exact ⟨fun h => h.2,fun h => ⟨hp,h⟩⟩
        simp [this]
      · have:¬ x = y:=fun h => hp (by rw [h])
        simp [outO,hp,this]
def ribY (y:Nat × GRib):List PT:=GRib.ci y.1 y.2
def prefsY (l:List (Nat × GRib)):List GPrefix:=l.flatMap fun y => prefsOf y.2
theorem prefsY_snoc (l:List (Nat × GRib)) (i:Nat) (h:i < l.length):prefsY (l.take (i + 1)) = prefsY (l.take i) ++ prefsOf l[i].2:=by
  unfold prefsY
  rw [take_step l i h,List.flatMap_append]
  simp
theorem ok_changed2 (ka kb:Nat) (a b:GRib) (ha:ribOK a) (hga:goodRib a = true) (hb:ribOK b) (hgb:goodRib b = true):CallOK Tryz.prog 80 [.agg (GRib.ci (ka + 1) a),.agg (GRib.ci (kb + 1) b)] (.c (.sl 0 77 (changedG a b).length ((changedG a b).flatMap GPrefix.c))) [.agg (GRib.ci (ka + 1) a),.agg (GRib.ci (kb + 1) b)]:=by
  have hna:=(goodRib_gW hga).2.1
  have hnb:=(goodRib_gW hgb).2.1
  refine okS (fn:=Tryz.f80) [(128,[1,0]),(130,[2]),(129,[2,0])] h0 Tryz.func80 (by kernel_rfl) rfl Tryz.ntmps80 Tryz.results80 (by simp) ?_
  simp
  refine ewp_sw (.op 1 0 0) (.op 8 4 0) rfl rfl ?_
  simp
  obtain ⟨rs,hrs⟩:∃ rs:List (Nat × GRib),rs = [(ka + 1,a),(kb + 1,b)]:=⟨_,rfl⟩
  have hcells:rs.flatMap ribY = GRib.ci (ka + 1) a ++ GRib.ci (kb + 1) b:=by rw [hrs]; rfl
  have hn2:rs.length = 2:=by rw [hrs]; rfl
  have hrr:∀ y ∈ rs,y.2.Rows.length ≤ 20:=by
    rw [hrs]
    intro y hy
    simp only [List.mem_cons,List.not_mem_nil,or_false] at hy
    rcases hy with rfl | rfl
    · exact hna
    · exact hnb
  have hpl:∀ i,i ≤ 2 → (prefsY (rs.take i)).length ≤ 40:=by
    intro i hi
    have e:∀ i,(prefsY (rs.take i)).length ≤ (prefsY rs).length:=fun i => by
      have h:prefsY rs = prefsY (rs.take i) ++ prefsY (rs.drop i):=by
        unfold prefsY
        rw [← List.flatMap_append,List.take_append_drop]
      rw [h,List.length_append]
      omega
    refine Nat.le_trans (e i) ?_
    rw [hrs]
    simp [prefsY,prefsOf]
    omega
  refine loopS [2,3,5,13,14,15] [.op 0 0 0,.op 0 1 0,.op 8 4 0,.op 2 2 0] (fun m st => ∃ (i:Nat),i + m = 2 ∧ st = ⟨slOf 39 [(2,.ptr ⟨.op 0 0 0,[]⟩ 0),(3,.ptr ⟨.op 0 1 0,[]⟩ 0),(5,.ref ⟨.op 8 4 0,[]⟩ 0 (prefsY (rs.take i)).length),(13,.ref ⟨.op 2 2 0,[]⟩ 0 2),(14,.t (pi 2)),(15,.t (pi i))],ofL [(.op 0 0 0,.sl 0 32 1 (GRib.ci (ka + 1) a)),(.op 0 1 0,.sl 0 32 1 (GRib.ci (kb + 1) b)),(.op 8 4 0,.sl 0 77 (prefsY (rs.take i)).length ((prefsY (rs.take i)).flatMap GPrefix.c)),(.op 2 2 0,.sl 0 32 2 (rs.flatMap ribY))]⟩) 2 ?_ ?_
  · rintro Inv hI
    simp
    subst hI
    refine ⟨0,by omega,?_⟩
    rw [hcells]
    rfl
  · rintro Inv hI m st ⟨i,hi,rfl⟩
    refine ewr_sound (M:=[(128,[1,0]),(130,[2]),(129,[2,0])]) h0 ?_
    simp
    refine brn_app (fun c => ?_) (fun c => ?_)
    · simp at c
      have hil:i < rs.length:=by omega
      have hd:=fm_drop ribY 2 (fun _ => rfl) rs i hil
      have hlen:=fm_len ribY 2 (fun _ => rfl) rs
      rw [hn2] at hlen
      have hlt:i * 2 < 4:=by omega
      have hle:i * 2 + 2 ≤ 4:=by omega
      have hst:=prefsY_snoc rs i hil
      have hp1:=hpl (i + 1) (by omega)
      rw [hst,List.length_append] at hp1
      have hy20:=hrr _ (List.getElem_mem hil)
      generalize hye:rs[i] = y at hd hst hp1 hy20
      generalize hDe:(rs.drop (i + 1)).flatMap ribY = D at hd
      generalize hRe:rs.flatMap ribY = R at *
      obtain ⟨ky,y⟩:=y
      simp only [ribY] at hd
      simp only at hst hp1 hy20
      simp [c,hd,hlen,hlt,hle]
      obtain ⟨P,hP⟩:∃ P,P = prefsY (rs.take i):=⟨_,rfl⟩
      rw [← hP] at hst hp1 ⊢
      refine loopS [2,3,5,13,14,15,20,21,22] [.op 0 0 0,.op 0 1 0,.op 8 4 0,.op 2 2 0] (fun m st => ∃ (j:Nat),j + m = y.Rows.length ∧ st = ⟨slOf 39 [(2,.ptr ⟨.op 0 0 0,[]⟩ 0),(3,.ptr ⟨.op 0 1 0,[]⟩ 0),(5,.ref ⟨.op 8 4 0,[]⟩ 0 (P ++ (y.Rows.take j).map GRow.Prefix).length),(13,.ref ⟨.op 2 2 0,[]⟩ 0 2),(14,.t (pi 2)),(15,.t (pi i)),(20,.t (rd ky y.Rows.length (y.Rows.flatMap (GRow.ci ky)))),(21,.t (pi y.Rows.length)),(22,.t (pi j))],ofL [(.op 0 0 0,.sl 0 32 1 (GRib.ci (ka + 1) a)),(.op 0 1 0,.sl 0 32 1 (GRib.ci (kb + 1) b)),(.op 8 4 0,.sl 0 77 (P ++ (y.Rows.take j).map GRow.Prefix).length ((P ++ (y.Rows.take j).map GRow.Prefix).flatMap GPrefix.c)),(.op 2 2 0,.sl 0 32 2 R)]⟩) y.Rows.length ?_ ?_
      · rintro Inv2 hI2
        simp
        subst hI2
        refine ⟨0,by omega,?_⟩
        simp
      · rintro Inv2 hI2 m2 st ⟨j,hj,rfl⟩
        have hQl:(P ++ (y.Rows.take j).map GRow.Prefix).length ≤ 40:=by
          unfold prefsOf at hp1
          rw [List.length_map] at hp1
          rw [List.length_append,List.length_map,List.length_take]
          omega
        have hsn:∀ h:j < y.Rows.length,P ++ (y.Rows.take (j + 1)).map GRow.Prefix = (P ++ (y.Rows.take j).map GRow.Prefix) ++ [y.Rows[j].Prefix]:=fun h => by
          rw [take_step y.Rows j h,List.map_append,List.append_assoc]
          rfl
        have hfin:j = y.Rows.length → P ++ (y.Rows.take j).map GRow.Prefix = P ++ prefsOf y:=by
          rintro rfl
          rw [List.take_length]
          rfl
        generalize P ++ (y.Rows.take j).map GRow.Prefix = O at hQl hsn hfin ⊢
        refine ewr_sound (M:=[(128,[1,0]),(130,[2]),(129,[2,0])]) h0 ?_
        simp
        refine brn_app (fun e => ?_) (fun e => ?_)
        · simp at e
          have hsn':=hsn e
          have hd2:=fm_drop (GRow.ci ky) 3 (fun _ => rfl) y.Rows j e
          have hlen2:=fm_len (GRow.ci ky) 3 (fun _ => rfl) y.Rows
          have hlt2:j * 3 < y.Rows.length * 3:=by omega
          have hA:=fm_len GPrefix.c 2 (fun _ => rfl) O
          have ht:List.take (O.length * 2) (O.flatMap GPrefix.c) = O.flatMap GPrefix.c:=List.take_of_length_le (by omega)
          have hb1:(O.length + 1) * 16 ≤ 140737488355328:=by omega
          have hb2:O.length ≤ 9223372036854775806:=by omega
          simp [e,hd2,hlen2,hlt2,hA,ht,hb1,hb2]
          subst hI2
          refine Less_mk (m2 - 1) (by omega) ⟨j + 1,by omega,?_⟩
          rw [wrNext j (by omega),hsn']
          all_goals simp
        · simp at e
          have hjn:j = y.Rows.length:=by omega
          have hfin':=hfin hjn
          simp
          subst hI
          refine Less_mk (m - 1) (by omega) ⟨i + 1,by omega,?_⟩
          rw [wrNext i (by omega),hst,hfin']
          all_goals simp
    · simp at c
      have hi2:i = 2:=by omega
      subst hi2
      have hP:prefsY (rs.take 2) = prefsOf a ++ prefsOf b:=by
        rw [List.take_of_length_le (by omega),hrs]
        simp [prefsY]
      have hPl:=hpl 2 (by omega)
      rw [hP] at hPl ⊢
      have hun:=comp_union (srtOf_le (prefsOf a ++ prefsOf b)) (srtOf_mem (prefsOf a ++ prefsOf b))
      have hch:changedG a b = (compP (srtOf (prefsOf a ++ prefsOf b))).filter fun p => !decide (bestR a p = bestR b p):=by
        rw [hun]
        rfl
      rw [hch]
      have hsl:=srtOf_len (prefsOf a ++ prefsOf b)
      have hSo:=ok_SortFunc_Prefix (prefsOf a ++ prefsOf b) (by omega)
      generalize prefsOf a ++ prefsOf b = X at *
      generalize srtOf X = Y at *
      have hcl:=comp_len Y
      simp
      refine Inv_intro hSo ?_
      have hXl:=fm_len GPrefix.c 2 (fun _ => rfl) X
      have hYl:=fm_len GPrefix.c 2 (fun _ => rfl) Y
      have htX:List.take (X.length * 2) (X.flatMap GPrefix.c) = X.flatMap GPrefix.c:=List.take_of_length_le (by omega)
      have htY:List.take (Y.length * 2) (Y.flatMap GPrefix.c) = Y.flatMap GPrefix.c:=List.take_of_length_le (by omega)
      have hC:=ok_Compact_Prefix Y (by omega)
      rw [hsl] at htY hC
      have hCl:=fm_len GPrefix.c 2 (fun _ => rfl) (compP Y)
      have htC:List.take ((compP Y).length * 2) ((compP Y).flatMap GPrefix.c) = (compP Y).flatMap GPrefix.c:=List.take_of_length_le (by omega)
      have hD:=ok_DeleteFunc_Prefix 1 131 [GRib.ci (ka + 1) a,GRib.ci (kb + 1) b] (fun p => decide (bestR a p = bestR b p)) (compP Y) (by omega) (fun x _ => ok_changed1 1 ka kb a b x ha hga hb hgb)
      have hZl:=fm_len GPrefix.c 2 (fun _ => rfl) ((compP Y).filter fun p => !decide (bestR a p = bestR b p))
      have htZ:List.take (((compP Y).filter fun p => !decide (bestR a p = bestR b p)).length * 2) (((compP Y).filter fun p => !decide (bestR a p = bestR b p)).flatMap GPrefix.c) = ((compP Y).filter fun p => !decide (bestR a p = bestR b p)).flatMap GPrefix.c:=List.take_of_length_le (by omega)
      generalize compP Y = Z at *
      simp [hXl,hYl,htX,htY,hsl]
      refine Inv_intro hC ?_
      simp [hCl,htC]
      refine Inv_intro hD ?_
      generalize (Z.filter fun p => !decide (bestR a p = bestR b p)) = W at *
      simp [hZl,htZ]
theorem ok_changed (ka kb:Nat) (a b:GRib) (ha:ribOK a) (hga:goodRib a = true) (hb:ribOK b) (hgb:goodRib b = true):CallOK Tryz.prog 80 [.agg (GRib.ci ka a),.agg (GRib.ci kb b)] (.c (.sl 0 77 (changedG a b).length ((changedG a b).flatMap GPrefix.c))) [.agg (GRib.ci ka a),.agg (GRib.ci kb b)]:=by
  have h:=ok_changed2 0 0 a b ha hga hb hgb
  refine CallOK.relabel ?_ rfl ?_
  · simpa only [List.map_cons,List.map_nil,rib_up] using h
  · intro w I I' lr he hh
    refine free_c ?_ he hh
    simp only [PT.free]
    exact free_px _
theorem step_app_run {P:Program} {ops:Array Oper} {o:Oper} {a:Act} {w:World} {K:Act → World → Prop} {Q:Exit → Act → World → Prop} {E:Prop}
    (hg:o.guard = none) (d x:Operand) (dT sT:TypeId) (hop:o.op = Op.call { callee:=Callee.builtin Builtin.append,args:=#[d,x],argTypes:=#[dT,sT] })
    (v u:Value) (hd:a.eval d = v) (hx:a.eval x = u) {v':Value} {w':World} (hr:(Builtin.append_ #[dT,sT] o.type #[v,u]).run P w = .ok v' w') (hK:K (a.put o.dst v') w') :
    if Region.wanted o (yielded ops a.tmps) = true then Oper.wp P o a w K Q else E:=by
  have hw:Region.wanted o (yielded ops a.tmps) = true:=by simp [Region.wanted,hg]
  rw [if_pos hw]
  unfold Oper.wp
  simp [execOp,hop,resolve,invoke,builtin,hd,hx,hr,Result.andThen]
  exact hK
theorem wp_clear_run {P:Program} (w:World) {o:Oper} {a:Act} {K:Act → World → Prop} {Q:Exit → Act → World → Prop} (s:Operand) (t:TypeId)
    (ho:o.op = .call { callee:=.builtin .clear,args:=#[s],argTypes:=#[t] }) (v:Value) (hd:a.eval s = v) {v':Value} {w':World}
    (hr:(Builtin.clear_ #[t] o.type #[v]).run P w = .ok v' w') (h:K (a.put o.dst v') w'):o.wp P a w K Q:=by
  unfold Oper.wp execOp
  simp only [ho,resolve,invoke,builtin,Sem.run_bind,Sem.run_pure,Result.andThen_ok,List.map_toArray,List.map_cons,List.map_nil,hd,hr]
  exact h
theorem wpList_clear_run {P:Program} (w:World) {ops:Array Oper} {rest:List Oper} {o:Oper} {a:Act} {Q:Exit → Act → World → Prop} (hgd:o.guard = none) (s:Operand) (t:TypeId)
    (ho:o.op = .call { callee:=.builtin .clear,args:=#[s],argTypes:=#[t] }) (v:Value) (hd:a.eval s = v) {v':Value} {w':World}
    (hr:(Builtin.clear_ #[t] o.type #[v]).run P w = .ok v' w') (h:wpList P ops Q rest (a.put o.dst v') w'):wpList P ops Q (o :: rest) a w :=
  wpList_plain hgd fun _ hK => wp_clear_run w s t ho v hd hr (hK _ _ h)
theorem run_clear_n {P:Program} (w:World) (t ty e:TypeId) (b o k cap:Nat) (inf:TypeInfo) (z:Value) (hu:P.underlying t = some (.slice e)) (hi:P.info? e = some inf) (hz:inf.zero = some z)
    (hc:∀ j,j < (k + 1) * z.cells.size → (w.cell? ⟨b,o + j,none⟩).isSome = true) (hf:∀ j,j < (k + 1) * z.cells.size → w.frozen? ⟨b,o + j,none⟩ = false) (h1:∀ v ∈ z.cells.toList,v.oneCell' = true) :
    (Builtin.clear_ #[t] ty #[.slice (some ⟨b,o,none⟩) (k + 1) cap]).run P w = .ok (.tuple #[]) (w.setCells b o ((List.replicate (k + 1) z.cells.toList).flatten)):=by
  have hl:((List.replicate (k + 1) z.cells.toList).flatten).length = (k + 1) * z.cells.size:=by simp
  have hst:=run_storeCells_cells (P:=P) b o ((List.replicate (k + 1) z.cells.toList).flatten) 0 w (by rw [hl]; simpa using hc) (by rw [hl]; simpa using hf) (by
    intro v hv
    obtain ⟨l,hl,hvl⟩:=List.mem_flatten.1 hv
    rw [(List.mem_replicate.1 hl).2] at hvl
    exact h1 v hvl)
  have hzt:=zeroCells_toList z.cells (k + 1)
  simp [-Value.cells,Builtin.clear_,run_underlying hu,zeroValue,typeInfo,hi,hz,Result.andThen,hzt]
  rw [hst]
  rfl
end Go.V
