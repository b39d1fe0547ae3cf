/- What functions of the seat's program do, each proved of its code, under the bounds that its theorem names. -/
import Derived.Test.YtcmdgenpipojpaaGreatTac
set_option linter.all false
namespace Go.V
open Go.Proofs
set_option maxHeartbeats 1000000
set_option maxRecDepth 10000
set_option linter.unusedSimpArgs false
set_option linter.unusedVariables false
def tl (r:GRoute) (l:List GRoute):Nat:=if fnd r.Prefix l = true then kAt r.Prefix l + 1 else kAt r.Prefix l
def outPut (r:GRoute) (l:List GRoute):List PT:=((l.flatMap GRoute.co).map PT.hollow).take (kAt r.Prefix l * 8) ++ (((l.flatMap GRoute.co).drop (kAt r.Prefix l * 8)).take ((tl r l - kAt r.Prefix l) * 8) ++ ((l.flatMap GRoute.co).map PT.hollow).drop (tl r l * 8))
theorem putR_co (r:GRoute) {l:List GRoute} (h:srt l):(putR r l).flatMap GRoute.co = (l.flatMap GRoute.co).take (kAt r.Prefix l * 8) ++ (GRoute.co r ++ (l.flatMap GRoute.co).drop (tl r l * 8)) ∧ (putR r l).length = kAt r.Prefix l + (1 + (l.length - tl r l)):=by
  obtain ⟨h1,h2,h3,h4,h5,h6⟩:=srt_split r.Prefix l h
  rw [fm_take GRoute.co 8 (fun _ => rfl),fm_dropAll GRoute.co 8 (fun _ => rfl)]
  unfold putR tl
  rw [← h1,← h2]
  refine ⟨by simp only [List.flatMap_append,List.flatMap_cons],?_⟩
  rw [List.length_append,List.length_cons,List.length_take,List.length_drop]
  have:min (kAt r.Prefix l) l.length = kAt r.Prefix l:=by omega
  omega
set_option maxHeartbeats 4000000 in
theorem ok_l14Put (l:List GRoute) (r:GRoute) (hs:srt l) (hl:l.length ≤ 1048576):CallOK Tryz.prog 56 [.c (.sl 0 56 l.length (l.flatMap GRoute.co)),.agg r.co] (.c (.sl 0 56 (putR r l).length ((putR r l).flatMap GRoute.co))) [.c (.sl 0 56 l.length (outPut r l)),.agg [pi r.Prefix.Addr,pi r.Prefix.Len,pi r.Attrs.Origin,.hole,pi r.Attrs.Next,pi r.Attrs.Med,pi r.Attrs.Pref,.hole]]:=by
  obtain ⟨hpc,hpl⟩:=putR_co r hs
  refine okS (fn:=Tryz.f56) [] h0 Tryz.func56 (by kernel_rfl) rfl Tryz.ntmps56 Tryz.results56 (by simp) ?_
  simp
  refine loopS [0,3,5] [.arg 0 0,.op 0 0 0] (fun n st => ∃ (k:Nat),k + n = l.length ∧ (∀ (j:Nat) (hj:j < k) (hj':j < l.length),cmpPx l[j].Prefix r.Prefix < 0) ∧ st = ⟨slOf 54 [(0,.ref ⟨.arg 0 0,[]⟩ 0 l.length),(3,.ptr ⟨.op 0 0 0,[]⟩ 0),(5,.t (pi k))],ofL [(.arg 0 0,.sl 0 56 l.length (l.flatMap GRoute.co)),(.arg 1 3,.hole),(.arg 1 7,.hole),(.op 0 0 0,.sl 0 56 1 r.co)]⟩) l.length ?_ ?_
  · rintro Inv hI
    simp
    subst hI
    exact ⟨0,by omega,by intro j hj; omega,rfl⟩
  · rintro Inv hI n st ⟨k,hk,hall,rfl⟩
    have hat:∀ (h:k < l.length),0 ≤ cmpPx l[k].Prefix r.Prefix → kAt r.Prefix l = k:=fun h h2 => bsI_eq _ l k (by omega) hall fun _ => h2
    have hat2:k = l.length → kAt r.Prefix l = k:=fun h => bsI_eq _ l k (by omega) hall fun h2 => by omega
    have hcm:=fm_len GRoute.co 8 (fun _ => rfl) l
    refine ewr_sound (M:=[]) h0 ?_
    simp
    by_cases c1:k < l.length
    · have c1':(k:Int) < l.length:=by omega
      have hd:=fm_drop GRoute.co 8 (fun _ => rfl) l k c1
      have hlt:k * 8 < l.length * 8:=by omega
      refine drawP (tabEnv [] _) [⟨[],allD 54,true⟩,⟨[.arg 0 0],allD 54,true⟩,⟨[.arg 0 0],allD 54,true⟩,⟨[],allD 54,true⟩,⟨[],allD 54,true⟩,⟨[.arg 0 0],allD 54,true⟩,⟨[],allD 54,true⟩,⟨[.arg 0 0],allD 54,true⟩,⟨[.arg 0 0],allD 54,true⟩,⟨[.arg 0 0],allD 54,true⟩,⟨[.op 0 0 0],allD 54,true⟩,⟨[.op 0 0 0],allD 54,true⟩,⟨[],allD 54,false⟩,⟨[],allD 54,true⟩,⟨[],allD 54,true⟩] h0 hm (tabEnv_ok (tab_cons (ok_l1Compare l[k].Prefix r.Prefix) tab_nil)) (by kernel_rfl) (by kernel_rfl) ?_
      have hlt2:k * 8 + 2 ≤ l.length * 8:=by omega
      simp [c1,c1',hd,hcm,hlt,hlt2]
      refine brn_app (fun c2 => ?_) (fun c2 => ?_)
      · simp at c2
        simp
        subst hI
        refine Less_mk (n - 1) (by omega) ⟨k + 1,by omega,?_,?_⟩
        · intro j hj hj'
          rcases Nat.lt_or_ge j k with h' | h'
          · exact hall j h' hj'
          · have:j = k:=by omega
            subst this
            exact c2
        · rw [wrNext k (by omega)]
          rfl
      · simp at c2
        have hat:=hat c1 c2
        have hkl:k ≤ l.length:=by omega
        have htl:tl r l = if l[k].Prefix = r.Prefix then k + 1 else k:=by
          have e:fnd r.Prefix l = decide (l[k].Prefix = r.Prefix):=by
            have h1:bsI (fun x:GRoute => cmpPx x.Prefix r.Prefix) l = k:=hat
            simp only [fnd,bsF,h1,List.getElem?_eq_getElem c1]
            exact decide_eq_decide.2 (cmpPx_eq _ _)
          unfold tl
          rw [e,hat]
          simp only [decide_eq_true_eq]
        have ho:outPut r l = ((l.flatMap GRoute.co).map PT.hollow).take (k * 8) ++ (((l.flatMap GRoute.co).drop (k * 8)).take ((tl r l - k) * 8) ++ ((l.flatMap GRoute.co).map PT.hollow).drop (tl r l * 8)):=by unfold outPut; rw [hat]
        by_cases hk00:k = 0
        · subst hk00
          obtain ⟨x,l',rfl⟩:∃ x l',l = x :: l':=by
            cases l with
            | nil => simp at c1
            | cons x l' => exact ⟨x,l',rfl⟩
          simp only [List.getElem_cons_zero] at htl
          rw [hat] at hpc hpl
          rw [hpc,hpl,ho]
          clear hpc hpl hall hat hat2 hd
          have hln:l'.length + 1 ≤ 1048576:=hl
          have hG:=fm_len GRoute.co 8 (fun _ => rfl) l'
          simp only [List.flatMap_cons] at hcm ⊢
          generalize l'.flatMap GRoute.co = G at *
          have hGG:G.take (l'.length * 8) = G:=List.take_of_length_le (by omega)
          have hb1:(1 + l'.length) * 96 ≤ 140737488355328:=by omega
          have hb2:1 + l'.length ≤ 9223372036854775807:=by omega
          have hb1':(1 + (l'.length + 1)) * 96 ≤ 140737488355328:=by omega
          have hb2':1 + (l'.length + 1) ≤ 9223372036854775807:=by omega
          have w1:IntKind.i64.wrap 1 = 1:=by decide
          have hm8:∀ j:Nat,(1 + j) * 8 = j * 8 + 1 + 1 + 1 + 1 + 1 + 1 + 1 + 1:=fun j => by omega
          have h81:8 + l'.length * 8 ≤ l'.length * 8 + 1 + 1 + 1 + 1 + 1 + 1 + 1 + 1:=by omega
          have h82:(l'.length + 1) * 8 ≤ l'.length * 8 + 1 + 1 + 1 + 1 + 1 + 1 + 1 + 1:=by omega
          have h83:(1 + l'.length) * 8 ≤ l'.length * 8 + 1 + 1 + 1 + 1 + 1 + 1 + 1 + 1:=by omega
          have h84:(1 + (l'.length + 1)) * 8 ≤ l'.length * 8 + 1 + 1 + 1 + 1 + 1 + 1 + 1 + 1 + 1 + 1 + 1 + 1 + 1 + 1 + 1 + 1:=by omega
          have hr5:∀ a b c d e f g h:PT,List.take ((l'.length + 1) * 8) (a :: b :: c :: d :: e :: f :: g :: h :: G) = a :: b :: c :: d :: e :: f :: g :: h :: G:=fun a b c d e f g h => List.take_of_length_le (by simp only [List.length_cons]; omega)
          have hr6:∀ a b c d e f g h:PT,List.take ((1 + l'.length) * 8) (a :: b :: c :: d :: e :: f :: g :: h :: G) = a :: b :: c :: d :: e :: f :: g :: h :: G:=fun a b c d e f g h => List.take_of_length_le (by simp only [List.length_cons]; omega)
          have hr7:∀ a b c d e f g h a' b' c' d' e' f' g' h':PT,List.take ((1 + (l'.length + 1)) * 8) (a :: b :: c :: d :: e :: f :: g :: h :: a' :: b' :: c' :: d' :: e' :: f' :: g' :: h' :: G) = a :: b :: c :: d :: e :: f :: g :: h :: a' :: b' :: c' :: d' :: e' :: f' :: g' :: h' :: G:=fun a b c d e f g h a' b' c' d' e' f' g' h' => List.take_of_length_le (by simp only [List.length_cons]; omega)
          have hGN:l'.length = 0 → G = []:=fun h0 => List.length_eq_zero_iff.1 (by omega)
          have hbnd0:bnd none (some (some (Value.int IntKind.i64 0))) (l'.length + 1) = some (0,0):=bnd_ns (by decide) (by omega)
          simp [hbnd0]
          by_cases c3:x.Prefix = r.Prefix
          · have hq:tl r (x :: l') = 1:=by rw [htl,if_pos c3]
            rw [hq]
            have hbnd:bnd (some (some (Value.int IntKind.i64 1))) none (l'.length + 1) = some (1,l'.length + 1):=bnd_sn (by decide) (by omega)
            by_cases c4:l' = []
            · refine drawP (tabEnv [] []) [⟨[],allD 54,true⟩,⟨[.arg 0 0],allD 54,true⟩,⟨[.arg 0 0],allD 54,true⟩,⟨[],allD 54,true⟩,⟨[],allD 54,true⟩,⟨[.arg 0 0],allD 54,true⟩,⟨[],allD 54,true⟩,⟨[.arg 0 0],allD 54,true⟩,⟨[.arg 0 0],allD 54,true⟩,⟨[.arg 0 0],allD 54,true⟩,⟨[.op 0 0 0],allD 54,true⟩,⟨[.op 0 0 0],allD 54,true⟩,⟨[],allD 54,true⟩,⟨[],allD 54,true⟩] h0 hm (tabEnv_ok tab_nil) (by kernel_rfl) (by kernel_rfl) ?_
              have hG0:=hGN (by rw [c4]; rfl)
              subst hG0
              subst c4
              simp only [List.length_nil,Nat.zero_add] at hbnd
              simp [px_dec,c3,hbnd,w1]
            · have c4':¬ l'.length = 0:=fun e => c4 (List.length_eq_zero_iff.1 e)
              refine drawP (tabEnv [] []) [⟨[],allD 54,true⟩,⟨[.arg 0 0],allD 54,true⟩,⟨[.arg 0 0],allD 54,true⟩,⟨[],allD 54,true⟩,⟨[],allD 54,true⟩,⟨[.arg 0 0],allD 54,true⟩,⟨[],allD 54,true⟩,⟨[.arg 0 0],allD 54,true⟩,⟨[.arg 0 0],allD 54,true⟩,⟨[.arg 0 0],allD 54,true⟩,⟨[.op 0 0 0],allD 54,true⟩,⟨[.op 0 0 0],allD 54,true⟩,⟨[],allD 54,true⟩,⟨[],allD 54,true⟩] h0 hm (tabEnv_ok tab_nil) (by kernel_rfl) (by kernel_rfl) ?_
              simp [px_dec,c3,c4,c4',hbnd,hGG,hb1,hb2,hG,w1,h81,h83,hr6]
              omega
          · have hq:tl r (x :: l') = 0:=by rw [htl,if_neg c3]
            rw [hq]
            have hbnd:bnd (some (some (Value.int IntKind.i64 0))) none (l'.length + 1) = some (0,l'.length + 1):=bnd_sn (by decide) (by omega)
            refine drawP (tabEnv [] []) [⟨[],allD 54,true⟩,⟨[.arg 0 0],allD 54,true⟩,⟨[.arg 0 0],allD 54,true⟩,⟨[],allD 54,true⟩,⟨[],allD 54,true⟩,⟨[.arg 0 0],allD 54,true⟩,⟨[],allD 54,true⟩,⟨[.arg 0 0],allD 54,true⟩,⟨[.arg 0 0],allD 54,true⟩,⟨[.arg 0 0],allD 54,true⟩,⟨[.op 0 0 0],allD 54,true⟩,⟨[.op 0 0 0],allD 54,true⟩,⟨[],allD 54,true⟩,⟨[],allD 54,true⟩] h0 hm (tabEnv_ok tab_nil) (by kernel_rfl) (by kernel_rfl) ?_
            simp [px_dec,c3,hbnd,hGG,hb1',hb2',hG,h82,h84,hr5,hr7]
            omega
        rw [hat] at hpc hpl
        rw [hpc,hpl,ho]
        have hdh:∀ X:List PT,X.length = k * 8 → (X ++ (l.flatMap GRoute.co).drop (k * 8)).drop (k * 8) = GRoute.co l[k] ++ (l.flatMap GRoute.co).drop ((k + 1) * 8):=fun X hX => by
          rw [List.drop_append,hX,Nat.sub_self,List.drop_of_length_le (by omega),List.drop_zero,hd]
          rfl
        generalize htl':tl r l = q at *
        generalize l.flatMap GRoute.co = F at *
        have hb1:k * 8 ≤ l.length * 8:=by omega
        have hb2:k * 96 ≤ 140737488355328:=by omega
        have hb3:k ≤ 9223372036854775807:=by omega
        have hb4:(k + 1) * 96 ≤ 140737488355328:=by omega
        have hb5:k + 1 ≤ 9223372036854775807:=by omega
        have hTl:(F.take (k * 8)).length = k * 8:=by rw [List.length_take]; omega
        have hHl:((F.map PT.hollow).take (k * 8)).length = k * 8:=by rw [List.length_take,List.length_map]; omega
        by_cases hk0:k = 0
        · exact absurd hk0 hk00
        · have hdr:=hdh _ hHl
          have hll:((F.map PT.hollow).take (k * 8) ++ F.drop (k * 8)).length = l.length * 8:=by rw [List.length_append,hHl,List.length_drop]; omega
          simp [hkl,hk0,hb1,hb2,hb3,hb4,hb5,hcm,hTl]
          generalize hM:(F.map PT.hollow).take (k * 8) ++ F.drop (k * 8) = M at *
          have hMq:∀ j,k ≤ j → M.drop (j * 8) = F.drop (j * 8):=fun j hj => by
            rw [← hM,List.drop_append,hHl,List.drop_of_length_le (by rw [hHl]; omega),List.nil_append,List.drop_drop]
            congr 1
            omega
          have hqk:k ≤ q ∧ q ≤ l.length:=by rw [htl]; split <;> omega
          have hbnd:bnd (some (some (Value.int IntKind.i64 (q:Int)))) none l.length = some (q,l.length):=bnd_sn (by omega) (by omega)
          have hDq:=hMq q hqk.1
          have hFq:(F.drop (q * 8)).length = (l.length - q) * 8:=by rw [List.length_drop]; omega
          have hFq0:l.length - q = 0 → F.drop (q * 8) = []:=fun h0 => List.drop_of_length_le (by omega)
          generalize hX:F.take (k * 8) = X at *
          generalize hY:F.drop (q * 8) = Y at *
          have hYY:Y.take ((l.length - q) * 8) = Y:=List.take_of_length_le (by omega)
          have hXX:X.take (k * 8) = X:=List.take_of_length_le (by omega)
          have hql:q ≤ l.length:=hqk.2
          have he1:q * 8 + (l.length - q) * 8 ≤ l.length * 8:=by omega
          have he2:(k + 1 + (l.length - q)) * 96 ≤ 140737488355328:=by omega
          have he3:k + 1 + (l.length - q) ≤ 9223372036854775807:=by omega
          have hnn:k + 1 + (l.length - q) = k + (1 + (l.length - q)):=by omega
          have he2n:(k + (1 + (l.length - q))) * 96 ≤ 140737488355328:=by omega
          have he3n:k + (1 + (l.length - q)) ≤ 9223372036854775807:=by omega
          have w1:IntKind.i64.wrap ((k:Int) + 1) = ((k + 1:Nat):Int):=wrNext k (by omega)
          have hmn:¬ l = []:=by rintro rfl; simp at c1
          have hr1:(k + 1) * 8 ≤ k * 8 + 8:=by omega
          have hr2:∀ a b c d e f g h:PT,List.take ((k + 1) * 8) (X ++ [a,b,c,d,e,f,g,h]) = X ++ [a,b,c,d,e,f,g,h]:=fun a b c d e f g h => List.take_of_length_le (by simp only [List.length_append,List.length_cons,List.length_nil,hTl]; omega)
          have hr3:∀ a b c d e f g h:PT,List.take ((k + (1 + (l.length - q))) * 8) (X ++ (a :: b :: c :: d :: e :: f :: g :: h :: Y)) = X ++ (a :: b :: c :: d :: e :: f :: g :: h :: Y):=fun a b c d e f g h => List.take_of_length_le (by simp only [List.length_append,List.length_cons,hTl,hFq]; omega)
          have hD0:M.drop (q * 8 + (l.length - q) * 8) = []:=List.drop_of_length_le (by omega)
          have hr4:(k + (1 + (l.length - q))) * 8 ≤ k * 8 + ((l.length - q) * 8 + 1 + 1 + 1 + 1 + 1 + 1 + 1 + 1):=by omega
          by_cases c3:(l[k]'c1).Prefix = r.Prefix
          · have hq:q = k + 1:=by rw [htl,if_pos c3]
            subst hq
            have hbnd':bnd (some (some (Value.int IntKind.i64 ((k:Int) + 1)))) none l.length = some (k + 1,l.length):=hbnd
            by_cases c4:l.length - (k + 1) = 0
            · have hY0:=hFq0 c4
              subst hY0
              refine drawP (tabEnv [] []) [⟨[],allD 54,true⟩,⟨[.arg 0 0],allD 54,true⟩,⟨[.arg 0 0],allD 54,true⟩,⟨[],allD 54,true⟩,⟨[],allD 54,true⟩,⟨[.arg 0 0],allD 54,true⟩,⟨[],allD 54,true⟩,⟨[.arg 0 0],allD 54,true⟩,⟨[.arg 0 0],allD 54,true⟩,⟨[.arg 0 0],allD 54,true⟩,⟨[.op 0 0 0],allD 54,true⟩,⟨[.op 0 0 0],allD 54,true⟩,⟨[],allD 54,true⟩,⟨[],allD 54,true⟩] h0 hm (tabEnv_ok tab_nil) (by kernel_rfl) (by kernel_rfl) ?_
              simp [c1,c1',hdr,hll,hlt,hlt2,px_dec,c3,w1,hbnd',hql,hmn,c4,hD0,hTl,hXX,hr1,hr2]
              rw [← hM,List.take_of_length_le (l:=F.drop (k * 8)) (by rw [List.length_drop]; omega),List.drop_of_length_le (l:=F.map PT.hollow) (by rw [List.length_map]; omega),List.append_nil]
            · refine drawP (tabEnv [] []) [⟨[],allD 54,true⟩,⟨[.arg 0 0],allD 54,true⟩,⟨[.arg 0 0],allD 54,true⟩,⟨[],allD 54,true⟩,⟨[],allD 54,true⟩,⟨[.arg 0 0],allD 54,true⟩,⟨[],allD 54,true⟩,⟨[.arg 0 0],allD 54,true⟩,⟨[.arg 0 0],allD 54,true⟩,⟨[.arg 0 0],allD 54,true⟩,⟨[.op 0 0 0],allD 54,true⟩,⟨[.op 0 0 0],allD 54,true⟩,⟨[],allD 54,true⟩,⟨[],allD 54,true⟩] h0 hm (tabEnv_ok tab_nil) (by kernel_rfl) (by kernel_rfl) ?_
              simp [c1,c1',hdr,hll,hlt,hlt2,px_dec,c3]
              simp [hr4,w1,hbnd',hDq,hYY,hll,c1,hql,he1,he2,he3,he2n,he3n,hmn,c4,hD0,hTl,hXX,hr1,hr2,hr3,hnn,hFq]
              have e8:(k + 1) * 8 - k * 8 = 8:=by omega
              rw [← hM,List.take_append,hHl,List.take_of_length_le (l:=(F.map PT.hollow).take (k * 8)) (by rw [hHl]; omega),e8,← hY,List.map_drop,List.append_assoc]
          · have hq:q = k:=by rw [htl,if_neg c3]
            subst hq
            have c4:¬ l.length - q = 0:=by omega
            refine drawP (tabEnv [] []) [⟨[],allD 54,true⟩,⟨[.arg 0 0],allD 54,true⟩,⟨[.arg 0 0],allD 54,true⟩,⟨[],allD 54,true⟩,⟨[],allD 54,true⟩,⟨[.arg 0 0],allD 54,true⟩,⟨[],allD 54,true⟩,⟨[.arg 0 0],allD 54,true⟩,⟨[.arg 0 0],allD 54,true⟩,⟨[.arg 0 0],allD 54,true⟩,⟨[.op 0 0 0],allD 54,true⟩,⟨[.op 0 0 0],allD 54,true⟩,⟨[],allD 54,true⟩,⟨[],allD 54,true⟩] h0 hm (tabEnv_ok tab_nil) (by kernel_rfl) (by kernel_rfl) ?_
            simp [c1,c1',hdr,hll,hlt,hlt2,px_dec,c3]
            simp [hr4,hbnd,hDq,hYY,hll,c1,hql,he1,he2,he3,he2n,he3n,hmn,c4,hD0,hTl,hXX,hr1,hr2,hr3,hnn,hFq]
            rw [← hM,List.take_append,hHl,List.take_of_length_le (l:=(F.map PT.hollow).take (q * 8)) (by rw [hHl]; omega),Nat.sub_self,List.take_zero,List.append_nil,← hY,List.map_drop,List.take_append_drop]
    · have c1':¬ (k:Int) < l.length:=by omega
      refine drawP (tabEnv [] _) [⟨[],allD 54,true⟩,⟨[.arg 0 0],allD 54,true⟩,⟨[.arg 0 0],allD 54,true⟩,⟨[],allD 54,true⟩,⟨[],allD 54,true⟩,⟨[.arg 0 0],allD 54,true⟩,⟨[],allD 54,true⟩,⟨[.arg 0 0],allD 54,true⟩,⟨[.arg 0 0],allD 54,true⟩,⟨[.arg 0 0],allD 54,true⟩,⟨[.op 0 0 0],allD 54,true⟩,⟨[.op 0 0 0],allD 54,true⟩,⟨[],allD 54,false⟩,⟨[],allD 54,true⟩,⟨[],allD 54,true⟩] h0 hm (tabEnv_ok tab_nil) (by kernel_rfl) (by kernel_rfl) ?_
      have hkn:k = l.length:=by omega
      have hat:=hat2 hkn
      have hf:fnd r.Prefix l = false:=by
        have h1:bsI (fun x:GRoute => cmpPx x.Prefix r.Prefix) l = k:=hat
        simp only [fnd,bsF,h1,List.getElem?_eq_none (Nat.le_of_not_lt c1)]
      have hq:tl r l = k:=by unfold tl; rw [hf,hat]; rfl
      have ho:outPut r l = ((l.flatMap GRoute.co).map PT.hollow):=by
        unfold outPut
        rw [hq,hat,Nat.sub_self,Nat.zero_mul,List.take_zero,List.nil_append,List.take_append_drop]
      rw [hat,hq] at hpc
      rw [hat,hq] at hpl
      rw [hpc,hpl,ho]
      clear hpc hpl ho hf hq hat hat2 hall
      subst hkn
      have hDn:(l.flatMap GRoute.co).drop (l.length * 8) = []:=List.drop_of_length_le (by omega)
      have hTn:(l.flatMap GRoute.co).take (l.length * 8) = l.flatMap GRoute.co:=List.take_of_length_le (by omega)
      rw [hDn,hTn]
      have hHT:((l.flatMap GRoute.co).map PT.hollow).take (l.length * 8) = (l.flatMap GRoute.co).map PT.hollow:=List.take_of_length_le (by rw [List.length_map]; omega)
      have hbnd1:bnd none (some (some (Value.int IntKind.i64 (l.length:Int)))) l.length = some (0,l.length):=bnd_ns (by omega) (by omega)
      have hbnd2:bnd (some (some (Value.int IntKind.i64 (l.length:Int)))) none l.length = some (l.length,l.length):=bnd_sn (by omega) (by omega)
      have hb2:l.length * 96 ≤ 140737488355328:=by omega
      have hb3:l.length ≤ 9223372036854775807:=by omega
      have hb6:(l.length + 1) * 96 ≤ 140737488355328:=by omega
      have hb7:l.length + 1 ≤ 9223372036854775807:=by omega
      by_cases hk0:l = []
      · subst hk0
        simp
        refine drawP (tabEnv [] []) [⟨[],allD 54,true⟩,⟨[.arg 0 0],allD 54,true⟩,⟨[.arg 0 0],allD 54,true⟩,⟨[],allD 54,true⟩,⟨[],allD 54,true⟩,⟨[.arg 0 0],allD 54,true⟩,⟨[],allD 54,true⟩,⟨[.arg 0 0],allD 54,true⟩,⟨[.arg 0 0],allD 54,true⟩,⟨[.arg 0 0],allD 54,true⟩,⟨[.op 0 0 0],allD 54,true⟩,⟨[.op 0 0 0],allD 54,true⟩,⟨[],allD 54,true⟩,⟨[],allD 54,true⟩] h0 hm (tabEnv_ok tab_nil) (by kernel_rfl) (by kernel_rfl) ?_
        simp
      · have hk1:¬ l.length = 0:=fun e => hk0 (List.length_eq_zero_iff.1 e)
        generalize l.flatMap GRoute.co = F at *
        simp [c1,c1',hbnd1,hk0,hk1,hb2,hb3,hb6,hb7,hcm,hTn,hDn,hHT]
        refine drawP (tabEnv [] []) [⟨[],allD 54,true⟩,⟨[.arg 0 0],allD 54,true⟩,⟨[.arg 0 0],allD 54,true⟩,⟨[],allD 54,true⟩,⟨[],allD 54,true⟩,⟨[.arg 0 0],allD 54,true⟩,⟨[],allD 54,true⟩,⟨[.arg 0 0],allD 54,true⟩,⟨[.arg 0 0],allD 54,true⟩,⟨[.arg 0 0],allD 54,true⟩,⟨[.op 0 0 0],allD 54,true⟩,⟨[.op 0 0 0],allD 54,true⟩,⟨[],allD 54,true⟩,⟨[],allD 54,true⟩] h0 hm (tabEnv_ok tab_nil) (by kernel_rfl) (by kernel_rfl) ?_
        simp [c1,c1',hbnd1,hbnd2,hk0,hk1,hb2,hb3,hb6,hb7,hcm,hTn,hDn,hHT]
def outPutL (r:GRoute) (l:List GRoute):List PT:=((l.flatMap (GRoute.ci 0)).map PT.hollow).take (kAt r.Prefix l * 8) ++ (((l.flatMap (GRoute.ci 0)).drop (kAt r.Prefix l * 8)).take ((tl r l - kAt r.Prefix l) * 8) ++ ((l.flatMap (GRoute.ci 0)).map PT.hollow).drop (tl r l * 8))
def putU (r:GRoute) (l:List GRoute):List GRoute:=l.take (kAt r.Prefix l) ++ r :: l.drop (tl r l)
theorem putU_srt (r:GRoute) {l:List GRoute} (h:srt l):putU r l = putR r l:=by
  obtain ⟨h1,h2,h3,h4,h5,h6⟩:=srt_split r.Prefix l h
  unfold putU putR tl
  rw [← h1,← h2]
theorem kAt_le (p:GPrefix) (l:List GRoute):kAt p l ≤ l.length:=by
  unfold kAt bsI
  exact (List.takeWhile_sublist _).length_le
theorem putR_ci (r:GRoute) (l:List GRoute):(putU r l).flatMap (GRoute.ci 0) = (l.flatMap (GRoute.ci 0)).take (kAt r.Prefix l * 8) ++ (GRoute.ci 0 r ++ (l.flatMap (GRoute.ci 0)).drop (tl r l * 8)) ∧ (putU r l).length = kAt r.Prefix l + (1 + (l.length - tl r l)):=by
  rw [fm_take (GRoute.ci 0) 8 (fun _ => rfl),fm_dropAll (GRoute.ci 0) 8 (fun _ => rfl)]
  unfold putU
  refine ⟨by simp only [List.flatMap_append,List.flatMap_cons],?_⟩
  rw [List.length_append,List.length_cons,List.length_take,List.length_drop]
  have:=kAt_le r.Prefix l
  omega
set_option maxHeartbeats 4000000 in
theorem ok_l14PutU (l:List GRoute) (r:GRoute) (hl:l.length ≤ 1048576):CallOK Tryz.prog 56 [.c (.sl 0 56 l.length (l.flatMap (GRoute.ci 0))),.agg (GRoute.ci 0 r)] (.c (.sl 0 56 (putU r l).length ((putU r l).flatMap (GRoute.ci 0)))) [.c (.sl 0 56 l.length (outPutL r l)),.agg (GRoute.ci 0 r)]:=by
  obtain ⟨hpc,hpl⟩:=putR_ci r l
  refine okS (fn:=Tryz.f56) [] h0 Tryz.func56 (by kernel_rfl) rfl Tryz.ntmps56 Tryz.results56 (by simp) ?_
  simp
  refine loopS [0,3,5] [.arg 0 0,.op 0 0 0] (fun n st => ∃ (k:Nat),k + n = l.length ∧ (∀ (j:Nat) (hj:j < k) (hj':j < l.length),cmpPx l[j].Prefix r.Prefix < 0) ∧ st = ⟨slOf 54 [(0,.ref ⟨.arg 0 0,[]⟩ 0 l.length),(3,.ptr ⟨.op 0 0 0,[]⟩ 0),(5,.t (pi k))],ofL [(.arg 0 0,.sl 0 56 l.length (l.flatMap (GRoute.ci 0))),(.op 0 0 0,.sl 0 56 1 (GRoute.ci 0 r))]⟩) l.length ?_ ?_
  · rintro Inv hI
    simp
    subst hI
    exact ⟨0,by omega,by intro j hj; omega,rfl⟩
  · rintro Inv hI n st ⟨k,hk,hall,rfl⟩
    have hat:∀ (h:k < l.length),0 ≤ cmpPx l[k].Prefix r.Prefix → kAt r.Prefix l = k:=fun h h2 => bsI_eq _ l k (by omega) hall fun _ => h2
    have hat2:k = l.length → kAt r.Prefix l = k:=fun h => bsI_eq _ l k (by omega) hall fun h2 => by omega
    have hcm:=fm_len (GRoute.ci 0) 8 (fun _ => rfl) l
    refine ewr_sound (M:=[]) h0 ?_
    simp
    by_cases c1:k < l.length
    · have c1':(k:Int) < l.length:=by omega
      have hd:=fm_drop (GRoute.ci 0) 8 (fun _ => rfl) l k c1
      have hlt:k * 8 < l.length * 8:=by omega
      refine drawP (tabEnv [] _) [⟨[],allD 54,true⟩,⟨[.arg 0 0],allD 54,true⟩,⟨[.arg 0 0],allD 54,true⟩,⟨[],allD 54,true⟩,⟨[],allD 54,true⟩,⟨[.arg 0 0],allD 54,true⟩,⟨[],allD 54,true⟩,⟨[.arg 0 0],allD 54,true⟩,⟨[.arg 0 0],allD 54,true⟩,⟨[.arg 0 0],allD 54,true⟩,⟨[.op 0 0 0],allD 54,true⟩,⟨[.op 0 0 0],allD 54,true⟩,⟨[],allD 54,false⟩,⟨[],allD 54,true⟩,⟨[],allD 54,true⟩] h0 hm (tabEnv_ok (tab_cons (ok_l1Compare l[k].Prefix r.Prefix) tab_nil)) (by kernel_rfl) (by kernel_rfl) ?_
      have hlt2:k * 8 + 2 ≤ l.length * 8:=by omega
      simp [c1,c1',hd,hcm,hlt,hlt2]
      refine brn_app (fun c2 => ?_) (fun c2 => ?_)
      · simp at c2
        simp
        subst hI
        refine Less_mk (n - 1) (by omega) ⟨k + 1,by omega,?_,?_⟩
        · intro j hj hj'
          rcases Nat.lt_or_ge j k with h' | h'
          · exact hall j h' hj'
          · have:j = k:=by omega
            subst this
            exact c2
        · rw [wrNext k (by omega)]
          rfl
      · simp at c2
        have hat:=hat c1 c2
        have hkl:k ≤ l.length:=by omega
        have htl:tl r l = if l[k].Prefix = r.Prefix then k + 1 else k:=by
          have e:fnd r.Prefix l = decide (l[k].Prefix = r.Prefix):=by
            have h1:bsI (fun x:GRoute => cmpPx x.Prefix r.Prefix) l = k:=hat
            simp only [fnd,bsF,h1,List.getElem?_eq_getElem c1]
            exact decide_eq_decide.2 (cmpPx_eq _ _)
          unfold tl
          rw [e,hat]
          simp only [decide_eq_true_eq]
        have ho:outPutL r l = ((l.flatMap (GRoute.ci 0)).map PT.hollow).take (k * 8) ++ (((l.flatMap (GRoute.ci 0)).drop (k * 8)).take ((tl r l - k) * 8) ++ ((l.flatMap (GRoute.ci 0)).map PT.hollow).drop (tl r l * 8)):=by unfold outPutL; rw [hat]
        by_cases hk00:k = 0
        · subst hk00
          obtain ⟨x,l',rfl⟩:∃ x l',l = x :: l':=by
            cases l with
            | nil => simp at c1
            | cons x l' => exact ⟨x,l',rfl⟩
          simp only [List.getElem_cons_zero] at htl
          rw [hat] at hpc hpl
          rw [hpc,hpl,ho]
          clear hpc hpl hall hat hat2 hd
          have hln:l'.length + 1 ≤ 1048576:=hl
          have hG:=fm_len (GRoute.ci 0) 8 (fun _ => rfl) l'
          simp only [List.flatMap_cons] at hcm ⊢
          generalize l'.flatMap (GRoute.ci 0) = G at *
          have hGG:G.take (l'.length * 8) = G:=List.take_of_length_le (by omega)
          have hb1:(1 + l'.length) * 96 ≤ 140737488355328:=by omega
          have hb2:1 + l'.length ≤ 9223372036854775807:=by omega
          have hb1':(1 + (l'.length + 1)) * 96 ≤ 140737488355328:=by omega
          have hb2':1 + (l'.length + 1) ≤ 9223372036854775807:=by omega
          have w1:IntKind.i64.wrap 1 = 1:=by decide
          have hm8:∀ j:Nat,(1 + j) * 8 = j * 8 + 1 + 1 + 1 + 1 + 1 + 1 + 1 + 1:=fun j => by omega
          have h81:8 + l'.length * 8 ≤ l'.length * 8 + 1 + 1 + 1 + 1 + 1 + 1 + 1 + 1:=by omega
          have h82:(l'.length + 1) * 8 ≤ l'.length * 8 + 1 + 1 + 1 + 1 + 1 + 1 + 1 + 1:=by omega
          have h83:(1 + l'.length) * 8 ≤ l'.length * 8 + 1 + 1 + 1 + 1 + 1 + 1 + 1 + 1:=by omega
          have h84:(1 + (l'.length + 1)) * 8 ≤ l'.length * 8 + 1 + 1 + 1 + 1 + 1 + 1 + 1 + 1 + 1 + 1 + 1 + 1 + 1 + 1 + 1 + 1:=by omega
          have hr5:∀ a b c d e f g h:PT,List.take ((l'.length + 1) * 8) (a :: b :: c :: d :: e :: f :: g :: h :: G) = a :: b :: c :: d :: e :: f :: g :: h :: G:=fun a b c d e f g h => List.take_of_length_le (by simp only [List.length_cons]; omega)
          have hr6:∀ a b c d e f g h:PT,List.take ((1 + l'.length) * 8) (a :: b :: c :: d :: e :: f :: g :: h :: G) = a :: b :: c :: d :: e :: f :: g :: h :: G:=fun a b c d e f g h => List.take_of_length_le (by simp only [List.length_cons]; omega)
          have hr7:∀ a b c d e f g h a' b' c' d' e' f' g' h':PT,List.take ((1 + (l'.length + 1)) * 8) (a :: b :: c :: d :: e :: f :: g :: h :: a' :: b' :: c' :: d' :: e' :: f' :: g' :: h' :: G) = a :: b :: c :: d :: e :: f :: g :: h :: a' :: b' :: c' :: d' :: e' :: f' :: g' :: h' :: G:=fun a b c d e f g h a' b' c' d' e' f' g' h' => List.take_of_length_le (by simp only [List.length_cons]; omega)
          have hGN:l'.length = 0 → G = []:=fun h0 => List.length_eq_zero_iff.1 (by omega)
          have hbnd0:bnd none (some (some (Value.int IntKind.i64 0))) (l'.length + 1) = some (0,0):=bnd_ns (by decide) (by omega)
          simp [hbnd0]
          by_cases c3:x.Prefix = r.Prefix
          · have hq:tl r (x :: l') = 1:=by rw [htl,if_pos c3]
            rw [hq]
            have hbnd:bnd (some (some (Value.int IntKind.i64 1))) none (l'.length + 1) = some (1,l'.length + 1):=bnd_sn (by decide) (by omega)
            by_cases c4:l' = []
            · refine drawP (tabEnv [] []) [⟨[],allD 54,true⟩,⟨[.arg 0 0],allD 54,true⟩,⟨[.arg 0 0],allD 54,true⟩,⟨[],allD 54,true⟩,⟨[],allD 54,true⟩,⟨[.arg 0 0],allD 54,true⟩,⟨[],allD 54,true⟩,⟨[.arg 0 0],allD 54,true⟩,⟨[.arg 0 0],allD 54,true⟩,⟨[.arg 0 0],allD 54,true⟩,⟨[.op 0 0 0],allD 54,true⟩,⟨[.op 0 0 0],allD 54,true⟩,⟨[],allD 54,true⟩,⟨[],allD 54,true⟩] h0 hm (tabEnv_ok tab_nil) (by kernel_rfl) (by kernel_rfl) ?_
              have hG0:=hGN (by rw [c4]; rfl)
              subst hG0
              subst c4
              simp only [List.length_nil,Nat.zero_add] at hbnd
              simp [px_dec,c3,hbnd,w1]
            · have c4':¬ l'.length = 0:=fun e => c4 (List.length_eq_zero_iff.1 e)
              refine drawP (tabEnv [] []) [⟨[],allD 54,true⟩,⟨[.arg 0 0],allD 54,true⟩,⟨[.arg 0 0],allD 54,true⟩,⟨[],allD 54,true⟩,⟨[],allD 54,true⟩,⟨[.arg 0 0],allD 54,true⟩,⟨[],allD 54,true⟩,⟨[.arg 0 0],allD 54,true⟩,⟨[.arg 0 0],allD 54,true⟩,⟨[.arg 0 0],allD 54,true⟩,⟨[.op 0 0 0],allD 54,true⟩,⟨[.op 0 0 0],allD 54,true⟩,⟨[],allD 54,true⟩,⟨[],allD 54,true⟩] h0 hm (tabEnv_ok tab_nil) (by kernel_rfl) (by kernel_rfl) ?_
              simp [px_dec,c3,c4,c4',hbnd,hGG,hb1,hb2,hG,w1,h81,h83,hr6]
              omega
          · have hq:tl r (x :: l') = 0:=by rw [htl,if_neg c3]
            rw [hq]
            have hbnd:bnd (some (some (Value.int IntKind.i64 0))) none (l'.length + 1) = some (0,l'.length + 1):=bnd_sn (by decide) (by omega)
            refine drawP (tabEnv [] []) [⟨[],allD 54,true⟩,⟨[.arg 0 0],allD 54,true⟩,⟨[.arg 0 0],allD 54,true⟩,⟨[],allD 54,true⟩,⟨[],allD 54,true⟩,⟨[.arg 0 0],allD 54,true⟩,⟨[],allD 54,true⟩,⟨[.arg 0 0],allD 54,true⟩,⟨[.arg 0 0],allD 54,true⟩,⟨[.arg 0 0],allD 54,true⟩,⟨[.op 0 0 0],allD 54,true⟩,⟨[.op 0 0 0],allD 54,true⟩,⟨[],allD 54,true⟩,⟨[],allD 54,true⟩] h0 hm (tabEnv_ok tab_nil) (by kernel_rfl) (by kernel_rfl) ?_
            simp [px_dec,c3,hbnd,hGG,hb1',hb2',hG,h82,h84,hr5,hr7]
            omega
        rw [hat] at hpc hpl
        rw [hpc,hpl,ho]
        have hdh:∀ X:List PT,X.length = k * 8 → (X ++ (l.flatMap (GRoute.ci 0)).drop (k * 8)).drop (k * 8) = GRoute.ci 0 l[k] ++ (l.flatMap (GRoute.ci 0)).drop ((k + 1) * 8):=fun X hX => by
          rw [List.drop_append,hX,Nat.sub_self,List.drop_of_length_le (by omega),List.drop_zero,hd]
          rfl
        generalize htl':tl r l = q at *
        generalize l.flatMap (GRoute.ci 0) = F at *
        have hb1:k * 8 ≤ l.length * 8:=by omega
        have hb2:k * 96 ≤ 140737488355328:=by omega
        have hb3:k ≤ 9223372036854775807:=by omega
        have hb4:(k + 1) * 96 ≤ 140737488355328:=by omega
        have hb5:k + 1 ≤ 9223372036854775807:=by omega
        have hTl:(F.take (k * 8)).length = k * 8:=by rw [List.length_take]; omega
        have hHl:((F.map PT.hollow).take (k * 8)).length = k * 8:=by rw [List.length_take,List.length_map]; omega
        by_cases hk0:k = 0
        · exact absurd hk0 hk00
        · have hdr:=hdh _ hHl
          have hll:((F.map PT.hollow).take (k * 8) ++ F.drop (k * 8)).length = l.length * 8:=by rw [List.length_append,hHl,List.length_drop]; omega
          simp [hkl,hk0,hb1,hb2,hb3,hb4,hb5,hcm,hTl]
          generalize hM:(F.map PT.hollow).take (k * 8) ++ F.drop (k * 8) = M at *
          have hMq:∀ j,k ≤ j → M.drop (j * 8) = F.drop (j * 8):=fun j hj => by
            rw [← hM,List.drop_append,hHl,List.drop_of_length_le (by rw [hHl]; omega),List.nil_append,List.drop_drop]
            congr 1
            omega
          have hqk:k ≤ q ∧ q ≤ l.length:=by rw [htl]; split <;> omega
          have hbnd:bnd (some (some (Value.int IntKind.i64 (q:Int)))) none l.length = some (q,l.length):=bnd_sn (by omega) (by omega)
          have hDq:=hMq q hqk.1
          have hFq:(F.drop (q * 8)).length = (l.length - q) * 8:=by rw [List.length_drop]; omega
          have hFq0:l.length - q = 0 → F.drop (q * 8) = []:=fun h0 => List.drop_of_length_le (by omega)
          generalize hX:F.take (k * 8) = X at *
          generalize hY:F.drop (q * 8) = Y at *
          have hYY:Y.take ((l.length - q) * 8) = Y:=List.take_of_length_le (by omega)
          have hXX:X.take (k * 8) = X:=List.take_of_length_le (by omega)
          have hql:q ≤ l.length:=hqk.2
          have he1:q * 8 + (l.length - q) * 8 ≤ l.length * 8:=by omega
          have he2:(k + 1 + (l.length - q)) * 96 ≤ 140737488355328:=by omega
          have he3:k + 1 + (l.length - q) ≤ 9223372036854775807:=by omega
          have hnn:k + 1 + (l.length - q) = k + (1 + (l.length - q)):=by omega
          have he2n:(k + (1 + (l.length - q))) * 96 ≤ 140737488355328:=by omega
          have he3n:k + (1 + (l.length - q)) ≤ 9223372036854775807:=by omega
          have w1:IntKind.i64.wrap ((k:Int) + 1) = ((k + 1:Nat):Int):=wrNext k (by omega)
          have hmn:¬ l = []:=by rintro rfl; simp at c1
          have hr1:(k + 1) * 8 ≤ k * 8 + 8:=by omega
          have hr2:∀ a b c d e f g h:PT,List.take ((k + 1) * 8) (X ++ [a,b,c,d,e,f,g,h]) = X ++ [a,b,c,d,e,f,g,h]:=fun a b c d e f g h => List.take_of_length_le (by simp only [List.length_append,List.length_cons,List.length_nil,hTl]; omega)
          have hr3:∀ a b c d e f g h:PT,List.take ((k + (1 + (l.length - q))) * 8) (X ++ (a :: b :: c :: d :: e :: f :: g :: h :: Y)) = X ++ (a :: b :: c :: d :: e :: f :: g :: h :: Y):=fun a b c d e f g h => List.take_of_length_le (by simp only [List.length_append,List.length_cons,hTl,hFq]; omega)
          have hD0:M.drop (q * 8 + (l.length - q) * 8) = []:=List.drop_of_length_le (by omega)
          have hr4:(k + (1 + (l.length - q))) * 8 ≤ k * 8 + ((l.length - q) * 8 + 1 + 1 + 1 + 1 + 1 + 1 + 1 + 1):=by omega
          by_cases c3:(l[k]'c1).Prefix = r.Prefix
          · have hq:q = k + 1:=by rw [htl,if_pos c3]
            subst hq
            have hbnd':bnd (some (some (Value.int IntKind.i64 ((k:Int) + 1)))) none l.length = some (k + 1,l.length):=hbnd
            by_cases c4:l.length - (k + 1) = 0
            · have hY0:=hFq0 c4
              subst hY0
              refine drawP (tabEnv [] []) [⟨[],allD 54,true⟩,⟨[.arg 0 0],allD 54,true⟩,⟨[.arg 0 0],allD 54,true⟩,⟨[],allD 54,true⟩,⟨[],allD 54,true⟩,⟨[.arg 0 0],allD 54,true⟩,⟨[],allD 54,true⟩,⟨[.arg 0 0],allD 54,true⟩,⟨[.arg 0 0],allD 54,true⟩,⟨[.arg 0 0],allD 54,true⟩,⟨[.op 0 0 0],allD 54,true⟩,⟨[.op 0 0 0],allD 54,true⟩,⟨[],allD 54,true⟩,⟨[],allD 54,true⟩] h0 hm (tabEnv_ok tab_nil) (by kernel_rfl) (by kernel_rfl) ?_
              simp [c1,c1',hdr,hll,hlt,hlt2,px_dec,c3,w1,hbnd',hql,hmn,c4,hD0,hTl,hXX,hr1,hr2]
              rw [← hM,List.take_of_length_le (l:=F.drop (k * 8)) (by rw [List.length_drop]; omega),List.drop_of_length_le (l:=F.map PT.hollow) (by rw [List.length_map]; omega),List.append_nil]
            · refine drawP (tabEnv [] []) [⟨[],allD 54,true⟩,⟨[.arg 0 0],allD 54,true⟩,⟨[.arg 0 0],allD 54,true⟩,⟨[],allD 54,true⟩,⟨[],allD 54,true⟩,⟨[.arg 0 0],allD 54,true⟩,⟨[],allD 54,true⟩,⟨[.arg 0 0],allD 54,true⟩,⟨[.arg 0 0],allD 54,true⟩,⟨[.arg 0 0],allD 54,true⟩,⟨[.op 0 0 0],allD 54,true⟩,⟨[.op 0 0 0],allD 54,true⟩,⟨[],allD 54,true⟩,⟨[],allD 54,true⟩] h0 hm (tabEnv_ok tab_nil) (by kernel_rfl) (by kernel_rfl) ?_
              simp [c1,c1',hdr,hll,hlt,hlt2,px_dec,c3]
              simp [hr4,w1,hbnd',hDq,hYY,hll,c1,hql,he1,he2,he3,he2n,he3n,hmn,c4,hD0,hTl,hXX,hr1,hr2,hr3,hnn,hFq]
              have e8:(k + 1) * 8 - k * 8 = 8:=by omega
              rw [← hM,List.take_append,hHl,List.take_of_length_le (l:=(F.map PT.hollow).take (k * 8)) (by rw [hHl]; omega),e8,← hY,List.map_drop,List.append_assoc]
          · have hq:q = k:=by rw [htl,if_neg c3]
            subst hq
            have c4:¬ l.length - q = 0:=by omega
            refine drawP (tabEnv [] []) [⟨[],allD 54,true⟩,⟨[.arg 0 0],allD 54,true⟩,⟨[.arg 0 0],allD 54,true⟩,⟨[],allD 54,true⟩,⟨[],allD 54,true⟩,⟨[.arg 0 0],allD 54,true⟩,⟨[],allD 54,true⟩,⟨[.arg 0 0],allD 54,true⟩,⟨[.arg 0 0],allD 54,true⟩,⟨[.arg 0 0],allD 54,true⟩,⟨[.op 0 0 0],allD 54,true⟩,⟨[.op 0 0 0],allD 54,true⟩,⟨[],allD 54,true⟩,⟨[],allD 54,true⟩] h0 hm (tabEnv_ok tab_nil) (by kernel_rfl) (by kernel_rfl) ?_
            simp [c1,c1',hdr,hll,hlt,hlt2,px_dec,c3]
            simp [hr4,hbnd,hDq,hYY,hll,c1,hql,he1,he2,he3,he2n,he3n,hmn,c4,hD0,hTl,hXX,hr1,hr2,hr3,hnn,hFq]
            rw [← hM,List.take_append,hHl,List.take_of_length_le (l:=(F.map PT.hollow).take (q * 8)) (by rw [hHl]; omega),Nat.sub_self,List.take_zero,List.append_nil,← hY,List.map_drop,List.take_append_drop]
    · have c1':¬ (k:Int) < l.length:=by omega
      refine drawP (tabEnv [] _) [⟨[],allD 54,true⟩,⟨[.arg 0 0],allD 54,true⟩,⟨[.arg 0 0],allD 54,true⟩,⟨[],allD 54,true⟩,⟨[],allD 54,true⟩,⟨[.arg 0 0],allD 54,true⟩,⟨[],allD 54,true⟩,⟨[.arg 0 0],allD 54,true⟩,⟨[.arg 0 0],allD 54,true⟩,⟨[.arg 0 0],allD 54,true⟩,⟨[.op 0 0 0],allD 54,true⟩,⟨[.op 0 0 0],allD 54,true⟩,⟨[],allD 54,false⟩,⟨[],allD 54,true⟩,⟨[],allD 54,true⟩] h0 hm (tabEnv_ok tab_nil) (by kernel_rfl) (by kernel_rfl) ?_
      have hkn:k = l.length:=by omega
      have hat:=hat2 hkn
      have hf:fnd r.Prefix l = false:=by
        have h1:bsI (fun x:GRoute => cmpPx x.Prefix r.Prefix) l = k:=hat
        simp only [fnd,bsF,h1,List.getElem?_eq_none (Nat.le_of_not_lt c1)]
      have hq:tl r l = k:=by unfold tl; rw [hf,hat]; rfl
      have ho:outPutL r l = ((l.flatMap (GRoute.ci 0)).map PT.hollow):=by
        unfold outPutL
        rw [hq,hat,Nat.sub_self,Nat.zero_mul,List.take_zero,List.nil_append,List.take_append_drop]
      rw [hat,hq] at hpc
      rw [hat,hq] at hpl
      rw [hpc,hpl,ho]
      clear hpc hpl ho hf hq hat hat2 hall
      subst hkn
      have hDn:(l.flatMap (GRoute.ci 0)).drop (l.length * 8) = []:=List.drop_of_length_le (by omega)
      have hTn:(l.flatMap (GRoute.ci 0)).take (l.length * 8) = l.flatMap (GRoute.ci 0):=List.take_of_length_le (by omega)
      rw [hDn,hTn]
      have hHT:((l.flatMap (GRoute.ci 0)).map PT.hollow).take (l.length * 8) = (l.flatMap (GRoute.ci 0)).map PT.hollow:=List.take_of_length_le (by rw [List.length_map]; omega)
      have hbnd1:bnd none (some (some (Value.int IntKind.i64 (l.length:Int)))) l.length = some (0,l.length):=bnd_ns (by omega) (by omega)
      have hbnd2:bnd (some (some (Value.int IntKind.i64 (l.length:Int)))) none l.length = some (l.length,l.length):=bnd_sn (by omega) (by omega)
      have hb2:l.length * 96 ≤ 140737488355328:=by omega
      have hb3:l.length ≤ 9223372036854775807:=by omega
      have hb6:(l.length + 1) * 96 ≤ 140737488355328:=by omega
      have hb7:l.length + 1 ≤ 9223372036854775807:=by omega
      by_cases hk0:l = []
      · subst hk0
        simp
        refine drawP (tabEnv [] []) [⟨[],allD 54,true⟩,⟨[.arg 0 0],allD 54,true⟩,⟨[.arg 0 0],allD 54,true⟩,⟨[],allD 54,true⟩,⟨[],allD 54,true⟩,⟨[.arg 0 0],allD 54,true⟩,⟨[],allD 54,true⟩,⟨[.arg 0 0],allD 54,true⟩,⟨[.arg 0 0],allD 54,true⟩,⟨[.arg 0 0],allD 54,true⟩,⟨[.op 0 0 0],allD 54,true⟩,⟨[.op 0 0 0],allD 54,true⟩,⟨[],allD 54,true⟩,⟨[],allD 54,true⟩] h0 hm (tabEnv_ok tab_nil) (by kernel_rfl) (by kernel_rfl) ?_
        simp
      · have hk1:¬ l.length = 0:=fun e => hk0 (List.length_eq_zero_iff.1 e)
        generalize l.flatMap (GRoute.ci 0) = F at *
        simp [c1,c1',hbnd1,hk0,hk1,hb2,hb3,hb6,hb7,hcm,hTn,hDn,hHT]
        refine drawP (tabEnv [] []) [⟨[],allD 54,true⟩,⟨[.arg 0 0],allD 54,true⟩,⟨[.arg 0 0],allD 54,true⟩,⟨[],allD 54,true⟩,⟨[],allD 54,true⟩,⟨[.arg 0 0],allD 54,true⟩,⟨[],allD 54,true⟩,⟨[.arg 0 0],allD 54,true⟩,⟨[.arg 0 0],allD 54,true⟩,⟨[.arg 0 0],allD 54,true⟩,⟨[.op 0 0 0],allD 54,true⟩,⟨[.op 0 0 0],allD 54,true⟩,⟨[],allD 54,true⟩,⟨[],allD 54,true⟩] h0 hm (tabEnv_ok tab_nil) (by kernel_rfl) (by kernel_rfl) ?_
        simp [c1,c1',hbnd1,hbnd2,hk0,hk1,hb2,hb3,hb6,hb7,hcm,hTn,hDn,hHT]
theorem hollow_ci (l:List GRoute):(l.flatMap (GRoute.ci 0)).map PT.hollow = l.flatMap (GRoute.ci 0):=by
  induction l with
  | nil => rfl
  | cons x l ih =>
    rw [List.flatMap_cons,List.map_append,ih]
    congr 1
theorem outPutL_eq (r:GRoute) {l:List GRoute}:outPutL r l = l.flatMap (GRoute.ci 0):=by
  unfold outPutL
  rw [hollow_ci]
  have hq:kAt r.Prefix l * 8 ≤ tl r l * 8:=by
    unfold tl
    split <;> omega
  have e:tl r l * 8 = kAt r.Prefix l * 8 + (tl r l - kAt r.Prefix l) * 8:=by
    rw [Nat.sub_mul]
    omega
  rw [e,← List.drop_drop,List.take_append_drop,List.take_append_drop]
theorem ok_l14PutL (l:List GRoute) (r:GRoute) (hs:srt l) (hl:l.length ≤ 1048576):CallOK Tryz.prog 56 [.c (.sl 0 56 l.length (l.flatMap (GRoute.ci 0))),.agg (GRoute.ci 0 r)] (.c (.sl 0 56 (putR r l).length ((putR r l).flatMap (GRoute.ci 0)))) [.c (.sl 0 56 l.length (outPutL r l)),.agg (GRoute.ci 0 r)]:=by
  have:=ok_l14PutU l r hl
  rwa [putU_srt r hs] at this
theorem mem_putU {r x:GRoute} {l:List GRoute} (h:x ∈ putU r l):x = r ∨ x ∈ l:=by
  unfold putU at h
  rcases List.mem_append.1 h with h | h
  · exact .inr (List.mem_of_mem_take h)
  · rcases List.mem_cons.1 h with h | h
    · exact .inl h
    · exact .inr (List.mem_of_mem_drop h)
theorem putU_len (r:GRoute) (l:List GRoute):(putU r l).length ≤ l.length + 1:=by
  rw [(putR_ci r l).2]
  have:=kAt_le r.Prefix l
  have:kAt r.Prefix l ≤ tl r l:=by
    unfold tl
    split <;> omega
  omega
end Go.V
