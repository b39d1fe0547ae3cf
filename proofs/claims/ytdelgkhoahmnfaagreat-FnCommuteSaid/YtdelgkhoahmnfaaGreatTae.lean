/- What functions of the seat's program do, each proved of its code, under the bounds that its theorem names. -/
import Derived.Test.YtdelgkhoahmnfaaGreatTad
set_option linter.all false
namespace Go.V
open Go.Proofs
set_option maxHeartbeats 1000000
set_option maxRecDepth 10000
set_option linter.unusedSimpArgs false
set_option linter.unusedVariables false
def ordO (a b:GOffer):Int:=if a.Peer = b.Peer then 0 else orI [cmpI b.Attrs.Pref a.Attrs.Pref,cmpI a.Attrs.Path.length b.Attrs.Path.length,cmpI a.Attrs.Origin b.Attrs.Origin,cmpI a.Attrs.Med b.Attrs.Med,cmpI a.Attrs.Next b.Attrs.Next,cmpI a.Peer b.Peer]
theorem or_cons (u v:Int) (r:List Int):orI (cmpI u v :: r) < 0 ↔ u < v ∨ (u = v ∧ orI r < 0):=by
  have e:orI (cmpI u v :: r) = if cmpI u v = 0 then orI r else cmpI u v:=rfl
  rw [e]
  unfold cmpI
  by_cases h1:u < v
  · simp [h1]
  · by_cases h2:v < u
    · simp [h1,h2]
      omega
    · have:u = v:=by omega
      subst this
      simp
theorem ord_neg {a b:GOffer} (h:a.Peer ≠ b.Peer):ordO a b < 0 ↔ b.Attrs.Pref < a.Attrs.Pref ∨ (b.Attrs.Pref = a.Attrs.Pref ∧ ((a.Attrs.Path.length:Int) < b.Attrs.Path.length ∨ ((a.Attrs.Path.length:Int) = b.Attrs.Path.length ∧ (a.Attrs.Origin < b.Attrs.Origin ∨ (a.Attrs.Origin = b.Attrs.Origin ∧ (a.Attrs.Med < b.Attrs.Med ∨ (a.Attrs.Med = b.Attrs.Med ∧ (a.Attrs.Next < b.Attrs.Next ∨ (a.Attrs.Next = b.Attrs.Next ∧ a.Peer < b.Peer))))))))):=by
  unfold ordO
  rw [if_neg h]
  simp only [or_cons]
  have:¬ orI [] < 0:=by simp [orI]
  simp only [this,and_false,or_false]
theorem ord_trans {a b c:GOffer} (h1:a.Peer ≠ b.Peer) (h2:b.Peer ≠ c.Peer) (h3:a.Peer ≠ c.Peer) (hab:ordO a b < 0) (hbc:ordO b c < 0):ordO a c < 0:=by
  rw [ord_neg h1] at hab
  rw [ord_neg h2] at hbc
  rw [ord_neg h3]
  omega
theorem ord_total {a b:GOffer} (h:a.Peer ≠ b.Peer) (hab:¬ ordO a b < 0):ordO b a < 0:=by
  rw [ord_neg h] at hab
  rw [ord_neg (Ne.symm h)]
  omega
def insRv (x:GOffer):List GOffer → List GOffer
  | [] => [x]
  | y :: r => if ordO x y < 0 then y :: insRv x r else x :: y :: r
def sortRv (l:List GOffer):List GOffer:=l.foldl (fun acc x => insRv x acc) []
def bestO (l:List GOffer):Option GOffer:=l.foldl (fun b x => match b with
  | none => some x
  | some y => if ordO x y < 0 then some x else some y) none
theorem insRv_mem {x:GOffer}:∀ {r:List GOffer} {y:GOffer},y ∈ insRv x r ↔ y = x ∨ y ∈ r
  | [],y => by simp [insRv]
  | z :: r,y => by
    unfold insRv
    split
    · simp only [List.mem_cons,insRv_mem (r:=r)]
      exact or_left_comm
    · simp only [List.mem_cons]
theorem insRv_len (x:GOffer):∀ r:List GOffer,(insRv x r).length = r.length + 1
  | [] => rfl
  | z :: r => by
    unfold insRv
    split
    · simp only [List.length_cons,insRv_len x r]
    · simp only [List.length_cons]
theorem insRv_last {x:GOffer}:∀ {r:List GOffer},(insRv x r).getLast? = if ∀ y ∈ r,ordO x y < 0 then some x else r.getLast?
  | [] => by simp [insRv]
  | z :: r => by
    unfold insRv
    by_cases h:ordO x z < 0
    · rw [if_pos h]
      have hne:insRv x r ≠ []:=fun e => by have:=insRv_len x r; rw [e] at this; simp at this
      rw [List.getLast?_cons,insRv_last (r:=r)]
      by_cases h2:∀ y ∈ r,ordO x y < 0
      · rw [if_pos h2,if_pos (by intro y hy; rcases List.mem_cons.1 hy with rfl | hy; exact h; exact h2 y hy)]
        rfl
      · rw [if_neg h2,if_neg (fun hh => h2 fun y hy => hh y (List.mem_cons_of_mem _ hy)),List.getLast?_cons]
    · rw [if_neg h,if_neg (fun hh => h (hh z List.mem_cons_self))]
      rfl
def distO (l:List GOffer):Prop:=l.Pairwise fun a b => a.Peer ≠ b.Peer
theorem best_fold:∀ (l acc:List GOffer) (m:Option GOffer),distO l → (∀ x ∈ l,∀ y ∈ acc,x.Peer ≠ y.Peer) → acc.getLast? = m → (∀ z,m = some z → z ∈ acc ∧ ∀ y ∈ acc,y = z ∨ (y.Peer ≠ z.Peer ∧ ordO z y < 0)) →
    (l.foldl (fun acc x => insRv x acc) acc).getLast? = l.foldl (fun b x => match b with
      | none => some x
      | some y => if ordO x y < 0 then some x else some y) m
  | [],acc,m,_,_,h,_ => h
  | x :: l,acc,m,hd,hx,hl,hm => by
    obtain ⟨hd1,hd2⟩:=List.pairwise_cons.1 hd
    simp only [List.foldl_cons]
    have hxa:∀ y ∈ acc,x.Peer ≠ y.Peer:=hx x List.mem_cons_self
    refine best_fold l (insRv x acc) _ hd2 ?_ ?_ ?_
    · intro y hy z hz
      rcases insRv_mem.1 hz with rfl | hz
      · exact Ne.symm (hd1 y hy)
      · exact hx y (List.mem_cons_of_mem _ hy) z hz
    · rw [insRv_last]
      cases m with
      | none =>
        have:acc = []:=by
          cases acc with
          | nil => rfl
          | cons a b => simp [List.getLast?_cons] at hl
        subst this
        simp
      | some z =>
        obtain ⟨hz,hall⟩:=hm z rfl
        simp only
        by_cases h:ordO x z < 0
        · rw [if_pos h,if_pos]
          intro y hy
          rcases hall y hy with rfl | ⟨hne,hzy⟩
          · exact h
          · exact ord_trans (hxa z hz) (Ne.symm hne) (hxa y hy) h hzy
        · rw [if_neg h,if_neg (fun hh => h (hh z hz))]
          exact hl
    · intro z hz
      cases m with
      | none =>
        have:acc = []:=by
          cases acc with
          | nil => rfl
          | cons a b => simp [List.getLast?_cons] at hl
        subst this
        simp only [Option.some.injEq] at hz
        subst hz
        refine ⟨by simp [insRv],fun y hy => .inl (by simpa [insRv] using hy)⟩
      | some w =>
        obtain ⟨hw,hall⟩:=hm w rfl
        simp only at hz
        by_cases h:ordO x w < 0
        · rw [if_pos h] at hz
          cases hz
          refine ⟨insRv_mem.2 (.inl rfl),fun y hy => ?_⟩
          rcases insRv_mem.1 hy with rfl | hy
          · exact .inl rfl
          · right
            refine ⟨Ne.symm (hxa y hy),?_⟩
            rcases hall y hy with rfl | ⟨hne,hzy⟩
            · exact h
            · exact ord_trans (hxa w hw) (Ne.symm hne) (hxa y hy) h hzy
        · rw [if_neg h] at hz
          cases hz
          refine ⟨insRv_mem.2 (.inr hw),fun y hy => ?_⟩
          rcases insRv_mem.1 hy with rfl | hy
          · exact .inr ⟨hxa _ hw,ord_total (hxa _ hw) h⟩
          · exact hall y hy
theorem best_sort {l:List GOffer} (h:distO l):(sortRv l).getLast? = bestO l:=best_fold l [] none h (by simp) rfl (by simp)
def wt_OfferS (xs:List GOffer):Nat:=wtR GOffer.wt xs
theorem len_wt_OfferS (xs:List GOffer):xs.length ≤ wt_OfferS xs:=by unfold wt_OfferS wtR; omega
theorem mem_wt_OfferS {xs:List GOffer} {x:GOffer} (h:x ∈ xs):GOffer.wt x ≤ wt_OfferS xs:=by
  have:=wt_mem GOffer.wt h
  unfold wt_OfferS wtR
  omega
def mk_OfferS (xs:List GOffer) (k:Int):List GOffer × Int:=mkR GOffer.mark xs k
theorem mk_OfferS_len (xs:List GOffer) (k:Int):(mk_OfferS xs k).1.length = xs.length:=mkR_len _ xs k
attribute [simp] mk_OfferS_len
structure GRow where
  Prefix:GPrefix
  Offers:(List GOffer)
  deriving DecidableEq
def GRow.co (x:GRow):List PT:=[pi x.Prefix.Addr,pi x.Prefix.Len,.sl 0 81 x.Offers.length (x.Offers.flatMap GOffer.co)]
def GRow.ci (k:Nat) (x:GRow):List PT:=[pi x.Prefix.Addr,pi x.Prefix.Len,rd k x.Offers.length (x.Offers.flatMap (GOffer.ci k))]
attribute [simp] GRow.co GRow.ci
theorem GRow.len_i (k:Nat) (x:GRow):(x.ci k).length = 3:=rfl
theorem GRow.un1 (x:GRow):PT.unownL x.co = x.ci 0:=by simp [rd]
theorem GRow.uni1 (k:Nat) (x:GRow):PT.unownL (x.ci k) = x.ci 0:=by simp [rd]
theorem GRow.un (xs:List GRow):PT.unownL (xs.flatMap GRow.co) = xs.flatMap (GRow.ci 0):=by
  rw [unownL_fm]
  congr 1
  funext x
  exact GRow.un1 x
theorem GRow.uni (k:Nat) (xs:List GRow):PT.unownL (xs.flatMap (GRow.ci k)) = xs.flatMap (GRow.ci 0):=by
  rw [unownL_fm]
  congr 1
  funext x
  exact GRow.uni1 k x
theorem GRow.nt (xs:List GRow):PT.noTmpL (xs.flatMap GRow.co) = true:=noTmpL_fm _ xs fun x => by simp
theorem GRow.nti (k:Nat) (xs:List GRow):PT.noTmpL (xs.flatMap (GRow.ci (k + 1))) = true:=noTmpL_fm _ xs fun x => by simp [rd]
attribute [simp] GRow.un GRow.uni GRow.nt GRow.nti
theorem GRow.lenR (xs:List GRow):(xs.flatMap GRow.co).length = xs.length * 3:=fm_len _ 3 (fun _ => rfl) xs
theorem GRow.lenRi (k:Nat) (xs:List GRow):(xs.flatMap (GRow.ci k)).length = xs.length * 3:=fm_len _ 3 (fun _ => rfl) xs
theorem GRow.tkR (xs:List GRow):(xs.flatMap GRow.co).take (xs.length * 3) = xs.flatMap GRow.co:=List.take_of_length_le (by rw [GRow.lenR]; exact Nat.le_refl _)
theorem GRow.tkRi (k:Nat) (xs:List GRow):(xs.flatMap (GRow.ci k)).take (xs.length * 3) = xs.flatMap (GRow.ci k):=List.take_of_length_le (by rw [GRow.lenRi]; exact Nat.le_refl _)
attribute [simp high] GRow.lenR GRow.tkR GRow.lenRi GRow.tkRi
def GRow.wt (x:GRow):Nat:=wt_OfferS x.Offers
def GRow.mark (x:GRow) (k:Int):GRow × Int:=(⟨⟨k,(k + 1)⟩,(mk_OfferS x.Offers ((k + 1) + 1)).1⟩,(mk_OfferS x.Offers ((k + 1) + 1)).2)
def wt_RowS (xs:List GRow):Nat:=wtR GRow.wt xs
theorem len_wt_RowS (xs:List GRow):xs.length ≤ wt_RowS xs:=by unfold wt_RowS wtR; omega
theorem mem_wt_RowS {xs:List GRow} {x:GRow} (h:x ∈ xs):GRow.wt x ≤ wt_RowS xs:=by
  have:=wt_mem GRow.wt h
  unfold wt_RowS wtR
  omega
def mk_RowS (xs:List GRow) (k:Int):List GRow × Int:=mkR GRow.mark xs k
theorem mk_RowS_len (xs:List GRow) (k:Int):(mk_RowS xs k).1.length = xs.length:=mkR_len _ xs k
attribute [simp] mk_RowS_len
structure GRib where
  Own:Int
  Rows:(List GRow)
  deriving DecidableEq
def GRib.co (x:GRib):List PT:=[pi x.Own,.sl 0 79 x.Rows.length (x.Rows.flatMap GRow.co)]
def GRib.ci (k:Nat) (x:GRib):List PT:=[pi x.Own,rd k x.Rows.length (x.Rows.flatMap (GRow.ci k))]
attribute [simp] GRib.co GRib.ci
theorem GRib.len_i (k:Nat) (x:GRib):(x.ci k).length = 2:=rfl
theorem GRib.un1 (x:GRib):PT.unownL x.co = x.ci 0:=by simp [rd]
theorem GRib.uni1 (k:Nat) (x:GRib):PT.unownL (x.ci k) = x.ci 0:=by simp [rd]
theorem GRib.un (xs:List GRib):PT.unownL (xs.flatMap GRib.co) = xs.flatMap (GRib.ci 0):=by
  rw [unownL_fm]
  congr 1
  funext x
  exact GRib.un1 x
theorem GRib.uni (k:Nat) (xs:List GRib):PT.unownL (xs.flatMap (GRib.ci k)) = xs.flatMap (GRib.ci 0):=by
  rw [unownL_fm]
  congr 1
  funext x
  exact GRib.uni1 k x
theorem GRib.nt (xs:List GRib):PT.noTmpL (xs.flatMap GRib.co) = true:=noTmpL_fm _ xs fun x => by simp
theorem GRib.nti (k:Nat) (xs:List GRib):PT.noTmpL (xs.flatMap (GRib.ci (k + 1))) = true:=noTmpL_fm _ xs fun x => by simp [rd]
attribute [simp] GRib.un GRib.uni GRib.nt GRib.nti
theorem GRib.lenR (xs:List GRib):(xs.flatMap GRib.co).length = xs.length * 2:=fm_len _ 2 (fun _ => rfl) xs
theorem GRib.lenRi (k:Nat) (xs:List GRib):(xs.flatMap (GRib.ci k)).length = xs.length * 2:=fm_len _ 2 (fun _ => rfl) xs
theorem GRib.tkR (xs:List GRib):(xs.flatMap GRib.co).take (xs.length * 2) = xs.flatMap GRib.co:=List.take_of_length_le (by rw [GRib.lenR]; exact Nat.le_refl _)
theorem GRib.tkRi (k:Nat) (xs:List GRib):(xs.flatMap (GRib.ci k)).take (xs.length * 2) = xs.flatMap (GRib.ci k):=List.take_of_length_le (by rw [GRib.lenRi]; exact Nat.le_refl _)
attribute [simp high] GRib.lenR GRib.tkR GRib.lenRi GRib.tkRi
def GRib.wt (x:GRib):Nat:=wt_RowS x.Rows
def GRib.mark (x:GRib) (k:Int):GRib × Int:=(⟨k,(mk_RowS x.Rows (k + 1)).1⟩,(mk_RowS x.Rows (k + 1)).2)
def isPeerB (n:Int):Bool:=inR n 0 5
def goodO (o:GOffer):Bool:=isPeerB o.Peer && goodA o.Attrs
def adjO (q:Option GOffer) (x:GOffer):Bool:=match q with
  | none => true
  | some q => decide (q.Peer < x.Peer)
def offersG:Option GOffer → List GOffer → Bool
  | _,[] => true
  | q,x :: xs => goodO x && adjO q x && offersG (some x) xs
def goodOs (l:List GOffer):Bool:=offersG none l
def prevO (l:List GOffer) (i:Nat):Option GOffer:=if i = 0 then none else l[i - 1]?
theorem prevO_next (l:List GOffer) (i:Nat) (h:i < l.length):prevO l (i + 1) = some l[i]:=by simp [prevO,h]
def offersOK (l:List GOffer):Prop:=l.length ≤ 140737488351232 ∧ ∀ o ∈ l,attrOK o.Attrs
def goodRow (x:GRow):Bool:=goodPx x.Prefix && (decide (x.Offers.length ≠ 0) && goodOs x.Offers)
def adjW (q:Option GRow) (x:GRow):Bool:=match q with
  | none => true
  | some q => decide (cmpPx q.Prefix x.Prefix < 0)
def rowsG:Option GRow → List GRow → Bool
  | _,[] => true
  | q,x :: xs => goodRow x && adjW q x && rowsG (some x) xs
def prevW (l:List GRow) (i:Nat):Option GRow:=if i = 0 then none else l[i - 1]?
theorem prevW_next (l:List GRow) (i:Nat) (h:i < l.length):prevW l (i + 1) = some l[i]:=by simp [prevW,h]
def goodRib (r:GRib):Bool:=isAsnB r.Own && (decide (r.Rows.length ≤ 20) && rowsG none r.Rows)
def ribOK (r:GRib):Prop:=r.Rows.length ≤ 140737488351232 ∧ ∀ x ∈ r.Rows,offersOK x.Offers
theorem offers_pw:∀ (l:List GOffer) (q:Option GOffer),offersG q l = true → (∀ z,q = some z → ∀ x ∈ l,z.Peer < x.Peer) ∧ l.Pairwise (fun a b => a.Peer < b.Peer) ∧ ∀ x ∈ l,goodO x = true
  | [],q,_ => ⟨by simp,List.Pairwise.nil,by simp⟩
  | x :: l,q,h => by
    simp only [offersG,Bool.and_eq_true] at h
    obtain ⟨⟨h1,h2⟩,h3⟩:=h
    obtain ⟨g1,g2,g3⟩:=offers_pw l (some x) h3
    refine ⟨?_,List.pairwise_cons.2 ⟨g1 x rfl,g2⟩,?_⟩
    · rintro z rfl y hy
      simp only [adjO,decide_eq_true_eq] at h2
      rcases List.mem_cons.1 hy with rfl | hy
      · exact h2
      · have:=g1 x rfl y hy
        omega
    · intro y hy
      rcases List.mem_cons.1 hy with rfl | hy
      · exact h1
      · exact g3 y hy
theorem offers_mk:∀ (l:List GOffer) (q:Option GOffer),(∀ z,q = some z → ∀ x ∈ l,z.Peer < x.Peer) → l.Pairwise (fun a b => a.Peer < b.Peer) → (∀ x ∈ l,goodO x = true) → offersG q l = true
  | [],q,_,_,_ => rfl
  | x :: l,q,h1,h2,h3 => by
    obtain ⟨p1,p2⟩:=List.pairwise_cons.1 h2
    simp only [offersG,Bool.and_eq_true]
    refine ⟨⟨h3 x List.mem_cons_self,?_⟩,offers_mk l (some x) (fun z hz y hy => by cases hz; exact p1 y hy) p2 fun y hy => h3 y (List.mem_cons_of_mem _ hy)⟩
    cases q with
    | none => rfl
    | some z => simp only [adjO,decide_eq_true_eq]; exact h1 z rfl x List.mem_cons_self
theorem goodOs_filter {l:List GOffer} (p:GOffer → Bool) (h:goodOs l = true):goodOs (l.filter p) = true:=by
  obtain ⟨_,h2,h3⟩:=offers_pw l none h
  exact offers_mk _ none (by simp) (h2.filter p) fun x hx => h3 x (List.mem_filter.1 hx).1
theorem pw_len:∀ (l:List GOffer) (m:Int),l.Pairwise (fun a b => a.Peer < b.Peer) → (∀ x ∈ l,m ≤ x.Peer ∧ x.Peer ≤ 5) → m ≤ 6 → (l.length:Int) ≤ 6 - m
  | [],m,_,_,hm => by simp; omega
  | x :: l,m,h1,h2,hm => by
    obtain ⟨p1,p2⟩:=List.pairwise_cons.1 h1
    have hx:=h2 x List.mem_cons_self
    have:=pw_len l (x.Peer + 1) p2 (fun y hy => ⟨by have:=p1 y hy; omega,(h2 y (List.mem_cons_of_mem _ hy)).2⟩) (by omega)
    simp only [List.length_cons]
    omega
theorem goodOs_len {l:List GOffer} (h:goodOs l = true):l.length ≤ 6:=by
  obtain ⟨_,h2,h3⟩:=offers_pw l none h
  have:=pw_len l 0 h2 (fun x hx => by
    have:=h3 x hx
    simp only [goodO,isPeerB,inR,Bool.and_eq_true,decide_eq_true_eq] at this
    exact this.1) (by omega)
  omega
theorem goodOs_dist {l:List GOffer} (h:goodOs l = true):distO l:=by
  obtain ⟨_,h2,_⟩:=offers_pw l none h
  exact h2.imp fun h => by omega
theorem bestO_some : ∀ (l : List GOffer) (m : Option GOffer), (m ≠ none ∨ l ≠ []) → ∃ o, l.foldl (fun b x => match b with
      | none => some x
      | some y => if ordO x y < 0 then some x else some y) m = some o ∧ (o ∈ l ∨ m = some o)
  | [],m,h => by
    cases m with
    | none => simp at h
    | some y => exact ⟨y,rfl,.inr rfl⟩
  | x :: l,m,_ => by
    simp only [List.foldl_cons]
    cases m with
    | none =>
      obtain ⟨o,h1,h2⟩:=bestO_some l (some x) (.inl (by simp))
      refine ⟨o,h1,.inl ?_⟩
      rcases h2 with h2 | h2
      · exact List.mem_cons_of_mem _ h2
      · cases h2; exact List.mem_cons_self
    | some y =>
      simp only
      by_cases hxy:ordO x y < 0
      · rw [if_pos hxy]
        obtain ⟨o,h1,h2⟩:=bestO_some l (some x) (.inl (by simp))
        refine ⟨o,h1,.inl ?_⟩
        rcases h2 with h2 | h2
        · exact List.mem_cons_of_mem _ h2
        · cases h2; exact List.mem_cons_self
      · rw [if_neg hxy]
        obtain ⟨o,h1,h2⟩:=bestO_some l (some y) (.inl (by simp))
        refine ⟨o,h1,?_⟩
        rcases h2 with h2 | h2
        · exact .inl (List.mem_cons_of_mem _ h2)
        · exact .inr h2
theorem bestO_mem {l:List GOffer} (h:l ≠ []):∃ o,bestO l = some o ∧ o ∈ l:=by
  obtain ⟨o,h1,h2⟩:=bestO_some l none (.inr h)
  exact ⟨o,h1,h2.elim id (by simp)⟩
def restO (asn:Int) (l:List GOffer):List GOffer:=l.filter fun o => !hasI o.Attrs.Path asn
/-- The peer of the best one, where all is well. -/
def bstO (l:List GOffer):Option GOffer:=if goodOs l = true then bestO l else none
def bstBy (asn:Int) (l:List GOffer):Option GOffer:=if goodOs l = true ∧ isAsnB asn = true then bestO (restO asn l) else none
def peerOf (o:Option GOffer):Int:=match o with
  | some o => o.Peer
  | none => 0
def srtW (l:List GRow):Prop:=l.Pairwise (fun a b => cmpPx a.Prefix b.Prefix < 0)
theorem rows_pw:∀ (l:List GRow) (q:Option GRow),rowsG q l = true → (∀ z,q = some z → ∀ x ∈ l,cmpPx z.Prefix x.Prefix < 0) ∧ srtW l ∧ ∀ x ∈ l,goodRow x = true
  | [],q,_ => ⟨by simp,List.Pairwise.nil,by simp⟩
  | x :: l,q,h => by
    simp only [rowsG,Bool.and_eq_true] at h
    obtain ⟨⟨h1,h2⟩,h3⟩:=h
    obtain ⟨g1,g2,g3⟩:=rows_pw l (some x) h3
    refine ⟨?_,List.pairwise_cons.2 ⟨g1 x rfl,g2⟩,?_⟩
    · rintro z rfl y hy
      simp only [adjW,decide_eq_true_eq] at h2
      rcases List.mem_cons.1 hy with rfl | hy
      · exact h2
      · exact ltP_trans h2 (g1 x rfl y hy)
    · intro y hy
      rcases List.mem_cons.1 hy with rfl | hy
      · exact h1
      · exact g3 y hy
theorem srtW_mono {l:List GRow} {p:GPrefix} (h:srtW l):∀ (i j:Nat) (hij:i < j) (hj:j < l.length),cmpPx l[j].Prefix p < 0 → cmpPx l[i].Prefix p < 0 :=
  fun i j hij hj hc => ltP_trans (List.pairwise_iff_getElem.1 h i j (by omega) hj hij) hc
theorem peer_mono {l:List GOffer} {n:Int} (h:l.Pairwise (fun a b => a.Peer < b.Peer)):∀ (i j:Nat) (hij:i < j) (hj:j < l.length),cmpI l[j].Peer n < 0 → cmpI l[i].Peer n < 0:=by
  intro i j hij hj hc
  have:=List.pairwise_iff_getElem.1 h i j (by omega) hj hij
  unfold cmpI at hc ⊢
  split at hc
  · rw [if_pos (by omega)]; decide
  · split at hc <;> omega
/-- Where an offer stands is found by its peer. -/
theorem bsI_peer {l:List GOffer} (h:l.Pairwise (fun a b => a.Peer < b.Peer)) (j:Nat) (hj:j < l.length):bsI (fun o:GOffer => cmpI o.Peer l[j].Peer) l = j:=by
  refine bsI_eq _ l j (by omega) ?_ ?_
  · intro m hm hl
    have:=List.pairwise_iff_getElem.1 h m j hl hj hm
    simp only [cmpI,if_pos this]
    decide
  · intro _
    simp [cmpI]
def rowAt (p:GPrefix) (l:List GRow):Nat:=bsI (fun x:GRow => cmpPx x.Prefix p) l
def rowIs (p:GPrefix) (l:List GRow):Bool:=bsF (fun x:GRow => cmpPx x.Prefix p) l
theorem rowIs_lt {p:GPrefix} {l:List GRow} (h:rowIs p l = true):∃ hl:rowAt p l < l.length,l[rowAt p l].Prefix = p:=by
  unfold rowIs bsF at h
  have e:bsI (fun x:GRow => cmpPx x.Prefix p) l = rowAt p l:=rfl
  rw [e] at h
  split at h
  · rename_i x hx
    obtain ⟨hl,he⟩:=List.getElem?_eq_some_iff.1 hx
    simp only [decide_eq_true_eq] at h
    exact ⟨hl,by rw [he]; exact (cmpPx_eq _ _).1 h⟩
  · cases h
/-- The best of a prefix's row. -/
def bestR (r:GRib) (p:GPrefix):Option GOffer:=if rowIs p r.Rows = true then (match r.Rows[rowAt p r.Rows]? with
  | some x => bstBy r.Own x.Offers
  | none => none) else none
def zeroO:GOffer:=⟨0,⟨0,[],0,0,0,[]⟩⟩
theorem cmpI_lt (a n:Int):cmpI a n < 0 ↔ a < n:=by
  unfold cmpI
  by_cases h:a < n
  · simp [h]
  · by_cases h2:n < a <;> simp [h,h2]
theorem cmpI_eq (a n:Int):cmpI a n = 0 ↔ a = n:=by
  unfold cmpI
  by_cases h:a < n
  · simp [h]; omega
  · by_cases h2:n < a
    · simp [h,h2]; omega
    · simp [h,h2]; omega
theorem offersG_pw:∀ (q:Option GOffer) (l:List GOffer),offersG q l = true → l.Pairwise (fun a b => a.Peer < b.Peer) ∧ ∀ x ∈ l,adjO q x = true ∧ goodO x = true
  | _,[],_ => by simp
  | q,x :: l,h => by
    simp only [offersG,Bool.and_eq_true] at h
    obtain ⟨⟨h1,h2⟩,h3⟩:=h
    obtain ⟨g1,g2⟩:=offersG_pw (some x) l h3
    refine ⟨List.pairwise_cons.2 ⟨fun y hy => by simpa [adjO] using (g2 y hy).1,g1⟩,fun y hy => ?_⟩
    rcases List.mem_cons.1 hy with rfl | hy
    · exact ⟨h2,h1⟩
    · refine ⟨?_,(g2 y hy).2⟩
      have h4:=(g2 y hy).1
      cases q with
      | none => rfl
      | some q =>
        simp only [adjO,decide_eq_true_eq] at h2 h4 ⊢
        omega
theorem pw_mono {l:List GOffer} (h:l.Pairwise (fun a b => a.Peer < b.Peer)) (n:Int) (i j:Nat) (hij:i < j) (hj:j < l.length) (hc:cmpI l[j].Peer n < 0):cmpI l[i].Peer n < 0:=by
  have:=List.pairwise_iff_getElem.1 h i j (by omega) hj hij
  rw [cmpI_lt] at hc ⊢
  omega
def ofPeer (n:Int) (l:List GOffer):List GOffer:=l.filter fun o => decide (o.Peer = n)
theorem ofPeer_none (n:Int):∀ (l:List GOffer),(∀ x ∈ l,n < x.Peer) → ofPeer n l = []
  | [],_ => rfl
  | x :: l,h => by
    have h1:=h x (by simp)
    have h2:=ofPeer_none n l fun y hy => h y (by simp [hy])
    unfold ofPeer at h2 ⊢
    rw [List.filter_cons,if_neg (by simp; omega),h2]
theorem ofPeer_bs (n:Int):∀ (l:List GOffer),l.Pairwise (fun a b => a.Peer < b.Peer) → ofPeer n l = (if bsF (fun o:GOffer => cmpI o.Peer n) l = true then (l[bsI (fun o:GOffer => cmpI o.Peer n) l]?).toList else [])
  | [],_ => by simp [ofPeer,bsF]
  | x :: l,h => by
    obtain ⟨h1,h2⟩:=List.pairwise_cons.1 h
    have ih:=ofPeer_bs n l h2
    by_cases c:x.Peer < n
    · have e1:bsI (fun o:GOffer => cmpI o.Peer n) (x :: l) = bsI (fun o:GOffer => cmpI o.Peer n) l + 1:=by
        simp [bsI,List.takeWhile_cons,(cmpI_lt x.Peer n).2 c]
      have e2:bsF (fun o:GOffer => cmpI o.Peer n) (x :: l) = bsF (fun o:GOffer => cmpI o.Peer n) l:=by simp only [bsF,e1,List.getElem?_cons_succ]
      rw [e1,e2,List.getElem?_cons_succ,← ih]
      unfold ofPeer
      rw [List.filter_cons,if_neg (by simp; omega)]
    · have c':¬ cmpI x.Peer n < 0:=fun h' => c ((cmpI_lt _ _).1 h')
      have e1:bsI (fun o:GOffer => cmpI o.Peer n) (x :: l) = 0:=by simp [bsI,List.takeWhile_cons,c']
      have e2:bsF (fun o:GOffer => cmpI o.Peer n) (x :: l) = decide (x.Peer = n):=by
        simp only [bsF,e1,List.getElem?_cons_zero]
        exact decide_eq_decide.2 (cmpI_eq _ _)
      rw [e1,e2]
      by_cases d:x.Peer = n
      · have:=ofPeer_none n l fun y hy => by have:=h1 y hy; omega
        unfold ofPeer at this ⊢
        rw [List.filter_cons,if_pos (by simpa using d),this]
        simp [d]
      · have:=ofPeer_none n (x :: l) fun y hy => by
          rcases List.mem_cons.1 hy with rfl | hy
          · omega
          · have:=h1 y hy; omega
        rw [this]
        simp [d]
theorem ofPeer_len (n:Int) (l:List GOffer) (h:l.Pairwise (fun a b => a.Peer < b.Peer)):(ofPeer n l).length ≤ 1:=by
  rw [ofPeer_bs n l h]
  split
  · cases l[bsI (fun o:GOffer => cmpI o.Peer n) l]? <;> simp
  · simp
def routeOf (x:GRow) (o:GOffer):GRoute:=⟨x.Prefix,o.Attrs⟩
def heardR (n:Int) (x:GRow):List GRoute:=(ofPeer n x.Offers).map (routeOf x)
def heardL (n:Int) (l:List GRow):List GRoute:=l.flatMap (heardR n)
theorem heardL_snoc (n:Int) (l:List GRow) (i:Nat) (h:i < l.length):heardL n (l.take (i + 1)) = heardL n (l.take i) ++ heardR n l[i]:=by
  unfold heardL
  rw [take_step l i h,List.flatMap_append]
  simp
theorem rowsG_all:∀ (q:Option GRow) (l:List GRow),rowsG q l = true → ∀ x ∈ l,goodRow x = true
  | _,[],_,_,hx => by simp at hx
  | q,y :: l,h,x,hx => by
    simp only [rowsG,Bool.and_eq_true] at h
    rcases List.mem_cons.1 hx with rfl | hx
    · exact h.1.1
    · exact rowsG_all _ l h.2 x hx
theorem goodRib_rows {r:GRib} (h:goodRib r = true):r.Rows.length ≤ 20 ∧ ∀ x ∈ r.Rows,x.Offers.Pairwise (fun a b => a.Peer < b.Peer) ∧ ∀ o ∈ x.Offers,goodO o = true:=by
  simp only [goodRib,Bool.and_eq_true,decide_eq_true_eq] at h
  refine ⟨h.2.1,fun x hx => ?_⟩
  have:=rowsG_all _ _ h.2.2 x hx
  simp only [goodRow,goodOs,Bool.and_eq_true] at this
  obtain ⟨g1,g2⟩:=offersG_pw _ _ this.2.2
  exact ⟨g1,fun o ho => (g2 o ho).2⟩
theorem goodO_len {o:GOffer} (h:goodO o = true):o.Attrs.Path.length ≤ 10 ∧ o.Attrs.Comms.length ≤ 6:=by
  simp only [goodO,goodA,goodPa,goodCm,Bool.and_eq_true,decide_eq_true_eq] at h
  omega
theorem heardL_len (n:Int):∀ (l:List GRow),(∀ x ∈ l,x.Offers.Pairwise (fun a b => a.Peer < b.Peer)) → (heardL n l).length ≤ l.length
  | [],_ => by simp [heardL]
  | x :: l,h => by
    have h1:=heardL_len n l fun y hy => h y (by simp [hy])
    have h2:=ofPeer_len n x.Offers (h x (by simp))
    simp only [heardL,List.flatMap_cons,List.length_append,heardR,List.length_map,List.length_cons] at h1 ⊢
    omega
def rHeardFrom (r:GRib) (n:Int):List GRoute × Bool:=if (goodRib r && isPeerB n) = true then (heardL n r.Rows,true) else ([],false)
def dropO (n:Int) (l:List GOffer):List GOffer:=l.filter fun o => !decide (o.Peer = n)
def offAt (n:Int) (l:List GOffer):Nat:=bsI (fun o:GOffer => cmpI o.Peer n) l
def offIs (n:Int) (l:List GOffer):Bool:=bsF (fun o:GOffer => cmpI o.Peer n) l
theorem bs_cons {α:Type} (c:α → Int) (x:α) (l:List α):(c x < 0 → bsI c (x :: l) = bsI c l + 1 ∧ bsF c (x :: l) = bsF c l) ∧ (¬ c x < 0 → bsI c (x :: l) = 0 ∧ bsF c (x :: l) = decide (c x = 0)):=by
  constructor
  · intro h
    have e:bsI c (x :: l) = bsI c l + 1:=by simp [bsI,List.takeWhile_cons,h]
    refine ⟨e,?_⟩
    unfold bsF
    rw [e]
    simp
  · intro h
    have e:bsI c (x :: l) = 0:=by simp [bsI,List.takeWhile_cons,h]
    refine ⟨e,?_⟩
    unfold bsF
    rw [e]
    simp
theorem bs_le {α:Type} (c:α → Int):∀ l:List α,bsI c l ≤ l.length
  | [] => by simp [bsI]
  | x :: l => by
    have ih:=bs_le c l
    by_cases h:c x < 0
    · rw [((bs_cons c x l).1 h).1,List.length_cons]; omega
    · rw [((bs_cons c x l).2 h).1]; exact Nat.zero_le _
theorem bsF_lt {α:Type} {c:α → Int} {l:List α} (h:bsF c l = true):∃ hl:bsI c l < l.length,c l[bsI c l] = 0:=by
  unfold bsF at h
  split at h
  · rename_i x hx
    obtain ⟨hl,he⟩:=List.getElem?_eq_some_iff.1 hx
    exact ⟨hl,by rw [he]; simpa using h⟩
  · cases h
theorem drop_split (n:Int):∀ l:List GOffer,l.Pairwise (fun a b => a.Peer < b.Peer) → (offIs n l = true → dropO n l = l.take (offAt n l) ++ l.drop (offAt n l + 1)) ∧ (offIs n l = false → dropO n l = l)
  | [],_ => by simp [offIs,bsF,dropO]
  | x :: l,h => by
    have h':=List.pairwise_cons.1 h
    obtain ⟨g1,g2⟩:=drop_split n l h'.2
    have hb:=bs_cons (fun o:GOffer => cmpI o.Peer n) x l
    have hkeep:(∀ y ∈ l,n < y.Peer) → dropO n l = l:=fun hl => List.filter_eq_self.2 fun y hy => by
      have:=hl y hy
      simp
      omega
    by_cases hc:cmpI x.Peer n < 0
    · have e1:=(hb.1 hc).1
      have e2:=(hb.1 hc).2
      have hx:¬ x.Peer = n:=by rw [cmpI_lt] at hc; omega
      have e3:dropO n (x :: l) = x :: dropO n l:=by simp [dropO,hx]
      unfold offIs offAt at *
      rw [e1,e2,e3]
      refine ⟨fun hf => ?_,fun hf => ?_⟩
      · rw [g1 hf,List.take_succ_cons,List.drop_succ_cons]
        rfl
      · rw [g2 hf]
    · have e1:=(hb.2 hc).1
      have e2:=(hb.2 hc).2
      unfold offIs offAt
      rw [e1,e2]
      rw [cmpI_lt] at hc
      refine ⟨fun hf => ?_,fun hf => ?_⟩
      · have hx:x.Peer = n:=(cmpI_eq _ _).1 (by simpa using hf)
        have e3:dropO n (x :: l) = dropO n l:=by simp [dropO,hx]
        rw [e3,hkeep fun y hy => by rw [← hx]; exact h'.1 y hy]
        rfl
      · have hx:¬ x.Peer = n:=fun e => by
          rw [← cmpI_eq] at e
          simp [e] at hf
        have e3:dropO n (x :: l) = x :: dropO n l:=by simp [dropO,hx]
        rw [e3,hkeep fun y hy => by have:=h'.1 y hy; omega]
/-- A peer's offer for a prefix is taken away. -/
def dropW (p:GPrefix) (n:Int) (l:List GRow):List GRow:=if rowIs p l = true then (match l[rowAt p l]? with
  | some x => if (dropO n x.Offers).length = 0 then l.take (rowAt p l) ++ l.drop (rowAt p l + 1) else l.set (rowAt p l) ⟨x.Prefix,dropO n x.Offers⟩
  | none => l) else l
def putO (o:GOffer) (l:List GOffer):List GOffer:=l.take (offAt o.Peer l) ++ o :: l.drop (if offIs o.Peer l = true then offAt o.Peer l + 1 else offAt o.Peer l)
/-- A peer's offer for a prefix is set. -/
def putW (p:GPrefix) (o:GOffer) (l:List GRow):List GRow:=if rowIs p l = true then (match l[rowAt p l]? with
  | some x => l.set (rowAt p l) ⟨x.Prefix,putO o x.Offers⟩
  | none => l) else l.take (rowAt p l) ++ ⟨p,[o]⟩ :: l.drop (rowAt p l)
def gW (l:List GRow):Prop:=srtW l ∧ ∀ x ∈ l,goodRow x = true
theorem goodRib_gW {r:GRib} (h:goodRib r = true):gW r.Rows ∧ r.Rows.length ≤ 20 ∧ isAsnB r.Own = true:=by
  simp only [goodRib,Bool.and_eq_true,decide_eq_true_eq] at h
  obtain ⟨_,h2,h3⟩:=rows_pw r.Rows none h.2.2
  exact ⟨⟨h2,h3⟩,h.2.1,h.1⟩
theorem srtW_map (l:List GRow):srtW l ↔ srtP (l.map GRow.Prefix):=by
  unfold srtW srtP
  rw [List.pairwise_map]
theorem srtW_set {l:List GRow} (h:srtW l) (k:Nat) (hk:k < l.length) (x:GRow) (hx:x.Prefix = l[k].Prefix):srtW (l.set k x):=by
  rw [srtW_map] at h ⊢
  have e:(l.set k x).map GRow.Prefix = l.map GRow.Prefix:=by
    rw [List.map_set,hx]
    have:(l[k]).Prefix = (l.map GRow.Prefix)[k]'(by simpa using hk):=by simp
    rw [this,List.set_getElem_self]
  rw [e]
  exact h
theorem goodRow_spec {x:GRow}:goodRow x = true ↔ goodPx x.Prefix = true ∧ x.Offers ≠ [] ∧ goodOs x.Offers = true:=by
  simp [goodRow]
theorem goodOs_pw {l:List GOffer} (h:goodOs l = true):l.Pairwise (fun a b => a.Peer < b.Peer) ∧ ∀ x ∈ l,goodO x = true:=(offers_pw l none h).2
theorem goodOs_of {l:List GOffer} (h1:l.Pairwise (fun a b => a.Peer < b.Peer)) (h2:∀ x ∈ l,goodO x = true):goodOs l = true:=offers_mk l none (by simp) h1 h2
theorem goodOs_drop {l:List GOffer} (n:Int) (h:goodOs l = true):goodOs (dropO n l) = true:=goodOs_filter _ h
theorem gW_erase {l:List GRow} (h:gW l) (k:Nat):gW (l.take k ++ l.drop (k + 1)):=by
  have hs:(l.take k ++ l.drop (k + 1)).Sublist l:=by
    have h1:(l.drop (k + 1)).Sublist (l.drop k):=by
      rw [← List.drop_drop]
      exact List.drop_sublist _ _
    have h2:=List.Sublist.append_left h1 (l.take k)
    rwa [List.take_append_drop] at h2
  exact ⟨h.1.sublist hs,fun x hx => h.2 x (hs.subset hx)⟩
theorem gW_drop {l:List GRow} (p:GPrefix) (n:Int) (h:gW l):gW (dropW p n l) ∧ (dropW p n l).length ≤ l.length:=by
  unfold dropW
  split
  · split
    · rename_i x hx
      obtain ⟨hk,he⟩:=List.getElem?_eq_some_iff.1 hx
      split
      · refine ⟨gW_erase h _,?_⟩
        rw [List.length_append,List.length_take,List.length_drop]
        omega
      · rename_i hd
        refine ⟨⟨srtW_set h.1 _ hk _ (by rw [he]),fun y hy => ?_⟩,by rw [List.length_set]; exact Nat.le_refl _⟩
        rcases List.mem_or_eq_of_mem_set hy with hy | rfl
        · exact h.2 y hy
        · have hg:=goodRow_spec.1 (h.2 x (List.mem_of_getElem? hx))
          refine goodRow_spec.2 ⟨hg.1,fun e => hd ?_,goodOs_drop n hg.2.2⟩
          simp only at e
          rw [e]
          rfl
    · exact ⟨h,Nat.le_refl _⟩
  · exact ⟨h,Nat.le_refl _⟩
theorem put_split (n:Int):∀ l:List GOffer,l.Pairwise (fun a b => a.Peer < b.Peer) → (∀ x ∈ l.take (offAt n l),x.Peer < n) ∧ (∀ x ∈ l.drop (if offIs n l = true then offAt n l + 1 else offAt n l),n < x.Peer)
  | [],_ => by simp
  | x :: l,h => by
    have h':=List.pairwise_cons.1 h
    obtain ⟨g1,g2⟩:=put_split n l h'.2
    have hb:=bs_cons (fun o:GOffer => cmpI o.Peer n) x l
    unfold offIs offAt at *
    by_cases hc:cmpI x.Peer n < 0
    · rw [(hb.1 hc).1,(hb.1 hc).2]
      rw [cmpI_lt] at hc
      refine ⟨fun y hy => ?_,fun y hy => g2 y ?_⟩
      · rw [List.take_succ_cons] at hy
        rcases List.mem_cons.1 hy with rfl | hy
        · exact hc
        · exact g1 y hy
      · split at hy <;> rename_i hf
        · rw [if_pos hf]; rwa [List.drop_succ_cons] at hy
        · rw [if_neg hf]; rwa [List.drop_succ_cons] at hy
    · rw [(hb.2 hc).1,(hb.2 hc).2]
      rw [cmpI_lt] at hc
      refine ⟨by simp,fun y hy => ?_⟩
      split at hy <;> rename_i hf
      · have hx:x.Peer = n:=(cmpI_eq _ _).1 (by simpa using hf)
        rw [Nat.zero_add,List.drop_succ_cons,List.drop_zero] at hy
        rw [← hx]; exact h'.1 y hy
      · have hx:¬ x.Peer = n:=fun e => hf (by rw [← cmpI_eq] at e; simp [e])
        rw [List.drop_zero] at hy
        rcases List.mem_cons.1 hy with rfl | hy
        · omega
        · have:=h'.1 y hy
          omega
theorem goodOs_put {l:List GOffer} {o:GOffer} (h:goodOs l = true) (ho:goodO o = true):goodOs (putO o l) = true:=by
  obtain ⟨h1,h2⟩:=goodOs_pw h
  obtain ⟨g1,g2⟩:=put_split o.Peer l h1
  unfold putO
  refine goodOs_of ?_ fun x hx => ?_
  · refine List.pairwise_append.2 ⟨h1.sublist (List.take_sublist _ _),List.pairwise_cons.2 ⟨g2,h1.sublist (List.drop_sublist _ _)⟩,fun a ha b hb => ?_⟩
    rcases List.mem_cons.1 hb with rfl | hb
    · exact g1 a ha
    · have:=g1 a ha
      have:=g2 b hb
      omega
  · rcases List.mem_append.1 hx with hx | hx
    · exact h2 x (List.mem_of_mem_take hx)
    · rcases List.mem_cons.1 hx with rfl | hx
      · exact ho
      · exact h2 x (List.mem_of_mem_drop hx)
theorem row_split (p:GPrefix):∀ l:List GRow,srtW l → rowIs p l = false → (∀ x ∈ l.take (rowAt p l),cmpPx x.Prefix p < 0) ∧ (∀ x ∈ l.drop (rowAt p l),cmpPx p x.Prefix < 0)
  | [],_,_ => by simp
  | x :: l,h,hf => by
    have h':=List.pairwise_cons.1 h
    have hb:=bs_cons (fun x:GRow => cmpPx x.Prefix p) x l
    unfold rowIs at hf
    by_cases hc:cmpPx x.Prefix p < 0
    · rw [(hb.1 hc).2] at hf
      obtain ⟨g1,g2⟩:=row_split p l h'.2 hf
      unfold rowAt at *
      rw [(hb.1 hc).1]
      refine ⟨fun y hy => ?_,fun y hy => g2 y (by rwa [List.drop_succ_cons] at hy)⟩
      rw [List.take_succ_cons] at hy
      rcases List.mem_cons.1 hy with rfl | hy
      · exact hc
      · exact g1 y hy
    · rw [(hb.2 hc).2] at hf
      unfold rowAt
      rw [(hb.2 hc).1]
      have hx:cmpPx p x.Prefix < 0:=cmpPx_ngt hc fun e => by
        rw [← cmpPx_eq] at e
        simp [e] at hf
      refine ⟨by simp,fun y hy => ?_⟩
      rw [List.drop_zero] at hy
      rcases List.mem_cons.1 hy with rfl | hy
      · exact hx
      · exact ltP_trans hx (h'.1 y hy)
theorem putO_nil (o:GOffer):putO o [] = [o]:=by simp [putO,offAt,offIs,bsI,bsF]
theorem gW_put {l:List GRow} {p:GPrefix} {o:GOffer} (h:gW l) (hp:goodPx p = true) (ho:goodO o = true):gW (putW p o l) ∧ (putW p o l).length ≤ l.length + 1:=by
  unfold putW
  split
  · split
    · rename_i x hx
      obtain ⟨hk,he⟩:=List.getElem?_eq_some_iff.1 hx
      refine ⟨⟨srtW_set h.1 _ hk _ (by rw [he]),fun y hy => ?_⟩,by rw [List.length_set]; omega⟩
      rcases List.mem_or_eq_of_mem_set hy with hy | rfl
      · exact h.2 y hy
      · have hg:=goodRow_spec.1 (h.2 x (List.mem_of_getElem? hx))
        refine goodRow_spec.2 ⟨hg.1,?_,goodOs_put hg.2.2 ho⟩
        simp [putO]
    · exact ⟨h,by omega⟩
  · rename_i hf
    obtain ⟨g1,g2⟩:=row_split p l h.1 (by simpa using hf)
    refine ⟨⟨?_,fun y hy => ?_⟩,?_⟩
    · refine List.pairwise_append.2 ⟨h.1.sublist (List.take_sublist _ _),List.pairwise_cons.2 ⟨g2,h.1.sublist (List.drop_sublist _ _)⟩,fun a ha b hb => ?_⟩
      rcases List.mem_cons.1 hb with rfl | hb
      · exact g1 a ha
      · exact ltP_trans (g1 a ha) (g2 b hb)
    · rcases List.mem_append.1 hy with hy | hy
      · exact h.2 y (List.mem_of_mem_take hy)
      · rcases List.mem_cons.1 hy with rfl | hy
        · refine goodRow_spec.2 ⟨hp,by simp,goodOs_of (by simp) (by simpa using ho)⟩
        · exact h.2 y (List.mem_of_mem_drop hy)
    · rw [List.length_append,List.length_cons,List.length_take,List.length_drop]
      omega
def prefsOf (r:GRib):List GPrefix:=r.Rows.map GRow.Prefix
/-- The prefixes whose best ones are unlike. -/
def changedG (a b:GRib):List GPrefix:=(putAll [] (prefsOf a ++ prefsOf b)).filter fun p => !decide (bestR a p = bestR b p)
def dropsW (n:Int) (ps:List GPrefix) (l:List GRow):List GRow:=ps.foldl (fun l p => dropW p n l) l
def putsW (o:GOffer) (ps:List GPrefix) (l:List GRow):List GRow:=ps.foldl (fun l p => putW p o l) l
theorem dropsW_snoc (n:Int) (ps:List GPrefix) (p:GPrefix) (l:List GRow):dropsW n (ps ++ [p]) l = dropW p n (dropsW n ps l):=by simp [dropsW,List.foldl_append]
theorem putsW_snoc (o:GOffer) (ps:List GPrefix) (p:GPrefix) (l:List GRow):putsW o (ps ++ [p]) l = putW p o (putsW o ps l):=by simp [putsW,List.foldl_append]
theorem gW_drops (n:Int):∀ (ps:List GPrefix) (l:List GRow),gW l → gW (dropsW n ps l) ∧ (dropsW n ps l).length ≤ l.length
  | [],l,h => ⟨h,Nat.le_refl _⟩
  | p :: ps,l,h => by
    obtain ⟨h1,h2⟩:=gW_drop p n h
    obtain ⟨h3,h4⟩:=gW_drops n ps (dropW p n l) h1
    exact ⟨h3,Nat.le_trans h4 h2⟩
theorem gW_puts {o:GOffer} (ho:goodO o = true):∀ (ps:List GPrefix) (l:List GRow),(∀ p ∈ ps,goodPx p = true) → gW l → gW (putsW o ps l) ∧ (putsW o ps l).length ≤ l.length + ps.length
  | [],l,_,h => ⟨h,Nat.le_refl _⟩
  | p :: ps,l,hp,h => by
    obtain ⟨h1,h2⟩:=gW_put h (hp p (by simp)) ho
    obtain ⟨h3,h4⟩:=gW_puts ho ps (putW p o l) (fun q hq => hp q (List.mem_cons_of_mem _ hq)) h1
    refine ⟨h3,Nat.le_trans h4 ?_⟩
    rw [List.length_cons]
    omega
def takeW (r:GRib) (n:Int) (u:GUpdate):GRib:=⟨r.Own,putsW ⟨n,u.Attrs⟩ u.Come (dropsW n u.Gone r.Rows)⟩
/-- What TakeUpdate answers. -/
def rTakeUpdate (r:GRib) (n:Int) (u:GUpdate):GRib × List GPrefix × Bool:=if goodRib r = true ∧ isPeerB n = true ∧ goodU u = true ∧ goodRib (takeW r n u) = true then (takeW r n u,changedG r (takeW r n u),true) else (⟨0,[]⟩,[],false)
end Go.V
