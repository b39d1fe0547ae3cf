/- The road V: code reckoned over trees of values, proved sound against the model once. No conditions. -/
import Derived.Test.YtildjkidohpmbaaVf
set_option linter.all false
namespace Go.V
open Go.RowKit
set_option linter.unusedSimpArgs false
set_option linter.unusedVariables false

/-! ### a function whose two results are one row -/
def dupT (st : St) (t1 t2 : Nat) : Option PT := match st.sl[t1]?, st.sl[t2]? with
  | some (.ref pl1 o1 n1), some (.ref pl2 o2 n2) => if pl1 = pl2 ∧ pl1.path = [] ∧ pl1.id.isOp = true ∧ o1 = 0 ∧ o2 = 0 ∧ n1 = n2 then (match st.hp pl1.id with
      | some (.sl 0 e n cs) => if n = n1 then some (.sl 0 e n cs) else none
      | _ => none)
    else none
  | _, _ => none
def PostD (t1 t2 : Nat) (args : List PV) (p : PT) (outs : List PV) : Exit → St → Prop
  | .normal, st => dupT st t1 t2 = some p ∧ outVs st.hp 0 args = some outs
  | .ret, st => dupT st t1 t2 = some p ∧ outVs st.hp 0 args = some outs
  | _, _ => False
theorem PostD_normal {t1 t2 : Nat} {args outs : List PV} {p : PT} {st : St} : PostD t1 t2 args p outs .normal st = (dupT st t1 t2 = some p ∧ outVs st.hp 0 args = some outs) := rfl
theorem PostD_ret {t1 t2 : Nat} {args outs : List PV} {p : PT} {st : St} : PostD t1 t2 args p outs .ret st = (dupT st t1 t2 = some p ∧ outVs st.hp 0 args = some outs) := rfl
section
variable {sz : Nat → Nat} {I : Nat → Nat → Prop} {w : World} {L : Loc}
theorem RefT.of_svr {t : LT} {v : Value} {id : Id} {e n : Nat} {cs : List PT} (ht : L id = some t) (he : t.erase = .sl 0 e n cs) (h : SVR sz L w I v (.ref ⟨id, []⟩ 0 n)) : RefT sz t v := by
  simp only [SVR] at h
  have hl : look L ⟨id, []⟩ = some t := by simp [look, ht, LT.get]
  rcases h with ⟨b, cap0, e', n', cs', o, cap, h1, h2, h3, h4, h5, h6⟩ | ⟨e', h1, _, h3, a, ha⟩
  · rw [hl] at h1
    cases h1
    simp only [LT.erase, PT.sl.injEq, true_and] at he
    obtain ⟨rfl, rfl, _⟩ := he
    exact ⟨o, cap, h2, h3, h4, h5, h6⟩
  · rw [hl] at h1
    cases h1
    exact ⟨rfl, a, ha⟩
end
theorem okD {P : Program} {f : FuncId} {fn : Func} {c : Code} {args outs : List PV} {p : PT} {n t1 t2 : Nat} (h0 : tsz P nilE = 0) (hf : P.funcs[f]? = some fn) (hn : (fn.name == "runtime.NumGoroutine") = false) (hb : fn.body = some c)
    (hnt : fn.ntmps = n) (hrs : fn.results = #[.tmp t1, .tmp t2]) (hle : args.length ≤ n) (h : ewp P c (PostD t1 t2 args p outs) ⟨slOf n (entL 0 args), ofL (argL 0 args)⟩) : CallOK P f args (.dup p) outs := by
  subst hnt
  have h1 := ewp_entry hle h
  intro I w las he hh hnd hI
  refine CallsF.of_calls hf hn hb (calls_of_wp hf hb ?_)
  have hs := Sim.entry las hh hnd hI fn.ntmps
  rw [he] at hs
  refine wp_mono (h1 I _ _ w _ w _ hs) ?_
  rintro e a' w' ⟨st', L', g1, g2⟩
  have fin : (dupT st' t1 t2 = some p ∧ outVs st'.hp 0 args = some outs) → bodyPost P fn (CallPost P I w las (.dup p) outs) .ret a' w' := by
    rintro ⟨hd, hout⟩
    unfold dupT at hd
    split at hd
    · rename_i pl1 o1 n1 pl2 o2 n2 hs1 hs2
      split at hd
      · rename_i hc
        obtain ⟨rfl, hpath, hop, rfl, rfl, rfl⟩ := hc
        obtain ⟨id, path⟩ := pl1
        simp only at hpath hop hd
        subst hpath
        split at hd
        · rename_i e' m cs hhp
          split at hd
          · rename_i hm
            subst hm
            cases hd
            have her := g1.er id
            rw [hhp, Option.map_eq_some_iff] at her
            obtain ⟨t, ht, hte⟩ := her
            obtain ⟨vs, hrun, hvs⟩ := results_sound g1 (fn := fn) (ss := [.ref ⟨id, []⟩ 0 m, .ref ⟨id, []⟩ 0 m]) (by rw [hrs]; simp [resSVs, resSV, hs1, hs2])
            simp only [SVRL] at hvs
            obtain ⟨v1, _, rfl, r1, v2, _, rfl, r2, rfl⟩ := hvs
            have q1 := RefT.of_svr ht hte r1
            have q2 := RefT.of_svr ht hte r2
            have hIw : ∀ k b, I k b → w'.heap[b]? = w.heap[b]? := fun k b hb => g1.keeps.block b (g1.imm k b hb).1 (g1.imm k b hb).2
            rw [← he] at hout
            obtain ⟨o1, o2, o3, o4, o5⟩ := outLVs_sound g1 (las := las) (i := 0) (fun t hs ht => LT.holds_frame (fun _ _ hb => hb) hIw t ht (fun b hb => by rw [notSl_blocks (by rw [hs]; decide)] at hb; simp at hb))
              (fun k x ps hx => (Im.all (fun _ _ hb => hb) hIw).2.1 _ _ _ _ hx) hh (fun k la hk j t ht => by simp [entryL, hk, ht]) hout
            have hne : ∀ i j, id ≠ .arg i j := by
              rintro i j rfl
              simp [Id.isOp] at hop
            refine ⟨g1.nodef, _, hrun, .dup t v1 v2, outLVs L' 0 las, rfl, by simp only [LV.erase, hte], o1, o2, ?_, o3, ?_, ?_, g1.keeps⟩
            · simp only [LV.holds]
              exact ⟨g1.holds id t ht, q1, q2⟩
            · simp only [LV.blocks]
              refine List.nodup_append.2 ⟨g1.nodup id t ht, o4, fun x hx y hy hxy => ?_⟩
              subst hxy
              obtain ⟨k, j, u, _, hu, hbu⟩ := o5 x hy
              exact g1.apart _ _ _ _ (hne k j) ht hu x hx hbu
            · simp only [LV.blocks]
              intro b hb
              rcases List.mem_append.1 hb with hb | hb
              · exact g1.own _ _ ht b hb
              · obtain ⟨k, j, u, _, hu, hbu⟩ := o5 b hb
                exact g1.own _ _ hu b hbu
          · cases hd
        · cases hd
      · cases hd
    · cases hd
  cases e <;> simp only [PostD] at g2
  · exact fin g2
  · exact fin g2
def PostX (P : Program) (t1 t2 : Nat) (rs : List ResultVar) (args : List PV) (r : PV × List PV) : Exit → St → Prop := match r.1 with
  | .dup p => PostD t1 t2 args p r.2
  | _ => PostS P rs args r
theorem PostX_dup {P : Program} {t1 t2 : Nat} {rs : List ResultVar} {args outs : List PV} {p : PT} : PostX P t1 t2 rs args (.dup p, outs) = PostD t1 t2 args p outs := rfl
theorem PostX_tup {P : Program} {t1 t2 : Nat} {rs : List ResultVar} {args outs : List PV} {l : List PV} : PostX P t1 t2 rs args (.tup l, outs) = PostS P rs args (.tup l, outs) := rfl
/-- A function of two results, which may be one row. -/
theorem okX {P : Program} {f : FuncId} {fn : Func} {c : Code} {args outs : List PV} {res : PV} {n t1 t2 : Nat} (h0 : tsz P nilE = 0) (hf : P.funcs[f]? = some fn) (hn : (fn.name == "runtime.NumGoroutine") = false) (hb : fn.body = some c)
    (hnt : fn.ntmps = n) (hrs : fn.results = #[.tmp t1, .tmp t2]) (hle : args.length ≤ n) (h : ewp P c (PostX P t1 t2 [.tmp t1, .tmp t2] args (res, outs)) ⟨slOf n (entL 0 args), ofL (argL 0 args)⟩) : CallOK P f args res outs := by
  cases res with
  | dup p => exact okD h0 hf hn hb hnt hrs hle h
  | _ => exact okE h0 hf hn hb hnt hrs hle h
attribute [simp] PostD_normal PostD_ret dupT PostX_dup PostX_tup
end Go.V
