/-
  No cell of these rows narrows 'for every input' (looked for: loops, veiled, ifaces, maps, wideKeys, modest, calm, conditions, laid).
  DERIVED. THE GIVEN ROWS OF THIS SEAT. 6 by the template 'for every input the law returns true; each argument reads behind the call as it read before'; 0 by the template 'total and deterministic' (their statements: YtdelgkhoahmnfaaGreatTotals.lean).
  GIVEN WITH THE SEED: the statements are not yours to turn. If you find one false, say at which input.
  Laid BY PROGRAM, IN A SANDBOX (cutbox-rows.mjs): the forced cells as the released guide's own fill.sh prints them over the translation ef07258f7e9da67d… (all of the seat's roots in one cut). By AI agents, Wed Nov 11 2026. No macro, syntax, notation, axiom, sorry.
-/
import Derived.Test.YtdelgkhoahmnfaaGreatChecked
import GoSem.Claim
import GoSem.ClaimJoined
import GoSem.ClaimMapViews
import Derived.JoinedTies
import Derived.KernelRfl
namespace Go.Proofs.YtdelgkhoahmnfaaGreat
/- THE CELL 'sum', in the pinned program and in every row, IS THE sha256 OF THE DUMP (.gsa) THAT YtdelgkhoahmnfaaGreatProg.lean LOADS. Nothing in Lean hashes anything: it is a label: what it is worth is what the hold of that sum in a sandbox is worth. -/
noncomputable def Tryz.pinned : Pinned := { name := "ytdelgkhoahmnfaagreat", sum := "ef07258f7e9da67d45b0657355ef860e31a66b94412468e8d715cc0865b29e77", checked := Tryz.checked }
namespace Rows
def none {H : Type} : Left H := { results := [], args := [] }

/-- 'laws.FnExactBestRows': WHATEVER THE INPUT: true; the input reads as it did. -/
def fnExactBestRowsSpec : ChangeSpec := { name := "fnExactBestRows", fn := fun _ => fun
  | [d] => { results := [.lit (.bool true)], args := [d] }
  | _ => none }
def fnExactBestRowsRow : OpenClaim := { program := "ytdelgkhoahmnfaagreat", sum := "ef07258f7e9da67d45b0657355ef860e31a66b94412468e8d715cc0865b29e77", func := "loop.example/g00344/laws.FnExactBestRows", spec := "fnExactBestRows", unfollowed := true, recurses := true, apart := false }
def FnExactBestRowsSaid : Prop := fnExactBestRowsRow.holds Tryz.pinned (OpenSpec.ofChange fnExactBestRowsSpec)

/-- ITS FALSE NEIGHBOUR: 'it returns false'. Refute it at one input. -/
def fnExactBestRowsWrong : ChangeSpec := { name := "fnExactBestRows", fn := fun _ => fun
  | [d] => { results := [.lit (.bool false)], args := [d] }
  | _ => none }
def FnExactBestRowsWrongFalsely : Prop := fnExactBestRowsRow.holds Tryz.pinned (OpenSpec.ofChange fnExactBestRowsWrong)

/-- 'laws.FnExactDropPeer': WHATEVER THE INPUT: true; the input reads as it did. -/
def fnExactDropPeerSpec : ChangeSpec := { name := "fnExactDropPeer", fn := fun _ => fun
  | [d1, d2] => { results := [.lit (.bool true)], args := [d1, d2] }
  | _ => none }
def fnExactDropPeerRow : OpenClaim := { program := "ytdelgkhoahmnfaagreat", sum := "ef07258f7e9da67d45b0657355ef860e31a66b94412468e8d715cc0865b29e77", func := "loop.example/g00344/laws.FnExactDropPeer", spec := "fnExactDropPeer", unfollowed := true, recurses := true, apart := false }
def FnExactDropPeerSaid : Prop := fnExactDropPeerRow.holds Tryz.pinned (OpenSpec.ofChange fnExactDropPeerSpec)

/-- ITS FALSE NEIGHBOUR: 'it returns false'. Refute it at one input. -/
def fnExactDropPeerWrong : ChangeSpec := { name := "fnExactDropPeer", fn := fun _ => fun
  | [d1, d2] => { results := [.lit (.bool false)], args := [d1, d2] }
  | _ => none }
def FnExactDropPeerWrongFalsely : Prop := fnExactDropPeerRow.holds Tryz.pinned (OpenSpec.ofChange fnExactDropPeerWrong)

/-- 'laws.FnExactTakeUpdate': WHATEVER THE INPUT: true; the input reads as it did. -/
def fnExactTakeUpdateSpec : ChangeSpec := { name := "fnExactTakeUpdate", fn := fun _ => fun
  | [d1, d2, d3] => { results := [.lit (.bool true)], args := [d1, d2, d3] }
  | _ => none }
def fnExactTakeUpdateRow : OpenClaim := { program := "ytdelgkhoahmnfaagreat", sum := "ef07258f7e9da67d45b0657355ef860e31a66b94412468e8d715cc0865b29e77", func := "loop.example/g00344/laws.FnExactTakeUpdate", spec := "fnExactTakeUpdate", inPlace := ["slices.overlaps[loop.example/g00344/impl.Row]", "slices.overlaps[loop.example/g00344/impl.Offer]"], unfollowed := true, recurses := true, apart := false }
def FnExactTakeUpdateSaid : Prop := fnExactTakeUpdateRow.holds Tryz.pinned (OpenSpec.ofChange fnExactTakeUpdateSpec)

/-- ITS FALSE NEIGHBOUR: 'it returns false'. Refute it at one input. -/
def fnExactTakeUpdateWrong : ChangeSpec := { name := "fnExactTakeUpdate", fn := fun _ => fun
  | [d1, d2, d3] => { results := [.lit (.bool false)], args := [d1, d2, d3] }
  | _ => none }
def FnExactTakeUpdateWrongFalsely : Prop := fnExactTakeUpdateRow.holds Tryz.pinned (OpenSpec.ofChange fnExactTakeUpdateWrong)

/-- 'laws.FnExactTakeAll': WHATEVER THE INPUT: true; the input reads as it did. -/
def fnExactTakeAllSpec : ChangeSpec := { name := "fnExactTakeAll", fn := fun _ => fun
  | [d1, d2, d3] => { results := [.lit (.bool true)], args := [d1, d2, d3] }
  | _ => none }
def fnExactTakeAllRow : OpenClaim := { program := "ytdelgkhoahmnfaagreat", sum := "ef07258f7e9da67d45b0657355ef860e31a66b94412468e8d715cc0865b29e77", func := "loop.example/g00344/laws.FnExactTakeAll", spec := "fnExactTakeAll", inPlace := ["slices.overlaps[loop.example/g00344/impl.Row]", "slices.overlaps[loop.example/g00344/impl.Offer]"], unfollowed := true, recurses := true, apart := false }
def FnExactTakeAllSaid : Prop := fnExactTakeAllRow.holds Tryz.pinned (OpenSpec.ofChange fnExactTakeAllSpec)

/-- ITS FALSE NEIGHBOUR: 'it returns false'. Refute it at one input. -/
def fnExactTakeAllWrong : ChangeSpec := { name := "fnExactTakeAll", fn := fun _ => fun
  | [d1, d2, d3] => { results := [.lit (.bool false)], args := [d1, d2, d3] }
  | _ => none }
def FnExactTakeAllWrongFalsely : Prop := fnExactTakeAllRow.holds Tryz.pinned (OpenSpec.ofChange fnExactTakeAllWrong)

/-- 'laws.FnRib': WHATEVER THE INPUT: true; the input reads as it did. -/
def fnRibSpec : ChangeSpec := { name := "fnRib", fn := fun _ => fun
  | [d1, d2] => { results := [.lit (.bool true)], args := [d1, d2] }
  | _ => none }
def fnRibRow : OpenClaim := { program := "ytdelgkhoahmnfaagreat", sum := "ef07258f7e9da67d45b0657355ef860e31a66b94412468e8d715cc0865b29e77", func := "loop.example/g00344/laws.FnRib", spec := "fnRib", inPlace := ["slices.overlaps[loop.example/g00344/impl.Row]", "slices.overlaps[loop.example/g00344/impl.Offer]"], unfollowed := true, recurses := true, apart := false }
def FnRibSaid : Prop := fnRibRow.holds Tryz.pinned (OpenSpec.ofChange fnRibSpec)

/-- ITS FALSE NEIGHBOUR: 'it returns false'. Refute it at one input. -/
def fnRibWrong : ChangeSpec := { name := "fnRib", fn := fun _ => fun
  | [d1, d2] => { results := [.lit (.bool false)], args := [d1, d2] }
  | _ => none }
def FnRibWrongFalsely : Prop := fnRibRow.holds Tryz.pinned (OpenSpec.ofChange fnRibWrong)

/-- 'laws.FnCommute': WHATEVER THE INPUT: true; the input reads as it did. -/
def fnCommuteSpec : ChangeSpec := { name := "fnCommute", fn := fun _ => fun
  | [d1, d2] => { results := [.lit (.bool true)], args := [d1, d2] }
  | _ => none }
def fnCommuteRow : OpenClaim := { program := "ytdelgkhoahmnfaagreat", sum := "ef07258f7e9da67d45b0657355ef860e31a66b94412468e8d715cc0865b29e77", func := "loop.example/g00344/laws.FnCommute", spec := "fnCommute", inPlace := ["slices.overlaps[loop.example/g00344/impl.Row]", "slices.overlaps[loop.example/g00344/impl.Offer]"], unfollowed := true, recurses := true, apart := false }
def FnCommuteSaid : Prop := fnCommuteRow.holds Tryz.pinned (OpenSpec.ofChange fnCommuteSpec)

/-- ITS FALSE NEIGHBOUR: 'it returns false'. Refute it at one input. -/
def fnCommuteWrong : ChangeSpec := { name := "fnCommute", fn := fun _ => fun
  | [d1, d2] => { results := [.lit (.bool false)], args := [d1, d2] }
  | _ => none }
def FnCommuteWrongFalsely : Prop := fnCommuteRow.holds Tryz.pinned (OpenSpec.ofChange fnCommuteWrong)

/- THE SECOND FORM. 'bulk': how many values and letters a reading holds, each counted each time it is reached (what is shared counts as often as it is met; a slice's spare places count too). A statement '..UptoSaid' is the law's where the arguments, and the package variables that the reading takes, are together of bulk at most 1048576: NARROWER than '..Said'. Prove '..Said' where nothing that the law and all that it calls make is longer than what came in: it says more and counts as full. Else prove '..UptoSaid'. A law counts once. -/
mutual
def uptoBulk {H : Type} : DataW H → Nat
  | .lit (.string bytes) => bytes.length + 1
  | .lit _ => 1
  | .nil => 1
  | .ptr d => uptoBulk d + 1
  | .slice elems spare => uptoBulkAll elems + uptoBulkAll spare + 1
  | .agg parts => uptoBulkAll parts + 1
  | .iface _ d => uptoBulk d + 1
  | .map entries => uptoBulkEntries entries + 1
  | .held _ => 1
def uptoBulkAll {H : Type} : List (DataW H) → Nat
  | [] => 0
  | d :: r => uptoBulk d + uptoBulkAll r
def uptoBulkEntries {H : Type} : List (Lit × DataW H) → Nat
  | [] => 0
  | x :: r => uptoBulkEntry x + uptoBulkEntries r
def uptoBulkEntry {H : Type} : Lit × DataW H → Nat
  | (.string bytes, d) => bytes.length + uptoBulk d + 1
  | (_, d) => uptoBulk d + 1
 end
def uptoSmall : (H : Type) → List (DataW H) → Bool := fun _ ds => decide (uptoBulkAll ds ≤ 1048576)
def OpenSpec.upto (s : _root_.Go.ChangeSpec) : _root_.Go.OpenSpec := { _root_.Go.OpenSpec.ofChange s with cond := some uptoSmall }

/-- 'laws.FnExactBestRows', WHERE WHAT IT READS IS OF BULK AT MOST 1048576: true; the input reads as it did. -/
def fnExactBestRowsUptoRow : OpenClaim := { program := "ytdelgkhoahmnfaagreat", sum := "ef07258f7e9da67d45b0657355ef860e31a66b94412468e8d715cc0865b29e77", func := "loop.example/g00344/laws.FnExactBestRows", spec := "fnExactBestRows", unfollowed := true, recurses := true, apart := false, narrowed := true }
def FnExactBestRowsUptoSaid : Prop := fnExactBestRowsUptoRow.holds Tryz.pinned (OpenSpec.upto fnExactBestRowsSpec)

/-- 'laws.FnExactDropPeer', WHERE WHAT IT READS IS OF BULK AT MOST 1048576: true; the input reads as it did. -/
def fnExactDropPeerUptoRow : OpenClaim := { program := "ytdelgkhoahmnfaagreat", sum := "ef07258f7e9da67d45b0657355ef860e31a66b94412468e8d715cc0865b29e77", func := "loop.example/g00344/laws.FnExactDropPeer", spec := "fnExactDropPeer", unfollowed := true, recurses := true, apart := false, narrowed := true }
def FnExactDropPeerUptoSaid : Prop := fnExactDropPeerUptoRow.holds Tryz.pinned (OpenSpec.upto fnExactDropPeerSpec)

/-- 'laws.FnExactTakeUpdate', WHERE WHAT IT READS IS OF BULK AT MOST 1048576: true; the input reads as it did. -/
def fnExactTakeUpdateUptoRow : OpenClaim := { program := "ytdelgkhoahmnfaagreat", sum := "ef07258f7e9da67d45b0657355ef860e31a66b94412468e8d715cc0865b29e77", func := "loop.example/g00344/laws.FnExactTakeUpdate", spec := "fnExactTakeUpdate", inPlace := ["slices.overlaps[loop.example/g00344/impl.Row]", "slices.overlaps[loop.example/g00344/impl.Offer]"], unfollowed := true, recurses := true, apart := false, narrowed := true }
def FnExactTakeUpdateUptoSaid : Prop := fnExactTakeUpdateUptoRow.holds Tryz.pinned (OpenSpec.upto fnExactTakeUpdateSpec)

/-- 'laws.FnExactTakeAll', WHERE WHAT IT READS IS OF BULK AT MOST 1048576: true; the input reads as it did. -/
def fnExactTakeAllUptoRow : OpenClaim := { program := "ytdelgkhoahmnfaagreat", sum := "ef07258f7e9da67d45b0657355ef860e31a66b94412468e8d715cc0865b29e77", func := "loop.example/g00344/laws.FnExactTakeAll", spec := "fnExactTakeAll", inPlace := ["slices.overlaps[loop.example/g00344/impl.Row]", "slices.overlaps[loop.example/g00344/impl.Offer]"], unfollowed := true, recurses := true, apart := false, narrowed := true }
def FnExactTakeAllUptoSaid : Prop := fnExactTakeAllUptoRow.holds Tryz.pinned (OpenSpec.upto fnExactTakeAllSpec)

/-- 'laws.FnRib', WHERE WHAT IT READS IS OF BULK AT MOST 1048576: true; the input reads as it did. -/
def fnRibUptoRow : OpenClaim := { program := "ytdelgkhoahmnfaagreat", sum := "ef07258f7e9da67d45b0657355ef860e31a66b94412468e8d715cc0865b29e77", func := "loop.example/g00344/laws.FnRib", spec := "fnRib", inPlace := ["slices.overlaps[loop.example/g00344/impl.Row]", "slices.overlaps[loop.example/g00344/impl.Offer]"], unfollowed := true, recurses := true, apart := false, narrowed := true }
def FnRibUptoSaid : Prop := fnRibUptoRow.holds Tryz.pinned (OpenSpec.upto fnRibSpec)

/-- 'laws.FnCommute', WHERE WHAT IT READS IS OF BULK AT MOST 1048576: true; the input reads as it did. -/
def fnCommuteUptoRow : OpenClaim := { program := "ytdelgkhoahmnfaagreat", sum := "ef07258f7e9da67d45b0657355ef860e31a66b94412468e8d715cc0865b29e77", func := "loop.example/g00344/laws.FnCommute", spec := "fnCommute", inPlace := ["slices.overlaps[loop.example/g00344/impl.Row]", "slices.overlaps[loop.example/g00344/impl.Offer]"], unfollowed := true, recurses := true, apart := false, narrowed := true }
def FnCommuteUptoSaid : Prop := fnCommuteUptoRow.holds Tryz.pinned (OpenSpec.upto fnCommuteSpec)

end Rows
end Go.Proofs.YtdelgkhoahmnfaaGreat
