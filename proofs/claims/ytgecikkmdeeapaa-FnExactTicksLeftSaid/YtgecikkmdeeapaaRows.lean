/-
  No cell of these rows narrows 'for every input' (looked for: loops, veiled, ifaces, maps, wideKeys, modest, calm, conditions, laid).
  DERIVED. THE GIVEN ROWS OF THIS SEAT. 8 by the template 'for every input the law returns true; each argument reads behind the call as it read before'; 0 by the template 'total and deterministic' (their statements: YtgecikkmdeeapaaTotals.lean).
  GIVEN WITH THE SEED: the statements are not yours to turn. If you find one false, say at which input.
  Laid BY PROGRAM, IN A SANDBOX (cutbox-rows.mjs): the forced cells as the released guide's own fill.sh prints them over the translation e918614b6720b68e… (all of the seat's roots in one cut). By AI agents, Wed Nov 11 2026. No macro, syntax, notation, axiom, sorry.
-/
import Derived.Test.YtgecikkmdeeapaaChecked
import GoSem.Claim
import GoSem.ClaimJoined
import GoSem.ClaimMapViews
import Derived.JoinedTies
import Derived.KernelRfl
namespace Go.Proofs.Ytgecikkmdeeapaa
/- THE CELL 'sum', in the pinned program and in every row, IS THE sha256 OF THE DUMP (.gsa) THAT YtgecikkmdeeapaaProg.lean LOADS. Nothing in Lean hashes anything: it is a label: what it is worth is what the hold of that sum in a sandbox is worth. -/
noncomputable def Try.pinned : Pinned := { name := "ytgecikkmdeeapaa", sum := "e918614b6720b68e2109b9cd533ab295044d638e72af331a773d7ddb7bcdff7b", checked := Try.checked }
namespace Rows
def none {H : Type} : Left H := { results := [], args := [] }

/-- 'laws.FnExactNewStore': WHATEVER THE INPUT: true; the input reads as it did. -/
def fnExactNewStoreSpec : ChangeSpec := { name := "fnExactNewStore", fn := fun _ => fun
  | [] => { results := [.lit (.bool true)], args := [] }
  | _ => none }
def fnExactNewStoreRow : OpenClaim := { program := "ytgecikkmdeeapaa", sum := "e918614b6720b68e2109b9cd533ab295044d638e72af331a773d7ddb7bcdff7b", func := "loop.example/g00344/laws.FnExactNewStore", spec := "fnExactNewStore", apart := false }
def FnExactNewStoreSaid : Prop := fnExactNewStoreRow.holds Try.pinned (OpenSpec.ofChange fnExactNewStoreSpec)

/-- ITS FALSE NEIGHBOUR: 'it returns false'. Refute it at one input. -/
def fnExactNewStoreWrong : ChangeSpec := { name := "fnExactNewStore", fn := fun _ => fun
  | [] => { results := [.lit (.bool false)], args := [] }
  | _ => none }
def FnExactNewStoreWrongFalsely : Prop := fnExactNewStoreRow.holds Try.pinned (OpenSpec.ofChange fnExactNewStoreWrong)

/-- 'laws.FnExactGoodStore': WHATEVER THE INPUT: true; the input reads as it did. -/
def fnExactGoodStoreSpec : ChangeSpec := { name := "fnExactGoodStore", fn := fun _ => fun
  | [d] => { results := [.lit (.bool true)], args := [d] }
  | _ => none }
def fnExactGoodStoreRow : OpenClaim := { program := "ytgecikkmdeeapaa", sum := "e918614b6720b68e2109b9cd533ab295044d638e72af331a773d7ddb7bcdff7b", func := "loop.example/g00344/laws.FnExactGoodStore", spec := "fnExactGoodStore", unfollowed := true, recurses := true, apart := false }
def FnExactGoodStoreSaid : Prop := fnExactGoodStoreRow.holds Try.pinned (OpenSpec.ofChange fnExactGoodStoreSpec)

/-- ITS FALSE NEIGHBOUR: 'it returns false'. Refute it at one input. -/
def fnExactGoodStoreWrong : ChangeSpec := { name := "fnExactGoodStore", fn := fun _ => fun
  | [d] => { results := [.lit (.bool false)], args := [d] }
  | _ => none }
def FnExactGoodStoreWrongFalsely : Prop := fnExactGoodStoreRow.holds Try.pinned (OpenSpec.ofChange fnExactGoodStoreWrong)

/-- 'laws.FnExactTicksLeft': WHATEVER THE INPUT: true; the input reads as it did. -/
def fnExactTicksLeftSpec : ChangeSpec := { name := "fnExactTicksLeft", fn := fun _ => fun
  | [d] => { results := [.lit (.bool true)], args := [d] }
  | _ => none }
def fnExactTicksLeftRow : OpenClaim := { program := "ytgecikkmdeeapaa", sum := "e918614b6720b68e2109b9cd533ab295044d638e72af331a773d7ddb7bcdff7b", func := "loop.example/g00344/laws.FnExactTicksLeft", spec := "fnExactTicksLeft", unfollowed := true, recurses := true, apart := false }
def FnExactTicksLeftSaid : Prop := fnExactTicksLeftRow.holds Try.pinned (OpenSpec.ofChange fnExactTicksLeftSpec)

/-- ITS FALSE NEIGHBOUR: 'it returns false'. Refute it at one input. -/
def fnExactTicksLeftWrong : ChangeSpec := { name := "fnExactTicksLeft", fn := fun _ => fun
  | [d] => { results := [.lit (.bool false)], args := [d] }
  | _ => none }
def FnExactTicksLeftWrongFalsely : Prop := fnExactTicksLeftRow.holds Try.pinned (OpenSpec.ofChange fnExactTicksLeftWrong)

/-- 'laws.FnExactConfirmedOf': WHATEVER THE INPUT: true; the input reads as it did. -/
def fnExactConfirmedOfSpec : ChangeSpec := { name := "fnExactConfirmedOf", fn := fun _ => fun
  | [d] => { results := [.lit (.bool true)], args := [d] }
  | _ => none }
def fnExactConfirmedOfRow : OpenClaim := { program := "ytgecikkmdeeapaa", sum := "e918614b6720b68e2109b9cd533ab295044d638e72af331a773d7ddb7bcdff7b", func := "loop.example/g00344/laws.FnExactConfirmedOf", spec := "fnExactConfirmedOf", unfollowed := true, recurses := true, apart := false }
def FnExactConfirmedOfSaid : Prop := fnExactConfirmedOfRow.holds Try.pinned (OpenSpec.ofChange fnExactConfirmedOfSpec)

/-- ITS FALSE NEIGHBOUR: 'it returns false'. Refute it at one input. -/
def fnExactConfirmedOfWrong : ChangeSpec := { name := "fnExactConfirmedOf", fn := fun _ => fun
  | [d] => { results := [.lit (.bool false)], args := [d] }
  | _ => none }
def FnExactConfirmedOfWrongFalsely : Prop := fnExactConfirmedOfRow.holds Try.pinned (OpenSpec.ofChange fnExactConfirmedOfWrong)

/-- 'laws.FnExactPendingOf': WHATEVER THE INPUT: true; the input reads as it did. -/
def fnExactPendingOfSpec : ChangeSpec := { name := "fnExactPendingOf", fn := fun _ => fun
  | [d] => { results := [.lit (.bool true)], args := [d] }
  | _ => none }
def fnExactPendingOfRow : OpenClaim := { program := "ytgecikkmdeeapaa", sum := "e918614b6720b68e2109b9cd533ab295044d638e72af331a773d7ddb7bcdff7b", func := "loop.example/g00344/laws.FnExactPendingOf", spec := "fnExactPendingOf", unfollowed := true, recurses := true, apart := false }
def FnExactPendingOfSaid : Prop := fnExactPendingOfRow.holds Try.pinned (OpenSpec.ofChange fnExactPendingOfSpec)

/-- ITS FALSE NEIGHBOUR: 'it returns false'. Refute it at one input. -/
def fnExactPendingOfWrong : ChangeSpec := { name := "fnExactPendingOf", fn := fun _ => fun
  | [d] => { results := [.lit (.bool false)], args := [d] }
  | _ => none }
def FnExactPendingOfWrongFalsely : Prop := fnExactPendingOfRow.holds Try.pinned (OpenSpec.ofChange fnExactPendingOfWrong)

/-- 'laws.FnCommit': WHATEVER THE INPUT: true; the input reads as it did. -/
def fnCommitSpec : ChangeSpec := { name := "fnCommit", fn := fun _ => fun
  | [d] => { results := [.lit (.bool true)], args := [d] }
  | _ => none }
def fnCommitRow : OpenClaim := { program := "ytgecikkmdeeapaa", sum := "e918614b6720b68e2109b9cd533ab295044d638e72af331a773d7ddb7bcdff7b", func := "loop.example/g00344/laws.FnCommit", spec := "fnCommit", inPlace := ["slices.overlaps[loop.example/g00344/impl.Leaf]", "slices.overlaps[[]loop.example/g00344/impl.Leaf]"], unfollowed := true, recurses := true, apart := false }
def FnCommitSaid : Prop := fnCommitRow.holds Try.pinned (OpenSpec.ofChange fnCommitSpec)

/-- ITS FALSE NEIGHBOUR: 'it returns false'. Refute it at one input. -/
def fnCommitWrong : ChangeSpec := { name := "fnCommit", fn := fun _ => fun
  | [d] => { results := [.lit (.bool false)], args := [d] }
  | _ => none }
def FnCommitWrongFalsely : Prop := fnCommitRow.holds Try.pinned (OpenSpec.ofChange fnCommitWrong)

/-- 'laws.FnExactPlayOps': WHATEVER THE INPUT: true; the input reads as it did. -/
def fnExactPlayOpsSpec : ChangeSpec := { name := "fnExactPlayOps", fn := fun _ => fun
  | [d] => { results := [.lit (.bool true)], args := [d] }
  | _ => none }
def fnExactPlayOpsRow : OpenClaim := { program := "ytgecikkmdeeapaa", sum := "e918614b6720b68e2109b9cd533ab295044d638e72af331a773d7ddb7bcdff7b", func := "loop.example/g00344/laws.FnExactPlayOps", spec := "fnExactPlayOps", inPlace := ["slices.overlaps[loop.example/g00344/impl.Leaf]", "slices.overlaps[[]loop.example/g00344/impl.Leaf]"], unfollowed := true, recurses := true, apart := false }
def FnExactPlayOpsSaid : Prop := fnExactPlayOpsRow.holds Try.pinned (OpenSpec.ofChange fnExactPlayOpsSpec)

/-- ITS FALSE NEIGHBOUR: 'it returns false'. Refute it at one input. -/
def fnExactPlayOpsWrong : ChangeSpec := { name := "fnExactPlayOps", fn := fun _ => fun
  | [d] => { results := [.lit (.bool false)], args := [d] }
  | _ => none }
def FnExactPlayOpsWrongFalsely : Prop := fnExactPlayOpsRow.holds Try.pinned (OpenSpec.ofChange fnExactPlayOpsWrong)

/-- 'laws.FnExactStepStore': WHATEVER THE INPUT: true; the input reads as it did. -/
def fnExactStepStoreSpec : ChangeSpec := { name := "fnExactStepStore", fn := fun _ => fun
  | [d1, d2] => { results := [.lit (.bool true)], args := [d1, d2] }
  | _ => none }
def fnExactStepStoreRow : OpenClaim := { program := "ytgecikkmdeeapaa", sum := "e918614b6720b68e2109b9cd533ab295044d638e72af331a773d7ddb7bcdff7b", func := "loop.example/g00344/laws.FnExactStepStore", spec := "fnExactStepStore", inPlace := ["slices.overlaps[loop.example/g00344/impl.Leaf]", "slices.overlaps[[]loop.example/g00344/impl.Leaf]"], unfollowed := true, recurses := true, apart := false }
def FnExactStepStoreSaid : Prop := fnExactStepStoreRow.holds Try.pinned (OpenSpec.ofChange fnExactStepStoreSpec)

/-- ITS FALSE NEIGHBOUR: 'it returns false'. Refute it at one input. -/
def fnExactStepStoreWrong : ChangeSpec := { name := "fnExactStepStore", fn := fun _ => fun
  | [d1, d2] => { results := [.lit (.bool false)], args := [d1, d2] }
  | _ => none }
def FnExactStepStoreWrongFalsely : Prop := fnExactStepStoreRow.holds Try.pinned (OpenSpec.ofChange fnExactStepStoreWrong)

/- THE SECOND FORM. 'bulk': how many values and letters a reading holds, each counted each time it is reached (what is shared counts as often as it is met; a slice's spare places count too). A statement '..UptoSaid' is the law's where the arguments, and the package variables that the reading takes, are together of bulk at most 1048576: NARROWER than '..Said'. Prove '..Said' where nothing that the law and all that it calls make is longer than what came in: it says more and counts as full. Else prove '..UptoSaid'. A law counts once. -/
mutual
def uptoBulk {H : Type} : DataW H → Nat
  | .lit (.string bytes) => bytes.length + 1
  | .lit _ => 1
  | .nil => 1
  | .ptr d => uptoBulk d + 1
  | .slice elems spare => uptoBulkAll elems + uptoBulkAll spare + 1
  | .agg parts => uptoBulkAll parts + 1
  | .iface _ d => uptoBulk d + 1
  | .map entries => uptoBulkEntries entries + 1
  | .held _ => 1
def uptoBulkAll {H : Type} : List (DataW H) → Nat
  | [] => 0
  | d :: r => uptoBulk d + uptoBulkAll r
def uptoBulkEntries {H : Type} : List (Lit × DataW H) → Nat
  | [] => 0
  | x :: r => uptoBulkEntry x + uptoBulkEntries r
def uptoBulkEntry {H : Type} : Lit × DataW H → Nat
  | (.string bytes, d) => bytes.length + uptoBulk d + 1
  | (_, d) => uptoBulk d + 1
 end
def uptoSmall : (H : Type) → List (DataW H) → Bool := fun _ ds => decide (uptoBulkAll ds ≤ 1048576)
def OpenSpec.upto (s : _root_.Go.ChangeSpec) : _root_.Go.OpenSpec := { _root_.Go.OpenSpec.ofChange s with cond := some uptoSmall }

/-- 'laws.FnExactNewStore', WHERE WHAT IT READS IS OF BULK AT MOST 1048576: true; the input reads as it did. -/
def fnExactNewStoreUptoRow : OpenClaim := { program := "ytgecikkmdeeapaa", sum := "e918614b6720b68e2109b9cd533ab295044d638e72af331a773d7ddb7bcdff7b", func := "loop.example/g00344/laws.FnExactNewStore", spec := "fnExactNewStore", apart := false, narrowed := true }
def FnExactNewStoreUptoSaid : Prop := fnExactNewStoreUptoRow.holds Try.pinned (OpenSpec.upto fnExactNewStoreSpec)

/-- 'laws.FnExactGoodStore', WHERE WHAT IT READS IS OF BULK AT MOST 1048576: true; the input reads as it did. -/
def fnExactGoodStoreUptoRow : OpenClaim := { program := "ytgecikkmdeeapaa", sum := "e918614b6720b68e2109b9cd533ab295044d638e72af331a773d7ddb7bcdff7b", func := "loop.example/g00344/laws.FnExactGoodStore", spec := "fnExactGoodStore", unfollowed := true, recurses := true, apart := false, narrowed := true }
def FnExactGoodStoreUptoSaid : Prop := fnExactGoodStoreUptoRow.holds Try.pinned (OpenSpec.upto fnExactGoodStoreSpec)

/-- 'laws.FnExactTicksLeft', WHERE WHAT IT READS IS OF BULK AT MOST 1048576: true; the input reads as it did. -/
def fnExactTicksLeftUptoRow : OpenClaim := { program := "ytgecikkmdeeapaa", sum := "e918614b6720b68e2109b9cd533ab295044d638e72af331a773d7ddb7bcdff7b", func := "loop.example/g00344/laws.FnExactTicksLeft", spec := "fnExactTicksLeft", unfollowed := true, recurses := true, apart := false, narrowed := true }
def FnExactTicksLeftUptoSaid : Prop := fnExactTicksLeftUptoRow.holds Try.pinned (OpenSpec.upto fnExactTicksLeftSpec)

/-- 'laws.FnExactConfirmedOf', WHERE WHAT IT READS IS OF BULK AT MOST 1048576: true; the input reads as it did. -/
def fnExactConfirmedOfUptoRow : OpenClaim := { program := "ytgecikkmdeeapaa", sum := "e918614b6720b68e2109b9cd533ab295044d638e72af331a773d7ddb7bcdff7b", func := "loop.example/g00344/laws.FnExactConfirmedOf", spec := "fnExactConfirmedOf", unfollowed := true, recurses := true, apart := false, narrowed := true }
def FnExactConfirmedOfUptoSaid : Prop := fnExactConfirmedOfUptoRow.holds Try.pinned (OpenSpec.upto fnExactConfirmedOfSpec)

/-- 'laws.FnExactPendingOf', WHERE WHAT IT READS IS OF BULK AT MOST 1048576: true; the input reads as it did. -/
def fnExactPendingOfUptoRow : OpenClaim := { program := "ytgecikkmdeeapaa", sum := "e918614b6720b68e2109b9cd533ab295044d638e72af331a773d7ddb7bcdff7b", func := "loop.example/g00344/laws.FnExactPendingOf", spec := "fnExactPendingOf", unfollowed := true, recurses := true, apart := false, narrowed := true }
def FnExactPendingOfUptoSaid : Prop := fnExactPendingOfUptoRow.holds Try.pinned (OpenSpec.upto fnExactPendingOfSpec)

/-- 'laws.FnCommit', WHERE WHAT IT READS IS OF BULK AT MOST 1048576: true; the input reads as it did. -/
def fnCommitUptoRow : OpenClaim := { program := "ytgecikkmdeeapaa", sum := "e918614b6720b68e2109b9cd533ab295044d638e72af331a773d7ddb7bcdff7b", func := "loop.example/g00344/laws.FnCommit", spec := "fnCommit", inPlace := ["slices.overlaps[loop.example/g00344/impl.Leaf]", "slices.overlaps[[]loop.example/g00344/impl.Leaf]"], unfollowed := true, recurses := true, apart := false, narrowed := true }
def FnCommitUptoSaid : Prop := fnCommitUptoRow.holds Try.pinned (OpenSpec.upto fnCommitSpec)

/-- 'laws.FnExactPlayOps', WHERE WHAT IT READS IS OF BULK AT MOST 1048576: true; the input reads as it did. -/
def fnExactPlayOpsUptoRow : OpenClaim := { program := "ytgecikkmdeeapaa", sum := "e918614b6720b68e2109b9cd533ab295044d638e72af331a773d7ddb7bcdff7b", func := "loop.example/g00344/laws.FnExactPlayOps", spec := "fnExactPlayOps", inPlace := ["slices.overlaps[loop.example/g00344/impl.Leaf]", "slices.overlaps[[]loop.example/g00344/impl.Leaf]"], unfollowed := true, recurses := true, apart := false, narrowed := true }
def FnExactPlayOpsUptoSaid : Prop := fnExactPlayOpsUptoRow.holds Try.pinned (OpenSpec.upto fnExactPlayOpsSpec)

/-- 'laws.FnExactStepStore', WHERE WHAT IT READS IS OF BULK AT MOST 1048576: true; the input reads as it did. -/
def fnExactStepStoreUptoRow : OpenClaim := { program := "ytgecikkmdeeapaa", sum := "e918614b6720b68e2109b9cd533ab295044d638e72af331a773d7ddb7bcdff7b", func := "loop.example/g00344/laws.FnExactStepStore", spec := "fnExactStepStore", inPlace := ["slices.overlaps[loop.example/g00344/impl.Leaf]", "slices.overlaps[[]loop.example/g00344/impl.Leaf]"], unfollowed := true, recurses := true, apart := false, narrowed := true }
def FnExactStepStoreUptoSaid : Prop := fnExactStepStoreUptoRow.holds Try.pinned (OpenSpec.upto fnExactStepStoreSpec)

end Rows
end Go.Proofs.Ytgecikkmdeeapaa
