/-
  No cell of these rows narrows 'for every input' (looked for: loops, veiled, ifaces, maps, wideKeys, modest, calm, conditions, laid).
  DERIVED. THE GIVEN ROWS OF THIS SEAT. 12 by the template 'for every input the law returns true; each argument reads behind the call as it read before'; 0 by the template 'total and deterministic' (their statements: YtmodclnblmoeoaaTotals.lean).
  GIVEN WITH THE SEED: the statements are not yours to turn. If you find one false, say at which input.
  Laid BY PROGRAM, IN A SANDBOX (cutbox-rows.mjs): the forced cells as the released guide's own fill.sh prints them over the translation d5e21f194c99a230… (all of the seat's roots in one cut). By AI agents, Wed Nov 11 2026. No macro, syntax, notation, axiom, sorry.
-/
import Derived.Test.YtmodclnblmoeoaaChecked
import GoSem.Claim
import GoSem.ClaimJoined
import GoSem.ClaimMapViews
import Derived.JoinedTies
import Derived.KernelRfl
namespace Go.Proofs.Ytmodclnblmoeoaa
/- THE CELL 'sum', in the pinned program and in every row, IS THE sha256 OF THE DUMP (.gsa) THAT YtmodclnblmoeoaaProg.lean LOADS. Nothing in Lean hashes anything: it is a label: what it is worth is what the hold of that sum in a sandbox is worth. -/
noncomputable def Try.pinned : Pinned := { name := "ytmodclnblmoeoaa", sum := "d5e21f194c99a230c88260c6a3e96a9fa8dacdf9ff565ea4c4168a47bd418c93", checked := Try.checked }
namespace Rows
def none {H : Type} : Left H := { results := [], args := [] }

/-- 'laws.FnExactCommandText': WHATEVER THE INPUT: true; the input reads as it did. -/
def fnExactCommandTextSpec : ChangeSpec := { name := "fnExactCommandText", fn := fun _ => fun
  | [d] => { results := [.lit (.bool true)], args := [d] }
  | _ => none }
def fnExactCommandTextRow : OpenClaim := { program := "ytmodclnblmoeoaa", sum := "d5e21f194c99a230c88260c6a3e96a9fa8dacdf9ff565ea4c4168a47bd418c93", func := "loop.example/g00344/laws.FnExactCommandText", spec := "fnExactCommandText", inPlace := ["internal/abi.NoEscape", "internal/bytealg.MakeNoZero"], unfollowed := true, recurses := true, apart := false }
def FnExactCommandTextSaid : Prop := fnExactCommandTextRow.holds Try.pinned (OpenSpec.ofChange fnExactCommandTextSpec)

/-- ITS FALSE NEIGHBOUR: 'it returns false'. Refute it at one input. -/
def fnExactCommandTextWrong : ChangeSpec := { name := "fnExactCommandText", fn := fun _ => fun
  | [d] => { results := [.lit (.bool false)], args := [d] }
  | _ => none }
def FnExactCommandTextWrongFalsely : Prop := fnExactCommandTextRow.holds Try.pinned (OpenSpec.ofChange fnExactCommandTextWrong)

/-- 'laws.FnExactUnder': WHATEVER THE INPUT: true; the input reads as it did. -/
def fnExactUnderSpec : ChangeSpec := { name := "fnExactUnder", fn := fun _ => fun
  | [d1, d2] => { results := [.lit (.bool true)], args := [d1, d2] }
  | _ => none }
def fnExactUnderRow : OpenClaim := { program := "ytmodclnblmoeoaa", sum := "d5e21f194c99a230c88260c6a3e96a9fa8dacdf9ff565ea4c4168a47bd418c93", func := "loop.example/g00344/laws.FnExactUnder", spec := "fnExactUnder", unfollowed := true, recurses := true, apart := false }
def FnExactUnderSaid : Prop := fnExactUnderRow.holds Try.pinned (OpenSpec.ofChange fnExactUnderSpec)

/-- ITS FALSE NEIGHBOUR: 'it returns false'. Refute it at one input. -/
def fnExactUnderWrong : ChangeSpec := { name := "fnExactUnder", fn := fun _ => fun
  | [d1, d2] => { results := [.lit (.bool false)], args := [d1, d2] }
  | _ => none }
def FnExactUnderWrongFalsely : Prop := fnExactUnderRow.holds Try.pinned (OpenSpec.ofChange fnExactUnderWrong)

/-- 'laws.FnExactDeleteAt': WHATEVER THE INPUT: true; the input reads as it did. -/
def fnExactDeleteAtSpec : ChangeSpec := { name := "fnExactDeleteAt", fn := fun _ => fun
  | [d1, d2] => { results := [.lit (.bool true)], args := [d1, d2] }
  | _ => none }
def fnExactDeleteAtRow : OpenClaim := { program := "ytmodclnblmoeoaa", sum := "d5e21f194c99a230c88260c6a3e96a9fa8dacdf9ff565ea4c4168a47bd418c93", func := "loop.example/g00344/laws.FnExactDeleteAt", spec := "fnExactDeleteAt", unfollowed := true, recurses := true, apart := false }
def FnExactDeleteAtSaid : Prop := fnExactDeleteAtRow.holds Try.pinned (OpenSpec.ofChange fnExactDeleteAtSpec)

/-- ITS FALSE NEIGHBOUR: 'it returns false'. Refute it at one input. -/
def fnExactDeleteAtWrong : ChangeSpec := { name := "fnExactDeleteAt", fn := fun _ => fun
  | [d1, d2] => { results := [.lit (.bool false)], args := [d1, d2] }
  | _ => none }
def FnExactDeleteAtWrongFalsely : Prop := fnExactDeleteAtRow.holds Try.pinned (OpenSpec.ofChange fnExactDeleteAtWrong)

/-- 'laws.FnExactDiffOf': WHATEVER THE INPUT: true; the input reads as it did. -/
def fnExactDiffOfSpec : ChangeSpec := { name := "fnExactDiffOf", fn := fun _ => fun
  | [d1, d2] => { results := [.lit (.bool true)], args := [d1, d2] }
  | _ => none }
def fnExactDiffOfRow : OpenClaim := { program := "ytmodclnblmoeoaa", sum := "d5e21f194c99a230c88260c6a3e96a9fa8dacdf9ff565ea4c4168a47bd418c93", func := "loop.example/g00344/laws.FnExactDiffOf", spec := "fnExactDiffOf", unfollowed := true, recurses := true, apart := false }
def FnExactDiffOfSaid : Prop := fnExactDiffOfRow.holds Try.pinned (OpenSpec.ofChange fnExactDiffOfSpec)

/-- ITS FALSE NEIGHBOUR: 'it returns false'. Refute it at one input. -/
def fnExactDiffOfWrong : ChangeSpec := { name := "fnExactDiffOf", fn := fun _ => fun
  | [d1, d2] => { results := [.lit (.bool false)], args := [d1, d2] }
  | _ => none }
def FnExactDiffOfWrongFalsely : Prop := fnExactDiffOfRow.holds Try.pinned (OpenSpec.ofChange fnExactDiffOfWrong)

/-- 'laws.FnExactConfirmedOf': WHATEVER THE INPUT: true; the input reads as it did. -/
def fnExactConfirmedOfSpec : ChangeSpec := { name := "fnExactConfirmedOf", fn := fun _ => fun
  | [d] => { results := [.lit (.bool true)], args := [d] }
  | _ => none }
def fnExactConfirmedOfRow : OpenClaim := { program := "ytmodclnblmoeoaa", sum := "d5e21f194c99a230c88260c6a3e96a9fa8dacdf9ff565ea4c4168a47bd418c93", func := "loop.example/g00344/laws.FnExactConfirmedOf", spec := "fnExactConfirmedOf", unfollowed := true, recurses := true, apart := false }
def FnExactConfirmedOfSaid : Prop := fnExactConfirmedOfRow.holds Try.pinned (OpenSpec.ofChange fnExactConfirmedOfSpec)

/-- ITS FALSE NEIGHBOUR: 'it returns false'. Refute it at one input. -/
def fnExactConfirmedOfWrong : ChangeSpec := { name := "fnExactConfirmedOf", fn := fun _ => fun
  | [d] => { results := [.lit (.bool false)], args := [d] }
  | _ => none }
def FnExactConfirmedOfWrongFalsely : Prop := fnExactConfirmedOfRow.holds Try.pinned (OpenSpec.ofChange fnExactConfirmedOfWrong)

/-- 'laws.FnExactConfigText': WHATEVER THE INPUT: true; the input reads as it did. -/
def fnExactConfigTextSpec : ChangeSpec := { name := "fnExactConfigText", fn := fun _ => fun
  | [d] => { results := [.lit (.bool true)], args := [d] }
  | _ => none }
def fnExactConfigTextRow : OpenClaim := { program := "ytmodclnblmoeoaa", sum := "d5e21f194c99a230c88260c6a3e96a9fa8dacdf9ff565ea4c4168a47bd418c93", func := "loop.example/g00344/laws.FnExactConfigText", spec := "fnExactConfigText", inPlace := ["internal/abi.NoEscape", "internal/bytealg.MakeNoZero"], unfollowed := true, recurses := true, apart := false }
def FnExactConfigTextSaid : Prop := fnExactConfigTextRow.holds Try.pinned (OpenSpec.ofChange fnExactConfigTextSpec)

/-- ITS FALSE NEIGHBOUR: 'it returns false'. Refute it at one input. -/
def fnExactConfigTextWrong : ChangeSpec := { name := "fnExactConfigText", fn := fun _ => fun
  | [d] => { results := [.lit (.bool false)], args := [d] }
  | _ => none }
def FnExactConfigTextWrongFalsely : Prop := fnExactConfigTextRow.holds Try.pinned (OpenSpec.ofChange fnExactConfigTextWrong)

/-- 'laws.FnExactSetAt': WHATEVER THE INPUT: true; the input reads as it did. -/
def fnExactSetAtSpec : ChangeSpec := { name := "fnExactSetAt", fn := fun _ => fun
  | [d1, d2, d3] => { results := [.lit (.bool true)], args := [d1, d2, d3] }
  | _ => none }
def fnExactSetAtRow : OpenClaim := { program := "ytmodclnblmoeoaa", sum := "d5e21f194c99a230c88260c6a3e96a9fa8dacdf9ff565ea4c4168a47bd418c93", func := "loop.example/g00344/laws.FnExactSetAt", spec := "fnExactSetAt", inPlace := ["slices.overlaps[loop.example/g00344/impl.Leaf]"], unfollowed := true, recurses := true, apart := false }
def FnExactSetAtSaid : Prop := fnExactSetAtRow.holds Try.pinned (OpenSpec.ofChange fnExactSetAtSpec)

/-- ITS FALSE NEIGHBOUR: 'it returns false'. Refute it at one input. -/
def fnExactSetAtWrong : ChangeSpec := { name := "fnExactSetAt", fn := fun _ => fun
  | [d1, d2, d3] => { results := [.lit (.bool false)], args := [d1, d2, d3] }
  | _ => none }
def FnExactSetAtWrongFalsely : Prop := fnExactSetAtRow.holds Try.pinned (OpenSpec.ofChange fnExactSetAtWrong)

/-- 'laws.FnExactPendingOf': WHATEVER THE INPUT: true; the input reads as it did. -/
def fnExactPendingOfSpec : ChangeSpec := { name := "fnExactPendingOf", fn := fun _ => fun
  | [d] => { results := [.lit (.bool true)], args := [d] }
  | _ => none }
def fnExactPendingOfRow : OpenClaim := { program := "ytmodclnblmoeoaa", sum := "d5e21f194c99a230c88260c6a3e96a9fa8dacdf9ff565ea4c4168a47bd418c93", func := "loop.example/g00344/laws.FnExactPendingOf", spec := "fnExactPendingOf", unfollowed := true, recurses := true, apart := false }
def FnExactPendingOfSaid : Prop := fnExactPendingOfRow.holds Try.pinned (OpenSpec.ofChange fnExactPendingOfSpec)

/-- ITS FALSE NEIGHBOUR: 'it returns false'. Refute it at one input. -/
def fnExactPendingOfWrong : ChangeSpec := { name := "fnExactPendingOf", fn := fun _ => fun
  | [d] => { results := [.lit (.bool false)], args := [d] }
  | _ => none }
def FnExactPendingOfWrongFalsely : Prop := fnExactPendingOfRow.holds Try.pinned (OpenSpec.ofChange fnExactPendingOfWrong)

/-- 'laws.FnExactReadConfig': WHATEVER THE INPUT: true; the input reads as it did. -/
def fnExactReadConfigSpec : ChangeSpec := { name := "fnExactReadConfig", fn := fun _ => fun
  | [d] => { results := [.lit (.bool true)], args := [d] }
  | _ => none }
def fnExactReadConfigRow : OpenClaim := { program := "ytmodclnblmoeoaa", sum := "d5e21f194c99a230c88260c6a3e96a9fa8dacdf9ff565ea4c4168a47bd418c93", func := "loop.example/g00344/laws.FnExactReadConfig", spec := "fnExactReadConfig", unfollowed := true, recurses := true, apart := false }
def FnExactReadConfigSaid : Prop := fnExactReadConfigRow.holds Try.pinned (OpenSpec.ofChange fnExactReadConfigSpec)

/-- ITS FALSE NEIGHBOUR: 'it returns false'. Refute it at one input. -/
def fnExactReadConfigWrong : ChangeSpec := { name := "fnExactReadConfig", fn := fun _ => fun
  | [d] => { results := [.lit (.bool false)], args := [d] }
  | _ => none }
def FnExactReadConfigWrongFalsely : Prop := fnExactReadConfigRow.holds Try.pinned (OpenSpec.ofChange fnExactReadConfigWrong)

/-- 'laws.FnExactDoCommands': WHATEVER THE INPUT: true; the input reads as it did. -/
def fnExactDoCommandsSpec : ChangeSpec := { name := "fnExactDoCommands", fn := fun _ => fun
  | [d1, d2] => { results := [.lit (.bool true)], args := [d1, d2] }
  | _ => none }
def fnExactDoCommandsRow : OpenClaim := { program := "ytmodclnblmoeoaa", sum := "d5e21f194c99a230c88260c6a3e96a9fa8dacdf9ff565ea4c4168a47bd418c93", func := "loop.example/g00344/laws.FnExactDoCommands", spec := "fnExactDoCommands", inPlace := ["slices.overlaps[loop.example/g00344/impl.Leaf]"], unfollowed := true, recurses := true, apart := false }
def FnExactDoCommandsSaid : Prop := fnExactDoCommandsRow.holds Try.pinned (OpenSpec.ofChange fnExactDoCommandsSpec)

/-- ITS FALSE NEIGHBOUR: 'it returns false'. Refute it at one input. -/
def fnExactDoCommandsWrong : ChangeSpec := { name := "fnExactDoCommands", fn := fun _ => fun
  | [d1, d2] => { results := [.lit (.bool false)], args := [d1, d2] }
  | _ => none }
def FnExactDoCommandsWrongFalsely : Prop := fnExactDoCommandsRow.holds Try.pinned (OpenSpec.ofChange fnExactDoCommandsWrong)

/-- 'laws.FnExactStepStore': WHATEVER THE INPUT: true; the input reads as it did. -/
def fnExactStepStoreSpec : ChangeSpec := { name := "fnExactStepStore", fn := fun _ => fun
  | [d1, d2] => { results := [.lit (.bool true)], args := [d1, d2] }
  | _ => none }
def fnExactStepStoreRow : OpenClaim := { program := "ytmodclnblmoeoaa", sum := "d5e21f194c99a230c88260c6a3e96a9fa8dacdf9ff565ea4c4168a47bd418c93", func := "loop.example/g00344/laws.FnExactStepStore", spec := "fnExactStepStore", inPlace := ["slices.overlaps[loop.example/g00344/impl.Leaf]", "slices.overlaps[[]loop.example/g00344/impl.Leaf]"], unfollowed := true, recurses := true, apart := false }
def FnExactStepStoreSaid : Prop := fnExactStepStoreRow.holds Try.pinned (OpenSpec.ofChange fnExactStepStoreSpec)

/-- ITS FALSE NEIGHBOUR: 'it returns false'. Refute it at one input. -/
def fnExactStepStoreWrong : ChangeSpec := { name := "fnExactStepStore", fn := fun _ => fun
  | [d1, d2] => { results := [.lit (.bool false)], args := [d1, d2] }
  | _ => none }
def FnExactStepStoreWrongFalsely : Prop := fnExactStepStoreRow.holds Try.pinned (OpenSpec.ofChange fnExactStepStoreWrong)

/-- 'laws.FnExactPlayOps': WHATEVER THE INPUT: true; the input reads as it did. -/
def fnExactPlayOpsSpec : ChangeSpec := { name := "fnExactPlayOps", fn := fun _ => fun
  | [d] => { results := [.lit (.bool true)], args := [d] }
  | _ => none }
def fnExactPlayOpsRow : OpenClaim := { program := "ytmodclnblmoeoaa", sum := "d5e21f194c99a230c88260c6a3e96a9fa8dacdf9ff565ea4c4168a47bd418c93", func := "loop.example/g00344/laws.FnExactPlayOps", spec := "fnExactPlayOps", inPlace := ["slices.overlaps[loop.example/g00344/impl.Leaf]", "slices.overlaps[[]loop.example/g00344/impl.Leaf]"], unfollowed := true, recurses := true, apart := false }
def FnExactPlayOpsSaid : Prop := fnExactPlayOpsRow.holds Try.pinned (OpenSpec.ofChange fnExactPlayOpsSpec)

/-- ITS FALSE NEIGHBOUR: 'it returns false'. Refute it at one input. -/
def fnExactPlayOpsWrong : ChangeSpec := { name := "fnExactPlayOps", fn := fun _ => fun
  | [d] => { results := [.lit (.bool false)], args := [d] }
  | _ => none }
def FnExactPlayOpsWrongFalsely : Prop := fnExactPlayOpsRow.holds Try.pinned (OpenSpec.ofChange fnExactPlayOpsWrong)

/- THE SECOND FORM. 'bulk': how many values and letters a reading holds, each counted each time it is reached (what is shared counts as often as it is met; a slice's spare places count too). A statement '..UptoSaid' is the law's where the arguments, and the package variables that the reading takes, are together of bulk at most 1048576: NARROWER than '..Said'. Prove '..Said' where nothing that the law and all that it calls make is longer than what came in: it says more and counts as full. Else prove '..UptoSaid'. A law counts once. -/
mutual
def uptoBulk {H : Type} : DataW H → Nat
  | .lit (.string bytes) => bytes.length + 1
  | .lit _ => 1
  | .nil => 1
  | .ptr d => uptoBulk d + 1
  | .slice elems spare => uptoBulkAll elems + uptoBulkAll spare + 1
  | .agg parts => uptoBulkAll parts + 1
  | .iface _ d => uptoBulk d + 1
  | .map entries => uptoBulkEntries entries + 1
  | .held _ => 1
def uptoBulkAll {H : Type} : List (DataW H) → Nat
  | [] => 0
  | d :: r => uptoBulk d + uptoBulkAll r
def uptoBulkEntries {H : Type} : List (Lit × DataW H) → Nat
  | [] => 0
  | x :: r => uptoBulkEntry x + uptoBulkEntries r
def uptoBulkEntry {H : Type} : Lit × DataW H → Nat
  | (.string bytes, d) => bytes.length + uptoBulk d + 1
  | (_, d) => uptoBulk d + 1
 end
def uptoSmall : (H : Type) → List (DataW H) → Bool := fun _ ds => decide (uptoBulkAll ds ≤ 1048576)
def OpenSpec.upto (s : _root_.Go.ChangeSpec) : _root_.Go.OpenSpec := { _root_.Go.OpenSpec.ofChange s with cond := some uptoSmall }

/-- 'laws.FnExactCommandText', WHERE WHAT IT READS IS OF BULK AT MOST 1048576: true; the input reads as it did. -/
def fnExactCommandTextUptoRow : OpenClaim := { program := "ytmodclnblmoeoaa", sum := "d5e21f194c99a230c88260c6a3e96a9fa8dacdf9ff565ea4c4168a47bd418c93", func := "loop.example/g00344/laws.FnExactCommandText", spec := "fnExactCommandText", inPlace := ["internal/abi.NoEscape", "internal/bytealg.MakeNoZero"], unfollowed := true, recurses := true, apart := false, narrowed := true }
def FnExactCommandTextUptoSaid : Prop := fnExactCommandTextUptoRow.holds Try.pinned (OpenSpec.upto fnExactCommandTextSpec)

/-- 'laws.FnExactUnder', WHERE WHAT IT READS IS OF BULK AT MOST 1048576: true; the input reads as it did. -/
def fnExactUnderUptoRow : OpenClaim := { program := "ytmodclnblmoeoaa", sum := "d5e21f194c99a230c88260c6a3e96a9fa8dacdf9ff565ea4c4168a47bd418c93", func := "loop.example/g00344/laws.FnExactUnder", spec := "fnExactUnder", unfollowed := true, recurses := true, apart := false, narrowed := true }
def FnExactUnderUptoSaid : Prop := fnExactUnderUptoRow.holds Try.pinned (OpenSpec.upto fnExactUnderSpec)

/-- 'laws.FnExactDeleteAt', WHERE WHAT IT READS IS OF BULK AT MOST 1048576: true; the input reads as it did. -/
def fnExactDeleteAtUptoRow : OpenClaim := { program := "ytmodclnblmoeoaa", sum := "d5e21f194c99a230c88260c6a3e96a9fa8dacdf9ff565ea4c4168a47bd418c93", func := "loop.example/g00344/laws.FnExactDeleteAt", spec := "fnExactDeleteAt", unfollowed := true, recurses := true, apart := false, narrowed := true }
def FnExactDeleteAtUptoSaid : Prop := fnExactDeleteAtUptoRow.holds Try.pinned (OpenSpec.upto fnExactDeleteAtSpec)

/-- 'laws.FnExactDiffOf', WHERE WHAT IT READS IS OF BULK AT MOST 1048576: true; the input reads as it did. -/
def fnExactDiffOfUptoRow : OpenClaim := { program := "ytmodclnblmoeoaa", sum := "d5e21f194c99a230c88260c6a3e96a9fa8dacdf9ff565ea4c4168a47bd418c93", func := "loop.example/g00344/laws.FnExactDiffOf", spec := "fnExactDiffOf", unfollowed := true, recurses := true, apart := false, narrowed := true }
def FnExactDiffOfUptoSaid : Prop := fnExactDiffOfUptoRow.holds Try.pinned (OpenSpec.upto fnExactDiffOfSpec)

/-- 'laws.FnExactConfirmedOf', WHERE WHAT IT READS IS OF BULK AT MOST 1048576: true; the input reads as it did. -/
def fnExactConfirmedOfUptoRow : OpenClaim := { program := "ytmodclnblmoeoaa", sum := "d5e21f194c99a230c88260c6a3e96a9fa8dacdf9ff565ea4c4168a47bd418c93", func := "loop.example/g00344/laws.FnExactConfirmedOf", spec := "fnExactConfirmedOf", unfollowed := true, recurses := true, apart := false, narrowed := true }
def FnExactConfirmedOfUptoSaid : Prop := fnExactConfirmedOfUptoRow.holds Try.pinned (OpenSpec.upto fnExactConfirmedOfSpec)

/-- 'laws.FnExactConfigText', WHERE WHAT IT READS IS OF BULK AT MOST 1048576: true; the input reads as it did. -/
def fnExactConfigTextUptoRow : OpenClaim := { program := "ytmodclnblmoeoaa", sum := "d5e21f194c99a230c88260c6a3e96a9fa8dacdf9ff565ea4c4168a47bd418c93", func := "loop.example/g00344/laws.FnExactConfigText", spec := "fnExactConfigText", inPlace := ["internal/abi.NoEscape", "internal/bytealg.MakeNoZero"], unfollowed := true, recurses := true, apart := false, narrowed := true }
def FnExactConfigTextUptoSaid : Prop := fnExactConfigTextUptoRow.holds Try.pinned (OpenSpec.upto fnExactConfigTextSpec)

/-- 'laws.FnExactSetAt', WHERE WHAT IT READS IS OF BULK AT MOST 1048576: true; the input reads as it did. -/
def fnExactSetAtUptoRow : OpenClaim := { program := "ytmodclnblmoeoaa", sum := "d5e21f194c99a230c88260c6a3e96a9fa8dacdf9ff565ea4c4168a47bd418c93", func := "loop.example/g00344/laws.FnExactSetAt", spec := "fnExactSetAt", inPlace := ["slices.overlaps[loop.example/g00344/impl.Leaf]"], unfollowed := true, recurses := true, apart := false, narrowed := true }
def FnExactSetAtUptoSaid : Prop := fnExactSetAtUptoRow.holds Try.pinned (OpenSpec.upto fnExactSetAtSpec)

/-- 'laws.FnExactPendingOf', WHERE WHAT IT READS IS OF BULK AT MOST 1048576: true; the input reads as it did. -/
def fnExactPendingOfUptoRow : OpenClaim := { program := "ytmodclnblmoeoaa", sum := "d5e21f194c99a230c88260c6a3e96a9fa8dacdf9ff565ea4c4168a47bd418c93", func := "loop.example/g00344/laws.FnExactPendingOf", spec := "fnExactPendingOf", unfollowed := true, recurses := true, apart := false, narrowed := true }
def FnExactPendingOfUptoSaid : Prop := fnExactPendingOfUptoRow.holds Try.pinned (OpenSpec.upto fnExactPendingOfSpec)

/-- 'laws.FnExactReadConfig', WHERE WHAT IT READS IS OF BULK AT MOST 1048576: true; the input reads as it did. -/
def fnExactReadConfigUptoRow : OpenClaim := { program := "ytmodclnblmoeoaa", sum := "d5e21f194c99a230c88260c6a3e96a9fa8dacdf9ff565ea4c4168a47bd418c93", func := "loop.example/g00344/laws.FnExactReadConfig", spec := "fnExactReadConfig", unfollowed := true, recurses := true, apart := false, narrowed := true }
def FnExactReadConfigUptoSaid : Prop := fnExactReadConfigUptoRow.holds Try.pinned (OpenSpec.upto fnExactReadConfigSpec)

/-- 'laws.FnExactDoCommands', WHERE WHAT IT READS IS OF BULK AT MOST 1048576: true; the input reads as it did. -/
def fnExactDoCommandsUptoRow : OpenClaim := { program := "ytmodclnblmoeoaa", sum := "d5e21f194c99a230c88260c6a3e96a9fa8dacdf9ff565ea4c4168a47bd418c93", func := "loop.example/g00344/laws.FnExactDoCommands", spec := "fnExactDoCommands", inPlace := ["slices.overlaps[loop.example/g00344/impl.Leaf]"], unfollowed := true, recurses := true, apart := false, narrowed := true }
def FnExactDoCommandsUptoSaid : Prop := fnExactDoCommandsUptoRow.holds Try.pinned (OpenSpec.upto fnExactDoCommandsSpec)

/-- 'laws.FnExactStepStore', WHERE WHAT IT READS IS OF BULK AT MOST 1048576: true; the input reads as it did. -/
def fnExactStepStoreUptoRow : OpenClaim := { program := "ytmodclnblmoeoaa", sum := "d5e21f194c99a230c88260c6a3e96a9fa8dacdf9ff565ea4c4168a47bd418c93", func := "loop.example/g00344/laws.FnExactStepStore", spec := "fnExactStepStore", inPlace := ["slices.overlaps[loop.example/g00344/impl.Leaf]", "slices.overlaps[[]loop.example/g00344/impl.Leaf]"], unfollowed := true, recurses := true, apart := false, narrowed := true }
def FnExactStepStoreUptoSaid : Prop := fnExactStepStoreUptoRow.holds Try.pinned (OpenSpec.upto fnExactStepStoreSpec)

/-- 'laws.FnExactPlayOps', WHERE WHAT IT READS IS OF BULK AT MOST 1048576: true; the input reads as it did. -/
def fnExactPlayOpsUptoRow : OpenClaim := { program := "ytmodclnblmoeoaa", sum := "d5e21f194c99a230c88260c6a3e96a9fa8dacdf9ff565ea4c4168a47bd418c93", func := "loop.example/g00344/laws.FnExactPlayOps", spec := "fnExactPlayOps", inPlace := ["slices.overlaps[loop.example/g00344/impl.Leaf]", "slices.overlaps[[]loop.example/g00344/impl.Leaf]"], unfollowed := true, recurses := true, apart := false, narrowed := true }
def FnExactPlayOpsUptoSaid : Prop := fnExactPlayOpsUptoRow.holds Try.pinned (OpenSpec.upto fnExactPlayOpsSpec)

end Rows
end Go.Proofs.Ytmodclnblmoeoaa
