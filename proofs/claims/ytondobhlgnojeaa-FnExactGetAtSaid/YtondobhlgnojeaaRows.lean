/-
  No cell of these rows narrows 'for every input' (looked for: loops, veiled, ifaces, maps, wideKeys, modest, calm, conditions, laid).
  DERIVED. THE GIVEN ROWS OF THIS SEAT. 11 by the template 'for every input the law returns true; each argument reads behind the call as it read before'; 0 by the template 'total and deterministic' (their statements: YtondobhlgnojeaaTotals.lean).
  GIVEN WITH THE SEED: the statements are not yours to turn. If you find one false, say at which input.
  Laid BY PROGRAM, IN A SANDBOX (cutbox-rows.mjs): the forced cells as the released guide's own fill.sh prints them over the translation be2949fc7d24f269… (all of the seat's roots in one cut). By AI agents, Wed Nov 11 2026. No macro, syntax, notation, axiom, sorry.
-/
import Derived.Test.YtondobhlgnojeaaChecked
import GoSem.Claim
import GoSem.ClaimJoined
import GoSem.ClaimMapViews
import Derived.JoinedTies
import Derived.KernelRfl
namespace Go.Proofs.Ytondobhlgnojeaa
/- THE CELL 'sum', in the pinned program and in every row, IS THE sha256 OF THE DUMP (.gsa) THAT YtondobhlgnojeaaProg.lean LOADS. Nothing in Lean hashes anything: it is a label: what it is worth is what the hold of that sum in a sandbox is worth. -/
noncomputable def Try.pinned : Pinned := { name := "ytondobhlgnojeaa", sum := "be2949fc7d24f269a873fd9f8f2ce4936523bfb2e6451c318368b2d9d2fc180c", checked := Try.checked }
namespace Rows
def none {H : Type} : Left H := { results := [], args := [] }

/-- 'laws.FnExactCommandText': WHATEVER THE INPUT: true; the input reads as it did. -/
def fnExactCommandTextSpec : ChangeSpec := { name := "fnExactCommandText", fn := fun _ => fun
  | [d] => { results := [.lit (.bool true)], args := [d] }
  | _ => none }
def fnExactCommandTextRow : OpenClaim := { program := "ytondobhlgnojeaa", sum := "be2949fc7d24f269a873fd9f8f2ce4936523bfb2e6451c318368b2d9d2fc180c", func := "loop.example/g00344/laws.FnExactCommandText", spec := "fnExactCommandText", inPlace := ["internal/abi.NoEscape", "internal/bytealg.MakeNoZero"], unfollowed := true, recurses := true, apart := false }
def FnExactCommandTextSaid : Prop := fnExactCommandTextRow.holds Try.pinned (OpenSpec.ofChange fnExactCommandTextSpec)

/-- ITS FALSE NEIGHBOUR: 'it returns false'. Refute it at one input. -/
def fnExactCommandTextWrong : ChangeSpec := { name := "fnExactCommandText", fn := fun _ => fun
  | [d] => { results := [.lit (.bool false)], args := [d] }
  | _ => none }
def FnExactCommandTextWrongFalsely : Prop := fnExactCommandTextRow.holds Try.pinned (OpenSpec.ofChange fnExactCommandTextWrong)

/-- 'laws.FnExactGoodConfig': WHATEVER THE INPUT: true; the input reads as it did. -/
def fnExactGoodConfigSpec : ChangeSpec := { name := "fnExactGoodConfig", fn := fun _ => fun
  | [d] => { results := [.lit (.bool true)], args := [d] }
  | _ => none }
def fnExactGoodConfigRow : OpenClaim := { program := "ytondobhlgnojeaa", sum := "be2949fc7d24f269a873fd9f8f2ce4936523bfb2e6451c318368b2d9d2fc180c", func := "loop.example/g00344/laws.FnExactGoodConfig", spec := "fnExactGoodConfig", unfollowed := true, recurses := true, apart := false }
def FnExactGoodConfigSaid : Prop := fnExactGoodConfigRow.holds Try.pinned (OpenSpec.ofChange fnExactGoodConfigSpec)

/-- ITS FALSE NEIGHBOUR: 'it returns false'. Refute it at one input. -/
def fnExactGoodConfigWrong : ChangeSpec := { name := "fnExactGoodConfig", fn := fun _ => fun
  | [d] => { results := [.lit (.bool false)], args := [d] }
  | _ => none }
def FnExactGoodConfigWrongFalsely : Prop := fnExactGoodConfigRow.holds Try.pinned (OpenSpec.ofChange fnExactGoodConfigWrong)

/-- 'laws.FnExactGetAt': WHATEVER THE INPUT: true; the input reads as it did. -/
def fnExactGetAtSpec : ChangeSpec := { name := "fnExactGetAt", fn := fun _ => fun
  | [d1, d2] => { results := [.lit (.bool true)], args := [d1, d2] }
  | _ => none }
def fnExactGetAtRow : OpenClaim := { program := "ytondobhlgnojeaa", sum := "be2949fc7d24f269a873fd9f8f2ce4936523bfb2e6451c318368b2d9d2fc180c", func := "loop.example/g00344/laws.FnExactGetAt", spec := "fnExactGetAt", unfollowed := true, recurses := true, apart := false }
def FnExactGetAtSaid : Prop := fnExactGetAtRow.holds Try.pinned (OpenSpec.ofChange fnExactGetAtSpec)

/-- ITS FALSE NEIGHBOUR: 'it returns false'. Refute it at one input. -/
def fnExactGetAtWrong : ChangeSpec := { name := "fnExactGetAt", fn := fun _ => fun
  | [d1, d2] => { results := [.lit (.bool false)], args := [d1, d2] }
  | _ => none }
def FnExactGetAtWrongFalsely : Prop := fnExactGetAtRow.holds Try.pinned (OpenSpec.ofChange fnExactGetAtWrong)

/-- 'laws.FnExactUnder': WHATEVER THE INPUT: true; the input reads as it did. -/
def fnExactUnderSpec : ChangeSpec := { name := "fnExactUnder", fn := fun _ => fun
  | [d1, d2] => { results := [.lit (.bool true)], args := [d1, d2] }
  | _ => none }
def fnExactUnderRow : OpenClaim := { program := "ytondobhlgnojeaa", sum := "be2949fc7d24f269a873fd9f8f2ce4936523bfb2e6451c318368b2d9d2fc180c", func := "loop.example/g00344/laws.FnExactUnder", spec := "fnExactUnder", unfollowed := true, recurses := true, apart := false }
def FnExactUnderSaid : Prop := fnExactUnderRow.holds Try.pinned (OpenSpec.ofChange fnExactUnderSpec)

/-- ITS FALSE NEIGHBOUR: 'it returns false'. Refute it at one input. -/
def fnExactUnderWrong : ChangeSpec := { name := "fnExactUnder", fn := fun _ => fun
  | [d1, d2] => { results := [.lit (.bool false)], args := [d1, d2] }
  | _ => none }
def FnExactUnderWrongFalsely : Prop := fnExactUnderRow.holds Try.pinned (OpenSpec.ofChange fnExactUnderWrong)

/-- 'laws.FnExactDeleteAt': WHATEVER THE INPUT: true; the input reads as it did. -/
def fnExactDeleteAtSpec : ChangeSpec := { name := "fnExactDeleteAt", fn := fun _ => fun
  | [d1, d2] => { results := [.lit (.bool true)], args := [d1, d2] }
  | _ => none }
def fnExactDeleteAtRow : OpenClaim := { program := "ytondobhlgnojeaa", sum := "be2949fc7d24f269a873fd9f8f2ce4936523bfb2e6451c318368b2d9d2fc180c", func := "loop.example/g00344/laws.FnExactDeleteAt", spec := "fnExactDeleteAt", unfollowed := true, recurses := true, apart := false }
def FnExactDeleteAtSaid : Prop := fnExactDeleteAtRow.holds Try.pinned (OpenSpec.ofChange fnExactDeleteAtSpec)

/-- ITS FALSE NEIGHBOUR: 'it returns false'. Refute it at one input. -/
def fnExactDeleteAtWrong : ChangeSpec := { name := "fnExactDeleteAt", fn := fun _ => fun
  | [d1, d2] => { results := [.lit (.bool false)], args := [d1, d2] }
  | _ => none }
def FnExactDeleteAtWrongFalsely : Prop := fnExactDeleteAtRow.holds Try.pinned (OpenSpec.ofChange fnExactDeleteAtWrong)

/-- 'laws.FnExactDiffOf': WHATEVER THE INPUT: true; the input reads as it did. -/
def fnExactDiffOfSpec : ChangeSpec := { name := "fnExactDiffOf", fn := fun _ => fun
  | [d1, d2] => { results := [.lit (.bool true)], args := [d1, d2] }
  | _ => none }
def fnExactDiffOfRow : OpenClaim := { program := "ytondobhlgnojeaa", sum := "be2949fc7d24f269a873fd9f8f2ce4936523bfb2e6451c318368b2d9d2fc180c", func := "loop.example/g00344/laws.FnExactDiffOf", spec := "fnExactDiffOf", unfollowed := true, recurses := true, apart := false }
def FnExactDiffOfSaid : Prop := fnExactDiffOfRow.holds Try.pinned (OpenSpec.ofChange fnExactDiffOfSpec)

/-- ITS FALSE NEIGHBOUR: 'it returns false'. Refute it at one input. -/
def fnExactDiffOfWrong : ChangeSpec := { name := "fnExactDiffOf", fn := fun _ => fun
  | [d1, d2] => { results := [.lit (.bool false)], args := [d1, d2] }
  | _ => none }
def FnExactDiffOfWrongFalsely : Prop := fnExactDiffOfRow.holds Try.pinned (OpenSpec.ofChange fnExactDiffOfWrong)

/-- 'laws.FnExactConfigText': WHATEVER THE INPUT: true; the input reads as it did. -/
def fnExactConfigTextSpec : ChangeSpec := { name := "fnExactConfigText", fn := fun _ => fun
  | [d] => { results := [.lit (.bool true)], args := [d] }
  | _ => none }
def fnExactConfigTextRow : OpenClaim := { program := "ytondobhlgnojeaa", sum := "be2949fc7d24f269a873fd9f8f2ce4936523bfb2e6451c318368b2d9d2fc180c", func := "loop.example/g00344/laws.FnExactConfigText", spec := "fnExactConfigText", inPlace := ["internal/abi.NoEscape", "internal/bytealg.MakeNoZero"], unfollowed := true, recurses := true, apart := false }
def FnExactConfigTextSaid : Prop := fnExactConfigTextRow.holds Try.pinned (OpenSpec.ofChange fnExactConfigTextSpec)

/-- ITS FALSE NEIGHBOUR: 'it returns false'. Refute it at one input. -/
def fnExactConfigTextWrong : ChangeSpec := { name := "fnExactConfigText", fn := fun _ => fun
  | [d] => { results := [.lit (.bool false)], args := [d] }
  | _ => none }
def FnExactConfigTextWrongFalsely : Prop := fnExactConfigTextRow.holds Try.pinned (OpenSpec.ofChange fnExactConfigTextWrong)

/-- 'laws.FnExactSetAt': WHATEVER THE INPUT: true; the input reads as it did. -/
def fnExactSetAtSpec : ChangeSpec := { name := "fnExactSetAt", fn := fun _ => fun
  | [d1, d2, d3] => { results := [.lit (.bool true)], args := [d1, d2, d3] }
  | _ => none }
def fnExactSetAtRow : OpenClaim := { program := "ytondobhlgnojeaa", sum := "be2949fc7d24f269a873fd9f8f2ce4936523bfb2e6451c318368b2d9d2fc180c", func := "loop.example/g00344/laws.FnExactSetAt", spec := "fnExactSetAt", inPlace := ["slices.overlaps[loop.example/g00344/impl.Leaf]"], unfollowed := true, recurses := true, apart := false }
def FnExactSetAtSaid : Prop := fnExactSetAtRow.holds Try.pinned (OpenSpec.ofChange fnExactSetAtSpec)

/-- ITS FALSE NEIGHBOUR: 'it returns false'. Refute it at one input. -/
def fnExactSetAtWrong : ChangeSpec := { name := "fnExactSetAt", fn := fun _ => fun
  | [d1, d2, d3] => { results := [.lit (.bool false)], args := [d1, d2, d3] }
  | _ => none }
def FnExactSetAtWrongFalsely : Prop := fnExactSetAtRow.holds Try.pinned (OpenSpec.ofChange fnExactSetAtWrong)

/-- 'laws.FnExactReadConfig': WHATEVER THE INPUT: true; the input reads as it did. -/
def fnExactReadConfigSpec : ChangeSpec := { name := "fnExactReadConfig", fn := fun _ => fun
  | [d] => { results := [.lit (.bool true)], args := [d] }
  | _ => none }
def fnExactReadConfigRow : OpenClaim := { program := "ytondobhlgnojeaa", sum := "be2949fc7d24f269a873fd9f8f2ce4936523bfb2e6451c318368b2d9d2fc180c", func := "loop.example/g00344/laws.FnExactReadConfig", spec := "fnExactReadConfig", unfollowed := true, recurses := true, apart := false }
def FnExactReadConfigSaid : Prop := fnExactReadConfigRow.holds Try.pinned (OpenSpec.ofChange fnExactReadConfigSpec)

/-- ITS FALSE NEIGHBOUR: 'it returns false'. Refute it at one input. -/
def fnExactReadConfigWrong : ChangeSpec := { name := "fnExactReadConfig", fn := fun _ => fun
  | [d] => { results := [.lit (.bool false)], args := [d] }
  | _ => none }
def FnExactReadConfigWrongFalsely : Prop := fnExactReadConfigRow.holds Try.pinned (OpenSpec.ofChange fnExactReadConfigWrong)

/-- 'laws.FnExactDoCommands': WHATEVER THE INPUT: true; the input reads as it did. -/
def fnExactDoCommandsSpec : ChangeSpec := { name := "fnExactDoCommands", fn := fun _ => fun
  | [d1, d2] => { results := [.lit (.bool true)], args := [d1, d2] }
  | _ => none }
def fnExactDoCommandsRow : OpenClaim := { program := "ytondobhlgnojeaa", sum := "be2949fc7d24f269a873fd9f8f2ce4936523bfb2e6451c318368b2d9d2fc180c", func := "loop.example/g00344/laws.FnExactDoCommands", spec := "fnExactDoCommands", inPlace := ["slices.overlaps[loop.example/g00344/impl.Leaf]"], unfollowed := true, recurses := true, apart := false }
def FnExactDoCommandsSaid : Prop := fnExactDoCommandsRow.holds Try.pinned (OpenSpec.ofChange fnExactDoCommandsSpec)

/-- ITS FALSE NEIGHBOUR: 'it returns false'. Refute it at one input. -/
def fnExactDoCommandsWrong : ChangeSpec := { name := "fnExactDoCommands", fn := fun _ => fun
  | [d1, d2] => { results := [.lit (.bool false)], args := [d1, d2] }
  | _ => none }
def FnExactDoCommandsWrongFalsely : Prop := fnExactDoCommandsRow.holds Try.pinned (OpenSpec.ofChange fnExactDoCommandsWrong)

/-- 'laws.FnDiff': WHATEVER THE INPUT: true; the input reads as it did. -/
def fnDiffSpec : ChangeSpec := { name := "fnDiff", fn := fun _ => fun
  | [d1, d2] => { results := [.lit (.bool true)], args := [d1, d2] }
  | _ => none }
def fnDiffRow : OpenClaim := { program := "ytondobhlgnojeaa", sum := "be2949fc7d24f269a873fd9f8f2ce4936523bfb2e6451c318368b2d9d2fc180c", func := "loop.example/g00344/laws.FnDiff", spec := "fnDiff", inPlace := ["slices.overlaps[loop.example/g00344/impl.Leaf]", "internal/abi.NoEscape", "internal/bytealg.MakeNoZero"], unfollowed := true, recurses := true, apart := false }
def FnDiffSaid : Prop := fnDiffRow.holds Try.pinned (OpenSpec.ofChange fnDiffSpec)

/-- ITS FALSE NEIGHBOUR: 'it returns false'. Refute it at one input. -/
def fnDiffWrong : ChangeSpec := { name := "fnDiff", fn := fun _ => fun
  | [d1, d2] => { results := [.lit (.bool false)], args := [d1, d2] }
  | _ => none }
def FnDiffWrongFalsely : Prop := fnDiffRow.holds Try.pinned (OpenSpec.ofChange fnDiffWrong)

/- THE SECOND FORM. 'bulk': how many values and letters a reading holds, each counted each time it is reached (what is shared counts as often as it is met; a slice's spare places count too). A statement '..UptoSaid' is the law's where the arguments, and the package variables that the reading takes, are together of bulk at most 1048576: NARROWER than '..Said'. Prove '..Said' where nothing that the law and all that it calls make is longer than what came in: it says more and counts as full. Else prove '..UptoSaid'. A law counts once. -/
mutual
def uptoBulk {H : Type} : DataW H → Nat
  | .lit (.string bytes) => bytes.length + 1
  | .lit _ => 1
  | .nil => 1
  | .ptr d => uptoBulk d + 1
  | .slice elems spare => uptoBulkAll elems + uptoBulkAll spare + 1
  | .agg parts => uptoBulkAll parts + 1
  | .iface _ d => uptoBulk d + 1
  | .map entries => uptoBulkEntries entries + 1
  | .held _ => 1
def uptoBulkAll {H : Type} : List (DataW H) → Nat
  | [] => 0
  | d :: r => uptoBulk d + uptoBulkAll r
def uptoBulkEntries {H : Type} : List (Lit × DataW H) → Nat
  | [] => 0
  | x :: r => uptoBulkEntry x + uptoBulkEntries r
def uptoBulkEntry {H : Type} : Lit × DataW H → Nat
  | (.string bytes, d) => bytes.length + uptoBulk d + 1
  | (_, d) => uptoBulk d + 1
 end
def uptoSmall : (H : Type) → List (DataW H) → Bool := fun _ ds => decide (uptoBulkAll ds ≤ 1048576)
def OpenSpec.upto (s : _root_.Go.ChangeSpec) : _root_.Go.OpenSpec := { _root_.Go.OpenSpec.ofChange s with cond := some uptoSmall }

/-- 'laws.FnExactCommandText', WHERE WHAT IT READS IS OF BULK AT MOST 1048576: true; the input reads as it did. -/
def fnExactCommandTextUptoRow : OpenClaim := { program := "ytondobhlgnojeaa", sum := "be2949fc7d24f269a873fd9f8f2ce4936523bfb2e6451c318368b2d9d2fc180c", func := "loop.example/g00344/laws.FnExactCommandText", spec := "fnExactCommandText", inPlace := ["internal/abi.NoEscape", "internal/bytealg.MakeNoZero"], unfollowed := true, recurses := true, apart := false, narrowed := true }
def FnExactCommandTextUptoSaid : Prop := fnExactCommandTextUptoRow.holds Try.pinned (OpenSpec.upto fnExactCommandTextSpec)

/-- 'laws.FnExactGoodConfig', WHERE WHAT IT READS IS OF BULK AT MOST 1048576: true; the input reads as it did. -/
def fnExactGoodConfigUptoRow : OpenClaim := { program := "ytondobhlgnojeaa", sum := "be2949fc7d24f269a873fd9f8f2ce4936523bfb2e6451c318368b2d9d2fc180c", func := "loop.example/g00344/laws.FnExactGoodConfig", spec := "fnExactGoodConfig", unfollowed := true, recurses := true, apart := false, narrowed := true }
def FnExactGoodConfigUptoSaid : Prop := fnExactGoodConfigUptoRow.holds Try.pinned (OpenSpec.upto fnExactGoodConfigSpec)

/-- 'laws.FnExactGetAt', WHERE WHAT IT READS IS OF BULK AT MOST 1048576: true; the input reads as it did. -/
def fnExactGetAtUptoRow : OpenClaim := { program := "ytondobhlgnojeaa", sum := "be2949fc7d24f269a873fd9f8f2ce4936523bfb2e6451c318368b2d9d2fc180c", func := "loop.example/g00344/laws.FnExactGetAt", spec := "fnExactGetAt", unfollowed := true, recurses := true, apart := false, narrowed := true }
def FnExactGetAtUptoSaid : Prop := fnExactGetAtUptoRow.holds Try.pinned (OpenSpec.upto fnExactGetAtSpec)

/-- 'laws.FnExactUnder', WHERE WHAT IT READS IS OF BULK AT MOST 1048576: true; the input reads as it did. -/
def fnExactUnderUptoRow : OpenClaim := { program := "ytondobhlgnojeaa", sum := "be2949fc7d24f269a873fd9f8f2ce4936523bfb2e6451c318368b2d9d2fc180c", func := "loop.example/g00344/laws.FnExactUnder", spec := "fnExactUnder", unfollowed := true, recurses := true, apart := false, narrowed := true }
def FnExactUnderUptoSaid : Prop := fnExactUnderUptoRow.holds Try.pinned (OpenSpec.upto fnExactUnderSpec)

/-- 'laws.FnExactDeleteAt', WHERE WHAT IT READS IS OF BULK AT MOST 1048576: true; the input reads as it did. -/
def fnExactDeleteAtUptoRow : OpenClaim := { program := "ytondobhlgnojeaa", sum := "be2949fc7d24f269a873fd9f8f2ce4936523bfb2e6451c318368b2d9d2fc180c", func := "loop.example/g00344/laws.FnExactDeleteAt", spec := "fnExactDeleteAt", unfollowed := true, recurses := true, apart := false, narrowed := true }
def FnExactDeleteAtUptoSaid : Prop := fnExactDeleteAtUptoRow.holds Try.pinned (OpenSpec.upto fnExactDeleteAtSpec)

/-- 'laws.FnExactDiffOf', WHERE WHAT IT READS IS OF BULK AT MOST 1048576: true; the input reads as it did. -/
def fnExactDiffOfUptoRow : OpenClaim := { program := "ytondobhlgnojeaa", sum := "be2949fc7d24f269a873fd9f8f2ce4936523bfb2e6451c318368b2d9d2fc180c", func := "loop.example/g00344/laws.FnExactDiffOf", spec := "fnExactDiffOf", unfollowed := true, recurses := true, apart := false, narrowed := true }
def FnExactDiffOfUptoSaid : Prop := fnExactDiffOfUptoRow.holds Try.pinned (OpenSpec.upto fnExactDiffOfSpec)

/-- 'laws.FnExactConfigText', WHERE WHAT IT READS IS OF BULK AT MOST 1048576: true; the input reads as it did. -/
def fnExactConfigTextUptoRow : OpenClaim := { program := "ytondobhlgnojeaa", sum := "be2949fc7d24f269a873fd9f8f2ce4936523bfb2e6451c318368b2d9d2fc180c", func := "loop.example/g00344/laws.FnExactConfigText", spec := "fnExactConfigText", inPlace := ["internal/abi.NoEscape", "internal/bytealg.MakeNoZero"], unfollowed := true, recurses := true, apart := false, narrowed := true }
def FnExactConfigTextUptoSaid : Prop := fnExactConfigTextUptoRow.holds Try.pinned (OpenSpec.upto fnExactConfigTextSpec)

/-- 'laws.FnExactSetAt', WHERE WHAT IT READS IS OF BULK AT MOST 1048576: true; the input reads as it did. -/
def fnExactSetAtUptoRow : OpenClaim := { program := "ytondobhlgnojeaa", sum := "be2949fc7d24f269a873fd9f8f2ce4936523bfb2e6451c318368b2d9d2fc180c", func := "loop.example/g00344/laws.FnExactSetAt", spec := "fnExactSetAt", inPlace := ["slices.overlaps[loop.example/g00344/impl.Leaf]"], unfollowed := true, recurses := true, apart := false, narrowed := true }
def FnExactSetAtUptoSaid : Prop := fnExactSetAtUptoRow.holds Try.pinned (OpenSpec.upto fnExactSetAtSpec)

/-- 'laws.FnExactReadConfig', WHERE WHAT IT READS IS OF BULK AT MOST 1048576: true; the input reads as it did. -/
def fnExactReadConfigUptoRow : OpenClaim := { program := "ytondobhlgnojeaa", sum := "be2949fc7d24f269a873fd9f8f2ce4936523bfb2e6451c318368b2d9d2fc180c", func := "loop.example/g00344/laws.FnExactReadConfig", spec := "fnExactReadConfig", unfollowed := true, recurses := true, apart := false, narrowed := true }
def FnExactReadConfigUptoSaid : Prop := fnExactReadConfigUptoRow.holds Try.pinned (OpenSpec.upto fnExactReadConfigSpec)

/-- 'laws.FnExactDoCommands', WHERE WHAT IT READS IS OF BULK AT MOST 1048576: true; the input reads as it did. -/
def fnExactDoCommandsUptoRow : OpenClaim := { program := "ytondobhlgnojeaa", sum := "be2949fc7d24f269a873fd9f8f2ce4936523bfb2e6451c318368b2d9d2fc180c", func := "loop.example/g00344/laws.FnExactDoCommands", spec := "fnExactDoCommands", inPlace := ["slices.overlaps[loop.example/g00344/impl.Leaf]"], unfollowed := true, recurses := true, apart := false, narrowed := true }
def FnExactDoCommandsUptoSaid : Prop := fnExactDoCommandsUptoRow.holds Try.pinned (OpenSpec.upto fnExactDoCommandsSpec)

/-- 'laws.FnDiff', WHERE WHAT IT READS IS OF BULK AT MOST 1048576: true; the input reads as it did. -/
def fnDiffUptoRow : OpenClaim := { program := "ytondobhlgnojeaa", sum := "be2949fc7d24f269a873fd9f8f2ce4936523bfb2e6451c318368b2d9d2fc180c", func := "loop.example/g00344/laws.FnDiff", spec := "fnDiff", inPlace := ["slices.overlaps[loop.example/g00344/impl.Leaf]", "internal/abi.NoEscape", "internal/bytealg.MakeNoZero"], unfollowed := true, recurses := true, apart := false, narrowed := true }
def FnDiffUptoSaid : Prop := fnDiffUptoRow.holds Try.pinned (OpenSpec.upto fnDiffSpec)

end Rows
end Go.Proofs.Ytondobhlgnojeaa
