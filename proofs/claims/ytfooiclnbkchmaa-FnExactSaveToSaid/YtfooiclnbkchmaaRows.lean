/-
  No cell of these rows narrows 'for every input' (looked for: loops, veiled, ifaces, maps, wideKeys, modest, calm, conditions, laid).
  DERIVED. THE GIVEN ROWS OF THIS SEAT. 6 by the template 'for every input the law returns true; each argument reads behind the call as it read before'; 0 by the template 'total and deterministic' (their statements: YtfooiclnbkchmaaTotals.lean).
  GIVEN WITH THE SEED: the statements are not yours to turn. If you find one false, say at which input.
  Laid BY PROGRAM, IN A SANDBOX (cutbox-rows.mjs): the forced cells as the released guide's own fill.sh prints them over the translation 9782493bff5eb967… (all of the seat's roots in one cut). By AI agents, Wed Nov 11 2026. No macro, syntax, notation, axiom, sorry.
-/
import Derived.Test.YtfooiclnbkchmaaChecked
import GoSem.Claim
import GoSem.ClaimJoined
import GoSem.ClaimMapViews
import Derived.JoinedTies
import Derived.KernelRfl
namespace Go.Proofs.Ytfooiclnbkchmaa
/- THE CELL 'sum', in the pinned program and in every row, IS THE sha256 OF THE DUMP (.gsa) THAT YtfooiclnbkchmaaProg.lean LOADS. Nothing in Lean hashes anything: it is a label: what it is worth is what the hold of that sum in a sandbox is worth. -/
noncomputable def Try.pinned : Pinned := { name := "ytfooiclnbkchmaa", sum := "9782493bff5eb967a4e2f394a66d741d3f75acf2cc9445e4c0bde59af8186863", checked := Try.checked }
namespace Rows
def none {H : Type} : Left H := { results := [], args := [] }

/-- 'laws.FnExactLoadFrom': WHATEVER THE INPUT: true; the input reads as it did. -/
def fnExactLoadFromSpec : ChangeSpec := { name := "fnExactLoadFrom", fn := fun _ => fun
  | [d] => { results := [.lit (.bool true)], args := [d] }
  | _ => none }
def fnExactLoadFromRow : OpenClaim := { program := "ytfooiclnbkchmaa", sum := "9782493bff5eb967a4e2f394a66d741d3f75acf2cc9445e4c0bde59af8186863", func := "loop.example/g00344/laws.FnExactLoadFrom", spec := "fnExactLoadFrom", unfollowed := true, recurses := true, apart := false }
def FnExactLoadFromSaid : Prop := fnExactLoadFromRow.holds Try.pinned (OpenSpec.ofChange fnExactLoadFromSpec)

/-- ITS FALSE NEIGHBOUR: 'it returns false'. Refute it at one input. -/
def fnExactLoadFromWrong : ChangeSpec := { name := "fnExactLoadFrom", fn := fun _ => fun
  | [d] => { results := [.lit (.bool false)], args := [d] }
  | _ => none }
def FnExactLoadFromWrongFalsely : Prop := fnExactLoadFromRow.holds Try.pinned (OpenSpec.ofChange fnExactLoadFromWrong)

/-- 'laws.FnExactPlanOf': WHATEVER THE INPUT: true; the input reads as it did. -/
def fnExactPlanOfSpec : ChangeSpec := { name := "fnExactPlanOf", fn := fun _ => fun
  | [d1, d2] => { results := [.lit (.bool true)], args := [d1, d2] }
  | _ => none }
def fnExactPlanOfRow : OpenClaim := { program := "ytfooiclnbkchmaa", sum := "9782493bff5eb967a4e2f394a66d741d3f75acf2cc9445e4c0bde59af8186863", func := "loop.example/g00344/laws.FnExactPlanOf", spec := "fnExactPlanOf", inPlace := ["internal/abi.NoEscape", "internal/bytealg.MakeNoZero"], unfollowed := true, recurses := true, apart := false }
def FnExactPlanOfSaid : Prop := fnExactPlanOfRow.holds Try.pinned (OpenSpec.ofChange fnExactPlanOfSpec)

/-- ITS FALSE NEIGHBOUR: 'it returns false'. Refute it at one input. -/
def fnExactPlanOfWrong : ChangeSpec := { name := "fnExactPlanOf", fn := fun _ => fun
  | [d1, d2] => { results := [.lit (.bool false)], args := [d1, d2] }
  | _ => none }
def FnExactPlanOfWrongFalsely : Prop := fnExactPlanOfRow.holds Try.pinned (OpenSpec.ofChange fnExactPlanOfWrong)

/-- 'laws.FnExactPlaySaves': WHATEVER THE INPUT: true; the input reads as it did. -/
def fnExactPlaySavesSpec : ChangeSpec := { name := "fnExactPlaySaves", fn := fun _ => fun
  | [d1, d2, d3] => { results := [.lit (.bool true)], args := [d1, d2, d3] }
  | _ => none }
def fnExactPlaySavesRow : OpenClaim := { program := "ytfooiclnbkchmaa", sum := "9782493bff5eb967a4e2f394a66d741d3f75acf2cc9445e4c0bde59af8186863", func := "loop.example/g00344/laws.FnExactPlaySaves", spec := "fnExactPlaySaves", inPlace := ["internal/abi.NoEscape", "internal/bytealg.MakeNoZero"], unfollowed := true, recurses := true, apart := false }
def FnExactPlaySavesSaid : Prop := fnExactPlaySavesRow.holds Try.pinned (OpenSpec.ofChange fnExactPlaySavesSpec)

/-- ITS FALSE NEIGHBOUR: 'it returns false'. Refute it at one input. -/
def fnExactPlaySavesWrong : ChangeSpec := { name := "fnExactPlaySaves", fn := fun _ => fun
  | [d1, d2, d3] => { results := [.lit (.bool false)], args := [d1, d2, d3] }
  | _ => none }
def FnExactPlaySavesWrongFalsely : Prop := fnExactPlaySavesRow.holds Try.pinned (OpenSpec.ofChange fnExactPlaySavesWrong)

/-- 'laws.FnExactSaveTo': WHATEVER THE INPUT: true; the input reads as it did. -/
def fnExactSaveToSpec : ChangeSpec := { name := "fnExactSaveTo", fn := fun _ => fun
  | [d1, d2, d3] => { results := [.lit (.bool true)], args := [d1, d2, d3] }
  | _ => none }
def fnExactSaveToRow : OpenClaim := { program := "ytfooiclnbkchmaa", sum := "9782493bff5eb967a4e2f394a66d741d3f75acf2cc9445e4c0bde59af8186863", func := "loop.example/g00344/laws.FnExactSaveTo", spec := "fnExactSaveTo", inPlace := ["internal/abi.NoEscape", "internal/bytealg.MakeNoZero"], unfollowed := true, recurses := true, apart := false }
def FnExactSaveToSaid : Prop := fnExactSaveToRow.holds Try.pinned (OpenSpec.ofChange fnExactSaveToSpec)

/-- ITS FALSE NEIGHBOUR: 'it returns false'. Refute it at one input. -/
def fnExactSaveToWrong : ChangeSpec := { name := "fnExactSaveTo", fn := fun _ => fun
  | [d1, d2, d3] => { results := [.lit (.bool false)], args := [d1, d2, d3] }
  | _ => none }
def FnExactSaveToWrongFalsely : Prop := fnExactSaveToRow.holds Try.pinned (OpenSpec.ofChange fnExactSaveToWrong)

/-- 'laws.FnJournal': WHATEVER THE INPUT: true; the input reads as it did. -/
def fnJournalSpec : ChangeSpec := { name := "fnJournal", fn := fun _ => fun
  | [d] => { results := [.lit (.bool true)], args := [d] }
  | _ => none }
def fnJournalRow : OpenClaim := { program := "ytfooiclnbkchmaa", sum := "9782493bff5eb967a4e2f394a66d741d3f75acf2cc9445e4c0bde59af8186863", func := "loop.example/g00344/laws.FnJournal", spec := "fnJournal", inPlace := ["internal/abi.NoEscape", "internal/bytealg.MakeNoZero"], unfollowed := true, recurses := true, apart := false }
def FnJournalSaid : Prop := fnJournalRow.holds Try.pinned (OpenSpec.ofChange fnJournalSpec)

/-- ITS FALSE NEIGHBOUR: 'it returns false'. Refute it at one input. -/
def fnJournalWrong : ChangeSpec := { name := "fnJournal", fn := fun _ => fun
  | [d] => { results := [.lit (.bool false)], args := [d] }
  | _ => none }
def FnJournalWrongFalsely : Prop := fnJournalRow.holds Try.pinned (OpenSpec.ofChange fnJournalWrong)

/-- 'laws.FnDisk': WHATEVER THE INPUT: true; the input reads as it did. -/
def fnDiskSpec : ChangeSpec := { name := "fnDisk", fn := fun _ => fun
  | [d1, d2] => { results := [.lit (.bool true)], args := [d1, d2] }
  | _ => none }
def fnDiskRow : OpenClaim := { program := "ytfooiclnbkchmaa", sum := "9782493bff5eb967a4e2f394a66d741d3f75acf2cc9445e4c0bde59af8186863", func := "loop.example/g00344/laws.FnDisk", spec := "fnDisk", inPlace := ["internal/abi.NoEscape", "internal/bytealg.MakeNoZero"], unfollowed := true, recurses := true, apart := false }
def FnDiskSaid : Prop := fnDiskRow.holds Try.pinned (OpenSpec.ofChange fnDiskSpec)

/-- ITS FALSE NEIGHBOUR: 'it returns false'. Refute it at one input. -/
def fnDiskWrong : ChangeSpec := { name := "fnDisk", fn := fun _ => fun
  | [d1, d2] => { results := [.lit (.bool false)], args := [d1, d2] }
  | _ => none }
def FnDiskWrongFalsely : Prop := fnDiskRow.holds Try.pinned (OpenSpec.ofChange fnDiskWrong)

/- THE SECOND FORM. 'bulk': how many values and letters a reading holds, each counted each time it is reached (what is shared counts as often as it is met; a slice's spare places count too). A statement '..UptoSaid' is the law's where the arguments, and the package variables that the reading takes, are together of bulk at most 1048576: NARROWER than '..Said'. Prove '..Said' where nothing that the law and all that it calls make is longer than what came in: it says more and counts as full. Else prove '..UptoSaid'. A law counts once. -/
mutual
def uptoBulk {H : Type} : DataW H → Nat
  | .lit (.string bytes) => bytes.length + 1
  | .lit _ => 1
  | .nil => 1
  | .ptr d => uptoBulk d + 1
  | .slice elems spare => uptoBulkAll elems + uptoBulkAll spare + 1
  | .agg parts => uptoBulkAll parts + 1
  | .iface _ d => uptoBulk d + 1
  | .map entries => uptoBulkEntries entries + 1
  | .held _ => 1
def uptoBulkAll {H : Type} : List (DataW H) → Nat
  | [] => 0
  | d :: r => uptoBulk d + uptoBulkAll r
def uptoBulkEntries {H : Type} : List (Lit × DataW H) → Nat
  | [] => 0
  | x :: r => uptoBulkEntry x + uptoBulkEntries r
def uptoBulkEntry {H : Type} : Lit × DataW H → Nat
  | (.string bytes, d) => bytes.length + uptoBulk d + 1
  | (_, d) => uptoBulk d + 1
 end
def uptoSmall : (H : Type) → List (DataW H) → Bool := fun _ ds => decide (uptoBulkAll ds ≤ 1048576)
def OpenSpec.upto (s : _root_.Go.ChangeSpec) : _root_.Go.OpenSpec := { _root_.Go.OpenSpec.ofChange s with cond := some uptoSmall }

/-- 'laws.FnExactLoadFrom', WHERE WHAT IT READS IS OF BULK AT MOST 1048576: true; the input reads as it did. -/
def fnExactLoadFromUptoRow : OpenClaim := { program := "ytfooiclnbkchmaa", sum := "9782493bff5eb967a4e2f394a66d741d3f75acf2cc9445e4c0bde59af8186863", func := "loop.example/g00344/laws.FnExactLoadFrom", spec := "fnExactLoadFrom", unfollowed := true, recurses := true, apart := false, narrowed := true }
def FnExactLoadFromUptoSaid : Prop := fnExactLoadFromUptoRow.holds Try.pinned (OpenSpec.upto fnExactLoadFromSpec)

/-- 'laws.FnExactPlanOf', WHERE WHAT IT READS IS OF BULK AT MOST 1048576: true; the input reads as it did. -/
def fnExactPlanOfUptoRow : OpenClaim := { program := "ytfooiclnbkchmaa", sum := "9782493bff5eb967a4e2f394a66d741d3f75acf2cc9445e4c0bde59af8186863", func := "loop.example/g00344/laws.FnExactPlanOf", spec := "fnExactPlanOf", inPlace := ["internal/abi.NoEscape", "internal/bytealg.MakeNoZero"], unfollowed := true, recurses := true, apart := false, narrowed := true }
def FnExactPlanOfUptoSaid : Prop := fnExactPlanOfUptoRow.holds Try.pinned (OpenSpec.upto fnExactPlanOfSpec)

/-- 'laws.FnExactPlaySaves', WHERE WHAT IT READS IS OF BULK AT MOST 1048576: true; the input reads as it did. -/
def fnExactPlaySavesUptoRow : OpenClaim := { program := "ytfooiclnbkchmaa", sum := "9782493bff5eb967a4e2f394a66d741d3f75acf2cc9445e4c0bde59af8186863", func := "loop.example/g00344/laws.FnExactPlaySaves", spec := "fnExactPlaySaves", inPlace := ["internal/abi.NoEscape", "internal/bytealg.MakeNoZero"], unfollowed := true, recurses := true, apart := false, narrowed := true }
def FnExactPlaySavesUptoSaid : Prop := fnExactPlaySavesUptoRow.holds Try.pinned (OpenSpec.upto fnExactPlaySavesSpec)

/-- 'laws.FnExactSaveTo', WHERE WHAT IT READS IS OF BULK AT MOST 1048576: true; the input reads as it did. -/
def fnExactSaveToUptoRow : OpenClaim := { program := "ytfooiclnbkchmaa", sum := "9782493bff5eb967a4e2f394a66d741d3f75acf2cc9445e4c0bde59af8186863", func := "loop.example/g00344/laws.FnExactSaveTo", spec := "fnExactSaveTo", inPlace := ["internal/abi.NoEscape", "internal/bytealg.MakeNoZero"], unfollowed := true, recurses := true, apart := false, narrowed := true }
def FnExactSaveToUptoSaid : Prop := fnExactSaveToUptoRow.holds Try.pinned (OpenSpec.upto fnExactSaveToSpec)

/-- 'laws.FnJournal', WHERE WHAT IT READS IS OF BULK AT MOST 1048576: true; the input reads as it did. -/
def fnJournalUptoRow : OpenClaim := { program := "ytfooiclnbkchmaa", sum := "9782493bff5eb967a4e2f394a66d741d3f75acf2cc9445e4c0bde59af8186863", func := "loop.example/g00344/laws.FnJournal", spec := "fnJournal", inPlace := ["internal/abi.NoEscape", "internal/bytealg.MakeNoZero"], unfollowed := true, recurses := true, apart := false, narrowed := true }
def FnJournalUptoSaid : Prop := fnJournalUptoRow.holds Try.pinned (OpenSpec.upto fnJournalSpec)

/-- 'laws.FnDisk', WHERE WHAT IT READS IS OF BULK AT MOST 1048576: true; the input reads as it did. -/
def fnDiskUptoRow : OpenClaim := { program := "ytfooiclnbkchmaa", sum := "9782493bff5eb967a4e2f394a66d741d3f75acf2cc9445e4c0bde59af8186863", func := "loop.example/g00344/laws.FnDisk", spec := "fnDisk", inPlace := ["internal/abi.NoEscape", "internal/bytealg.MakeNoZero"], unfollowed := true, recurses := true, apart := false, narrowed := true }
def FnDiskUptoSaid : Prop := fnDiskUptoRow.holds Try.pinned (OpenSpec.upto fnDiskSpec)

end Rows
end Go.Proofs.Ytfooiclnbkchmaa
