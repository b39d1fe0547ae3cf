/-
  No cell of these rows narrows 'for every input' (looked for: loops, veiled, ifaces, maps, wideKeys, modest, calm, conditions, laid).
  DERIVED. THE GIVEN ROWS OF THIS SEAT. 6 by the template 'for every input the law returns true; each argument reads behind the call as it read before'; 0 by the template 'total and deterministic' (their statements: YtcogbflcfknbgaaTotals.lean).
  GIVEN WITH THE SEED: the statements are not yours to turn. If you find one false, say at which input.
  Laid BY PROGRAM, IN A SANDBOX (cutbox-rows.mjs): the forced cells as the released guide's own fill.sh prints them over the translation 71432788c259fabe… (all of the seat's roots in one cut). By AI agents, Wed Nov 11 2026. No macro, syntax, notation, axiom, sorry.
-/
import Derived.Test.YtcogbflcfknbgaaChecked
import GoSem.Claim
import GoSem.ClaimJoined
import GoSem.ClaimMapViews
import Derived.JoinedTies
import Derived.KernelRfl
namespace Go.Proofs.Ytcogbflcfknbgaa
/- THE CELL 'sum', in the pinned program and in every row, IS THE sha256 OF THE DUMP (.gsa) THAT YtcogbflcfknbgaaProg.lean LOADS. Nothing in Lean hashes anything: it is a label: what it is worth is what the hold of that sum in a sandbox is worth. -/
noncomputable def Try.pinned : Pinned := { name := "ytcogbflcfknbgaa", sum := "71432788c259fabe5c4920891638228c350e1e98e8752237a607a69f5309375a", checked := Try.checked }
namespace Rows
def none {H : Type} : Left H := { results := [], args := [] }

/-- 'laws.FnExactSealOf': WHATEVER THE INPUT: true; the input reads as it did. -/
def fnExactSealOfSpec : ChangeSpec := { name := "fnExactSealOf", fn := fun _ => fun
  | [d] => { results := [.lit (.bool true)], args := [d] }
  | _ => none }
def fnExactSealOfRow : OpenClaim := { program := "ytcogbflcfknbgaa", sum := "71432788c259fabe5c4920891638228c350e1e98e8752237a607a69f5309375a", func := "loop.example/g00344/laws.FnExactSealOf", spec := "fnExactSealOf", apart := false }
def FnExactSealOfSaid : Prop := fnExactSealOfRow.holds Try.pinned (OpenSpec.ofChange fnExactSealOfSpec)

/-- ITS FALSE NEIGHBOUR: 'it returns false'. Refute it at one input. -/
def fnExactSealOfWrong : ChangeSpec := { name := "fnExactSealOf", fn := fun _ => fun
  | [d] => { results := [.lit (.bool false)], args := [d] }
  | _ => none }
def FnExactSealOfWrongFalsely : Prop := fnExactSealOfRow.holds Try.pinned (OpenSpec.ofChange fnExactSealOfWrong)

/-- 'laws.FnExactUnseal': WHATEVER THE INPUT: true; the input reads as it did. -/
def fnExactUnsealSpec : ChangeSpec := { name := "fnExactUnseal", fn := fun _ => fun
  | [d] => { results := [.lit (.bool true)], args := [d] }
  | _ => none }
def fnExactUnsealRow : OpenClaim := { program := "ytcogbflcfknbgaa", sum := "71432788c259fabe5c4920891638228c350e1e98e8752237a607a69f5309375a", func := "loop.example/g00344/laws.FnExactUnseal", spec := "fnExactUnseal", apart := false }
def FnExactUnsealSaid : Prop := fnExactUnsealRow.holds Try.pinned (OpenSpec.ofChange fnExactUnsealSpec)

/-- ITS FALSE NEIGHBOUR: 'it returns false'. Refute it at one input. -/
def fnExactUnsealWrong : ChangeSpec := { name := "fnExactUnseal", fn := fun _ => fun
  | [d] => { results := [.lit (.bool false)], args := [d] }
  | _ => none }
def FnExactUnsealWrongFalsely : Prop := fnExactUnsealRow.holds Try.pinned (OpenSpec.ofChange fnExactUnsealWrong)

/-- 'laws.FnExactNewDisk': WHATEVER THE INPUT: true; the input reads as it did. -/
def fnExactNewDiskSpec : ChangeSpec := { name := "fnExactNewDisk", fn := fun _ => fun
  | [] => { results := [.lit (.bool true)], args := [] }
  | _ => none }
def fnExactNewDiskRow : OpenClaim := { program := "ytcogbflcfknbgaa", sum := "71432788c259fabe5c4920891638228c350e1e98e8752237a607a69f5309375a", func := "loop.example/g00344/laws.FnExactNewDisk", spec := "fnExactNewDisk", apart := false }
def FnExactNewDiskSaid : Prop := fnExactNewDiskRow.holds Try.pinned (OpenSpec.ofChange fnExactNewDiskSpec)

/-- ITS FALSE NEIGHBOUR: 'it returns false'. Refute it at one input. -/
def fnExactNewDiskWrong : ChangeSpec := { name := "fnExactNewDisk", fn := fun _ => fun
  | [] => { results := [.lit (.bool false)], args := [] }
  | _ => none }
def FnExactNewDiskWrongFalsely : Prop := fnExactNewDiskRow.holds Try.pinned (OpenSpec.ofChange fnExactNewDiskWrong)

/-- 'laws.FnExactGoodDisk': WHATEVER THE INPUT: true; the input reads as it did. -/
def fnExactGoodDiskSpec : ChangeSpec := { name := "fnExactGoodDisk", fn := fun _ => fun
  | [d] => { results := [.lit (.bool true)], args := [d] }
  | _ => none }
def fnExactGoodDiskRow : OpenClaim := { program := "ytcogbflcfknbgaa", sum := "71432788c259fabe5c4920891638228c350e1e98e8752237a607a69f5309375a", func := "loop.example/g00344/laws.FnExactGoodDisk", spec := "fnExactGoodDisk", unfollowed := true, recurses := true, apart := false }
def FnExactGoodDiskSaid : Prop := fnExactGoodDiskRow.holds Try.pinned (OpenSpec.ofChange fnExactGoodDiskSpec)

/-- ITS FALSE NEIGHBOUR: 'it returns false'. Refute it at one input. -/
def fnExactGoodDiskWrong : ChangeSpec := { name := "fnExactGoodDisk", fn := fun _ => fun
  | [d] => { results := [.lit (.bool false)], args := [d] }
  | _ => none }
def FnExactGoodDiskWrongFalsely : Prop := fnExactGoodDiskRow.holds Try.pinned (OpenSpec.ofChange fnExactGoodDiskWrong)

/-- 'laws.FnExactNewStore': WHATEVER THE INPUT: true; the input reads as it did. -/
def fnExactNewStoreSpec : ChangeSpec := { name := "fnExactNewStore", fn := fun _ => fun
  | [] => { results := [.lit (.bool true)], args := [] }
  | _ => none }
def fnExactNewStoreRow : OpenClaim := { program := "ytcogbflcfknbgaa", sum := "71432788c259fabe5c4920891638228c350e1e98e8752237a607a69f5309375a", func := "loop.example/g00344/laws.FnExactNewStore", spec := "fnExactNewStore", apart := false }
def FnExactNewStoreSaid : Prop := fnExactNewStoreRow.holds Try.pinned (OpenSpec.ofChange fnExactNewStoreSpec)

/-- ITS FALSE NEIGHBOUR: 'it returns false'. Refute it at one input. -/
def fnExactNewStoreWrong : ChangeSpec := { name := "fnExactNewStore", fn := fun _ => fun
  | [] => { results := [.lit (.bool false)], args := [] }
  | _ => none }
def FnExactNewStoreWrongFalsely : Prop := fnExactNewStoreRow.holds Try.pinned (OpenSpec.ofChange fnExactNewStoreWrong)

/-- 'laws.FnExactCommandText': WHATEVER THE INPUT: true; the input reads as it did. -/
def fnExactCommandTextSpec : ChangeSpec := { name := "fnExactCommandText", fn := fun _ => fun
  | [d] => { results := [.lit (.bool true)], args := [d] }
  | _ => none }
def fnExactCommandTextRow : OpenClaim := { program := "ytcogbflcfknbgaa", sum := "71432788c259fabe5c4920891638228c350e1e98e8752237a607a69f5309375a", func := "loop.example/g00344/laws.FnExactCommandText", spec := "fnExactCommandText", inPlace := ["internal/abi.NoEscape", "internal/bytealg.MakeNoZero"], unfollowed := true, recurses := true, apart := false }
def FnExactCommandTextSaid : Prop := fnExactCommandTextRow.holds Try.pinned (OpenSpec.ofChange fnExactCommandTextSpec)

/-- ITS FALSE NEIGHBOUR: 'it returns false'. Refute it at one input. -/
def fnExactCommandTextWrong : ChangeSpec := { name := "fnExactCommandText", fn := fun _ => fun
  | [d] => { results := [.lit (.bool false)], args := [d] }
  | _ => none }
def FnExactCommandTextWrongFalsely : Prop := fnExactCommandTextRow.holds Try.pinned (OpenSpec.ofChange fnExactCommandTextWrong)

/- THE SECOND FORM. 'bulk': how many values and letters a reading holds, each counted each time it is reached (what is shared counts as often as it is met; a slice's spare places count too). A statement '..UptoSaid' is the law's where the arguments, and the package variables that the reading takes, are together of bulk at most 1048576: NARROWER than '..Said'. Prove '..Said' where nothing that the law and all that it calls make is longer than what came in: it says more and counts as full. Else prove '..UptoSaid'. A law counts once. -/
mutual
def uptoBulk {H : Type} : DataW H → Nat
  | .lit (.string bytes) => bytes.length + 1
  | .lit _ => 1
  | .nil => 1
  | .ptr d => uptoBulk d + 1
  | .slice elems spare => uptoBulkAll elems + uptoBulkAll spare + 1
  | .agg parts => uptoBulkAll parts + 1
  | .iface _ d => uptoBulk d + 1
  | .map entries => uptoBulkEntries entries + 1
  | .held _ => 1
def uptoBulkAll {H : Type} : List (DataW H) → Nat
  | [] => 0
  | d :: r => uptoBulk d + uptoBulkAll r
def uptoBulkEntries {H : Type} : List (Lit × DataW H) → Nat
  | [] => 0
  | x :: r => uptoBulkEntry x + uptoBulkEntries r
def uptoBulkEntry {H : Type} : Lit × DataW H → Nat
  | (.string bytes, d) => bytes.length + uptoBulk d + 1
  | (_, d) => uptoBulk d + 1
 end
def uptoSmall : (H : Type) → List (DataW H) → Bool := fun _ ds => decide (uptoBulkAll ds ≤ 1048576)
def OpenSpec.upto (s : _root_.Go.ChangeSpec) : _root_.Go.OpenSpec := { _root_.Go.OpenSpec.ofChange s with cond := some uptoSmall }

/-- 'laws.FnExactSealOf', WHERE WHAT IT READS IS OF BULK AT MOST 1048576: true; the input reads as it did. -/
def fnExactSealOfUptoRow : OpenClaim := { program := "ytcogbflcfknbgaa", sum := "71432788c259fabe5c4920891638228c350e1e98e8752237a607a69f5309375a", func := "loop.example/g00344/laws.FnExactSealOf", spec := "fnExactSealOf", apart := false, narrowed := true }
def FnExactSealOfUptoSaid : Prop := fnExactSealOfUptoRow.holds Try.pinned (OpenSpec.upto fnExactSealOfSpec)

/-- 'laws.FnExactUnseal', WHERE WHAT IT READS IS OF BULK AT MOST 1048576: true; the input reads as it did. -/
def fnExactUnsealUptoRow : OpenClaim := { program := "ytcogbflcfknbgaa", sum := "71432788c259fabe5c4920891638228c350e1e98e8752237a607a69f5309375a", func := "loop.example/g00344/laws.FnExactUnseal", spec := "fnExactUnseal", apart := false, narrowed := true }
def FnExactUnsealUptoSaid : Prop := fnExactUnsealUptoRow.holds Try.pinned (OpenSpec.upto fnExactUnsealSpec)

/-- 'laws.FnExactNewDisk', WHERE WHAT IT READS IS OF BULK AT MOST 1048576: true; the input reads as it did. -/
def fnExactNewDiskUptoRow : OpenClaim := { program := "ytcogbflcfknbgaa", sum := "71432788c259fabe5c4920891638228c350e1e98e8752237a607a69f5309375a", func := "loop.example/g00344/laws.FnExactNewDisk", spec := "fnExactNewDisk", apart := false, narrowed := true }
def FnExactNewDiskUptoSaid : Prop := fnExactNewDiskUptoRow.holds Try.pinned (OpenSpec.upto fnExactNewDiskSpec)

/-- 'laws.FnExactGoodDisk', WHERE WHAT IT READS IS OF BULK AT MOST 1048576: true; the input reads as it did. -/
def fnExactGoodDiskUptoRow : OpenClaim := { program := "ytcogbflcfknbgaa", sum := "71432788c259fabe5c4920891638228c350e1e98e8752237a607a69f5309375a", func := "loop.example/g00344/laws.FnExactGoodDisk", spec := "fnExactGoodDisk", unfollowed := true, recurses := true, apart := false, narrowed := true }
def FnExactGoodDiskUptoSaid : Prop := fnExactGoodDiskUptoRow.holds Try.pinned (OpenSpec.upto fnExactGoodDiskSpec)

/-- 'laws.FnExactNewStore', WHERE WHAT IT READS IS OF BULK AT MOST 1048576: true; the input reads as it did. -/
def fnExactNewStoreUptoRow : OpenClaim := { program := "ytcogbflcfknbgaa", sum := "71432788c259fabe5c4920891638228c350e1e98e8752237a607a69f5309375a", func := "loop.example/g00344/laws.FnExactNewStore", spec := "fnExactNewStore", apart := false, narrowed := true }
def FnExactNewStoreUptoSaid : Prop := fnExactNewStoreUptoRow.holds Try.pinned (OpenSpec.upto fnExactNewStoreSpec)

/-- 'laws.FnExactCommandText', WHERE WHAT IT READS IS OF BULK AT MOST 1048576: true; the input reads as it did. -/
def fnExactCommandTextUptoRow : OpenClaim := { program := "ytcogbflcfknbgaa", sum := "71432788c259fabe5c4920891638228c350e1e98e8752237a607a69f5309375a", func := "loop.example/g00344/laws.FnExactCommandText", spec := "fnExactCommandText", inPlace := ["internal/abi.NoEscape", "internal/bytealg.MakeNoZero"], unfollowed := true, recurses := true, apart := false, narrowed := true }
def FnExactCommandTextUptoSaid : Prop := fnExactCommandTextUptoRow.holds Try.pinned (OpenSpec.upto fnExactCommandTextSpec)

end Rows
end Go.Proofs.Ytcogbflcfknbgaa
