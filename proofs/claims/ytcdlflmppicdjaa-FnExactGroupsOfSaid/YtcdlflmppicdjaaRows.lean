/-
  No cell of these rows narrows 'for every input' (looked for: loops, veiled, ifaces, maps, wideKeys, modest, calm, conditions, laid).
  DERIVED. THE GIVEN ROWS OF THIS SEAT. 8 by the template 'for every input the law returns true; each argument reads behind the call as it read before'; 0 by the template 'total and deterministic' (their statements: YtcdlflmppicdjaaTotals.lean).
  GIVEN WITH THE SEED: the statements are not yours to turn. If you find one false, say at which input.
  Laid BY PROGRAM, IN A SANDBOX (cutbox-rows.mjs): the forced cells as the released guide's own fill.sh prints them over the translation e22892a4aed9a56d… (all of the seat's roots in one cut). By AI agents, Wed Nov 11 2026. No macro, syntax, notation, axiom, sorry.
-/
import Derived.Test.YtcdlflmppicdjaaChecked
import GoSem.Claim
import GoSem.ClaimJoined
import GoSem.ClaimMapViews
import Derived.JoinedTies
import Derived.KernelRfl
namespace Go.Proofs.Ytcdlflmppicdjaa
/- THE CELL 'sum', in the pinned program and in every row, IS THE sha256 OF THE DUMP (.gsa) THAT YtcdlflmppicdjaaProg.lean LOADS. Nothing in Lean hashes anything: it is a label: what it is worth is what the hold of that sum in a sandbox is worth. -/
noncomputable def Try.pinned : Pinned := { name := "ytcdlflmppicdjaa", sum := "e22892a4aed9a56d16f48ea280b54adf293404cf14591482d26337e1be88e8c3", checked := Try.checked }
namespace Rows
def none {H : Type} : Left H := { results := [], args := [] }

/-- 'laws.FnExactNewRib': WHATEVER THE INPUT: true; the input reads as it did. -/
def fnExactNewRibSpec : ChangeSpec := { name := "fnExactNewRib", fn := fun _ => fun
  | [d] => { results := [.lit (.bool true)], args := [d] }
  | _ => none }
def fnExactNewRibRow : OpenClaim := { program := "ytcdlflmppicdjaa", sum := "e22892a4aed9a56d16f48ea280b54adf293404cf14591482d26337e1be88e8c3", func := "loop.example/g00344/laws.FnExactNewRib", spec := "fnExactNewRib", apart := false }
def FnExactNewRibSaid : Prop := fnExactNewRibRow.holds Try.pinned (OpenSpec.ofChange fnExactNewRibSpec)

/-- ITS FALSE NEIGHBOUR: 'it returns false'. Refute it at one input. -/
def fnExactNewRibWrong : ChangeSpec := { name := "fnExactNewRib", fn := fun _ => fun
  | [d] => { results := [.lit (.bool false)], args := [d] }
  | _ => none }
def FnExactNewRibWrongFalsely : Prop := fnExactNewRibRow.holds Try.pinned (OpenSpec.ofChange fnExactNewRibWrong)

/-- 'laws.FnExactGoodRoutes': WHATEVER THE INPUT: true; the input reads as it did. -/
def fnExactGoodRoutesSpec : ChangeSpec := { name := "fnExactGoodRoutes", fn := fun _ => fun
  | [d] => { results := [.lit (.bool true)], args := [d] }
  | _ => none }
def fnExactGoodRoutesRow : OpenClaim := { program := "ytcdlflmppicdjaa", sum := "e22892a4aed9a56d16f48ea280b54adf293404cf14591482d26337e1be88e8c3", func := "loop.example/g00344/laws.FnExactGoodRoutes", spec := "fnExactGoodRoutes", unfollowed := true, recurses := true, apart := false }
def FnExactGoodRoutesSaid : Prop := fnExactGoodRoutesRow.holds Try.pinned (OpenSpec.ofChange fnExactGoodRoutesSpec)

/-- ITS FALSE NEIGHBOUR: 'it returns false'. Refute it at one input. -/
def fnExactGoodRoutesWrong : ChangeSpec := { name := "fnExactGoodRoutes", fn := fun _ => fun
  | [d] => { results := [.lit (.bool false)], args := [d] }
  | _ => none }
def FnExactGoodRoutesWrongFalsely : Prop := fnExactGoodRoutesRow.holds Try.pinned (OpenSpec.ofChange fnExactGoodRoutesWrong)

/-- 'laws.FnExactSameRoutes': WHATEVER THE INPUT: true; the input reads as it did. -/
def fnExactSameRoutesSpec : ChangeSpec := { name := "fnExactSameRoutes", fn := fun _ => fun
  | [d1, d2] => { results := [.lit (.bool true)], args := [d1, d2] }
  | _ => none }
def fnExactSameRoutesRow : OpenClaim := { program := "ytcdlflmppicdjaa", sum := "e22892a4aed9a56d16f48ea280b54adf293404cf14591482d26337e1be88e8c3", func := "loop.example/g00344/laws.FnExactSameRoutes", spec := "fnExactSameRoutes", unfollowed := true, recurses := true, apart := false }
def FnExactSameRoutesSaid : Prop := fnExactSameRoutesRow.holds Try.pinned (OpenSpec.ofChange fnExactSameRoutesSpec)

/-- ITS FALSE NEIGHBOUR: 'it returns false'. Refute it at one input. -/
def fnExactSameRoutesWrong : ChangeSpec := { name := "fnExactSameRoutes", fn := fun _ => fun
  | [d1, d2] => { results := [.lit (.bool false)], args := [d1, d2] }
  | _ => none }
def FnExactSameRoutesWrongFalsely : Prop := fnExactSameRoutesRow.holds Try.pinned (OpenSpec.ofChange fnExactSameRoutesWrong)

/-- 'laws.FnExactGoodRib': WHATEVER THE INPUT: true; the input reads as it did. -/
def fnExactGoodRibSpec : ChangeSpec := { name := "fnExactGoodRib", fn := fun _ => fun
  | [d] => { results := [.lit (.bool true)], args := [d] }
  | _ => none }
def fnExactGoodRibRow : OpenClaim := { program := "ytcdlflmppicdjaa", sum := "e22892a4aed9a56d16f48ea280b54adf293404cf14591482d26337e1be88e8c3", func := "loop.example/g00344/laws.FnExactGoodRib", spec := "fnExactGoodRib", unfollowed := true, recurses := true, apart := false }
def FnExactGoodRibSaid : Prop := fnExactGoodRibRow.holds Try.pinned (OpenSpec.ofChange fnExactGoodRibSpec)

/-- ITS FALSE NEIGHBOUR: 'it returns false'. Refute it at one input. -/
def fnExactGoodRibWrong : ChangeSpec := { name := "fnExactGoodRib", fn := fun _ => fun
  | [d] => { results := [.lit (.bool false)], args := [d] }
  | _ => none }
def FnExactGoodRibWrongFalsely : Prop := fnExactGoodRibRow.holds Try.pinned (OpenSpec.ofChange fnExactGoodRibWrong)

/-- 'laws.FnExactGroupsOf': WHATEVER THE INPUT: true; the input reads as it did. -/
def fnExactGroupsOfSpec : ChangeSpec := { name := "fnExactGroupsOf", fn := fun _ => fun
  | [d] => { results := [.lit (.bool true)], args := [d] }
  | _ => none }
def fnExactGroupsOfRow : OpenClaim := { program := "ytcdlflmppicdjaa", sum := "e22892a4aed9a56d16f48ea280b54adf293404cf14591482d26337e1be88e8c3", func := "loop.example/g00344/laws.FnExactGroupsOf", spec := "fnExactGroupsOf", unfollowed := true, recurses := true, apart := false }
def FnExactGroupsOfSaid : Prop := fnExactGroupsOfRow.holds Try.pinned (OpenSpec.ofChange fnExactGroupsOfSpec)

/-- ITS FALSE NEIGHBOUR: 'it returns false'. Refute it at one input. -/
def fnExactGroupsOfWrong : ChangeSpec := { name := "fnExactGroupsOf", fn := fun _ => fun
  | [d] => { results := [.lit (.bool false)], args := [d] }
  | _ => none }
def FnExactGroupsOfWrongFalsely : Prop := fnExactGroupsOfRow.holds Try.pinned (OpenSpec.ofChange fnExactGroupsOfWrong)

/-- 'laws.FnExactHeardFrom': WHATEVER THE INPUT: true; the input reads as it did. -/
def fnExactHeardFromSpec : ChangeSpec := { name := "fnExactHeardFrom", fn := fun _ => fun
  | [d1, d2] => { results := [.lit (.bool true)], args := [d1, d2] }
  | _ => none }
def fnExactHeardFromRow : OpenClaim := { program := "ytcdlflmppicdjaa", sum := "e22892a4aed9a56d16f48ea280b54adf293404cf14591482d26337e1be88e8c3", func := "loop.example/g00344/laws.FnExactHeardFrom", spec := "fnExactHeardFrom", unfollowed := true, recurses := true, apart := false }
def FnExactHeardFromSaid : Prop := fnExactHeardFromRow.holds Try.pinned (OpenSpec.ofChange fnExactHeardFromSpec)

/-- ITS FALSE NEIGHBOUR: 'it returns false'. Refute it at one input. -/
def fnExactHeardFromWrong : ChangeSpec := { name := "fnExactHeardFrom", fn := fun _ => fun
  | [d1, d2] => { results := [.lit (.bool false)], args := [d1, d2] }
  | _ => none }
def FnExactHeardFromWrongFalsely : Prop := fnExactHeardFromRow.holds Try.pinned (OpenSpec.ofChange fnExactHeardFromWrong)

/-- 'laws.FnExactTellFrom': WHATEVER THE INPUT: true; the input reads as it did. -/
def fnExactTellFromSpec : ChangeSpec := { name := "fnExactTellFrom", fn := fun _ => fun
  | [d1, d2] => { results := [.lit (.bool true)], args := [d1, d2] }
  | _ => none }
def fnExactTellFromRow : OpenClaim := { program := "ytcdlflmppicdjaa", sum := "e22892a4aed9a56d16f48ea280b54adf293404cf14591482d26337e1be88e8c3", func := "loop.example/g00344/laws.FnExactTellFrom", spec := "fnExactTellFrom", unfollowed := true, recurses := true, apart := false }
def FnExactTellFromSaid : Prop := fnExactTellFromRow.holds Try.pinned (OpenSpec.ofChange fnExactTellFromSpec)

/-- ITS FALSE NEIGHBOUR: 'it returns false'. Refute it at one input. -/
def fnExactTellFromWrong : ChangeSpec := { name := "fnExactTellFrom", fn := fun _ => fun
  | [d1, d2] => { results := [.lit (.bool false)], args := [d1, d2] }
  | _ => none }
def FnExactTellFromWrongFalsely : Prop := fnExactTellFromRow.holds Try.pinned (OpenSpec.ofChange fnExactTellFromWrong)

/-- 'laws.FnExactHearAll': WHATEVER THE INPUT: true; the input reads as it did. -/
def fnExactHearAllSpec : ChangeSpec := { name := "fnExactHearAll", fn := fun _ => fun
  | [d1, d2] => { results := [.lit (.bool true)], args := [d1, d2] }
  | _ => none }
def fnExactHearAllRow : OpenClaim := { program := "ytcdlflmppicdjaa", sum := "e22892a4aed9a56d16f48ea280b54adf293404cf14591482d26337e1be88e8c3", func := "loop.example/g00344/laws.FnExactHearAll", spec := "fnExactHearAll", inPlace := ["slices.overlaps[loop.example/g00344/impl.Route]"], unfollowed := true, recurses := true, apart := false }
def FnExactHearAllSaid : Prop := fnExactHearAllRow.holds Try.pinned (OpenSpec.ofChange fnExactHearAllSpec)

/-- ITS FALSE NEIGHBOUR: 'it returns false'. Refute it at one input. -/
def fnExactHearAllWrong : ChangeSpec := { name := "fnExactHearAll", fn := fun _ => fun
  | [d1, d2] => { results := [.lit (.bool false)], args := [d1, d2] }
  | _ => none }
def FnExactHearAllWrongFalsely : Prop := fnExactHearAllRow.holds Try.pinned (OpenSpec.ofChange fnExactHearAllWrong)

/- THE SECOND FORM. 'bulk': how many values and letters a reading holds, each counted each time it is reached (what is shared counts as often as it is met; a slice's spare places count too). A statement '..UptoSaid' is the law's where the arguments, and the package variables that the reading takes, are together of bulk at most 1048576: NARROWER than '..Said'. Prove '..Said' where nothing that the law and all that it calls make is longer than what came in: it says more and counts as full. Else prove '..UptoSaid'. A law counts once. -/
mutual
def uptoBulk {H : Type} : DataW H → Nat
  | .lit (.string bytes) => bytes.length + 1
  | .lit _ => 1
  | .nil => 1
  | .ptr d => uptoBulk d + 1
  | .slice elems spare => uptoBulkAll elems + uptoBulkAll spare + 1
  | .agg parts => uptoBulkAll parts + 1
  | .iface _ d => uptoBulk d + 1
  | .map entries => uptoBulkEntries entries + 1
  | .held _ => 1
def uptoBulkAll {H : Type} : List (DataW H) → Nat
  | [] => 0
  | d :: r => uptoBulk d + uptoBulkAll r
def uptoBulkEntries {H : Type} : List (Lit × DataW H) → Nat
  | [] => 0
  | x :: r => uptoBulkEntry x + uptoBulkEntries r
def uptoBulkEntry {H : Type} : Lit × DataW H → Nat
  | (.string bytes, d) => bytes.length + uptoBulk d + 1
  | (_, d) => uptoBulk d + 1
 end
def uptoSmall : (H : Type) → List (DataW H) → Bool := fun _ ds => decide (uptoBulkAll ds ≤ 1048576)
def OpenSpec.upto (s : _root_.Go.ChangeSpec) : _root_.Go.OpenSpec := { _root_.Go.OpenSpec.ofChange s with cond := some uptoSmall }

/-- 'laws.FnExactNewRib', WHERE WHAT IT READS IS OF BULK AT MOST 1048576: true; the input reads as it did. -/
def fnExactNewRibUptoRow : OpenClaim := { program := "ytcdlflmppicdjaa", sum := "e22892a4aed9a56d16f48ea280b54adf293404cf14591482d26337e1be88e8c3", func := "loop.example/g00344/laws.FnExactNewRib", spec := "fnExactNewRib", apart := false, narrowed := true }
def FnExactNewRibUptoSaid : Prop := fnExactNewRibUptoRow.holds Try.pinned (OpenSpec.upto fnExactNewRibSpec)

/-- 'laws.FnExactGoodRoutes', WHERE WHAT IT READS IS OF BULK AT MOST 1048576: true; the input reads as it did. -/
def fnExactGoodRoutesUptoRow : OpenClaim := { program := "ytcdlflmppicdjaa", sum := "e22892a4aed9a56d16f48ea280b54adf293404cf14591482d26337e1be88e8c3", func := "loop.example/g00344/laws.FnExactGoodRoutes", spec := "fnExactGoodRoutes", unfollowed := true, recurses := true, apart := false, narrowed := true }
def FnExactGoodRoutesUptoSaid : Prop := fnExactGoodRoutesUptoRow.holds Try.pinned (OpenSpec.upto fnExactGoodRoutesSpec)

/-- 'laws.FnExactSameRoutes', WHERE WHAT IT READS IS OF BULK AT MOST 1048576: true; the input reads as it did. -/
def fnExactSameRoutesUptoRow : OpenClaim := { program := "ytcdlflmppicdjaa", sum := "e22892a4aed9a56d16f48ea280b54adf293404cf14591482d26337e1be88e8c3", func := "loop.example/g00344/laws.FnExactSameRoutes", spec := "fnExactSameRoutes", unfollowed := true, recurses := true, apart := false, narrowed := true }
def FnExactSameRoutesUptoSaid : Prop := fnExactSameRoutesUptoRow.holds Try.pinned (OpenSpec.upto fnExactSameRoutesSpec)

/-- 'laws.FnExactGoodRib', WHERE WHAT IT READS IS OF BULK AT MOST 1048576: true; the input reads as it did. -/
def fnExactGoodRibUptoRow : OpenClaim := { program := "ytcdlflmppicdjaa", sum := "e22892a4aed9a56d16f48ea280b54adf293404cf14591482d26337e1be88e8c3", func := "loop.example/g00344/laws.FnExactGoodRib", spec := "fnExactGoodRib", unfollowed := true, recurses := true, apart := false, narrowed := true }
def FnExactGoodRibUptoSaid : Prop := fnExactGoodRibUptoRow.holds Try.pinned (OpenSpec.upto fnExactGoodRibSpec)

/-- 'laws.FnExactGroupsOf', WHERE WHAT IT READS IS OF BULK AT MOST 1048576: true; the input reads as it did. -/
def fnExactGroupsOfUptoRow : OpenClaim := { program := "ytcdlflmppicdjaa", sum := "e22892a4aed9a56d16f48ea280b54adf293404cf14591482d26337e1be88e8c3", func := "loop.example/g00344/laws.FnExactGroupsOf", spec := "fnExactGroupsOf", unfollowed := true, recurses := true, apart := false, narrowed := true }
def FnExactGroupsOfUptoSaid : Prop := fnExactGroupsOfUptoRow.holds Try.pinned (OpenSpec.upto fnExactGroupsOfSpec)

/-- 'laws.FnExactHeardFrom', WHERE WHAT IT READS IS OF BULK AT MOST 1048576: true; the input reads as it did. -/
def fnExactHeardFromUptoRow : OpenClaim := { program := "ytcdlflmppicdjaa", sum := "e22892a4aed9a56d16f48ea280b54adf293404cf14591482d26337e1be88e8c3", func := "loop.example/g00344/laws.FnExactHeardFrom", spec := "fnExactHeardFrom", unfollowed := true, recurses := true, apart := false, narrowed := true }
def FnExactHeardFromUptoSaid : Prop := fnExactHeardFromUptoRow.holds Try.pinned (OpenSpec.upto fnExactHeardFromSpec)

/-- 'laws.FnExactTellFrom', WHERE WHAT IT READS IS OF BULK AT MOST 1048576: true; the input reads as it did. -/
def fnExactTellFromUptoRow : OpenClaim := { program := "ytcdlflmppicdjaa", sum := "e22892a4aed9a56d16f48ea280b54adf293404cf14591482d26337e1be88e8c3", func := "loop.example/g00344/laws.FnExactTellFrom", spec := "fnExactTellFrom", unfollowed := true, recurses := true, apart := false, narrowed := true }
def FnExactTellFromUptoSaid : Prop := fnExactTellFromUptoRow.holds Try.pinned (OpenSpec.upto fnExactTellFromSpec)

/-- 'laws.FnExactHearAll', WHERE WHAT IT READS IS OF BULK AT MOST 1048576: true; the input reads as it did. -/
def fnExactHearAllUptoRow : OpenClaim := { program := "ytcdlflmppicdjaa", sum := "e22892a4aed9a56d16f48ea280b54adf293404cf14591482d26337e1be88e8c3", func := "loop.example/g00344/laws.FnExactHearAll", spec := "fnExactHearAll", inPlace := ["slices.overlaps[loop.example/g00344/impl.Route]"], unfollowed := true, recurses := true, apart := false, narrowed := true }
def FnExactHearAllUptoSaid : Prop := fnExactHearAllUptoRow.holds Try.pinned (OpenSpec.upto fnExactHearAllSpec)

end Rows
end Go.Proofs.Ytcdlflmppicdjaa
