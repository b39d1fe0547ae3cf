/- NewDisk of the program answers as the reference's NewDisk does, and its answer owns its memory. No condition: there is no argument. -/
import Derived.Test.YtcogbflcfknbgaaPFnExactNewDiskx4
namespace Go.Proofs.Ytcogbflcfknbgaa.Pure
open Go.RowKit Go.Proofs.Ytcogbflcfknbgaa.PFnExactNewDisk Go.Proofs.YtcogbflcfknbgaaW.PrintWords Go.Proofs.YtcogbflcfknbgaaW.PrintLast

theorem FnExactNewDisk : laws_FnExactNewDisk.Pure := ⟨40, by decide +kernel⟩

end Go.Proofs.Ytcogbflcfknbgaa.Pure
