/- Closed facts of the row, part 4; laid by mkf.py. -/
import Derived.Test.YtkgiopdkhhinoaaGreatDoorRows
import Derived.Stop.Joined
import Derived.ProofKit
namespace Go.Qu
open Go.Proofs
open Go.Proofs.YtkgiopdkhhinoaaGreatDoor
theorem jf11 : ((Rows.evalPrimsRow.recurses == Tryz.prog.recurses 3)) = true := by kernel_rfl
end Go.Qu
