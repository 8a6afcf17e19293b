/- Closed facts of the row, part 2; laid by mkf.py. -/
import Derived.Test.YtkgiopdkhhinoaaGreatDoorRows
import Derived.Stop.Joined
import Derived.ProofKit
namespace Go.Qu
open Go.Proofs
open Go.Proofs.YtkgiopdkhhinoaaGreatDoor
theorem jf9 : ((Rows.evalPrimsRow.inPlace == Tryz.prog.inPlace 3)) = true := by kernel_rfl
end Go.Qu
