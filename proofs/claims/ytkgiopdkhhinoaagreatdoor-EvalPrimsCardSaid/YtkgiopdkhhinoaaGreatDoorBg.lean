/- Closed facts of the row, part 5; laid by mkf.py. -/
import Derived.Test.YtkgiopdkhhinoaaGreatDoorRows
import Derived.Stop.Joined
import Derived.ProofKit
namespace Go.Qu
open Go.Proofs
open Go.Proofs.YtkgiopdkhhinoaaGreatDoor
theorem jf12 : ((Rows.evalPrimsRow.named == Tryz.prog.varsNamed 3)) = true := by kernel_rfl
end Go.Qu
