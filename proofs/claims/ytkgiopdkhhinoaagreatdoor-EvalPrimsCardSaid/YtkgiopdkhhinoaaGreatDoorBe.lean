/- Closed facts of the row, part 3; laid by mkf.py. -/
import Derived.Test.YtkgiopdkhhinoaaGreatDoorRows
import Derived.Stop.Joined
import Derived.ProofKit
namespace Go.Qu
open Go.Proofs
open Go.Proofs.YtkgiopdkhhinoaaGreatDoor
theorem jf10 : ((Rows.evalPrimsRow.unfollowed == Tryz.prog.unfollowed 3)) = true := by kernel_rfl
end Go.Qu
