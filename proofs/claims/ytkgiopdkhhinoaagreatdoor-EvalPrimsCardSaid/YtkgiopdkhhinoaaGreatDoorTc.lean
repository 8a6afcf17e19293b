/- The tie of this translation: its closed facts, part 3. The tie of this translation: its closed facts, part 4. -/
import Derived.Test.YtkgiopdkhhinoaaGreatDoorRows
import Derived.LaidByTextLater
import Derived.SevenTiedAt
import Derived.Test.YtkgiopdkhhinoaaGreatDoorTa0
namespace Go.Proofs.YtkgiopdkhhinoaaGreatDoor
open Go
theorem tieF7 : ∀ os tape, (DataW.laidRun Tryz.prog (varsWorld Tryz.prog 400 (varsId Tryz.prog) os tape).memory 8 (laidL.map (·.1))).map (·.1) = some laidL := fun _ _ => by kernel_rfl
end Go.Proofs.YtkgiopdkhhinoaaGreatDoor
namespace Go.Proofs.YtkgiopdkhhinoaaGreatDoor
open Go
theorem tieF8 : ∀ os tape, (DataW.laidRun Tryz.prog (varsWorld Tryz.prog 400 (varsId Tryz.prog) os tape).memory 8 (laidL.map (·.1))).map (fun x => decide x.2.Nodup && laidRowsB Tryz.prog (varsWorld Tryz.prog 400 (varsId Tryz.prog) os tape).memory x.2) = some true := fun _ _ => by kernel_rfl
end Go.Proofs.YtkgiopdkhhinoaaGreatDoor
