/- The tie of this translation: its closed facts, part 1. The tie of this translation: its closed facts, part 2. -/
import Derived.Test.YtkgiopdkhhinoaaGreatDoorRows
import Derived.LaidByTextLater
import Derived.SevenTiedAt
import Derived.Test.YtkgiopdkhhinoaaGreatDoorTa0
namespace Go.Proofs.YtkgiopdkhhinoaaGreatDoor
open Go
theorem tieF0 : Tryz.prog.worded (varsWordLater true) = true := by kernel_rfl
theorem tieF1 : Tryz.prog.worded (varsWordLater !true) = false := by kernel_rfl
theorem tieF2 : Tryz.prog.worded rootWordLater = true := by kernel_rfl
theorem tieF4 : (Tryz.prog.funcNamed "gosem.cut.vars").isSome = true := by kernel_rfl
end Go.Proofs.YtkgiopdkhhinoaaGreatDoor
namespace Go.Proofs.YtkgiopdkhhinoaaGreatDoor
open Go
theorem tieF6 : ∀ os tape, varsDone Tryz.prog 400 (varsId Tryz.prog) os tape = true := fun _ _ => by kernel_rfl
end Go.Proofs.YtkgiopdkhhinoaaGreatDoor
