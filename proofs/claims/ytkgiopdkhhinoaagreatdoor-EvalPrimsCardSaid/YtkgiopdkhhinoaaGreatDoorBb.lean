/- A world in which the listed variables are as the statement says: the witness. The witness: its world is shaped. The witness: its world is shaped, second part. -/
import Derived.Test.YtkgiopdkhhinoaaGreatDoorRows
import Derived.Test.YtkgiopdkhhinoaaGreatDoorTc
import Derived.OpenShut
import Derived.LaidMore
import Derived.Stop.Joined
import Derived.ProofKit
set_option linter.all false
namespace Go.Qu
open Go.Proofs Go.ChangeShapes Go.WideShapes Go.ChangeAt Go.RowKit
open Go.Proofs.YtkgiopdkhhinoaaGreatDoor
abbrev wit : Array Value := #[.int .u8 0, .int .i64 0, .int .i64 0, .int .i64 0, .slice none 0 0]
noncomputable abbrev doorW (os : Os) : World := (World.doorLaid Tryz.prog 400 os).forCall (fun _ _ => 0) ⟨#[], wit, []⟩
theorem mem_of (P : Program) (os : Os) (h : Array Obj) (args : Array Value) : (World.forCall { World.holding P os ⟨#[], #[], []⟩ with heap := h } (fun _ _ => 0) ⟨#[], args, []⟩).memory = { heap := h, tape := fun _ _ => 0, drawn := 0, os := default, output := #[] } := by
  unfold World.forCall World.memory; simp [Input.heap]
theorem doorW_mem (os : Os) : (doorW os).memory = (varsWorld Tryz.prog 400 (varsId Tryz.prog) os (fun _ _ => 0)).memory := by
  unfold doorW World.doorLaid; rw [mem_of]; unfold World.memory; rfl
theorem laid_met0 (os : Os) : laidMet Tryz.prog Rows.evalPrimsRow.laid (doorW os).memory := by
  rw [doorW_mem]; exact laidMet_of_run' 8 (tieF7 os _) (tieF8 os _)
theorem laid_met (os : Os) : laidMetH Tryz.prog Rows.evalPrimsRow.laid (doorW os).memory := by
  rw [MakeChecks.laidMetH_plain _ _ _ (by kernel_rfl)]
  exact laid_met0 os
end Go.Qu
namespace Go.Qu
open Go.Proofs Go.ChangeShapes Go.WideShapes Go.ChangeAt Go.RowKit
open Go.Proofs.YtkgiopdkhhinoaaGreatDoor
theorem shaped1 (os : Os) : (doorW os).variablesRefB Tryz.prog = true := by kernel_rfl
theorem okw (os : Os) : Input.okWideB Tryz.prog (doorW os) 3 ⟨#[], wit, []⟩ = true := by kernel_rfl
theorem preb (os : Os) {H : Type} (enc : TypeId × Value -> H) : Rows.evalPrimsSpec.preB enc Tryz.prog Tryz.f3 [] false (doorW os).memory wit 8 = true := by kernel_rfl
theorem sizb (os : Os) {H : Type} (enc : TypeId × Value -> H) : Rows.evalPrimsSpec.sizedB enc Tryz.prog Tryz.f3 false (doorW os).memory wit 8 = true := by kernel_rfl
end Go.Qu
namespace Go.Qu
open Go.Proofs Go.ChangeShapes Go.WideShapes Go.ChangeAt Go.RowKit
open Go.Proofs.YtkgiopdkhhinoaaGreatDoor
theorem shaped2 (os : Os) : List.take ((begin Tryz.prog (fun _ _ => 0) default).world.heap.size - Tryz.prog.globals.size) (List.drop Tryz.prog.globals.size (doorW os).heap.toList) = List.drop Tryz.prog.globals.size (begin Tryz.prog (fun _ _ => 0) default).world.heap.toList := by kernel_rfl
end Go.Qu
