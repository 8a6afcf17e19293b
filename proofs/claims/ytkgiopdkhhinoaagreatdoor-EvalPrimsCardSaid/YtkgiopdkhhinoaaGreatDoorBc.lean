/- Closed facts of the row, part 0; laid by mkf.py. Closed facts of the row, part 1; laid by mkf.py. Closed facts of the row, part 6; laid by mkf.py. Closed facts of the row, part 7; laid by mkf.py. -/
import Derived.Test.YtkgiopdkhhinoaaGreatDoorRows
import Derived.Stop.Joined
import Derived.ProofKit
namespace Go.Qu
open Go.Proofs
open Go.Proofs.YtkgiopdkhhinoaaGreatDoor
theorem jf0 : (Rows.evalPrimsRow.wf (OpenSpec.ofChange Rows.evalPrimsSpec)) = true := by kernel_rfl
theorem jf1 : (laidOutB Tryz.prog) = true := by kernel_rfl
theorem jf2 : (mapsRowed Tryz.prog) = true := by kernel_rfl
theorem jf3 : (Tryz.f3.params.all (Tryz.prog.readableRec ·)) = true := by kernel_rfl
theorem jf4 : (namedTie Tryz.prog Rows.evalPrimsRow.named Rows.evalPrimsSpec.vars) = true := by kernel_rfl
theorem jf5 : ((Rows.evalPrimsRow.stops == [])) = true := by kernel_rfl
theorem jf6 : ((Tryz.prog.stops == [])) = true := by kernel_rfl
end Go.Qu
namespace Go.Qu
open Go.Proofs
open Go.Proofs.YtkgiopdkhhinoaaGreatDoor
theorem jf7 : ((Rows.evalPrimsRow.knobs == [])) = true := by kernel_rfl
theorem jf8 : ((Tryz.prog.stopKnobs == [])) = true := by kernel_rfl
end Go.Qu
namespace Go.Qu
open Go.Proofs
open Go.Proofs.YtkgiopdkhhinoaaGreatDoor
theorem jf13 : ((Rows.evalPrimsRow.maps == (Tryz.f3.params.toList ++ Rows.evalPrimsSpec.plain.varTypes Tryz.prog).any (Tryz.prog.mapsRec ·))) = true := by kernel_rfl
theorem jf14 : ((Rows.evalPrimsRow.ifaces == (Tryz.f3.params.toList ++ Rows.evalPrimsSpec.plain.varTypes Tryz.prog).any (Tryz.prog.ifacesRec ·))) = true := by kernel_rfl
theorem jf15 : ((Rows.evalPrimsRow.mapsOut == Tryz.prog.mapsAmong Tryz.f3.resultTypes.toList)) = true := by kernel_rfl
theorem jf16 : ((Rows.evalPrimsRow.loops == (Tryz.f3.params.toList ++ Rows.evalPrimsSpec.plain.varTypes Tryz.prog).any (Tryz.prog.loopsFrom ·))) = true := by kernel_rfl
theorem jf17 : ((Rows.evalPrimsRow.wideKeys == (Tryz.f3.params.toList ++ Rows.evalPrimsSpec.plain.varTypes Tryz.prog ++ Tryz.f3.resultTypes.toList).any (Tryz.prog.wideKeysFrom ·))) = true := by kernel_rfl
theorem jf18 : (Rows.evalPrimsSpec.vars.all (Tryz.prog.varReadable ·)) = true := by kernel_rfl
theorem jf19 : (Tryz.f3.resultTypes.all (fun t => Tryz.prog.readableRec t && decide (t < Tryz.prog.types.size))) = true := by kernel_rfl
theorem jf20 : ((Rows.evalPrimsRow.ifacesOut == Tryz.f3.resultTypes.toList.any (Tryz.prog.ifacesRec ·))) = true := by kernel_rfl
theorem jf21 : ((Rows.evalPrimsRow.loopsOut == Tryz.f3.resultTypes.toList.any (Tryz.prog.loopsFrom ·))) = true := by kernel_rfl
theorem jf22 : ((Rows.evalPrimsRow.plainKeys == Tryz.prog.plainKeys)) = true := by kernel_rfl
theorem jf23 : (Rows.evalPrimsRow.shortTexts.isNone) = true := by kernel_rfl
theorem jf24 : (Tryz.prog.stopsHeard) = true := by kernel_rfl
end Go.Qu
namespace Go.Qu
open Go.Proofs
open Go.Proofs.YtkgiopdkhhinoaaGreatDoor
theorem jf25 : (Tryz.prog.mayEnter) = true := by kernel_rfl
theorem jf26 : ((Rows.evalPrimsRow.lifted == Tryz.prog.liftsFinal)) = true := by kernel_rfl
theorem jf27 : ((Tryz.prog.make == some Rows.evalPrimsRow.make)) = true := by kernel_rfl
theorem jf28 : ((Rows.evalPrimsRow.kinds == (if Rows.evalPrimsRow.domain.isEmpty then [] else Tryz.f3.params.toList.map fun t => match Tryz.prog.underlying t with | some (.int k) => some k | _ => none))) = true := by kernel_rfl
theorem jf29 : ((Rows.evalPrimsRow.pinned == Rows.evalPrimsRow.pinnedBy)) = true := by kernel_rfl
theorem jf30 : ((Rows.evalPrimsRow.veiled == (Tryz.f3.params.toList ++ Rows.evalPrimsSpec.plain.varTypes Tryz.prog ++ Tryz.f3.resultTypes.toList).any (Tryz.prog.veiledRec ·))) = true := by kernel_rfl
theorem jf31 : (Rows.evalPrimsRow.veiledFits Tryz.prog Tryz.f3.params.toList (Tryz.f3.params.toList ++ Rows.evalPrimsSpec.plain.varTypes Tryz.prog ++ Tryz.f3.resultTypes.toList)) = true := by kernel_rfl
end Go.Qu
