/- eval.isCore at the text's program, by the evaluator. -/
import Derived.Test.YtkgiopdkhhinoaaGreatDoorZm
import Derived.Test.YtkgiopdkhhinoaaGreatDoorZl
import Derived.Test.YtkgiopdkhhinoaaGreatDoorAa
set_option linter.all false
namespace Go.Z
open Go.Proofs
open Go.Eng (DV SV Pure)
theorem run50 : isB true (zcall env (fun _ => none) (zN env (fun _ => none) 100000) 50 [prog13.zv] .e 0) = true := by kernel_rfl
noncomputable def oc13 : Nat -> Option CF := ocOne 50 [prog13.zv] true
theorem oc13_ok : OcOK Tryz.prog oc13 := ocOne_ok env_ok noOc (by kernel_rfl) run50
end Go.Z
