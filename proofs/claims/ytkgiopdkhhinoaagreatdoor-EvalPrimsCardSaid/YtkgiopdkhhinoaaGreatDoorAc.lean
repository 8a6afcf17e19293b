/- eval.Call at the factorial of 5, by the evaluator. -/
import Derived.Test.YtkgiopdkhhinoaaGreatDoorZm
import Derived.Test.YtkgiopdkhhinoaaGreatDoorZl
import Derived.Test.YtkgiopdkhhinoaaGreatDoorAb
set_option linter.all false
namespace Go.Z
open Go.Proofs
open Go.Eng (DV SV Pure)
def end13 : List SD := [.agg [.int .i64 0, .int .i64 1, .str ⟨#[]⟩, .int .i64 120, .raw (.slice none 0 0), .str ⟨#[]⟩, .int .i64 0, .int .i64 6], .one (.int .i64 0)]
def args13 : List SD := [prog13, .one (.str ⟨#[102]⟩), .one (.sl 4 [[.int .i64 1, .str ⟨#[]⟩, .int .i64 5, .raw (.slice none 0 0)]]), .one (.int .i64 100)]
theorem run21 : zseal (zcall env oc13 (zN env oc13 100000) 21 (args13.map SD.zv) .e 0) = some end13 := by kernel_rfl
theorem call13_ok : Pure Tryz.prog 21 (args13.map SD.sv) (sdsV end13) := zpureO env_ok oc13_ok run21
end Go.Z
