/- The sanity check. -/
import Derived.Test.YtkgiopdkhhinoaaGreatDoorAc
import Derived.Test.YtkgiopdkhhinoaaGreatDoorVd
set_option linter.all false
namespace Go.Qu
open Go.Eng Go.Proofs
def rows13 : List (List DV) := match Go.Z.prog13 with
  | .agg [_, _, _, .sl _ l] => l
  | _ => []
theorem prog_at : Pure Tryz.prog 20 [.str fun _ => Go.Z.text13] (.agg [.raw nilV, .raw nilV, .raw nilV, .ds 25 fun _ => rows13]) := Go.Z.prog13_ok
theorem call_at : Pure Tryz.prog 21 [.agg [.raw nilV, .raw nilV, .raw nilV, .ds 25 fun _ => rows13], .str fun _ => ⟨#[102]⟩, .ds 4 fun _ => [[.int .i64 1, .str ⟨#[]⟩, .int .i64 5, .raw nilV]], .int .i64 fun _ => 100] (.tup [.agg [.int .i64 fun _ => 0, .int .i64 fun _ => 1, .str fun _ => ⟨#[]⟩, .int .i64 fun _ => 120, .raw nilV, .str fun _ => ⟨#[]⟩, .int .i64 fun _ => 0, .int .i64 fun _ => 6], .int .i64 fun _ => 0]) := Go.Z.call13_ok
set_option maxRecDepth 100000 in
theorem awake_ok : Pure Tryz.prog 10 [] (.bs fun _ => true) := by
  have h1 := prog_at; have h2 := call_at; have ht : Go.Z.text13 = Go.Z.text13 := rfl; generalize rows13 = r at *; refine pure_of (P := fun _ => Tryz.prog) tabOk Tryz.func10 rfl rfl ?_
  cbv; refine .cl h1 ?_; cbv; refine .cl h2 ?_; cbv
  (repeat' (first | refine .nd ?_ | refine .nq ?_ | (refine .rv rfl ?_; cbv) | (refine .rr rfl ?_; cbv) | refine .sT ?_ | refine .sF ?_ | refine .fk ?_))
  exact .fn
end Go.Qu
