/- The kinds that the operations take; laid by mk4.py. -/
import Derived.Test.YtkgiopdkhhinoaaGreatDoorVa
set_option linter.all false
namespace Go.Qu
open Go.Eng Go.Proofs
set_option maxRecDepth 100000 in
theorem kinds0 (first : Int) : Pure Tryz.prog 16 [.str fun _ => ⟨#[43]⟩, .int .i64 fun _ => first] (.ds 1 fun _ => ints [1, 1]) := by
  refine pure_of (P := fun _ => Tryz.prog) tabOk Tryz.func16 rfl rfl ?_
  cbv; repeat' (refine HU.split (fun h => ?_) (fun h => ?_) <;> first | exact absurd h (by decide) | skip)
  all_goals
    exact .fn
set_option maxRecDepth 100000 in
theorem kinds1 (first : Int) : Pure Tryz.prog 16 [.str fun _ => ⟨#[45]⟩, .int .i64 fun _ => first] (.ds 1 fun _ => ints [1, 1]) := by
  refine pure_of (P := fun _ => Tryz.prog) tabOk Tryz.func16 rfl rfl ?_
  cbv; repeat' (refine HU.split (fun h => ?_) (fun h => ?_) <;> first | exact absurd h (by decide) | skip)
  all_goals
    exact .fn
set_option maxRecDepth 100000 in
theorem kinds2 (first : Int) : Pure Tryz.prog 16 [.str fun _ => ⟨#[42]⟩, .int .i64 fun _ => first] (.ds 1 fun _ => ints [1, 1]) := by
  refine pure_of (P := fun _ => Tryz.prog) tabOk Tryz.func16 rfl rfl ?_
  cbv; repeat' (refine HU.split (fun h => ?_) (fun h => ?_) <;> first | exact absurd h (by decide) | skip)
  all_goals
    exact .fn
set_option maxRecDepth 100000 in
theorem kinds3 (first : Int) : Pure Tryz.prog 16 [.str fun _ => ⟨#[110, 101, 103]⟩, .int .i64 fun _ => first] (.ds 1 fun _ => ints [1]) := by
  refine pure_of (P := fun _ => Tryz.prog) tabOk Tryz.func16 rfl rfl ?_
  cbv; repeat' (refine HU.split (fun h => ?_) (fun h => ?_) <;> first | exact absurd h (by decide) | skip)
  all_goals
    exact .fn
set_option maxRecDepth 100000 in
theorem kinds4 (first : Int) : Pure Tryz.prog 16 [.str fun _ => ⟨#[100, 105, 118]⟩, .int .i64 fun _ => first] (.ds 1 fun _ => ints [1, 1]) := by
  refine pure_of (P := fun _ => Tryz.prog) tabOk Tryz.func16 rfl rfl ?_
  cbv; repeat' (refine HU.split (fun h => ?_) (fun h => ?_) <;> first | exact absurd h (by decide) | skip)
  all_goals
    exact .fn
set_option maxRecDepth 100000 in
theorem kinds5 (first : Int) : Pure Tryz.prog 16 [.str fun _ => ⟨#[109, 111, 100]⟩, .int .i64 fun _ => first] (.ds 1 fun _ => ints [1, 1]) := by
  refine pure_of (P := fun _ => Tryz.prog) tabOk Tryz.func16 rfl rfl ?_
  cbv; repeat' (refine HU.split (fun h => ?_) (fun h => ?_) <;> first | exact absurd h (by decide) | skip)
  all_goals
    exact .fn
set_option maxRecDepth 100000 in
theorem kinds6 (first : Int) (hf : first ≠ 2) : Pure Tryz.prog 16 [.str fun _ => ⟨#[61, 61]⟩, .int .i64 fun _ => first] (.ds 1 fun _ => ints [1, 1]) := by
  refine pure_of (P := fun _ => Tryz.prog) tabOk Tryz.func16 rfl rfl ?_
  cbv; repeat' (refine HU.split (fun h => ?_) (fun h => ?_) <;> first | exact absurd h (by decide) | skip)
  . exact absurd (eq_of_beq h) hf
  all_goals
    exact .fn
set_option maxRecDepth 100000 in
theorem kinds7 (first : Int) (hf : first ≠ 2) : Pure Tryz.prog 16 [.str fun _ => ⟨#[33, 61]⟩, .int .i64 fun _ => first] (.ds 1 fun _ => ints [1, 1]) := by
  refine pure_of (P := fun _ => Tryz.prog) tabOk Tryz.func16 rfl rfl ?_
  cbv; repeat' (refine HU.split (fun h => ?_) (fun h => ?_) <;> first | exact absurd h (by decide) | skip)
  . exact absurd (eq_of_beq h) hf
  all_goals
    exact .fn
set_option maxRecDepth 100000 in
theorem kinds8 (first : Int) : Pure Tryz.prog 16 [.str fun _ => ⟨#[60]⟩, .int .i64 fun _ => first] (.ds 1 fun _ => ints [1, 1]) := by
  refine pure_of (P := fun _ => Tryz.prog) tabOk Tryz.func16 rfl rfl ?_
  cbv; repeat' (refine HU.split (fun h => ?_) (fun h => ?_) <;> first | exact absurd h (by decide) | skip)
  all_goals
    exact .fn
set_option maxRecDepth 100000 in
theorem kinds9 (first : Int) : Pure Tryz.prog 16 [.str fun _ => ⟨#[60, 61]⟩, .int .i64 fun _ => first] (.ds 1 fun _ => ints [1, 1]) := by
  refine pure_of (P := fun _ => Tryz.prog) tabOk Tryz.func16 rfl rfl ?_
  cbv; repeat' (refine HU.split (fun h => ?_) (fun h => ?_) <;> first | exact absurd h (by decide) | skip)
  all_goals
    exact .fn
set_option maxRecDepth 100000 in
theorem kinds10 (first : Int) : Pure Tryz.prog 16 [.str fun _ => ⟨#[62]⟩, .int .i64 fun _ => first] (.ds 1 fun _ => ints [1, 1]) := by
  refine pure_of (P := fun _ => Tryz.prog) tabOk Tryz.func16 rfl rfl ?_
  cbv; repeat' (refine HU.split (fun h => ?_) (fun h => ?_) <;> first | exact absurd h (by decide) | skip)
  all_goals
    exact .fn
set_option maxRecDepth 100000 in
theorem kinds11 (first : Int) : Pure Tryz.prog 16 [.str fun _ => ⟨#[62, 61]⟩, .int .i64 fun _ => first] (.ds 1 fun _ => ints [1, 1]) := by
  refine pure_of (P := fun _ => Tryz.prog) tabOk Tryz.func16 rfl rfl ?_
  cbv; repeat' (refine HU.split (fun h => ?_) (fun h => ?_) <;> first | exact absurd h (by decide) | skip)
  all_goals
    exact .fn
set_option maxRecDepth 100000 in
theorem kinds12 (first : Int) : Pure Tryz.prog 16 [.str fun _ => ⟨#[97, 110, 100]⟩, .int .i64 fun _ => first] (.ds 1 fun _ => ints [2, 2]) := by
  refine pure_of (P := fun _ => Tryz.prog) tabOk Tryz.func16 rfl rfl ?_
  cbv; repeat' (refine HU.split (fun h => ?_) (fun h => ?_) <;> first | exact absurd h (by decide) | skip)
  all_goals
    exact .fn
set_option maxRecDepth 100000 in
theorem kinds13 (first : Int) : Pure Tryz.prog 16 [.str fun _ => ⟨#[111, 114]⟩, .int .i64 fun _ => first] (.ds 1 fun _ => ints [2, 2]) := by
  refine pure_of (P := fun _ => Tryz.prog) tabOk Tryz.func16 rfl rfl ?_
  cbv; repeat' (refine HU.split (fun h => ?_) (fun h => ?_) <;> first | exact absurd h (by decide) | skip)
  all_goals
    exact .fn
set_option maxRecDepth 100000 in
theorem kinds14 (first : Int) : Pure Tryz.prog 16 [.str fun _ => ⟨#[110, 111, 116]⟩, .int .i64 fun _ => first] (.ds 1 fun _ => ints [2]) := by
  refine pure_of (P := fun _ => Tryz.prog) tabOk Tryz.func16 rfl rfl ?_
  cbv; repeat' (refine HU.split (fun h => ?_) (fun h => ?_) <;> first | exact absurd h (by decide) | skip)
  all_goals
    exact .fn
set_option maxRecDepth 100000 in
theorem kinds15 (first : Int) : Pure Tryz.prog 16 [.str fun _ => ⟨#[118, 108, 101, 110]⟩, .int .i64 fun _ => first] (.ds 1 fun _ => ints [4]) := by
  refine pure_of (P := fun _ => Tryz.prog) tabOk Tryz.func16 rfl rfl ?_
  cbv; repeat' (refine HU.split (fun h => ?_) (fun h => ?_) <;> first | exact absurd h (by decide) | skip)
  all_goals
    exact .fn
set_option maxRecDepth 100000 in
theorem kinds16 (first : Int) : Pure Tryz.prog 16 [.str fun _ => ⟨#[103, 101, 116]⟩, .int .i64 fun _ => first] (.ds 1 fun _ => ints [4, 1]) := by
  refine pure_of (P := fun _ => Tryz.prog) tabOk Tryz.func16 rfl rfl ?_
  cbv; repeat' (refine HU.split (fun h => ?_) (fun h => ?_) <;> first | exact absurd h (by decide) | skip)
  all_goals
    exact .fn
set_option maxRecDepth 100000 in
theorem kinds17 (first : Int) : Pure Tryz.prog 16 [.str fun _ => ⟨#[112, 117, 116]⟩, .int .i64 fun _ => first] (.ds 1 fun _ => ints [4, 1, 1]) := by
  refine pure_of (P := fun _ => Tryz.prog) tabOk Tryz.func16 rfl rfl ?_
  cbv; repeat' (refine HU.split (fun h => ?_) (fun h => ?_) <;> first | exact absurd h (by decide) | skip)
  all_goals
    exact .fn
set_option maxRecDepth 100000 in
theorem kinds18 (first : Int) : Pure Tryz.prog 16 [.str fun _ => ⟨#[109, 97, 107, 101]⟩, .int .i64 fun _ => first] (.ds 1 fun _ => ints [1, 1]) := by
  refine pure_of (P := fun _ => Tryz.prog) tabOk Tryz.func16 rfl rfl ?_
  cbv; repeat' (refine HU.split (fun h => ?_) (fun h => ?_) <;> first | exact absurd h (by decide) | skip)
  all_goals
    exact .fn
set_option maxRecDepth 100000 in
theorem kindsP (first : Int) : Pure Tryz.prog 16 [.str fun _ => ⟨#[112, 111, 119, 101, 114]⟩, .int .i64 fun _ => first] .nils := by
  refine pure_of (P := fun _ => Tryz.prog) tabOk Tryz.func16 rfl rfl ?_
  cbv; repeat' (refine HU.split (fun h => ?_) (fun h => ?_) <;> first | exact absurd h (by decide) | skip)
  all_goals
    exact .fn
end Go.Qu
