/- Operations of package eval; laid by mk6.py. -/
import Derived.Test.YtkgiopdkhhinoaaGreatDoorVd
set_option linter.all false
namespace Go.Qu
open Go.Eng Go.Proofs
set_option maxHeartbeats 2000000 in
set_option maxRecDepth 100000 in
theorem oprim0 (a b : Int) : Pure Tryz.prog 18 [.raw (.string ⟨#[43]⟩), .ds 4 fun _ => [(num0 a).dv, (num0 b).dv]] (vk (exactV (IntKind.i64.wrap (a + b)))) := by
  have hx := enumber_ok (IntKind.i64.wrap (a + b)); generalize exactV (IntKind.i64.wrap (a + b)) = p at *; obtain ⟨v, k⟩ := p; refine pure_of (P := fun _ => Tryz.prog) tabOk Tryz.func18 rfl rfl ?_
  cbv
  (repeat' (first | refine .nd ?_ | refine .nq ?_ | (refine .rv rfl ?_; cbv) | (refine .rr rfl ?_; cbv) | refine .sT ?_ | refine .sF ?_ | refine .fk ?_ | refine .split (fun h => ?_) (fun h => ?_)))
  refine .cl hx ?_; cbv; exact .fn
set_option maxHeartbeats 2000000 in
set_option maxRecDepth 100000 in
theorem oprim1 (a b : Int) : Pure Tryz.prog 18 [.raw (.string ⟨#[45]⟩), .ds 4 fun _ => [(num0 a).dv, (num0 b).dv]] (vk (exactV (IntKind.i64.wrap (a - b)))) := by
  have hx := enumber_ok (IntKind.i64.wrap (a - b)); generalize exactV (IntKind.i64.wrap (a - b)) = p at *; obtain ⟨v, k⟩ := p; refine pure_of (P := fun _ => Tryz.prog) tabOk Tryz.func18 rfl rfl ?_
  cbv
  (repeat' (first | refine .nd ?_ | refine .nq ?_ | (refine .rv rfl ?_; cbv) | (refine .rr rfl ?_; cbv) | refine .sT ?_ | refine .sF ?_ | refine .fk ?_ | refine .split (fun h => ?_) (fun h => ?_)))
  refine .cl hx ?_; cbv; exact .fn
set_option maxHeartbeats 2000000 in
set_option maxRecDepth 100000 in
theorem oprim2 (a b : Int) (ha : inM a) (hb : inM b) : Pure Tryz.prog 18 [.raw (.string ⟨#[42]⟩), .ds 4 fun _ => [(num0 a).dv, (num0 b).dv]] (vk (timesV a b)) := by
  have hx := etimes_ok a b ha hb; generalize timesV a b = p at *; obtain ⟨v, k⟩ := p; refine pure_of (P := fun _ => Tryz.prog) tabOk Tryz.func18 rfl rfl ?_
  cbv
  (repeat' (first | refine .nd ?_ | refine .nq ?_ | (refine .rv rfl ?_; cbv) | (refine .rr rfl ?_; cbv) | refine .sT ?_ | refine .sF ?_ | refine .fk ?_ | refine .split (fun h => ?_) (fun h => ?_)))
  refine .cl hx ?_; cbv; exact .fn
set_option maxHeartbeats 2000000 in
set_option maxRecDepth 100000 in
theorem oprim3 (a b : Int) : Eng.Spec Tryz.prog 18 [.raw (.string ⟨#[110, 101, 103]⟩), .ov 0 4 (fun _ => 0) (fun _ => 1)] [(0, .arr 27 4 fun _ => [(num0 a).dv, (num0 b).dv])] 1 (fun _ : Unit => True) (fun _ => vk (exactV (IntKind.i64.wrap (0 - a)))) (fun _ => [(0, .arr 27 4 fun _ => [(num0 a).dv, (num0 b).dv])]) := by
  have hx := enumber_ok (IntKind.i64.wrap (0 - a)); generalize exactV (IntKind.i64.wrap (0 - a)) = p at *; obtain ⟨v, k⟩ := p; refine spec_of' (P := fun _ => Tryz.prog) tabOk Tryz.func18 rfl rfl ?_
  cbv
  (repeat' (first | refine .nd ?_ | refine .nq ?_ | (refine .rv rfl ?_; cbv) | (refine .rr rfl ?_; cbv) | refine .sT ?_ | refine .sF ?_ | refine .fk ?_ | refine .split (fun h => ?_) (fun h => ?_)))
  refine .cl hx ?_; cbv; exact .fn
set_option maxHeartbeats 2000000 in
set_option maxRecDepth 100000 in
theorem oprim4 (a b : Int) : Pure Tryz.prog 18 [.raw (.string ⟨#[100, 105, 118]⟩), .ds 4 fun _ => [(num0 a).dv, (num0 b).dv]] (vk (if b = 0 then (zero0, 4) else exactV (flV a b))) := by
  refine Decidable.byCases (p := b = 0) (fun hb => ?_) (fun hb => ?_)
  . subst hb; rw [if_pos rfl]; refine pure_of (P := fun _ => Tryz.prog) tabOk Tryz.func18 rfl rfl ?_
    cbv
    (repeat' (first | refine .nd ?_ | refine .nq ?_ | (refine .rv rfl ?_; cbv) | (refine .rr rfl ?_; cbv) | refine .sT ?_ | refine .sF ?_ | refine .fk ?_ | refine .split (fun h => ?_) (fun h => ?_)))
    exact .fn
  rw [if_neg hb]; have hf := efloor_ok a b hb; have hx := enumber_ok (flV a b); generalize exactV (flV a b) = p at *; obtain ⟨v, k⟩ := p; generalize flV a b = q at *; refine pure_of (P := fun _ => Tryz.prog) tabOk Tryz.func18 rfl rfl ?_
  cbv
  (repeat' (first | refine .nd ?_ | refine .nq ?_ | (refine .rv rfl ?_; cbv) | (refine .rr rfl ?_; cbv) | refine .sT ?_ | refine .sF ?_ | refine .fk ?_ | refine .split (fun h => ?_) (fun h => ?_)))
  . exact absurd (eq_of_beq h) hb
  refine .cl hf ?_; cbv
  (repeat' (first | refine .nd ?_ | refine .nq ?_ | (refine .rv rfl ?_; cbv) | (refine .rr rfl ?_; cbv) | refine .sT ?_ | refine .sF ?_ | refine .fk ?_ | refine .split (fun h => ?_) (fun h => ?_)))
  refine .cl hx ?_; cbv; exact .fn
set_option maxHeartbeats 2000000 in
set_option maxRecDepth 100000 in
theorem oprim5 (a b : Int) : Pure Tryz.prog 18 [.raw (.string ⟨#[109, 111, 100]⟩), .ds 4 fun _ => [(num0 a).dv, (num0 b).dv]] (vk (if b = 0 then (zero0, 4) else exactV (IntKind.i64.wrap (a - IntKind.i64.wrap (flV a b * b))))) := by
  refine Decidable.byCases (p := b = 0) (fun hb => ?_) (fun hb => ?_)
  . subst hb; rw [if_pos rfl]; refine pure_of (P := fun _ => Tryz.prog) tabOk Tryz.func18 rfl rfl ?_
    cbv
    (repeat' (first | refine .nd ?_ | refine .nq ?_ | (refine .rv rfl ?_; cbv) | (refine .rr rfl ?_; cbv) | refine .sT ?_ | refine .sF ?_ | refine .fk ?_ | refine .split (fun h => ?_) (fun h => ?_)))
    exact .fn
  rw [if_neg hb]; have hf := efloor_ok a b hb; have hx := enumber_ok (IntKind.i64.wrap (a - IntKind.i64.wrap (flV a b * b))); have hc : IntKind.i64.wrap (b * flV a b) = IntKind.i64.wrap (flV a b * b) := by rw [Int.mul_comm]
  generalize exactV (IntKind.i64.wrap (a - IntKind.i64.wrap (flV a b * b))) = p at *; obtain ⟨v, k⟩ := p; generalize flV a b = q at *; refine pure_of (P := fun _ => Tryz.prog) tabOk Tryz.func18 rfl rfl ?_
  cbv
  (repeat' (first | refine .nd ?_ | refine .nq ?_ | (refine .rv rfl ?_; cbv) | (refine .rr rfl ?_; cbv) | refine .sT ?_ | refine .sF ?_ | refine .fk ?_ | refine .split (fun h => ?_) (fun h => ?_)))
  . exact absurd (eq_of_beq h) hb
  refine .cl hf ?_; cbv
  (repeat' (first | refine .nd ?_ | refine .nq ?_ | (refine .rv rfl ?_; cbv) | (refine .rr rfl ?_; cbv) | refine .sT ?_ | refine .sF ?_ | refine .fk ?_ | refine .split (fun h => ?_) (fun h => ?_)))
  refine .call hx ?_ rfl rfl ?_
  . (cbv; refine .mk ?_; repeat' (first | exact AllP.nil | refine AllP.cons ?_ ?_))
    all_goals first | rfl | exact congrArg (fun z => IntKind.i64.wrap (a - z)) hc.symm
  cbv; exact .fn
set_option maxHeartbeats 2000000 in
set_option maxRecDepth 100000 in
theorem oprim6 (a b : Int) : Pure Tryz.prog 18 [.raw (.string ⟨#[61, 61]⟩), .ds 4 fun _ => [(num0 a).dv, (num0 b).dv]] (vk (bool0 (a == b), 0)) := by
  have hx := etruth_ok (a == b); generalize bool0 (a == b) = v at *; refine pure_of (P := fun _ => Tryz.prog) tabOk Tryz.func18 rfl rfl ?_
  cbv
  (repeat' (first | refine .nd ?_ | refine .nq ?_ | (refine .rv rfl ?_; cbv) | (refine .rr rfl ?_; cbv) | refine .sT ?_ | refine .sF ?_ | refine .fk ?_ | refine .split (fun h => ?_) (fun h => ?_)))
  refine .cl hx ?_; cbv; exact .fn
set_option maxHeartbeats 2000000 in
set_option maxRecDepth 100000 in
theorem oprim7 (a b : Int) : Pure Tryz.prog 18 [.raw (.string ⟨#[33, 61]⟩), .ds 4 fun _ => [(num0 a).dv, (num0 b).dv]] (vk (bool0 (a != b), 0)) := by
  have hx := etruth_ok (a != b); generalize bool0 (a != b) = v at *; refine pure_of (P := fun _ => Tryz.prog) tabOk Tryz.func18 rfl rfl ?_
  cbv
  (repeat' (first | refine .nd ?_ | refine .nq ?_ | (refine .rv rfl ?_; cbv) | (refine .rr rfl ?_; cbv) | refine .sT ?_ | refine .sF ?_ | refine .fk ?_ | refine .split (fun h => ?_) (fun h => ?_)))
  refine .cl hx ?_; cbv; exact .fn
set_option maxHeartbeats 2000000 in
set_option maxRecDepth 100000 in
theorem oprim8 (a b : Int) : Pure Tryz.prog 18 [.raw (.string ⟨#[60]⟩), .ds 4 fun _ => [(num0 a).dv, (num0 b).dv]] (vk (bool0 (decide (a < b)), 0)) := by
  have hx := etruth_ok (decide (a < b)); generalize bool0 (decide (a < b)) = v at *; refine pure_of (P := fun _ => Tryz.prog) tabOk Tryz.func18 rfl rfl ?_
  cbv
  (repeat' (first | refine .nd ?_ | refine .nq ?_ | (refine .rv rfl ?_; cbv) | (refine .rr rfl ?_; cbv) | refine .sT ?_ | refine .sF ?_ | refine .fk ?_ | refine .split (fun h => ?_) (fun h => ?_)))
  refine .cl hx ?_; cbv; exact .fn
set_option maxHeartbeats 2000000 in
set_option maxRecDepth 100000 in
theorem oprim9 (a b : Int) : Pure Tryz.prog 18 [.raw (.string ⟨#[60, 61]⟩), .ds 4 fun _ => [(num0 a).dv, (num0 b).dv]] (vk (bool0 (decide (a <= b)), 0)) := by
  have hx := etruth_ok (decide (a <= b)); generalize bool0 (decide (a <= b)) = v at *; refine pure_of (P := fun _ => Tryz.prog) tabOk Tryz.func18 rfl rfl ?_
  cbv
  (repeat' (first | refine .nd ?_ | refine .nq ?_ | (refine .rv rfl ?_; cbv) | (refine .rr rfl ?_; cbv) | refine .sT ?_ | refine .sF ?_ | refine .fk ?_ | refine .split (fun h => ?_) (fun h => ?_)))
  refine .cl hx ?_; cbv; exact .fn
set_option maxHeartbeats 2000000 in
set_option maxRecDepth 100000 in
theorem oprim10 (a b : Int) : Pure Tryz.prog 18 [.raw (.string ⟨#[62]⟩), .ds 4 fun _ => [(num0 a).dv, (num0 b).dv]] (vk (bool0 (decide (a > b)), 0)) := by
  have hx := etruth_ok (decide (a > b)); generalize bool0 (decide (a > b)) = v at *; refine pure_of (P := fun _ => Tryz.prog) tabOk Tryz.func18 rfl rfl ?_
  cbv
  (repeat' (first | refine .nd ?_ | refine .nq ?_ | (refine .rv rfl ?_; cbv) | (refine .rr rfl ?_; cbv) | refine .sT ?_ | refine .sF ?_ | refine .fk ?_ | refine .split (fun h => ?_) (fun h => ?_)))
  refine .cl hx ?_; cbv; exact .fn
set_option maxHeartbeats 2000000 in
set_option maxRecDepth 100000 in
theorem oprim11 (a b : Int) : Pure Tryz.prog 18 [.raw (.string ⟨#[62, 61]⟩), .ds 4 fun _ => [(num0 a).dv, (num0 b).dv]] (vk (bool0 (decide (a >= b)), 0)) := by
  have hx := etruth_ok (decide (a >= b)); generalize bool0 (decide (a >= b)) = v at *; refine pure_of (P := fun _ => Tryz.prog) tabOk Tryz.func18 rfl rfl ?_
  cbv
  (repeat' (first | refine .nd ?_ | refine .nq ?_ | (refine .rv rfl ?_; cbv) | (refine .rr rfl ?_; cbv) | refine .sT ?_ | refine .sF ?_ | refine .fk ?_ | refine .split (fun h => ?_) (fun h => ?_)))
  refine .cl hx ?_; cbv; exact .fn
set_option maxHeartbeats 2000000 in
set_option maxRecDepth 100000 in
theorem oprim12 (a b : Bool) : Pure Tryz.prog 18 [.raw (.string ⟨#[97, 110, 100]⟩), .ds 4 fun _ => [(bool0 a).dv, (bool0 b).dv]] (vk (bool0 (a && b), 0)) := by
  have hx := etruth_ok (a && b); cases a <;> cases b
  all_goals
    refine pure_of (P := fun _ => Tryz.prog) tabOk Tryz.func18 rfl rfl ?_
    cbv
    (repeat' (first | refine .nd ?_ | refine .nq ?_ | (refine .rv rfl ?_; cbv) | (refine .rr rfl ?_; cbv) | refine .sT ?_ | refine .sF ?_ | refine .fk ?_ | refine .split (fun h => ?_) (fun h => ?_)))
    refine .cl hx ?_; cbv; exact .fn
set_option maxHeartbeats 2000000 in
set_option maxRecDepth 100000 in
theorem oprim13 (a b : Bool) : Pure Tryz.prog 18 [.raw (.string ⟨#[111, 114]⟩), .ds 4 fun _ => [(bool0 a).dv, (bool0 b).dv]] (vk (bool0 (a || b), 0)) := by
  have hx := etruth_ok (a || b)
  cases a <;> cases b
  all_goals
    refine pure_of (P := fun _ => Tryz.prog) tabOk Tryz.func18 rfl rfl ?_
    cbv
    (repeat' (first | refine .nd ?_ | refine .nq ?_ | (refine .rv rfl ?_; cbv) | (refine .rr rfl ?_; cbv) | refine .sT ?_ | refine .sF ?_ | refine .fk ?_ | refine .split (fun h => ?_) (fun h => ?_)))
    refine .cl hx ?_; cbv; exact .fn
set_option maxHeartbeats 2000000 in
set_option maxRecDepth 100000 in
theorem oprim14 (a : Bool) : Pure Tryz.prog 18 [.raw (.string ⟨#[110, 111, 116]⟩), .ds 4 fun _ => [(bool0 a).dv]] (vk (bool0 (!a), 0)) := by
  have hx := etruth_ok (!a); cases a
  all_goals
    refine pure_of (P := fun _ => Tryz.prog) tabOk Tryz.func18 rfl rfl ?_
    cbv
    (repeat' (first | refine .nd ?_ | refine .nq ?_ | (refine .rv rfl ?_; cbv) | (refine .rr rfl ?_; cbv) | refine .sT ?_ | refine .sF ?_ | refine .fk ?_ | refine .split (fun h => ?_) (fun h => ?_)))
    refine .cl hx ?_; cbv; exact .fn
end Go.Qu
