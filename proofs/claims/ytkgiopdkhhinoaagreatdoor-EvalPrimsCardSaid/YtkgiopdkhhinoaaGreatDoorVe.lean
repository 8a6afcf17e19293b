/- The reference's operations; laid by mk6.py. -/
import Derived.Test.YtkgiopdkhhinoaaGreatDoorVd
set_option linter.all false
namespace Go.Qu
open Go.Eng Go.Proofs
set_option maxHeartbeats 2000000 in
set_option maxRecDepth 100000 in
theorem rprim0 (a b : Int) : Pure Tryz.prog 7 [.raw (.string ⟨#[43]⟩), .ds 4 fun _ => [(num0 a).dv, (num0 b).dv]] (vk (exactV (IntKind.i64.wrap (a + b)))) := by
  have hx := exact_ok (IntKind.i64.wrap (a + b)); generalize exactV (IntKind.i64.wrap (a + b)) = p at *; obtain ⟨v, k⟩ := p; refine pure_of (P := fun _ => Tryz.prog) tabOk Tryz.func7 rfl rfl ?_
  cbv
  (repeat' (first | refine .nd ?_ | refine .nq ?_ | (refine .rv rfl ?_; cbv) | (refine .rr rfl ?_; cbv) | refine .sT ?_ | refine .sF ?_ | refine .fk ?_ | refine .split (fun h => ?_) (fun h => ?_)))
  refine .cl hx ?_; cbv; exact .fn
set_option maxHeartbeats 2000000 in
set_option maxRecDepth 100000 in
theorem rprim1 (a b : Int) : Pure Tryz.prog 7 [.raw (.string ⟨#[45]⟩), .ds 4 fun _ => [(num0 a).dv, (num0 b).dv]] (vk (exactV (IntKind.i64.wrap (a - b)))) := by
  have hx := exact_ok (IntKind.i64.wrap (a - b)); generalize exactV (IntKind.i64.wrap (a - b)) = p at *; obtain ⟨v, k⟩ := p; refine pure_of (P := fun _ => Tryz.prog) tabOk Tryz.func7 rfl rfl ?_
  cbv
  (repeat' (first | refine .nd ?_ | refine .nq ?_ | (refine .rv rfl ?_; cbv) | (refine .rr rfl ?_; cbv) | refine .sT ?_ | refine .sF ?_ | refine .fk ?_ | refine .split (fun h => ?_) (fun h => ?_)))
  refine .cl hx ?_; cbv; exact .fn
set_option maxHeartbeats 2000000 in
set_option maxRecDepth 100000 in
theorem rprim2 (a b : Int) (ha : inM a) (hb : inM b) : Pure Tryz.prog 7 [.raw (.string ⟨#[42]⟩), .ds 4 fun _ => [(num0 a).dv, (num0 b).dv]] (vk (timesV a b)) := by
  have ht := rtimes_ok a b ha hb; have hn := exact_ok (IntKind.i64.wrap (a * b)); have h1 : ∀ p, exactV (IntKind.i64.wrap (a * b)) = p -> mulB a b = true -> timesV a b = p := fun p e h => by rw [timesV, h, if_pos rfl, e]
  have h2 : mulB a b = false -> timesV a b = (zero0, 2) := fun h => by rw [timesV, h]; rfl
  refine Exists.elim (show ∃ p, exactV (IntKind.i64.wrap (a * b)) = p from ⟨_, rfl⟩) fun p ep => ?_
  rw [ep] at hn; have h1 := h1 p ep; obtain ⟨v, k⟩ := p; generalize timesV a b = tv at *; generalize mulB a b = mb at *; refine pure_of (P := fun _ => Tryz.prog) tabOk Tryz.func7 rfl rfl ?_
  cbv
  (repeat' (first | refine .nd ?_ | refine .nq ?_ | (refine .rv rfl ?_; cbv) | (refine .rr rfl ?_; cbv) | refine .sT ?_ | refine .sF ?_ | refine .fk ?_ | refine .split (fun h => ?_) (fun h => ?_)))
  refine .cl ht ?_; cbv; refine .split (fun h => ?_) (fun h => ?_)
  . have h : (!mb) = true := h; have h : mb = false := by simpa using h
    have e := h2 h; subst e; exact .fn
  . have h : (!mb) = false := h; have h : mb = true := by simpa using h
    have e := h1 h; subst e; refine .cl hn ?_; cbv; exact .fn
set_option maxHeartbeats 2000000 in
set_option maxRecDepth 100000 in
theorem rprim3 (a b : Int) : Eng.Spec Tryz.prog 7 [.raw (.string ⟨#[110, 101, 103]⟩), .ov 0 4 (fun _ => 0) (fun _ => 1)] [(0, .arr 27 4 fun _ => [(num0 a).dv, (num0 b).dv])] 1 (fun _ : Unit => True) (fun _ => vk (exactV (IntKind.i64.wrap (0 - a)))) (fun _ => [(0, .arr 27 4 fun _ => [(num0 a).dv, (num0 b).dv])]) := by
  have hx := exact_ok (IntKind.i64.wrap (0 - a)); generalize exactV (IntKind.i64.wrap (0 - a)) = p at *; obtain ⟨v, k⟩ := p; refine spec_of' (P := fun _ => Tryz.prog) tabOk Tryz.func7 rfl rfl ?_
  cbv
  (repeat' (first | refine .nd ?_ | refine .nq ?_ | (refine .rv rfl ?_; cbv) | (refine .rr rfl ?_; cbv) | refine .sT ?_ | refine .sF ?_ | refine .fk ?_ | refine .split (fun h => ?_) (fun h => ?_)))
  refine .cl hx ?_; cbv; exact .fn
set_option maxHeartbeats 2000000 in
set_option maxRecDepth 100000 in
theorem rprim4 (a b : Int) : Pure Tryz.prog 7 [.raw (.string ⟨#[100, 105, 118]⟩), .ds 4 fun _ => [(num0 a).dv, (num0 b).dv]] (vk (if b = 0 then (zero0, 4) else exactV (flV a b))) := by
  refine Decidable.byCases (p := b = 0) (fun hb => ?_) (fun hb => ?_)
  . subst hb; rw [if_pos rfl]; refine pure_of (P := fun _ => Tryz.prog) tabOk Tryz.func7 rfl rfl ?_
    cbv
    (repeat' (first | refine .nd ?_ | refine .nq ?_ | (refine .rv rfl ?_; cbv) | (refine .rr rfl ?_; cbv) | refine .sT ?_ | refine .sF ?_ | refine .fk ?_ | refine .split (fun h => ?_) (fun h => ?_)))
    exact .fn
  rw [if_neg hb]; have hf := rfloor_ok a b hb; have hx := exact_ok (flV a b); generalize exactV (flV a b) = p at *; obtain ⟨v, k⟩ := p; generalize flV a b = q at *; refine pure_of (P := fun _ => Tryz.prog) tabOk Tryz.func7 rfl rfl ?_
  cbv
  (repeat' (first | refine .nd ?_ | refine .nq ?_ | (refine .rv rfl ?_; cbv) | (refine .rr rfl ?_; cbv) | refine .sT ?_ | refine .sF ?_ | refine .fk ?_ | refine .split (fun h => ?_) (fun h => ?_)))
  . exact absurd (eq_of_beq h) hb
  refine .cl hf ?_; cbv
  (repeat' (first | refine .nd ?_ | refine .nq ?_ | (refine .rv rfl ?_; cbv) | (refine .rr rfl ?_; cbv) | refine .sT ?_ | refine .sF ?_ | refine .fk ?_ | refine .split (fun h => ?_) (fun h => ?_)))
  refine .cl hx ?_; cbv; exact .fn
set_option maxHeartbeats 2000000 in
set_option maxRecDepth 100000 in
theorem rprim5 (a b : Int) : Pure Tryz.prog 7 [.raw (.string ⟨#[109, 111, 100]⟩), .ds 4 fun _ => [(num0 a).dv, (num0 b).dv]] (vk (if b = 0 then (zero0, 4) else exactV (IntKind.i64.wrap (a - IntKind.i64.wrap (flV a b * b))))) := by
  refine Decidable.byCases (p := b = 0) (fun hb => ?_) (fun hb => ?_)
  . subst hb; rw [if_pos rfl]; refine pure_of (P := fun _ => Tryz.prog) tabOk Tryz.func7 rfl rfl ?_
    cbv
    (repeat' (first | refine .nd ?_ | refine .nq ?_ | (refine .rv rfl ?_; cbv) | (refine .rr rfl ?_; cbv) | refine .sT ?_ | refine .sF ?_ | refine .fk ?_ | refine .split (fun h => ?_) (fun h => ?_)))
    exact .fn
  rw [if_neg hb]; have hf := rfloor_ok a b hb; have hx := exact_ok (IntKind.i64.wrap (a - IntKind.i64.wrap (flV a b * b))); generalize exactV (IntKind.i64.wrap (a - IntKind.i64.wrap (flV a b * b))) = p at *; obtain ⟨v, k⟩ := p; generalize flV a b = q at *; refine pure_of (P := fun _ => Tryz.prog) tabOk Tryz.func7 rfl rfl ?_
  cbv
  (repeat' (first | refine .nd ?_ | refine .nq ?_ | (refine .rv rfl ?_; cbv) | (refine .rr rfl ?_; cbv) | refine .sT ?_ | refine .sF ?_ | refine .fk ?_ | refine .split (fun h => ?_) (fun h => ?_)))
  . exact absurd (eq_of_beq h) hb
  refine .cl hf ?_; cbv
  (repeat' (first | refine .nd ?_ | refine .nq ?_ | (refine .rv rfl ?_; cbv) | (refine .rr rfl ?_; cbv) | refine .sT ?_ | refine .sF ?_ | refine .fk ?_ | refine .split (fun h => ?_) (fun h => ?_)))
  refine .cl hx ?_; cbv; exact .fn
set_option maxHeartbeats 2000000 in
set_option maxRecDepth 100000 in
theorem rprim6 (a b : Int) : Pure Tryz.prog 7 [.raw (.string ⟨#[61, 61]⟩), .ds 4 fun _ => [(num0 a).dv, (num0 b).dv]] (vk (bool0 (a == b), 0)) := by
  have hx := rtruth_ok (a == b); generalize bool0 (a == b) = v at *; refine pure_of (P := fun _ => Tryz.prog) tabOk Tryz.func7 rfl rfl ?_
  cbv
  (repeat' (first | refine .nd ?_ | refine .nq ?_ | (refine .rv rfl ?_; cbv) | (refine .rr rfl ?_; cbv) | refine .sT ?_ | refine .sF ?_ | refine .fk ?_ | refine .split (fun h => ?_) (fun h => ?_)))
  refine .cl hx ?_; cbv; exact .fn
set_option maxHeartbeats 2000000 in
set_option maxRecDepth 100000 in
theorem rprim7 (a b : Int) : Pure Tryz.prog 7 [.raw (.string ⟨#[33, 61]⟩), .ds 4 fun _ => [(num0 a).dv, (num0 b).dv]] (vk (bool0 (a != b), 0)) := by
  have hx := rtruth_ok (a != b); generalize bool0 (a != b) = v at *; refine pure_of (P := fun _ => Tryz.prog) tabOk Tryz.func7 rfl rfl ?_
  cbv
  (repeat' (first | refine .nd ?_ | refine .nq ?_ | (refine .rv rfl ?_; cbv) | (refine .rr rfl ?_; cbv) | refine .sT ?_ | refine .sF ?_ | refine .fk ?_ | refine .split (fun h => ?_) (fun h => ?_)))
  refine .cl hx ?_; cbv; exact .fn
set_option maxHeartbeats 2000000 in
set_option maxRecDepth 100000 in
theorem rprim8 (a b : Int) : Pure Tryz.prog 7 [.raw (.string ⟨#[60]⟩), .ds 4 fun _ => [(num0 a).dv, (num0 b).dv]] (vk (bool0 (decide (a < b)), 0)) := by
  have hx := rtruth_ok (decide (a < b)); generalize bool0 (decide (a < b)) = v at *; refine pure_of (P := fun _ => Tryz.prog) tabOk Tryz.func7 rfl rfl ?_
  cbv
  (repeat' (first | refine .nd ?_ | refine .nq ?_ | (refine .rv rfl ?_; cbv) | (refine .rr rfl ?_; cbv) | refine .sT ?_ | refine .sF ?_ | refine .fk ?_ | refine .split (fun h => ?_) (fun h => ?_)))
  refine .cl hx ?_; cbv; exact .fn
set_option maxHeartbeats 2000000 in
set_option maxRecDepth 100000 in
theorem rprim9 (a b : Int) : Pure Tryz.prog 7 [.raw (.string ⟨#[60, 61]⟩), .ds 4 fun _ => [(num0 a).dv, (num0 b).dv]] (vk (bool0 (decide (a <= b)), 0)) := by
  have hx := rtruth_ok (decide (a <= b)); generalize bool0 (decide (a <= b)) = v at *; refine pure_of (P := fun _ => Tryz.prog) tabOk Tryz.func7 rfl rfl ?_
  cbv
  (repeat' (first | refine .nd ?_ | refine .nq ?_ | (refine .rv rfl ?_; cbv) | (refine .rr rfl ?_; cbv) | refine .sT ?_ | refine .sF ?_ | refine .fk ?_ | refine .split (fun h => ?_) (fun h => ?_)))
  refine .cl hx ?_; cbv; exact .fn
set_option maxHeartbeats 2000000 in
set_option maxRecDepth 100000 in
theorem rprim10 (a b : Int) : Pure Tryz.prog 7 [.raw (.string ⟨#[62]⟩), .ds 4 fun _ => [(num0 a).dv, (num0 b).dv]] (vk (bool0 (decide (a > b)), 0)) := by
  have hx := rtruth_ok (decide (a > b)); generalize bool0 (decide (a > b)) = v at *; refine pure_of (P := fun _ => Tryz.prog) tabOk Tryz.func7 rfl rfl ?_
  cbv
  (repeat' (first | refine .nd ?_ | refine .nq ?_ | (refine .rv rfl ?_; cbv) | (refine .rr rfl ?_; cbv) | refine .sT ?_ | refine .sF ?_ | refine .fk ?_ | refine .split (fun h => ?_) (fun h => ?_)))
  refine .cl hx ?_; cbv; exact .fn
set_option maxHeartbeats 2000000 in
set_option maxRecDepth 100000 in
theorem rprim11 (a b : Int) : Pure Tryz.prog 7 [.raw (.string ⟨#[62, 61]⟩), .ds 4 fun _ => [(num0 a).dv, (num0 b).dv]] (vk (bool0 (decide (a >= b)), 0)) := by
  have hx := rtruth_ok (decide (a >= b)); generalize bool0 (decide (a >= b)) = v at *; refine pure_of (P := fun _ => Tryz.prog) tabOk Tryz.func7 rfl rfl ?_
  cbv
  (repeat' (first | refine .nd ?_ | refine .nq ?_ | (refine .rv rfl ?_; cbv) | (refine .rr rfl ?_; cbv) | refine .sT ?_ | refine .sF ?_ | refine .fk ?_ | refine .split (fun h => ?_) (fun h => ?_)))
  refine .cl hx ?_; cbv; exact .fn
set_option maxHeartbeats 2000000 in
set_option maxRecDepth 100000 in
theorem rprim12 (a b : Bool) : Pure Tryz.prog 7 [.raw (.string ⟨#[97, 110, 100]⟩), .ds 4 fun _ => [(bool0 a).dv, (bool0 b).dv]] (vk (bool0 (a && b), 0)) := by
  have hx := rtruth_ok (a && b); cases a <;> cases b
  all_goals
    refine pure_of (P := fun _ => Tryz.prog) tabOk Tryz.func7 rfl rfl ?_
    cbv
    (repeat' (first | refine .nd ?_ | refine .nq ?_ | (refine .rv rfl ?_; cbv) | (refine .rr rfl ?_; cbv) | refine .sT ?_ | refine .sF ?_ | refine .fk ?_ | refine .split (fun h => ?_) (fun h => ?_)))
    refine .cl hx ?_; cbv; exact .fn
set_option maxHeartbeats 2000000 in
set_option maxRecDepth 100000 in
theorem rprim13 (a b : Bool) : Pure Tryz.prog 7 [.raw (.string ⟨#[111, 114]⟩), .ds 4 fun _ => [(bool0 a).dv, (bool0 b).dv]] (vk (bool0 (a || b), 0)) := by
  have hx := rtruth_ok (a || b)
  cases a <;> cases b
  all_goals
    refine pure_of (P := fun _ => Tryz.prog) tabOk Tryz.func7 rfl rfl ?_
    cbv
    (repeat' (first | refine .nd ?_ | refine .nq ?_ | (refine .rv rfl ?_; cbv) | (refine .rr rfl ?_; cbv) | refine .sT ?_ | refine .sF ?_ | refine .fk ?_ | refine .split (fun h => ?_) (fun h => ?_)))
    refine .cl hx ?_; cbv; exact .fn
set_option maxHeartbeats 2000000 in
set_option maxRecDepth 100000 in
theorem rprim14 (a : Bool) : Pure Tryz.prog 7 [.raw (.string ⟨#[110, 111, 116]⟩), .ds 4 fun _ => [(bool0 a).dv]] (vk (bool0 (!a), 0)) := by
  have hx := rtruth_ok (!a); cases a
  all_goals
    refine pure_of (P := fun _ => Tryz.prog) tabOk Tryz.func7 rfl rfl ?_
    cbv
    (repeat' (first | refine .nd ?_ | refine .nq ?_ | (refine .rv rfl ?_; cbv) | (refine .rr rfl ?_; cbv) | refine .sT ?_ | refine .sF ?_ | refine .fk ?_ | refine .split (fun h => ?_) (fun h => ?_)))
    refine .cl hx ?_; cbv; exact .fn
set_option maxHeartbeats 2000000 in
set_option maxRecDepth 100000 in
theorem rprim15 (l : List Int) : Pure Tryz.prog 7 [.raw (.string ⟨#[118, 108, 101, 110]⟩), .ds 4 fun _ => [vecD l]] (vk (num0 (l.length : Int), 0)) := by
  have hx := rnumber_ok (l.length : Int); refine pure_of (P := fun _ => Tryz.prog) tabOk Tryz.func7 rfl rfl ?_
  cbv
  (repeat' (first | refine .nd ?_ | refine .nq ?_ | (refine .rv rfl ?_; cbv) | (refine .rr rfl ?_; cbv) | refine .sT ?_ | refine .sF ?_ | refine .fk ?_))
  refine .call hx ?_ rfl rfl ?_
  . (cbv; refine .mk ?_; repeat' (first | exact AllP.nil | refine AllP.cons ?_ ?_))
    all_goals exact (kids_len l).symm
  cbv; exact .fn
set_option maxHeartbeats 2000000 in
set_option maxRecDepth 100000 in
theorem rprim16e (l : List Int) (b : Int) (hb : ¬ (0 <= b /\ b < (l.length : Int))) : Pure Tryz.prog 7 [.raw (.string ⟨#[103, 101, 116]⟩), .ds 4 fun _ => [vecD l, (num0 b).dv]] (vk (zero0, 3)) := by
  refine pure_of (P := fun _ => Tryz.prog) tabOk Tryz.func7 rfl rfl ?_
  cbv
  (repeat' (first | refine .nd ?_ | refine .nq ?_ | (refine .rv rfl ?_; cbv) | (refine .rr rfl ?_; cbv) | refine .sT ?_ | refine .sF ?_ | refine .fk ?_))
  refine .split (fun h => ?_) (fun h1 => ?_)
  . exact .fn
  have h1 : decide (b < 0) = false := h1
  (repeat' (first | refine .nd ?_ | refine .nq ?_ | (refine .rv rfl ?_; cbv) | (refine .rr rfl ?_; cbv) | refine .sT ?_ | refine .sF ?_ | refine .fk ?_))
  refine .split (fun h => ?_) (fun h2 => ?_)
  . exact .fn
  have h2 : decide (b >= ((kidsD l).length : Int)) = false := h2; rw [kids_len] at h2; exact absurd ⟨Int.not_lt.1 (of_decide_eq_false h1), Int.not_le.1 (of_decide_eq_false h2)⟩ hb
set_option maxHeartbeats 2000000 in
set_option maxRecDepth 100000 in
theorem rprim16v (l : List Int) (b x : Int) (h0 : 0 <= b) (hb : b < (l.length : Int)) (hx : l[b.toNat]? = some x) : Pure Tryz.prog 7 [.raw (.string ⟨#[103, 101, 116]⟩), .ds 4 fun _ => [vecD l, (num0 b).dv]] (vk (num0 x, 0)) := by
  refine pure_of (P := fun _ => Tryz.prog) tabOk Tryz.func7 rfl rfl ?_
  cbv
  (repeat' (first | refine .nd ?_ | refine .nq ?_ | (refine .rv rfl ?_; cbv) | (refine .rr rfl ?_; cbv) | refine .sT ?_ | refine .sF ?_ | refine .fk ?_))
  refine .split (fun h => absurd (of_decide_eq_true (show decide (b < 0) = true from h)) (Int.not_lt.2 h0)) (fun h1 => ?_)
  (repeat' (first | refine .nd ?_ | refine .nq ?_ | (refine .rv rfl ?_; cbv) | (refine .rr rfl ?_; cbv) | refine .sT ?_ | refine .sF ?_ | refine .fk ?_))
  refine .split (fun h => absurd (of_decide_eq_true (show decide (b >= ((kidsD l).length : Int)) = true from h)) (by rw [kids_len]; exact Int.not_le.2 hb)) (fun h2 => ?_)
  (repeat' (first | refine .nd ?_ | refine .nq ?_ | (refine .rv rfl ?_; cbv) | (refine .rr rfl ?_; cbv) | refine .sT ?_ | refine .sF ?_ | refine .fk ?_))
  refine .need ⟨h0, Int.lt_of_lt_of_le hb (Int.le_of_eq (kids_len l).symm)⟩ ?_; refine .row _ _ (kids_get hx) rfl ?_; cbv; exact .fn
end Go.Qu
