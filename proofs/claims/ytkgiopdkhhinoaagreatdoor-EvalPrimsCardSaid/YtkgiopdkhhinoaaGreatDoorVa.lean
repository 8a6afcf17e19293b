/- Values without kids. Numbers and truths as values. Floors, products, numbers of package eval and of its reference. Products of package eval. -/
import Derived.Test.YtkgiopdkhhinoaaGreatDoorTa
import Derived.Test.YtkgiopdkhhinoaaGreatDoorXc
import Derived.Lib.Mul64
import Derived.IntWalk
set_option linter.all false
namespace Go.Qu
open Go.Eng Go.Proofs
structure Sc where
  k : Int
  n : Int
def nilV : Value := .slice none 0 0
def Sc.sv (s : Sc) : SV := .agg [.int .i64 fun _ => s.k, .str fun _ => ⟨#[]⟩, .int .i64 fun _ => s.n, .nils]
def Sc.dv (s : Sc) : List DV := [.int .i64 s.k, .str ⟨#[]⟩, .int .i64 s.n, .raw nilV]
def num0 (n : Int) : Sc := ⟨1, n⟩
def bool0 (b : Bool) : Sc := ⟨2, if b then 1 else 0⟩
def zero0 : Sc := ⟨0, 0⟩
def unit0 : Sc := ⟨3, 0⟩
def vk (p : Sc × Int) : SV := .tup [p.1.sv, .int .i64 fun _ => p.2]
def ints (l : List Int) : List (List DV) := l.map fun n => [.int .i64 n]
end Go.Qu
namespace Go.Qu
open Go.Eng Go.Proofs
def greatB (n : Int) : Bool := decide (n > 1000000000000) || decide (n < -1000000000000)
set_option maxRecDepth 100000 in
theorem great_ok (n : Int) : Pure Tryz.prog 4 [.int .i64 fun _ => n] (.bs fun _ => greatB n) := by
  refine pure_of (P := fun _ => Tryz.prog) tabOk Tryz.func4 rfl rfl ?_
  cbv; repeat' (refine HU.split (fun _ => ?_) (fun _ => ?_))
  all_goals
    exact .fn
set_option maxRecDepth 100000 in
theorem lnumber_ok (n : Int) : Pure Tryz.prog 5 [.int .i64 fun _ => n] (num0 n).sv := by
  refine pure_of (P := fun _ => Tryz.prog) tabOk Tryz.func5 rfl rfl ?_
  cbv; exact .fn
theorem and_one (n : Int) : IntKind.i64.wrap (((BitVec.ofInt IntKind.i64.bits n &&& BitVec.ofInt IntKind.i64.bits 1).toNat : Nat) : Int) = n % 2 := by
  have h1 : (BitVec.ofInt IntKind.i64.bits n &&& BitVec.ofInt IntKind.i64.bits 1).toNat = (n % 18446744073709551616).toNat % 2 := by
    rw [BitVec.toNat_and, BitVec.toNat_ofInt, BitVec.toNat_ofInt]; exact Nat.and_one_is_mod _
  rw [h1]; have h2 : (((n % 18446744073709551616).toNat % 2 : Nat) : Int) = n % 2 := by omega
  rw [h2]; rcases Int.emod_two_eq n with h | h <;> rw [h] <;> rfl
set_option maxRecDepth 100000 in
theorem ltruth_ok (n : Int) : Pure Tryz.prog 6 [.int .i64 fun _ => n] (bool0 (decide (n % 2 = 1))).sv := by
  refine pure_of (P := fun _ => Tryz.prog) tabOk Tryz.func6 rfl rfl ?_
  cbv
  (refine .fin () 99 trivial (le_of ?_); cbv; refine .mk ?_; repeat' (first | exact AllP.nil | refine AllP.cons ?_ ?_))
  all_goals try rfl
  show (if decide (n % 2 = 1) = true then (1 : Int) else 0) = _
  refine Eq.trans ?_ (and_one n).symm; rcases Int.emod_two_eq n with h | h <;> rw [h] <;> rfl
set_option maxRecDepth 100000 in
theorem rtruth_ok (b : Bool) : Pure Tryz.prog 14 [.bs fun _ => b] (bool0 b).sv := by
  refine pure_of (P := fun _ => Tryz.prog) tabOk Tryz.func14 rfl rfl ?_
  cbv; refine .split (fun h => ?_) (fun h => ?_)
  . have h : b = true := h; subst h; exact .fn
  . have h : b = false := h; subst h; exact .fn
set_option maxRecDepth 100000 in
theorem rnumber_ok (n : Int) : Pure Tryz.prog 15 [.int .i64 fun _ => n] (num0 n).sv := by
  refine pure_of (P := fun _ => Tryz.prog) tabOk Tryz.func15 rfl rfl ?_
  cbv; exact .fn
def exactV (n : Int) : Sc × Int := if greatB n then (zero0, 2) else (num0 n, 0)
set_option maxRecDepth 100000 in
theorem exact_ok (n : Int) : Pure Tryz.prog 11 [.int .i64 fun _ => n] (vk (exactV n)) := by
  refine pure_of (P := fun _ => Tryz.prog) tabOk Tryz.func11 rfl rfl ?_
  cbv; refine .cl (great_ok n) ?_; cbv; refine .split (fun h => ?_) (fun h => ?_)
  . have h : greatB n = true := h; simp only [exactV, h, if_true]; exact .fn
  . have h : greatB n = false := h; simp only [exactV, h]; refine .cl (rnumber_ok n) ?_; cbv; exact .fn
end Go.Qu
namespace Go.Qu
open Go.Eng Go.Proofs
set_option maxRecDepth 100000 in
theorem enumber_ok (n : Int) : Pure Tryz.prog 27 [.int .i64 fun _ => n] (vk (exactV n)) := by
  refine pure_of (P := fun _ => Tryz.prog) tabOk Tryz.func27 rfl rfl ?_
  cbv; refine .split (fun h => ?_) (fun h => ?_)
  . have h : (decide (n < -1000000000000) || decide (n > 1000000000000)) = true := h
    have h : greatB n = true := by rw [greatB, Bool.or_comm]; exact h
    simp only [exactV, h, if_true]; exact .fn
  . have h : (decide (n < -1000000000000) || decide (n > 1000000000000)) = false := h
    have h : greatB n = false := by rw [greatB, Bool.or_comm]; exact h
    simp only [exactV, h]; exact .fn
set_option maxRecDepth 100000 in
theorem etruth_ok (b : Bool) : Pure Tryz.prog 30 [.bs fun _ => b] (vk (bool0 b, 0)) := by
  refine pure_of (P := fun _ => Tryz.prog) tabOk Tryz.func30 rfl rfl ?_
  cbv; refine .split (fun h => ?_) (fun h => ?_)
  . have h : b = true := h; subst h; exact .fn
  . have h : b = false := h; subst h; exact .fn
def flV (a b : Int) : Int := if (Int.tmod a b != 0) = true then (bif decide (a < 0) != decide (b < 0) then IntKind.i64.wrap (IntKind.i64.wrap (Int.tdiv a b) - 1) else IntKind.i64.wrap (Int.tdiv a b)) else IntKind.i64.wrap (Int.tdiv a b)
set_option maxRecDepth 100000 in
theorem rfloor_ok (a b : Int) (hb : b ≠ 0) : Pure Tryz.prog 13 [.int .i64 fun _ => a, .int .i64 fun _ => b] (.int .i64 fun _ => flV a b) := by
  refine pure_of (P := fun _ => Tryz.prog) tabOk Tryz.func13 rfl rfl ?_
  cbv; refine .need hb (.need hb (.split (fun h => ?_) (fun h => ?_)))
  . have h : (Int.tmod a b != 0) = true := h; simp only [flV, h, if_true]; exact .fn
  . have h : (Int.tmod a b != 0) = false := h; simp only [flV, h]; exact .fn
set_option maxRecDepth 100000 in
theorem efloor_ok (a b : Int) (hb : b ≠ 0) : Pure Tryz.prog 29 [.int .i64 fun _ => a, .int .i64 fun _ => b] (.int .i64 fun _ => flV a b) := by
  refine pure_of (P := fun _ => Tryz.prog) tabOk Tryz.func29 rfl rfl ?_
  cbv; refine .need hb (.need hb (.split (fun h => ?_) (fun h => ?_)))
  . have h : (Int.tmod a b != 0) = true := h; simp only [flV, h, if_true]; exact .fn
  . have h : (Int.tmod a b != 0) = false := h; simp only [flV, h]; exact .fn
def inM (a : Int) : Prop := -1000000000000 <= a /\ a <= 1000000000000
def absI (a : Int) : Int := if a < 0 then -a else a
def mulB (a b : Int) : Bool := decide (absI a * absI b <= 1000000000000)
theorem wrapU (n : Int) : IntKind.u64.wrap n = n % 18446744073709551616 := by simp [IntKind.wrap, IntKind.bits, IntKind.signed]
theorem wrap64_of {a b : Int} (e : b = a) (h : -9223372036854775808 <= a) (k : a < 9223372036854775808) : b = IntKind.i64.wrap a := by rw [IntKind.wrap_i64, e]; omega
theorem w64 {n : Int} (h : -9223372036854775808 <= n) (k : n < 9223372036854775808) : IntKind.i64.wrap n = n := (wrap64_of rfl h k).symm
theorem neg_abs {b : Int} (hb : inM b) : (bif decide (b < 0) then IntKind.i64.wrap (0 - b) else b) = absI b := by
  unfold inM at hb; unfold absI; by_cases h : b < 0
  . simp only [h, decide_true, cond_true, if_true]; rw [w64 (by omega) (by omega)]
    omega
  . simp [h]
theorem abs_pos {b : Int} (hb : b ≠ 0) : 0 < absI b := by unfold absI; split <;> omega
set_option maxRecDepth 100000 in
theorem rtimes_ok (a b : Int) (ha : inM a) (hb : inM b) : Pure Tryz.prog 12 [.int .i64 fun _ => a, .int .i64 fun _ => b] (.tup [.int .i64 fun _ => IntKind.i64.wrap (a * b), .bs fun _ => mulB a b]) := by
  refine pure_of (P := fun _ => Tryz.prog) tabOk Tryz.func12 rfl rfl ?_
  cbv; refine .split (fun h => ?_) (fun h => ?_)
  . have h : (a == 0 || b == 0) = true := h
    have h0 : a * b = 0 := by
      simp only [Bool.or_eq_true, beq_iff_eq] at h; rcases h with h | h <;> simp [h]
    have h1 : mulB a b = true := by
      simp only [Bool.or_eq_true, beq_iff_eq] at h; unfold mulB; rcases h with h | h <;> simp [h, absI]
    rw [h0, h1]; exact .fn
  . have h : (a == 0 || b == 0) = false := h
    simp only [Bool.or_eq_false_iff, beq_eq_false_iff_ne, ne_eq] at h; have hp := abs_pos h.2; refine .need (by show ¬ (bif decide (b < 0) then IntKind.i64.wrap (0 - b) else b) = 0; rw [neg_abs hb]; omega) (.need rfl ?_)
    (refine .fin () 99 trivial (le_of ?_); cbv; refine .mk ?_; repeat' (first | exact AllP.nil | refine AllP.cons ?_ ?_))
    rotate_left
    all_goals try rfl
    . show mulB a b = decide ((bif decide (a < 0) then IntKind.i64.wrap (0 - a) else a) <= IntKind.i64.wrap (Int.tdiv 1000000000000 (bif decide (b < 0) then IntKind.i64.wrap (0 - b) else b))); rw [neg_abs ha, neg_abs hb]; have hq : Int.tdiv 1000000000000 (absI b) = 1000000000000 / absI b := Int.tdiv_eq_ediv_of_nonneg (by decide)
      have hq1 : 0 <= 1000000000000 / absI b := Int.ediv_nonneg (by decide) (by omega)
      have hq2 : 1000000000000 / absI b <= 1000000000000 := Int.ediv_le_self _ (by decide)
      rw [hq, w64 (by omega) (by omega)]
      unfold mulB; exact decide_eq_decide.2 (Int.le_ediv_iff_mul_le hp).symm
theorem and32 (X : Nat) (h : X < 18446744073709551616) : IntKind.u64.wrap (((BitVec.ofInt IntKind.u64.bits (X : Int) &&& BitVec.ofInt IntKind.u64.bits 4294967295).toNat : Nat) : Int) = ((X % 4294967296 : Nat) : Int) := by
  have h1 : (BitVec.ofInt IntKind.u64.bits (X : Int) &&& BitVec.ofInt IntKind.u64.bits 4294967295).toNat = X % 4294967296 := by
    rw [BitVec.toNat_and, BitVec.toNat_ofInt, BitVec.toNat_ofInt]
    have e1 : ((X : Int) % ((2 ^ IntKind.u64.bits : Nat) : Int)).toNat = X := by
      show ((X : Int) % 18446744073709551616).toNat = X; omega
    rw [e1]; exact Nat.and_two_pow_sub_one_eq_mod X 32
  rw [h1, wrapU]; omega
theorem shr32 (X : Nat) : (X : Int).fdiv (2 ^ min (Int.toNat 32) IntKind.u64.bits) = ((X / 4294967296 : Nat) : Int) := by
  show (X : Int).fdiv 4294967296 = _; rw [Int.fdiv_eq_ediv_of_nonneg _ (by decide)]
  rfl
theorem u64c {X : Nat} (h : X < 18446744073709551616) : IntKind.u64.wrap (X : Int) = (X : Int) := by rw [wrapU]; omega
set_option maxRecDepth 100000 in
theorem mul64_ok (X Y : Nat) (hx : X < 18446744073709551616) (hy : Y < 18446744073709551616) : Pure Tryz.prog 38 [.int .u64 fun _ => (X : Int), .int .u64 fun _ => (Y : Int)] (.tup [.int .u64 fun _ => ((X * Y / 18446744073709551616 : Nat) : Int), .int .u64 fun _ => ((X * Y % 18446744073709551616 : Nat) : Int)]) := by
  refine Exists.elim (show ∃ x : Int, (X : Int) = x from ⟨_, rfl⟩) fun x ex => ?_
  refine Exists.elim (show ∃ y : Int, (Y : Int) = y from ⟨_, rfl⟩) fun y ey => ?_
  refine Exists.elim (show ∃ h : Int, ((X * Y / 18446744073709551616 : Nat) : Int) = h from ⟨_, rfl⟩) fun hi ehi => ?_
  refine Exists.elim (show ∃ h : Int, ((X * Y % 18446744073709551616 : Nat) : Int) = h from ⟨_, rfl⟩) fun lo elo => ?_
  rw [ex, ey, ehi, elo]; refine pure_of (P := fun _ => Tryz.prog) tabOk Tryz.func38 rfl rfl ?_
  cbv; refine .need (by decide) (.need (by decide) (.need (by decide) (.need (by decide) (.need (by decide) ?_))))
  (refine .fin () 99 trivial (le_of ?_); cbv; refine .mk ?_; repeat' (first | exact AllP.nil | refine AllP.cons ?_ ?_))
  . rw [<- ehi, <- ex, <- ey]; simp only [and32 X hx, and32 Y hy, shr32]; obtain ⟨m1, m2, m3, m4⟩ := Lib.mul64_hi X Y hx hy; rw [<- m4]; have k1 : ∀ (a b : Nat), ((a : Int) * (b : Int)) = ((a * b : Nat) : Int) := fun a b => (Int.natCast_mul a b).symm
    have k2 : ∀ (a b : Nat), ((a : Int) + (b : Int)) = ((a + b : Nat) : Int) := fun a b => (Int.natCast_add a b).symm
    have hA : (X / 4294967296) * (Y / 4294967296) < 18446744073709551616 := Nat.lt_of_le_of_lt (Lib.half_mul_le (a := X / 4294967296) (b := Y / 4294967296) (by omega) (by omega)) (by decide)
    have hB : (X / 4294967296) * (Y % 4294967296) < 18446744073709551616 := Nat.lt_of_le_of_lt (Lib.half_mul_le (by omega) (by omega)) (by decide)
    have hC : (X % 4294967296) * (Y / 4294967296) < 18446744073709551616 := Nat.lt_of_le_of_lt (Lib.half_mul_le (by omega) (by omega)) (by decide)
    have hH : X * Y / 18446744073709551616 < 18446744073709551616 := by
      rw [Nat.div_lt_iff_lt_mul (by decide)]
      exact Nat.mul_lt_mul'' hx hy
    rw [<- m4] at hH; simp only [k1, u64c hA, u64c hB, u64c hC, u64c m1, shr32, k2, u64c m2, and32 _ m2, u64c m3]; rw [u64c (Nat.lt_of_le_of_lt (Nat.le_add_right _ _) hH), k2, u64c hH]
  . rw [<- elo, <- ex, <- ey, <- Int.natCast_mul, wrapU]; rfl
end Go.Qu
namespace Go.Qu
open Go.Eng Go.Proofs
def timesV (a b : Int) : Sc × Int := if mulB a b then exactV (IntKind.i64.wrap (a * b)) else (zero0, 2)
theorem absU {a : Int} (ha : inM a) : (bif decide (a < 0) then IntKind.u64.wrap (0 - IntKind.u64.wrap a) else IntKind.u64.wrap a) = ((absI a).toNat : Int) := by
  unfold inM at ha; unfold absI; by_cases h : a < 0
  . simp only [h, decide_true, cond_true, if_true]; rw [wrapU, wrapU]; omega
  . simp only [h, decide_false, cond_false, if_false]; rw [wrapU]; omega
theorem hilo {a b : Int} : (decide (((((absI a).toNat * (absI b).toNat / 18446744073709551616 : Nat) : Int)) > 0) || decide ((((absI a).toNat * (absI b).toNat % 18446744073709551616 : Nat) : Int) > 1000000000000)) = !mulB a b := by
  have e : absI a * absI b = (((absI a).toNat * (absI b).toNat : Nat) : Int) := by
    have h1 : ((absI a).toNat : Int) = absI a := by unfold absI; split <;> omega
    have h2 : ((absI b).toNat : Int) = absI b := by unfold absI; split <;> omega
    rw [Int.natCast_mul, h1, h2]
  unfold mulB; rw [e]; generalize (absI a).toNat * (absI b).toNat = k; rw [Bool.eq_iff_iff]; simp only [Bool.or_eq_true, decide_eq_true_eq, Bool.not_eq_true', decide_eq_false_iff_not]; omega
set_option maxRecDepth 100000 in
theorem etimes_ok (a b : Int) (ha : inM a) (hb : inM b) : Pure Tryz.prog 28 [.int .i64 fun _ => a, .int .i64 fun _ => b] (vk (timesV a b)) := by
  have hm := mul64_ok (absI a).toNat (absI b).toNat (by unfold inM at ha; unfold absI; split <;> omega) (by unfold inM at hb; unfold absI; split <;> omega)
  have hl := hilo (a := a) (b := b); refine Exists.elim (show ∃ h : Int, (((absI a).toNat * (absI b).toNat / 18446744073709551616 : Nat) : Int) = h from ⟨_, rfl⟩) fun hi ehi => ?_
  refine Exists.elim (show ∃ h : Int, (((absI a).toNat * (absI b).toNat % 18446744073709551616 : Nat) : Int) = h from ⟨_, rfl⟩) fun lo elo => ?_
  rw [ehi, elo] at hm hl; have hx := absU ha; have hy := absU hb; generalize ((absI a).toNat : Int) = x at *; generalize ((absI b).toNat : Int) = y at *; have hn := enumber_ok (IntKind.i64.wrap (a * b)); have ht : ∀ p, exactV (IntKind.i64.wrap (a * b)) = p -> mulB a b = true -> timesV a b = p := fun p e h => by rw [timesV, h, if_pos rfl, e]
  have hf : mulB a b = false -> timesV a b = (zero0, 2) := fun h => by rw [timesV, h]; rfl
  refine Exists.elim (show ∃ p, exactV (IntKind.i64.wrap (a * b)) = p from ⟨_, rfl⟩) fun p ep => ?_
  rw [ep] at hn; have ht := ht p ep; obtain ⟨v, k⟩ := p; generalize timesV a b = tv at *; refine pure_of (P := fun _ => Tryz.prog) tabOk Tryz.func28 rfl rfl ?_
  cbv; refine .call hm ?_ rfl rfl ?_
  . (cbv; refine .mk ?_; repeat' (first | exact AllP.nil | refine AllP.cons ?_ ?_))
    . exact hx.symm
    . exact hy.symm
  cbv; refine .split (fun h => ?_) (fun h => ?_)
  . have h : (decide (hi > 0) || decide (lo > 1000000000000)) = true := h
    rw [hl] at h; have h : mulB a b = false := by simpa using h
    have e := hf h; subst e; exact .fn
  . have h : (decide (hi > 0) || decide (lo > 1000000000000)) = false := h
    rw [hl] at h; have h : mulB a b = true := by simpa using h
    have e := ht h; subst e; refine .cl hn ?_; cbv; exact .fn
end Go.Qu
