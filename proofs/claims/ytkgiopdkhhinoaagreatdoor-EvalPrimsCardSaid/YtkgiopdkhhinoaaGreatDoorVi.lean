/- The reference's Prim at put and make; laid by mkd.py. -/
import Derived.Test.YtkgiopdkhhinoaaGreatDoorVg
set_option linter.all false
namespace Go.Qu
open Go.Eng Go.Proofs
set_option maxHeartbeats 2000000 in
set_option maxRecDepth 100000 in
theorem rprim17e (l : List Int) (b c : Int) (hb : ¬ (0 <= b /\ b < (l.length : Int))) : Pure Tryz.prog 7 [.raw (.string ⟨#[112, 117, 116]⟩), .ds 4 fun _ => [vecD l, (num0 b).dv, (num0 c).dv]] (vk (zero0, 3)) := by
  refine pure_of (P := fun _ => Tryz.prog) tabOk Tryz.func7 rfl rfl ?_
  cbv
  (repeat' (first | refine .nd ?_ | refine .nq ?_ | (refine .rv rfl ?_; cbv) | (refine .rr rfl ?_; cbv) | refine .sT ?_ | refine .sF ?_ | refine .fk ?_))
  refine .split (fun h => ?_) (fun h1 => ?_)
  . exact .fn
  have h1 : decide (b < 0) = false := h1
  (repeat' (first | refine .nd ?_ | refine .nq ?_ | (refine .rv rfl ?_; cbv) | (refine .rr rfl ?_; cbv) | refine .sT ?_ | refine .sF ?_ | refine .fk ?_))
  refine .split (fun h => ?_) (fun h2 => ?_)
  . exact .fn
  have h2 : decide (b >= ((kidsD l).length : Int)) = false := h2; rw [kids_len] at h2; exact absurd ⟨Int.not_lt.1 (of_decide_eq_false h1), Int.not_le.1 (of_decide_eq_false h2)⟩ hb
set_option maxHeartbeats 2000000 in
set_option maxRecDepth 100000 in
theorem rprim17v (l : List Int) (hl : l.length <= 1000) (b c x : Int) (h0 : 0 <= b) (hb : b < (l.length : Int)) (hx : l[b.toNat]? = some x) : Eng.Spec Tryz.prog 7 [.raw (.string ⟨#[112, 117, 116]⟩), .os 0] [(0, .arr 27 4 fun _ => [vecD l, (num0 b).dv, (num0 c).dv])] 1 (fun _ : Unit => True) (fun _ => .tup [.agg (vecV (l.set b.toNat c)), .int .i64 fun _ => 0]) (fun _ => [(0, .arr 27 4 fun _ => [vecD l, (num0 b).dv, (num0 c).dv])]) := by
  have hz := setRow_set (c := c) hx; generalize l.set b.toNat c = z at *; refine spec_of' (P := fun _ => Tryz.prog) tabOk Tryz.func7 rfl rfl ?_
  cbv
  (repeat' (first | refine .nd ?_ | refine .nq ?_ | (refine .rv rfl ?_; cbv) | (refine .rr rfl ?_; cbv) | refine .sT ?_ | refine .sF ?_ | refine .fk ?_))
  refine .split (fun h => absurd (of_decide_eq_true (show decide (b < 0) = true from h)) (Int.not_lt.2 h0)) (fun h1 => ?_)
  (repeat' (first | refine .nd ?_ | refine .nq ?_ | (refine .rv rfl ?_; cbv) | (refine .rr rfl ?_; cbv) | refine .sT ?_ | refine .sF ?_ | refine .fk ?_))
  refine .split (fun h => absurd (of_decide_eq_true (show decide (b >= ((kidsD l).length : Int)) = true from h)) (by rw [kids_len]; exact Int.not_le.2 hb)) (fun h2 => ?_)
  (repeat' (first | refine .nd ?_ | refine .nq ?_ | (refine .rv rfl ?_; cbv) | (refine .rr rfl ?_; cbv) | refine .sT ?_ | refine .sF ?_ | refine .fk ?_))
  refine .need (by simp only [List.length_nil, kids_length]; omega) ?_
  (repeat' (first | refine .nd ?_ | refine .nq ?_ | (refine .rv rfl ?_; cbv) | (refine .rr rfl ?_; cbv) | refine .sT ?_ | refine .sF ?_ | refine .fk ?_))
  refine .need ⟨h0, Int.lt_of_lt_of_le hb (Int.le_of_eq (kids_len l).symm)⟩ ?_
  (repeat' (first | refine .nd ?_ | refine .nq ?_ | (refine .rv rfl ?_; cbv) | (refine .rr rfl ?_; cbv) | refine .sT ?_ | refine .sF ?_ | refine .fk ?_))
  (refine .fin () 99 trivial (le_of ?_); cbv; refine .mk ?_; repeat' (first | exact AllP.nil | refine AllP.cons ?_ ?_))
  all_goals first | rfl | exact hz.symm | exact hz
set_option maxHeartbeats 2000000 in
set_option maxRecDepth 100000 in
theorem rprim18n (a b : Int) (ha : a < 0) : Pure Tryz.prog 7 [.raw (.string ⟨#[109, 97, 107, 101]⟩), .ds 4 fun _ => [(num0 a).dv, (num0 b).dv]] (vk (zero0, 3)) := by
  refine pure_of (P := fun _ => Tryz.prog) tabOk Tryz.func7 rfl rfl ?_
  cbv
  (repeat' (first | refine .nd ?_ | refine .nq ?_ | (refine .rv rfl ?_; cbv) | (refine .rr rfl ?_; cbv) | refine .sT ?_ | refine .sF ?_ | refine .fk ?_))
  refine .split (fun h => ?_) (fun h => absurd ha (of_decide_eq_false (show decide (a < 0) = false from h)))
  exact .fn
set_option maxHeartbeats 2000000 in
set_option maxRecDepth 100000 in
theorem rprim18g (a b : Int) (ha : 1000 < a) : Pure Tryz.prog 7 [.raw (.string ⟨#[109, 97, 107, 101]⟩), .ds 4 fun _ => [(num0 a).dv, (num0 b).dv]] (vk (zero0, 2)) := by
  refine pure_of (P := fun _ => Tryz.prog) tabOk Tryz.func7 rfl rfl ?_
  cbv
  (repeat' (first | refine .nd ?_ | refine .nq ?_ | (refine .rv rfl ?_; cbv) | (refine .rr rfl ?_; cbv) | refine .sT ?_ | refine .sF ?_ | refine .fk ?_))
  refine .split (fun h => absurd (of_decide_eq_true (show decide (a < 0) = true from h)) (by omega)) (fun _ => ?_)
  refine .split (fun h => ?_) (fun h => absurd ha (of_decide_eq_false (show decide (a > 1000) = false from h)))
  exact .fn
set_option maxHeartbeats 2000000 in
set_option maxRecDepth 100000 in
theorem rprim18v (n : Nat) (hn : n <= 1000) (b : Int) : Eng.Spec Tryz.prog 7 [.raw (.string ⟨#[109, 97, 107, 101]⟩), .os 0] [(0, .arr 27 4 fun _ => [(num0 (n : Int)).dv, (num0 b).dv])] 1 (fun _ : Unit => True) (fun _ => .tup [.agg (vecV (List.replicate n b)), .int .i64 fun _ => 0]) (fun _ => [(0, .arr 27 4 fun _ => [(num0 (n : Int)).dv, (num0 b).dv])]) := by
  have hm0 : 0 <= (n : Int) := by omega
  have hm1 : (n : Int) <= 1000 := by omega
  have hnum := rnumber_ok b; refine Exists.elim (show ∃ m : Int, (n : Int) = m from ⟨_, rfl⟩) fun m hm => ?_
  refine Exists.elim (show ∃ z, List.replicate n b = z from ⟨_, rfl⟩) fun z hz => ?_
  rw [hm] at hm0 hm1; rw [hm, hz]; refine spec_of' (P := fun _ => Tryz.prog) tabOk Tryz.func7 rfl rfl ?_
  cbv
  (repeat' (first | refine .nd ?_ | refine .nq ?_ | (refine .rv rfl ?_; cbv) | (refine .rr rfl ?_; cbv) | refine .sT ?_ | refine .sF ?_ | refine .fk ?_))
  refine .split (fun h => absurd (of_decide_eq_true (show decide (m < 0) = true from h)) (by omega)) (fun _ => ?_)
  refine .split (fun h => absurd (of_decide_eq_true (show decide (m > 1000) = true from h)) (by omega)) (fun _ => ?_)
  (repeat' (first | refine .nd ?_ | refine .nq ?_ | (refine .rv rfl ?_; cbv) | (refine .rr rfl ?_; cbv) | refine .sT ?_ | refine .sF ?_ | refine .fk ?_))
  refine .loop Nat (fun k => k <= n) (fun k => [(163, .int .i64 fun _ => (k : Int))]) (fun k => [(2, .cells 27 [.int .i64 fun _ => 4, .str fun _ => ⟨#[]⟩, .int .i64 fun _ => 0, .os 3]), (3, .arr 27 4 fun _ => kidsD (List.replicate k b)), (1, .cells 27 [.int .i64 fun _ => 0, .str fun _ => ⟨#[]⟩, .int .i64 fun _ => 0, .nils]), (0, .arr 27 4 fun _ => [(num0 m).dv, (num0 b).dv])]) 4 (fun k => n - k) 0 (Nat.zero_le _) ?_ ?_
  . (refine le_of ?_; cbv; refine .mk ?_; repeat' (first | exact AllP.nil | refine AllP.cons ?_ ?_))
    all_goals first | rfl | exact ⟨rfl, rfl⟩
  intro k hk; have hkd : (kidsD (List.replicate k b)).length = k := by rw [kids_length, List.length_replicate]
  have hks : kidsD (List.replicate (k + 1) b) = kidsD (List.replicate k b) ++ [(num0 b).dv] := by rw [List.replicate_succ', kidsD, kidsD, List.map_append]; rfl
  refine Exists.elim (show ∃ y, kidsD (List.replicate k b) = y from ⟨_, rfl⟩) fun y hy => ?_
  rw [hy] at hkd hks; have hhd : ∀ (f : Unit -> List (List DV)), f = (fun _ => y) -> True := fun _ _ => trivial
  rw [hy]; cbv; refine .split (fun h1 => ?_) (fun h1 => ?_)
  . have hkl : k < n := by have h2 := of_decide_eq_true (show decide ((k : Int) < m) = true from h1); rw [<- hm] at h2; exact Int.ofNat_lt.1 h2
    refine .callD hnum ?_ rfl rfl (fun h => nomatch h) ?_ rfl
    . (cbv; refine .mk ?_; repeat' (first | exact AllP.nil | refine AllP.cons ?_ ?_))
      all_goals rfl
    cbv; refine .need (by simp only [List.length_cons, List.length_nil, hkd]; omega) ?_
    refine .need rfl ?_; refine .prop ⟨k + 1, hkl, by omega, ?_⟩
    rw [hks]
    (refine le_of ?_; cbv; refine .mk ?_; repeat' (first | exact AllP.nil | refine AllP.cons ?_ ?_))
    all_goals first | rfl | exact ⟨rfl, rfl⟩ | (refine wrap64_of ?_ ?_ ?_ <;> simp only [natCast_eq] <;> omega)
  . have hkl : n <= k := by have h2 := of_decide_eq_false (show decide ((k : Int) < m) = false from h1); rw [<- hm] at h2; exact Nat.le_of_not_lt fun h => h2 (Int.ofNat_lt.2 h)
    have hkn : k = n := Nat.le_antisymm hk hkl; rw [hkn, hz] at hy
    (refine .fin () 99 trivial (le_of ?_); cbv; refine .mk ?_; repeat' (first | exact AllP.nil | refine AllP.cons ?_ ?_))
    all_goals first | rfl | exact hy | exact hy.symm
end Go.Qu
