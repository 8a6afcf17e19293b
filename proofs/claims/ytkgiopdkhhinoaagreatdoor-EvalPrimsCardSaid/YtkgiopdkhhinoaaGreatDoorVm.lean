/- The law for each form of arguments, part 2; laid by mkl.py. The law for each form of arguments, part 3; laid by mkl.py. The law for each form of arguments, part 4; laid by mkl.py. -/
import Derived.Test.YtkgiopdkhhinoaaGreatDoorVk
import Derived.Test.YtkgiopdkhhinoaaGreatDoorVg
import Derived.Test.YtkgiopdkhhinoaaGreatDoorVd
set_option linter.all false
namespace Go.Qu
open Go.Eng Go.Proofs
set_option maxHeartbeats 4000000 in
set_option maxRecDepth 100000 in
theorem lawO {which a b c : Int} {l : List Int}
    (hN : namesD[(Int.tmod (IntKind.i64.wrap which) 19).toNat]? = some [.str ⟨#[110, 101, 103]⟩] /\ (0 <= Int.tmod (IntKind.i64.wrap which) 19 /\ Int.tmod (IntKind.i64.wrap which) 19 < 19))
    {v : Sc} {e : Int}
    (hr : inM a -> Eng.Spec Tryz.prog 7 [.raw (.string ⟨#[110, 101, 103]⟩), .ov 0 4 (fun _ => 0) (fun _ => 1)] [(0, .arr 27 4 fun _ => [(num0 a).dv, (num0 b).dv])] 1 (fun _ : Unit => True) (fun _ => vk (v, e)) (fun _ => [(0, .arr 27 4 fun _ => [(num0 a).dv, (num0 b).dv])]))
    (he : inM a -> Eng.Spec Tryz.prog 8 [.raw (.string ⟨#[110, 101, 103]⟩), .ov 0 4 (fun _ => 0) (fun _ => 1)] [(0, .arr 27 4 fun _ => [(num0 a).dv, (num0 b).dv])] 1 (fun _ : Unit => True) (fun _ => .tup [v.sv, .int .i64 fun _ => e, .int .i64 fun _ => 0]) (fun _ => [(0, .arr 27 4 fun _ => [(num0 a).dv, (num0 b).dv])]))
    (har : Eng.Spec Tryz.prog 8 [.raw (.string ⟨#[110, 101, 103]⟩), .ov 0 4 (fun _ => 1) (fun _ => 1)] [(0, .arr 27 4 fun _ => [(num0 a).dv, (num0 b).dv])] 1 (fun _ : Unit => True) (fun _ => .tup [.agg [.int .i64 fun _ => 0, .str fun _ => ⟨#[]⟩, .int .i64 fun _ => 0, .nils], .int .i64 fun _ => 0, .int .i64 fun _ => 101]) (fun _ => [(0, .arr 27 4 fun _ => [(num0 a).dv, (num0 b).dv])]))
    (hpw : Eng.Spec Tryz.prog 8 [.raw (.string ⟨#[112, 111, 119, 101, 114]⟩), .ov 0 4 (fun _ => 0) (fun _ => 1)] [(0, .arr 27 4 fun _ => [(num0 a).dv, (num0 b).dv])] 1 (fun _ : Unit => True) (fun _ => .tup [.agg [.int .i64 fun _ => 0, .str fun _ => ⟨#[]⟩, .int .i64 fun _ => 0, .nils], .int .i64 fun _ => 0, .int .i64 fun _ => 100]) (fun _ => [(0, .arr 27 4 fun _ => [(num0 a).dv, (num0 b).dv])]))
    (hbs : Eng.Spec Tryz.prog 8 [.raw (.string ⟨#[110, 101, 103]⟩), .ov 0 4 (fun _ => 0) (fun _ => 1)] [(0, .arr 27 4 fun _ => [unit0.dv, (num0 b).dv])] 1 (fun _ : Unit => True) (fun _ => .tup [.agg [.int .i64 fun _ => 0, .str fun _ => ⟨#[]⟩, .int .i64 fun _ => 0, .nils], .int .i64 fun _ => 0, .int .i64 fun _ => 110]) (fun _ => [(0, .arr 27 4 fun _ => [unit0.dv, (num0 b).dv])])) : Pure Tryz.prog 3 [.int .u8 fun _ => which, .int .i64 fun _ => a, .int .i64 fun _ => b, .int .i64 fun _ => c, .ds 1 fun _ => ints l] (.bs fun _ => true) := by
  have hga := great_ok a; have hgb := great_ok b; have hgc := great_ok c; have hrow : namesD[(Int.tmod (IntKind.i64.wrap which) 19).toNat]? = some [.str ⟨#[110, 101, 103]⟩] := hN.1; refine pure_of (P := fun _ => Tryz.prog) tabOk Tryz.func3 rfl rfl ?_
  cbv; refine .need (by decide) (.need hN.2 (.row _ _ hrow rfl ?_))
  cbv; refine .cl hga ?_; cbv; refine .split (fun _ => ?_) (fun hA => ?_)
  . exact .fn
  refine .cl hgb ?_; cbv; refine .split (fun _ => ?_) (fun hB => ?_)
  . exact .fn
  refine .cl hgc ?_; cbv; refine .split (fun _ => ?_) (fun hCL => ?_)
  . exact .fn
  have hCL : (greatB c || decide (((ints l).length : Int) > 50)) = false := hCL
  obtain ⟨hC, hL⟩ := Bool.or_eq_false_iff.1 hCL; have hA := in_of hA; have hB := in_of hB; have hC := in_of hC; have hL := len50 hL; refine .loop Nat (fun k => k <= l.length /\ ∀ x ∈ l.take k, inM x) (fun k => [(57, .int .i64 fun _ => (l.length : Int)), (58, .int .i64 fun _ => (k : Int))]) (fun k => [(1, .cells 27 [.int .i64 fun _ => 4, .str fun _ => ⟨#[]⟩, .int .i64 fun _ => 0, .os 2]), (2, .arr 27 4 fun _ => kidsD (l.take k))]) 3 (fun k => l.length - k) 0 ⟨Nat.zero_le _, fun x hx => nomatch hx⟩ ?_ ?_
  . (refine le_of ?_; cbv; refine .mk ?_; repeat' (first | exact AllP.nil | refine AllP.cons ?_ ?_))
    all_goals first | rfl | exact ⟨rfl, rfl⟩ | (simp [lenL, ints]; done)
  rintro k ⟨hk, hm⟩; have hkd : (kidsD (l.take k)).length = k := by rw [kids_length, List.length_take]; omega
  refine Exists.elim (show ∃ y, kidsD (l.take k) = y from ⟨_, rfl⟩) fun y hy => ?_
  rw [hy] at hkd; rw [hy]; cbv; refine .split (fun h1 => ?_) (fun h1 => ?_)
  . have hkl : k < l.length := ltT h1; refine Exists.elim (getI hkl) fun x hx => ?_
    have hks : kidsD (l.take (k + 1)) = y ++ [(num0 x).dv] := by rw [<- hy, List.take_add_one, hx, kidsD, kidsD, List.map_append]; rfl
    have hgx := great_ok x; refine .need ⟨by simp, int_lt hkl⟩ ?_
    refine .row [.int .i64 x] _ (int_get hx) rfl ?_; cbv; refine .cl hgx ?_; cbv; refine .split (fun _ => ?_) (fun hX => ?_)
    . exact .fn
    refine .need (by simp only [List.length_cons, List.length_nil, hkd]; omega) ?_
    refine .prop ⟨k + 1, ⟨hkl, take_in hx hm (in_of hX)⟩, by omega, ?_⟩
    rw [hks]
    (refine le_of ?_; cbv; refine .mk ?_; repeat' (first | exact AllP.nil | refine AllP.cons ?_ ?_))
    all_goals first | rfl | exact ⟨rfl, rfl⟩ | (refine wrap64_of ?_ ?_ ?_ <;> simp only [natCast_eq] <;> omega)
  have hkl : k = l.length := Nat.le_antisymm hk (geF h1); rw [hkl, List.take_length] at hm hy; subst hy; have hlk : l.length <= 1000 := Nat.le_trans hL (by decide)
  have hna := lnumber_ok a; have hnb := lnumber_ok b; refine .cl hna ?_; cbv; refine .cl hnb ?_; cbv; have hr := hr hA; have he := he hA; have hs := same_self v; have haw := awake_ok
  (repeat' (first | refine .nd ?_ | refine .nq ?_ | (refine .rv rfl ?_; cbv) | (refine .rr rfl ?_; cbv) | refine .sT ?_ | refine .sF ?_ | refine .fk ?_))
  (repeat' (first | refine .nd ?_ | refine .nq ?_ | (refine .rv rfl ?_; cbv) | (refine .rr rfl ?_; cbv) | refine .sT ?_ | refine .sF ?_ | refine .fk ?_))
  refine .cs [3] 199 hr ?_; cbv; refine .cs [3] 299 he ?_; cbv
  (repeat' (first | refine .nd ?_ | refine .nq ?_ | (refine .rv rfl ?_; cbv) | (refine .rr rfl ?_; cbv) | refine .sT ?_ | refine .sF ?_ | refine .fk ?_))
  refine .cs [3] 399 har ?_; cbv; refine .cs [3] 499 hpw ?_; cbv
  (repeat' (first | refine .nd ?_ | refine .nq ?_ | (refine .rv rfl ?_; cbv) | (refine .rr rfl ?_; cbv) | refine .sT ?_ | refine .sF ?_ | refine .fk ?_))
  refine .cs [3] 599 hbs ?_; cbv
  (repeat' (first | refine .nd ?_ | refine .nq ?_ | (refine .rv rfl ?_; cbv) | (refine .rr rfl ?_; cbv) | refine .sT ?_ | refine .sF ?_ | refine .fk ?_))
  refine .sT ?_ (beq_self_eq_true e); refine .cl hs ?_; cbv
  (repeat' (first | refine .nd ?_ | refine .nq ?_ | (refine .rv rfl ?_; cbv) | (refine .rr rfl ?_; cbv) | refine .sT ?_ | refine .sF ?_ | refine .fk ?_))
  refine .call0 haw ?_ rfl ?_
  . trivial
  cbv
  (repeat' (first | refine .nd ?_ | refine .nq ?_ | (refine .rv rfl ?_; cbv) | (refine .rr rfl ?_; cbv) | refine .sT ?_ | refine .sF ?_ | refine .fk ?_))
  exact .fn
set_option maxHeartbeats 4000000 in
set_option maxRecDepth 100000 in
theorem lawGet {which a b c : Int} {l : List Int}
    (hN : namesD[(Int.tmod (IntKind.i64.wrap which) 19).toNat]? = some [.str ⟨#[103, 101, 116]⟩] /\ (0 <= Int.tmod (IntKind.i64.wrap which) 19 /\ Int.tmod (IntKind.i64.wrap which) 19 < 19))
    {v : Sc} {e : Int}
    (hr : l.length <= 1000 -> (∀ x ∈ l, inM x) -> inM b -> inM c -> Pure Tryz.prog 7 [.raw (.string ⟨#[103, 101, 116]⟩), .ds 4 fun _ => [vecD l, (num0 b).dv]] (vk (v, e)))
    (he : l.length <= 1000 -> (∀ x ∈ l, inM x) -> inM b -> inM c -> Pure Tryz.prog 8 [.raw (.string ⟨#[103, 101, 116]⟩), .ds 4 fun _ => [vecD l, (num0 b).dv]] (.tup [v.sv, .int .i64 fun _ => e, .int .i64 fun _ => 0]))
    (har : Eng.Spec Tryz.prog 8 [.raw (.string ⟨#[103, 101, 116]⟩), .ov 0 4 (fun _ => 1) (fun _ => 2)] [(0, .arr 27 4 fun _ => [vecD l, (num0 b).dv])] 1 (fun _ : Unit => True) (fun _ => .tup [.agg [.int .i64 fun _ => 0, .str fun _ => ⟨#[]⟩, .int .i64 fun _ => 0, .nils], .int .i64 fun _ => 0, .int .i64 fun _ => 101]) (fun _ => [(0, .arr 27 4 fun _ => [vecD l, (num0 b).dv])]))
    (hpw : Pure Tryz.prog 8 [.raw (.string ⟨#[112, 111, 119, 101, 114]⟩), .ds 4 fun _ => [vecD l, (num0 b).dv]] (.tup [.agg [.int .i64 fun _ => 0, .str fun _ => ⟨#[]⟩, .int .i64 fun _ => 0, .nils], .int .i64 fun _ => 0, .int .i64 fun _ => 100]))
    (hbs : Pure Tryz.prog 8 [.raw (.string ⟨#[103, 101, 116]⟩), .ds 4 fun _ => [unit0.dv, (num0 b).dv]] (.tup [.agg [.int .i64 fun _ => 0, .str fun _ => ⟨#[]⟩, .int .i64 fun _ => 0, .nils], .int .i64 fun _ => 0, .int .i64 fun _ => 110])) : Pure Tryz.prog 3 [.int .u8 fun _ => which, .int .i64 fun _ => a, .int .i64 fun _ => b, .int .i64 fun _ => c, .ds 1 fun _ => ints l] (.bs fun _ => true) := by
  have hga := great_ok a; have hgb := great_ok b; have hgc := great_ok c; have hrow : namesD[(Int.tmod (IntKind.i64.wrap which) 19).toNat]? = some [.str ⟨#[103, 101, 116]⟩] := hN.1; refine pure_of (P := fun _ => Tryz.prog) tabOk Tryz.func3 rfl rfl ?_
  cbv; refine .need (by decide) (.need hN.2 (.row _ _ hrow rfl ?_))
  cbv; refine .cl hga ?_; cbv; refine .split (fun _ => ?_) (fun hA => ?_)
  . exact .fn
  refine .cl hgb ?_; cbv; refine .split (fun _ => ?_) (fun hB => ?_)
  . exact .fn
  refine .cl hgc ?_; cbv; refine .split (fun _ => ?_) (fun hCL => ?_)
  . exact .fn
  have hCL : (greatB c || decide (((ints l).length : Int) > 50)) = false := hCL
  obtain ⟨hC, hL⟩ := Bool.or_eq_false_iff.1 hCL; have hA := in_of hA; have hB := in_of hB; have hC := in_of hC; have hL := len50 hL; refine .loop Nat (fun k => k <= l.length /\ ∀ x ∈ l.take k, inM x) (fun k => [(57, .int .i64 fun _ => (l.length : Int)), (58, .int .i64 fun _ => (k : Int))]) (fun k => [(1, .cells 27 [.int .i64 fun _ => 4, .str fun _ => ⟨#[]⟩, .int .i64 fun _ => 0, .os 2]), (2, .arr 27 4 fun _ => kidsD (l.take k))]) 3 (fun k => l.length - k) 0 ⟨Nat.zero_le _, fun x hx => nomatch hx⟩ ?_ ?_
  . (refine le_of ?_; cbv; refine .mk ?_; repeat' (first | exact AllP.nil | refine AllP.cons ?_ ?_))
    all_goals first | rfl | exact ⟨rfl, rfl⟩ | (simp [lenL, ints]; done)
  rintro k ⟨hk, hm⟩; have hkd : (kidsD (l.take k)).length = k := by rw [kids_length, List.length_take]; omega
  refine Exists.elim (show ∃ y, kidsD (l.take k) = y from ⟨_, rfl⟩) fun y hy => ?_
  rw [hy] at hkd; rw [hy]; cbv; refine .split (fun h1 => ?_) (fun h1 => ?_)
  . have hkl : k < l.length := ltT h1; refine Exists.elim (getI hkl) fun x hx => ?_
    have hks : kidsD (l.take (k + 1)) = y ++ [(num0 x).dv] := by rw [<- hy, List.take_add_one, hx, kidsD, kidsD, List.map_append]; rfl
    have hgx := great_ok x; refine .need ⟨by simp, int_lt hkl⟩ ?_
    refine .row [.int .i64 x] _ (int_get hx) rfl ?_; cbv; refine .cl hgx ?_; cbv; refine .split (fun _ => ?_) (fun hX => ?_)
    . exact .fn
    refine .need (by simp only [List.length_cons, List.length_nil, hkd]; omega) ?_
    refine .prop ⟨k + 1, ⟨hkl, take_in hx hm (in_of hX)⟩, by omega, ?_⟩
    rw [hks]
    (refine le_of ?_; cbv; refine .mk ?_; repeat' (first | exact AllP.nil | refine AllP.cons ?_ ?_))
    all_goals first | rfl | exact ⟨rfl, rfl⟩ | (refine wrap64_of ?_ ?_ ?_ <;> simp only [natCast_eq] <;> omega)
  have hkl : k = l.length := Nat.le_antisymm hk (geF h1); rw [hkl, List.take_length] at hm hy; subst hy; have hlk : l.length <= 1000 := Nat.le_trans hL (by decide)
  have hna := lnumber_ok a; have hnb := lnumber_ok b; refine .cl hna ?_; cbv; refine .cl hnb ?_; cbv; have hr := hr hlk hm hB hC; have he := he hlk hm hB hC; have hs := same_self v; have haw := awake_ok
  (repeat' (first | refine .nd ?_ | refine .nq ?_ | (refine .rv rfl ?_; cbv) | (refine .rr rfl ?_; cbv) | refine .sT ?_ | refine .sF ?_ | refine .fk ?_))
  refine .callD hnb ?_ rfl rfl (fun h => nomatch h) ?_ rfl
  . (cbv; refine .mk ?_; repeat' (first | exact AllP.nil | refine AllP.cons ?_ ?_))
    all_goals rfl
  cbv
  (repeat' (first | refine .nd ?_ | refine .nq ?_ | (refine .rv rfl ?_; cbv) | (refine .rr rfl ?_; cbv) | refine .sT ?_ | refine .sF ?_ | refine .fk ?_))
  refine .ln hr ?_; cbv; refine .ln he ?_; cbv
  (repeat' (first | refine .nd ?_ | refine .nq ?_ | (refine .rv rfl ?_; cbv) | (refine .rr rfl ?_; cbv) | refine .sT ?_ | refine .sF ?_ | refine .fk ?_))
  refine .cs [4] 399 har ?_; cbv; refine .ln hpw ?_; cbv
  (repeat' (first | refine .nd ?_ | refine .nq ?_ | (refine .rv rfl ?_; cbv) | (refine .rr rfl ?_; cbv) | refine .sT ?_ | refine .sF ?_ | refine .fk ?_))
  refine .ln hbs ?_; cbv
  (repeat' (first | refine .nd ?_ | refine .nq ?_ | (refine .rv rfl ?_; cbv) | (refine .rr rfl ?_; cbv) | refine .sT ?_ | refine .sF ?_ | refine .fk ?_))
  refine .sT ?_ (beq_self_eq_true e); refine .cl hs ?_; cbv
  (repeat' (first | refine .nd ?_ | refine .nq ?_ | (refine .rv rfl ?_; cbv) | (refine .rr rfl ?_; cbv) | refine .sT ?_ | refine .sF ?_ | refine .fk ?_))
  refine .call0 haw ?_ rfl ?_
  . trivial
  cbv
  (repeat' (first | refine .nd ?_ | refine .nq ?_ | (refine .rv rfl ?_; cbv) | (refine .rr rfl ?_; cbv) | refine .sT ?_ | refine .sF ?_ | refine .fk ?_))
  exact .fn
end Go.Qu
namespace Go.Qu
open Go.Eng Go.Proofs
set_option maxHeartbeats 4000000 in
set_option maxRecDepth 100000 in
theorem lawAnd {which a b c : Int} {l : List Int}
    (hN : namesD[(Int.tmod (IntKind.i64.wrap which) 19).toNat]? = some [.str ⟨#[97, 110, 100]⟩] /\ (0 <= Int.tmod (IntKind.i64.wrap which) 19 /\ Int.tmod (IntKind.i64.wrap which) 19 < 19))
    {v : Sc} {e : Int}
    (hr : Pure Tryz.prog 7 [.raw (.string ⟨#[97, 110, 100]⟩), .ds 4 fun _ => [(bool0 (decide (a % 2 = 1))).dv, (bool0 (decide (b % 2 = 1))).dv]] (vk (v, e)))
    (he : Pure Tryz.prog 8 [.raw (.string ⟨#[97, 110, 100]⟩), .ds 4 fun _ => [(bool0 (decide (a % 2 = 1))).dv, (bool0 (decide (b % 2 = 1))).dv]] (.tup [v.sv, .int .i64 fun _ => e, .int .i64 fun _ => 0]))
    (har : Eng.Spec Tryz.prog 8 [.raw (.string ⟨#[97, 110, 100]⟩), .ov 0 4 (fun _ => 1) (fun _ => 2)] [(0, .arr 27 4 fun _ => [(bool0 (decide (a % 2 = 1))).dv, (bool0 (decide (b % 2 = 1))).dv])] 1 (fun _ : Unit => True) (fun _ => .tup [.agg [.int .i64 fun _ => 0, .str fun _ => ⟨#[]⟩, .int .i64 fun _ => 0, .nils], .int .i64 fun _ => 0, .int .i64 fun _ => 101]) (fun _ => [(0, .arr 27 4 fun _ => [(bool0 (decide (a % 2 = 1))).dv, (bool0 (decide (b % 2 = 1))).dv])]))
    (hpw : Pure Tryz.prog 8 [.raw (.string ⟨#[112, 111, 119, 101, 114]⟩), .ds 4 fun _ => [(bool0 (decide (a % 2 = 1))).dv, (bool0 (decide (b % 2 = 1))).dv]] (.tup [.agg [.int .i64 fun _ => 0, .str fun _ => ⟨#[]⟩, .int .i64 fun _ => 0, .nils], .int .i64 fun _ => 0, .int .i64 fun _ => 100]))
    (hbs : Pure Tryz.prog 8 [.raw (.string ⟨#[97, 110, 100]⟩), .ds 4 fun _ => [unit0.dv, (bool0 (decide (b % 2 = 1))).dv]] (.tup [.agg [.int .i64 fun _ => 0, .str fun _ => ⟨#[]⟩, .int .i64 fun _ => 0, .nils], .int .i64 fun _ => 0, .int .i64 fun _ => 110])) : Pure Tryz.prog 3 [.int .u8 fun _ => which, .int .i64 fun _ => a, .int .i64 fun _ => b, .int .i64 fun _ => c, .ds 1 fun _ => ints l] (.bs fun _ => true) := by
  have hga := great_ok a; have hgb := great_ok b; have hgc := great_ok c; have hrow : namesD[(Int.tmod (IntKind.i64.wrap which) 19).toNat]? = some [.str ⟨#[97, 110, 100]⟩] := hN.1; refine pure_of (P := fun _ => Tryz.prog) tabOk Tryz.func3 rfl rfl ?_
  cbv; refine .need (by decide) (.need hN.2 (.row _ _ hrow rfl ?_))
  cbv; refine .cl hga ?_; cbv; refine .split (fun _ => ?_) (fun hA => ?_)
  . exact .fn
  refine .cl hgb ?_; cbv; refine .split (fun _ => ?_) (fun hB => ?_)
  . exact .fn
  refine .cl hgc ?_; cbv; refine .split (fun _ => ?_) (fun hCL => ?_)
  . exact .fn
  have hCL : (greatB c || decide (((ints l).length : Int) > 50)) = false := hCL
  obtain ⟨hC, hL⟩ := Bool.or_eq_false_iff.1 hCL; have hA := in_of hA; have hB := in_of hB; have hC := in_of hC; have hL := len50 hL; refine .loop Nat (fun k => k <= l.length /\ ∀ x ∈ l.take k, inM x) (fun k => [(57, .int .i64 fun _ => (l.length : Int)), (58, .int .i64 fun _ => (k : Int))]) (fun k => [(1, .cells 27 [.int .i64 fun _ => 4, .str fun _ => ⟨#[]⟩, .int .i64 fun _ => 0, .os 2]), (2, .arr 27 4 fun _ => kidsD (l.take k))]) 3 (fun k => l.length - k) 0 ⟨Nat.zero_le _, fun x hx => nomatch hx⟩ ?_ ?_
  . (refine le_of ?_; cbv; refine .mk ?_; repeat' (first | exact AllP.nil | refine AllP.cons ?_ ?_))
    all_goals first | rfl | exact ⟨rfl, rfl⟩ | (simp [lenL, ints]; done)
  rintro k ⟨hk, hm⟩; have hkd : (kidsD (l.take k)).length = k := by rw [kids_length, List.length_take]; omega
  refine Exists.elim (show ∃ y, kidsD (l.take k) = y from ⟨_, rfl⟩) fun y hy => ?_
  rw [hy] at hkd; rw [hy]; cbv; refine .split (fun h1 => ?_) (fun h1 => ?_)
  . have hkl : k < l.length := ltT h1; refine Exists.elim (getI hkl) fun x hx => ?_
    have hks : kidsD (l.take (k + 1)) = y ++ [(num0 x).dv] := by rw [<- hy, List.take_add_one, hx, kidsD, kidsD, List.map_append]; rfl
    have hgx := great_ok x; refine .need ⟨by simp, int_lt hkl⟩ ?_
    refine .row [.int .i64 x] _ (int_get hx) rfl ?_; cbv; refine .cl hgx ?_; cbv; refine .split (fun _ => ?_) (fun hX => ?_)
    . exact .fn
    refine .need (by simp only [List.length_cons, List.length_nil, hkd]; omega) ?_
    refine .prop ⟨k + 1, ⟨hkl, take_in hx hm (in_of hX)⟩, by omega, ?_⟩
    rw [hks]
    (refine le_of ?_; cbv; refine .mk ?_; repeat' (first | exact AllP.nil | refine AllP.cons ?_ ?_))
    all_goals first | rfl | exact ⟨rfl, rfl⟩ | (refine wrap64_of ?_ ?_ ?_ <;> simp only [natCast_eq] <;> omega)
  have hkl : k = l.length := Nat.le_antisymm hk (geF h1); rw [hkl, List.take_length] at hm hy; subst hy; have hlk : l.length <= 1000 := Nat.le_trans hL (by decide)
  have hna := lnumber_ok a; have hnb := lnumber_ok b; refine .cl hna ?_; cbv; refine .cl hnb ?_; cbv; have hta := ltruth_ok a; have htb := ltruth_ok b; generalize decide (a % 2 = 1) = x at *; generalize decide (b % 2 = 1) = y at *; have hr := hr; have he := he; have hs := same_self v; have haw := awake_ok
  (repeat' (first | refine .nd ?_ | refine .nq ?_ | (refine .rv rfl ?_; cbv) | (refine .rr rfl ?_; cbv) | refine .sT ?_ | refine .sF ?_ | refine .fk ?_))
  refine .cl hta ?_; cbv; refine .cl htb ?_; cbv; refine .ln hr ?_; cbv; refine .ln he ?_; cbv
  (repeat' (first | refine .nd ?_ | refine .nq ?_ | (refine .rv rfl ?_; cbv) | (refine .rr rfl ?_; cbv) | refine .sT ?_ | refine .sF ?_ | refine .fk ?_))
  refine .cs [4] 399 har ?_; cbv; refine .ln hpw ?_; cbv
  (repeat' (first | refine .nd ?_ | refine .nq ?_ | (refine .rv rfl ?_; cbv) | (refine .rr rfl ?_; cbv) | refine .sT ?_ | refine .sF ?_ | refine .fk ?_))
  refine .ln hbs ?_; cbv
  (repeat' (first | refine .nd ?_ | refine .nq ?_ | (refine .rv rfl ?_; cbv) | (refine .rr rfl ?_; cbv) | refine .sT ?_ | refine .sF ?_ | refine .fk ?_))
  refine .sT ?_ (beq_self_eq_true e); refine .cl hs ?_; cbv
  (repeat' (first | refine .nd ?_ | refine .nq ?_ | (refine .rv rfl ?_; cbv) | (refine .rr rfl ?_; cbv) | refine .sT ?_ | refine .sF ?_ | refine .fk ?_))
  refine .call0 haw ?_ rfl ?_
  . trivial
  cbv
  (repeat' (first | refine .nd ?_ | refine .nq ?_ | (refine .rv rfl ?_; cbv) | (refine .rr rfl ?_; cbv) | refine .sT ?_ | refine .sF ?_ | refine .fk ?_))
  exact .fn
set_option maxHeartbeats 4000000 in
set_option maxRecDepth 100000 in
theorem lawPutE {which a b c : Int} {l : List Int}
    (hN : namesD[(Int.tmod (IntKind.i64.wrap which) 19).toNat]? = some [.str ⟨#[112, 117, 116]⟩] /\ (0 <= Int.tmod (IntKind.i64.wrap which) 19 /\ Int.tmod (IntKind.i64.wrap which) 19 < 19))
    {v : Sc} {e : Int}
    (hr : l.length <= 1000 -> (∀ x ∈ l, inM x) -> inM b -> inM c -> Pure Tryz.prog 7 [.raw (.string ⟨#[112, 117, 116]⟩), .ds 4 fun _ => [vecD l, (num0 b).dv, (num0 c).dv]] (vk (v, e)))
    (he : l.length <= 1000 -> (∀ x ∈ l, inM x) -> inM b -> inM c -> Pure Tryz.prog 8 [.raw (.string ⟨#[112, 117, 116]⟩), .ds 4 fun _ => [vecD l, (num0 b).dv, (num0 c).dv]] (.tup [v.sv, .int .i64 fun _ => e, .int .i64 fun _ => 0]))
    (har : Eng.Spec Tryz.prog 8 [.raw (.string ⟨#[112, 117, 116]⟩), .ov 0 4 (fun _ => 1) (fun _ => 3)] [(0, .arr 27 4 fun _ => [vecD l, (num0 b).dv, (num0 c).dv])] 1 (fun _ : Unit => True) (fun _ => .tup [.agg [.int .i64 fun _ => 0, .str fun _ => ⟨#[]⟩, .int .i64 fun _ => 0, .nils], .int .i64 fun _ => 0, .int .i64 fun _ => 101]) (fun _ => [(0, .arr 27 4 fun _ => [vecD l, (num0 b).dv, (num0 c).dv])]))
    (hpw : Pure Tryz.prog 8 [.raw (.string ⟨#[112, 111, 119, 101, 114]⟩), .ds 4 fun _ => [vecD l, (num0 b).dv, (num0 c).dv]] (.tup [.agg [.int .i64 fun _ => 0, .str fun _ => ⟨#[]⟩, .int .i64 fun _ => 0, .nils], .int .i64 fun _ => 0, .int .i64 fun _ => 100]))
    (hbs : Pure Tryz.prog 8 [.raw (.string ⟨#[112, 117, 116]⟩), .ds 4 fun _ => [unit0.dv, (num0 b).dv, (num0 c).dv]] (.tup [.agg [.int .i64 fun _ => 0, .str fun _ => ⟨#[]⟩, .int .i64 fun _ => 0, .nils], .int .i64 fun _ => 0, .int .i64 fun _ => 110])) : Pure Tryz.prog 3 [.int .u8 fun _ => which, .int .i64 fun _ => a, .int .i64 fun _ => b, .int .i64 fun _ => c, .ds 1 fun _ => ints l] (.bs fun _ => true) := by
  have hga := great_ok a; have hgb := great_ok b; have hgc := great_ok c; have hrow : namesD[(Int.tmod (IntKind.i64.wrap which) 19).toNat]? = some [.str ⟨#[112, 117, 116]⟩] := hN.1; refine pure_of (P := fun _ => Tryz.prog) tabOk Tryz.func3 rfl rfl ?_
  cbv; refine .need (by decide) (.need hN.2 (.row _ _ hrow rfl ?_))
  cbv; refine .cl hga ?_; cbv; refine .split (fun _ => ?_) (fun hA => ?_)
  . exact .fn
  refine .cl hgb ?_; cbv; refine .split (fun _ => ?_) (fun hB => ?_)
  . exact .fn
  refine .cl hgc ?_; cbv; refine .split (fun _ => ?_) (fun hCL => ?_)
  . exact .fn
  have hCL : (greatB c || decide (((ints l).length : Int) > 50)) = false := hCL
  obtain ⟨hC, hL⟩ := Bool.or_eq_false_iff.1 hCL; have hA := in_of hA; have hB := in_of hB; have hC := in_of hC; have hL := len50 hL; refine .loop Nat (fun k => k <= l.length /\ ∀ x ∈ l.take k, inM x) (fun k => [(57, .int .i64 fun _ => (l.length : Int)), (58, .int .i64 fun _ => (k : Int))]) (fun k => [(1, .cells 27 [.int .i64 fun _ => 4, .str fun _ => ⟨#[]⟩, .int .i64 fun _ => 0, .os 2]), (2, .arr 27 4 fun _ => kidsD (l.take k))]) 3 (fun k => l.length - k) 0 ⟨Nat.zero_le _, fun x hx => nomatch hx⟩ ?_ ?_
  . (refine le_of ?_; cbv; refine .mk ?_; repeat' (first | exact AllP.nil | refine AllP.cons ?_ ?_))
    all_goals first | rfl | exact ⟨rfl, rfl⟩ | (simp [lenL, ints]; done)
  rintro k ⟨hk, hm⟩; have hkd : (kidsD (l.take k)).length = k := by rw [kids_length, List.length_take]; omega
  refine Exists.elim (show ∃ y, kidsD (l.take k) = y from ⟨_, rfl⟩) fun y hy => ?_
  rw [hy] at hkd; rw [hy]; cbv; refine .split (fun h1 => ?_) (fun h1 => ?_)
  . have hkl : k < l.length := ltT h1; refine Exists.elim (getI hkl) fun x hx => ?_
    have hks : kidsD (l.take (k + 1)) = y ++ [(num0 x).dv] := by rw [<- hy, List.take_add_one, hx, kidsD, kidsD, List.map_append]; rfl
    have hgx := great_ok x; refine .need ⟨by simp, int_lt hkl⟩ ?_
    refine .row [.int .i64 x] _ (int_get hx) rfl ?_; cbv; refine .cl hgx ?_; cbv; refine .split (fun _ => ?_) (fun hX => ?_)
    . exact .fn
    refine .need (by simp only [List.length_cons, List.length_nil, hkd]; omega) ?_
    refine .prop ⟨k + 1, ⟨hkl, take_in hx hm (in_of hX)⟩, by omega, ?_⟩
    rw [hks]
    (refine le_of ?_; cbv; refine .mk ?_; repeat' (first | exact AllP.nil | refine AllP.cons ?_ ?_))
    all_goals first | rfl | exact ⟨rfl, rfl⟩ | (refine wrap64_of ?_ ?_ ?_ <;> simp only [natCast_eq] <;> omega)
  have hkl : k = l.length := Nat.le_antisymm hk (geF h1); rw [hkl, List.take_length] at hm hy; subst hy; have hlk : l.length <= 1000 := Nat.le_trans hL (by decide)
  have hna := lnumber_ok a; have hnb := lnumber_ok b; refine .cl hna ?_; cbv; refine .cl hnb ?_; cbv; have hnc := lnumber_ok c; have hr := hr hlk hm hB hC; have he := he hlk hm hB hC; have hs := same_self v; have haw := awake_ok
  (repeat' (first | refine .nd ?_ | refine .nq ?_ | (refine .rv rfl ?_; cbv) | (refine .rr rfl ?_; cbv) | refine .sT ?_ | refine .sF ?_ | refine .fk ?_))
  refine .callD hnb ?_ rfl rfl (fun h => nomatch h) ?_ rfl
  . (cbv; refine .mk ?_; repeat' (first | exact AllP.nil | refine AllP.cons ?_ ?_))
    all_goals rfl
  cbv; refine .callD hnc ?_ rfl rfl (fun h => nomatch h) ?_ rfl
  . (cbv; refine .mk ?_; repeat' (first | exact AllP.nil | refine AllP.cons ?_ ?_))
    all_goals rfl
  cbv
  (repeat' (first | refine .nd ?_ | refine .nq ?_ | (refine .rv rfl ?_; cbv) | (refine .rr rfl ?_; cbv) | refine .sT ?_ | refine .sF ?_ | refine .fk ?_))
  refine .ln hr ?_; cbv; refine .ln he ?_; cbv
  (repeat' (first | refine .nd ?_ | refine .nq ?_ | (refine .rv rfl ?_; cbv) | (refine .rr rfl ?_; cbv) | refine .sT ?_ | refine .sF ?_ | refine .fk ?_))
  refine .cs [4] 399 har ?_; cbv; refine .ln hpw ?_; cbv
  (repeat' (first | refine .nd ?_ | refine .nq ?_ | (refine .rv rfl ?_; cbv) | (refine .rr rfl ?_; cbv) | refine .sT ?_ | refine .sF ?_ | refine .fk ?_))
  refine .ln hbs ?_; cbv
  (repeat' (first | refine .nd ?_ | refine .nq ?_ | (refine .rv rfl ?_; cbv) | (refine .rr rfl ?_; cbv) | refine .sT ?_ | refine .sF ?_ | refine .fk ?_))
  refine .sT ?_ (beq_self_eq_true e); refine .cl hs ?_; cbv
  (repeat' (first | refine .nd ?_ | refine .nq ?_ | (refine .rv rfl ?_; cbv) | (refine .rr rfl ?_; cbv) | refine .sT ?_ | refine .sF ?_ | refine .fk ?_))
  refine .call0 haw ?_ rfl ?_
  . trivial
  cbv
  (repeat' (first | refine .nd ?_ | refine .nq ?_ | (refine .rv rfl ?_; cbv) | (refine .rr rfl ?_; cbv) | refine .sT ?_ | refine .sF ?_ | refine .fk ?_))
  exact .fn
end Go.Qu
namespace Go.Qu
open Go.Eng Go.Proofs
set_option maxHeartbeats 4000000 in
set_option maxRecDepth 100000 in
theorem lawOr {which a b c : Int} {l : List Int}
    (hN : namesD[(Int.tmod (IntKind.i64.wrap which) 19).toNat]? = some [.str ⟨#[111, 114]⟩] /\ (0 <= Int.tmod (IntKind.i64.wrap which) 19 /\ Int.tmod (IntKind.i64.wrap which) 19 < 19))
    {v : Sc} {e : Int}
    (hr : Pure Tryz.prog 7 [.raw (.string ⟨#[111, 114]⟩), .ds 4 fun _ => [(bool0 (decide (a % 2 = 1))).dv, (bool0 (decide (b % 2 = 1))).dv]] (vk (v, e)))
    (he : Pure Tryz.prog 8 [.raw (.string ⟨#[111, 114]⟩), .ds 4 fun _ => [(bool0 (decide (a % 2 = 1))).dv, (bool0 (decide (b % 2 = 1))).dv]] (.tup [v.sv, .int .i64 fun _ => e, .int .i64 fun _ => 0]))
    (har : Eng.Spec Tryz.prog 8 [.raw (.string ⟨#[111, 114]⟩), .ov 0 4 (fun _ => 1) (fun _ => 2)] [(0, .arr 27 4 fun _ => [(bool0 (decide (a % 2 = 1))).dv, (bool0 (decide (b % 2 = 1))).dv])] 1 (fun _ : Unit => True) (fun _ => .tup [.agg [.int .i64 fun _ => 0, .str fun _ => ⟨#[]⟩, .int .i64 fun _ => 0, .nils], .int .i64 fun _ => 0, .int .i64 fun _ => 101]) (fun _ => [(0, .arr 27 4 fun _ => [(bool0 (decide (a % 2 = 1))).dv, (bool0 (decide (b % 2 = 1))).dv])]))
    (hpw : Pure Tryz.prog 8 [.raw (.string ⟨#[112, 111, 119, 101, 114]⟩), .ds 4 fun _ => [(bool0 (decide (a % 2 = 1))).dv, (bool0 (decide (b % 2 = 1))).dv]] (.tup [.agg [.int .i64 fun _ => 0, .str fun _ => ⟨#[]⟩, .int .i64 fun _ => 0, .nils], .int .i64 fun _ => 0, .int .i64 fun _ => 100]))
    (hbs : Pure Tryz.prog 8 [.raw (.string ⟨#[111, 114]⟩), .ds 4 fun _ => [unit0.dv, (bool0 (decide (b % 2 = 1))).dv]] (.tup [.agg [.int .i64 fun _ => 0, .str fun _ => ⟨#[]⟩, .int .i64 fun _ => 0, .nils], .int .i64 fun _ => 0, .int .i64 fun _ => 110])) : Pure Tryz.prog 3 [.int .u8 fun _ => which, .int .i64 fun _ => a, .int .i64 fun _ => b, .int .i64 fun _ => c, .ds 1 fun _ => ints l] (.bs fun _ => true) := by
  have hga := great_ok a; have hgb := great_ok b; have hgc := great_ok c; have hrow : namesD[(Int.tmod (IntKind.i64.wrap which) 19).toNat]? = some [.str ⟨#[111, 114]⟩] := hN.1; refine pure_of (P := fun _ => Tryz.prog) tabOk Tryz.func3 rfl rfl ?_
  cbv; refine .need (by decide) (.need hN.2 (.row _ _ hrow rfl ?_))
  cbv; refine .cl hga ?_; cbv; refine .split (fun _ => ?_) (fun hA => ?_)
  . exact .fn
  refine .cl hgb ?_; cbv; refine .split (fun _ => ?_) (fun hB => ?_)
  . exact .fn
  refine .cl hgc ?_; cbv; refine .split (fun _ => ?_) (fun hCL => ?_)
  . exact .fn
  have hCL : (greatB c || decide (((ints l).length : Int) > 50)) = false := hCL
  obtain ⟨hC, hL⟩ := Bool.or_eq_false_iff.1 hCL; have hA := in_of hA; have hB := in_of hB; have hC := in_of hC; have hL := len50 hL; refine .loop Nat (fun k => k <= l.length /\ ∀ x ∈ l.take k, inM x) (fun k => [(57, .int .i64 fun _ => (l.length : Int)), (58, .int .i64 fun _ => (k : Int))]) (fun k => [(1, .cells 27 [.int .i64 fun _ => 4, .str fun _ => ⟨#[]⟩, .int .i64 fun _ => 0, .os 2]), (2, .arr 27 4 fun _ => kidsD (l.take k))]) 3 (fun k => l.length - k) 0 ⟨Nat.zero_le _, fun x hx => nomatch hx⟩ ?_ ?_
  . (refine le_of ?_; cbv; refine .mk ?_; repeat' (first | exact AllP.nil | refine AllP.cons ?_ ?_))
    all_goals first | rfl | exact ⟨rfl, rfl⟩ | (simp [lenL, ints]; done)
  rintro k ⟨hk, hm⟩; have hkd : (kidsD (l.take k)).length = k := by rw [kids_length, List.length_take]; omega
  refine Exists.elim (show ∃ y, kidsD (l.take k) = y from ⟨_, rfl⟩) fun y hy => ?_
  rw [hy] at hkd; rw [hy]; cbv; refine .split (fun h1 => ?_) (fun h1 => ?_)
  . have hkl : k < l.length := ltT h1; refine Exists.elim (getI hkl) fun x hx => ?_
    have hks : kidsD (l.take (k + 1)) = y ++ [(num0 x).dv] := by rw [<- hy, List.take_add_one, hx, kidsD, kidsD, List.map_append]; rfl
    have hgx := great_ok x; refine .need ⟨by simp, int_lt hkl⟩ ?_
    refine .row [.int .i64 x] _ (int_get hx) rfl ?_; cbv; refine .cl hgx ?_; cbv; refine .split (fun _ => ?_) (fun hX => ?_)
    . exact .fn
    refine .need (by simp only [List.length_cons, List.length_nil, hkd]; omega) ?_
    refine .prop ⟨k + 1, ⟨hkl, take_in hx hm (in_of hX)⟩, by omega, ?_⟩
    rw [hks]
    (refine le_of ?_; cbv; refine .mk ?_; repeat' (first | exact AllP.nil | refine AllP.cons ?_ ?_))
    all_goals first | rfl | exact ⟨rfl, rfl⟩ | (refine wrap64_of ?_ ?_ ?_ <;> simp only [natCast_eq] <;> omega)
  have hkl : k = l.length := Nat.le_antisymm hk (geF h1); rw [hkl, List.take_length] at hm hy; subst hy; have hlk : l.length <= 1000 := Nat.le_trans hL (by decide)
  have hna := lnumber_ok a; have hnb := lnumber_ok b; refine .cl hna ?_; cbv; refine .cl hnb ?_; cbv; have hta := ltruth_ok a; have htb := ltruth_ok b; generalize decide (a % 2 = 1) = x at *; generalize decide (b % 2 = 1) = y at *; have hr := hr; have he := he; have hs := same_self v; have haw := awake_ok
  (repeat' (first | refine .nd ?_ | refine .nq ?_ | (refine .rv rfl ?_; cbv) | (refine .rr rfl ?_; cbv) | refine .sT ?_ | refine .sF ?_ | refine .fk ?_))
  refine .cl hta ?_; cbv; refine .cl htb ?_; cbv; refine .ln hr ?_; cbv; refine .ln he ?_; cbv
  (repeat' (first | refine .nd ?_ | refine .nq ?_ | (refine .rv rfl ?_; cbv) | (refine .rr rfl ?_; cbv) | refine .sT ?_ | refine .sF ?_ | refine .fk ?_))
  refine .cs [4] 399 har ?_; cbv; refine .ln hpw ?_; cbv
  (repeat' (first | refine .nd ?_ | refine .nq ?_ | (refine .rv rfl ?_; cbv) | (refine .rr rfl ?_; cbv) | refine .sT ?_ | refine .sF ?_ | refine .fk ?_))
  refine .ln hbs ?_; cbv
  (repeat' (first | refine .nd ?_ | refine .nq ?_ | (refine .rv rfl ?_; cbv) | (refine .rr rfl ?_; cbv) | refine .sT ?_ | refine .sF ?_ | refine .fk ?_))
  refine .sT ?_ (beq_self_eq_true e); refine .cl hs ?_; cbv
  (repeat' (first | refine .nd ?_ | refine .nq ?_ | (refine .rv rfl ?_; cbv) | (refine .rr rfl ?_; cbv) | refine .sT ?_ | refine .sF ?_ | refine .fk ?_))
  refine .call0 haw ?_ rfl ?_
  . trivial
  cbv
  (repeat' (first | refine .nd ?_ | refine .nq ?_ | (refine .rv rfl ?_; cbv) | (refine .rr rfl ?_; cbv) | refine .sT ?_ | refine .sF ?_ | refine .fk ?_))
  exact .fn
set_option maxHeartbeats 4000000 in
set_option maxRecDepth 100000 in
theorem lawPut {which a b c : Int} {l : List Int}
    (hN : namesD[(Int.tmod (IntKind.i64.wrap which) 19).toNat]? = some [.str ⟨#[112, 117, 116]⟩] /\ (0 <= Int.tmod (IntKind.i64.wrap which) 19 /\ Int.tmod (IntKind.i64.wrap which) 19 < 19))
    {z : List Int} (hz : l.length <= 1000 -> z.length <= 1000)
    (hr : l.length <= 1000 -> (∀ x ∈ l, inM x) -> inM b -> inM c -> Eng.Spec Tryz.prog 7 [.raw (.string ⟨#[112, 117, 116]⟩), .os 0] [(0, .arr 27 4 fun _ => [vecD l, (num0 b).dv, (num0 c).dv])] 1 (fun _ : Unit => True) (fun _ => .tup [.agg (vecV z), .int .i64 fun _ => 0]) (fun _ => [(0, .arr 27 4 fun _ => [vecD l, (num0 b).dv, (num0 c).dv])]))
    (he : l.length <= 1000 -> (∀ x ∈ l, inM x) -> inM b -> inM c -> Eng.Spec Tryz.prog 8 [.raw (.string ⟨#[112, 117, 116]⟩), .os 0] [(0, .arr 27 4 fun _ => [vecD l, (num0 b).dv, (num0 c).dv])] 1 (fun _ : Unit => True) (fun _ => .tup [.agg (vecV z), .int .i64 fun _ => 0, .int .i64 fun _ => 0]) (fun _ => [(0, .arr 27 4 fun _ => [vecD l, (num0 b).dv, (num0 c).dv])]))
    (har : Eng.Spec Tryz.prog 8 [.raw (.string ⟨#[112, 117, 116]⟩), .ov 0 4 (fun _ => 1) (fun _ => 3)] [(0, .arr 27 4 fun _ => [vecD l, (num0 b).dv, (num0 c).dv])] 1 (fun _ : Unit => True) (fun _ => .tup [.agg [.int .i64 fun _ => 0, .str fun _ => ⟨#[]⟩, .int .i64 fun _ => 0, .nils], .int .i64 fun _ => 0, .int .i64 fun _ => 101]) (fun _ => [(0, .arr 27 4 fun _ => [vecD l, (num0 b).dv, (num0 c).dv])]))
    (hpw : Pure Tryz.prog 8 [.raw (.string ⟨#[112, 111, 119, 101, 114]⟩), .ds 4 fun _ => [vecD l, (num0 b).dv, (num0 c).dv]] (.tup [.agg [.int .i64 fun _ => 0, .str fun _ => ⟨#[]⟩, .int .i64 fun _ => 0, .nils], .int .i64 fun _ => 0, .int .i64 fun _ => 100]))
    (hbs : Pure Tryz.prog 8 [.raw (.string ⟨#[112, 117, 116]⟩), .ds 4 fun _ => [unit0.dv, (num0 b).dv, (num0 c).dv]] (.tup [.agg [.int .i64 fun _ => 0, .str fun _ => ⟨#[]⟩, .int .i64 fun _ => 0, .nils], .int .i64 fun _ => 0, .int .i64 fun _ => 110])) : Pure Tryz.prog 3 [.int .u8 fun _ => which, .int .i64 fun _ => a, .int .i64 fun _ => b, .int .i64 fun _ => c, .ds 1 fun _ => ints l] (.bs fun _ => true) := by
  have hga := great_ok a; have hgb := great_ok b; have hgc := great_ok c; have hrow : namesD[(Int.tmod (IntKind.i64.wrap which) 19).toNat]? = some [.str ⟨#[112, 117, 116]⟩] := hN.1; refine pure_of (P := fun _ => Tryz.prog) tabOk Tryz.func3 rfl rfl ?_
  cbv; refine .need (by decide) (.need hN.2 (.row _ _ hrow rfl ?_))
  cbv; refine .cl hga ?_; cbv; refine .split (fun _ => ?_) (fun hA => ?_)
  . exact .fn
  refine .cl hgb ?_; cbv; refine .split (fun _ => ?_) (fun hB => ?_)
  . exact .fn
  refine .cl hgc ?_; cbv; refine .split (fun _ => ?_) (fun hCL => ?_)
  . exact .fn
  have hCL : (greatB c || decide (((ints l).length : Int) > 50)) = false := hCL
  obtain ⟨hC, hL⟩ := Bool.or_eq_false_iff.1 hCL; have hA := in_of hA; have hB := in_of hB; have hC := in_of hC; have hL := len50 hL; refine .loop Nat (fun k => k <= l.length /\ ∀ x ∈ l.take k, inM x) (fun k => [(57, .int .i64 fun _ => (l.length : Int)), (58, .int .i64 fun _ => (k : Int))]) (fun k => [(1, .cells 27 [.int .i64 fun _ => 4, .str fun _ => ⟨#[]⟩, .int .i64 fun _ => 0, .os 2]), (2, .arr 27 4 fun _ => kidsD (l.take k))]) 3 (fun k => l.length - k) 0 ⟨Nat.zero_le _, fun x hx => nomatch hx⟩ ?_ ?_
  . (refine le_of ?_; cbv; refine .mk ?_; repeat' (first | exact AllP.nil | refine AllP.cons ?_ ?_))
    all_goals first | rfl | exact ⟨rfl, rfl⟩ | (simp [lenL, ints]; done)
  rintro k ⟨hk, hm⟩; have hkd : (kidsD (l.take k)).length = k := by rw [kids_length, List.length_take]; omega
  refine Exists.elim (show ∃ y, kidsD (l.take k) = y from ⟨_, rfl⟩) fun y hy => ?_
  rw [hy] at hkd; rw [hy]; cbv; refine .split (fun h1 => ?_) (fun h1 => ?_)
  . have hkl : k < l.length := ltT h1; refine Exists.elim (getI hkl) fun x hx => ?_
    have hks : kidsD (l.take (k + 1)) = y ++ [(num0 x).dv] := by rw [<- hy, List.take_add_one, hx, kidsD, kidsD, List.map_append]; rfl
    have hgx := great_ok x; refine .need ⟨by simp, int_lt hkl⟩ ?_
    refine .row [.int .i64 x] _ (int_get hx) rfl ?_; cbv; refine .cl hgx ?_; cbv; refine .split (fun _ => ?_) (fun hX => ?_)
    . exact .fn
    refine .need (by simp only [List.length_cons, List.length_nil, hkd]; omega) ?_
    refine .prop ⟨k + 1, ⟨hkl, take_in hx hm (in_of hX)⟩, by omega, ?_⟩
    rw [hks]
    (refine le_of ?_; cbv; refine .mk ?_; repeat' (first | exact AllP.nil | refine AllP.cons ?_ ?_))
    all_goals first | rfl | exact ⟨rfl, rfl⟩ | (refine wrap64_of ?_ ?_ ?_ <;> simp only [natCast_eq] <;> omega)
  have hkl : k = l.length := Nat.le_antisymm hk (geF h1); rw [hkl, List.take_length] at hm hy; subst hy; have hlk : l.length <= 1000 := Nat.le_trans hL (by decide)
  have hna := lnumber_ok a; have hnb := lnumber_ok b; refine .cl hna ?_; cbv; refine .cl hnb ?_; cbv; have hnc := lnumber_ok c; have hr := hr hlk hm hB hC; have he := he hlk hm hB hC; have hs := same_vec z (hz hlk); have haw := awake_ok
  (repeat' (first | refine .nd ?_ | refine .nq ?_ | (refine .rv rfl ?_; cbv) | (refine .rr rfl ?_; cbv) | refine .sT ?_ | refine .sF ?_ | refine .fk ?_))
  refine .callD hnb ?_ rfl rfl (fun h => nomatch h) ?_ rfl
  . (cbv; refine .mk ?_; repeat' (first | exact AllP.nil | refine AllP.cons ?_ ?_))
    all_goals rfl
  cbv; refine .callD hnc ?_ rfl rfl (fun h => nomatch h) ?_ rfl
  . (cbv; refine .mk ?_; repeat' (first | exact AllP.nil | refine AllP.cons ?_ ?_))
    all_goals rfl
  cbv
  (repeat' (first | refine .nd ?_ | refine .nq ?_ | (refine .rv rfl ?_; cbv) | (refine .rr rfl ?_; cbv) | refine .sT ?_ | refine .sF ?_ | refine .fk ?_))
  refine .cs [4] 199 hr ?_; cbv; refine .cs [4] 299 he ?_; cbv
  (repeat' (first | refine .nd ?_ | refine .nq ?_ | (refine .rv rfl ?_; cbv) | (refine .rr rfl ?_; cbv) | refine .sT ?_ | refine .sF ?_ | refine .fk ?_))
  refine .cs [4] 399 har ?_; cbv; refine .ln hpw ?_; cbv
  (repeat' (first | refine .nd ?_ | refine .nq ?_ | (refine .rv rfl ?_; cbv) | (refine .rr rfl ?_; cbv) | refine .sT ?_ | refine .sF ?_ | refine .fk ?_))
  refine .ln hbs ?_; cbv
  (repeat' (first | refine .nd ?_ | refine .nq ?_ | (refine .rv rfl ?_; cbv) | (refine .rr rfl ?_; cbv) | refine .sT ?_ | refine .sF ?_ | refine .fk ?_))
  refine .cl hs ?_; cbv
  (repeat' (first | refine .nd ?_ | refine .nq ?_ | (refine .rv rfl ?_; cbv) | (refine .rr rfl ?_; cbv) | refine .sT ?_ | refine .sF ?_ | refine .fk ?_))
  refine .call0 haw ?_ rfl ?_
  . trivial
  cbv
  (repeat' (first | refine .nd ?_ | refine .nq ?_ | (refine .rv rfl ?_; cbv) | (refine .rr rfl ?_; cbv) | refine .sT ?_ | refine .sF ?_ | refine .fk ?_))
  exact .fn
end Go.Qu
