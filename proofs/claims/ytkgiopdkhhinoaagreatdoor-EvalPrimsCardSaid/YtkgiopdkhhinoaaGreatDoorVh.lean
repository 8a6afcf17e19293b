/- eval.Prim; laid by mk9.py. -/
import Derived.Test.YtkgiopdkhhinoaaGreatDoorVg
import Derived.Test.YtkgiopdkhhinoaaGreatDoorXc
set_option linter.all false
namespace Go.Qu
open Go.Eng Go.Proofs
set_option maxHeartbeats 2000000 in
set_option maxRecDepth 100000 in
theorem eprim_II {nm : ByteArray} {v : Sc} {e : Int} (a b : Int) (ha : inM a) (hb : inM b)
    (hk : Pure Tryz.prog 16 [.str fun _ => nm, .int .i64 fun _ => 1] (.ds 1 fun _ => ints [1, 1]))
    (ho : Pure Tryz.prog 18 [.raw (.string nm), .ds 4 fun _ => [(num0 a).dv, (num0 b).dv]] (vk (v, e))) :
    Pure Tryz.prog 8 [.raw (.string nm), .ds 4 fun _ => [(num0 a).dv, (num0 b).dv]] (.tup [v.sv, .int .i64 fun _ => e, .int .i64 fun _ => 0]) := by
  have hw0 := well1 a ha; have hw1 := well1 b hb; have hcp := copied_sc v; refine pure_of (P := fun _ => Tryz.prog) tabOk Tryz.func8 rfl rfl ?_
  cbv
  (repeat' (first | refine .nd ?_ | refine .nq ?_ | (refine .rv rfl ?_; cbv) | (refine .rr rfl ?_; cbv) | refine .sT ?_ | refine .sF ?_ | refine .fk ?_ | refine .split (fun h => ?_) (fun h => ?_)))
  refine .cl hk ?_; cbv
  (repeat' (first | refine .nd ?_ | refine .nq ?_ | (refine .rv rfl ?_; cbv) | (refine .rr rfl ?_; cbv) | refine .sT ?_ | refine .sF ?_ | refine .fk ?_ | refine .split (fun h => ?_) (fun h => ?_)))
  refine .loop Nat (fun k => k <= 2) (fun k => [(36, .int .i64 fun _ => (k : Int))]) (fun _ => [(0, .cells 27 [.int .i64 fun _ => 0, .str fun _ => ⟨#[]⟩, .int .i64 fun _ => 0, .nils])]) 1 (fun k => 2 - k) 0 (by decide) ?_ ?_
  . (refine le_of ?_; cbv; refine .mk ?_; repeat' (first | exact AllP.nil | refine AllP.cons ?_ ?_))
    all_goals rfl
  intro k hk2; cbv; refine .split (fun h1 => ?_) (fun h1 => ?_)
  . have hkl : k < 2 := ltT h1; rcases (by omega : k = 0 \/ k = 1) with rfl | rfl
    . (repeat' (first | refine .nd ?_ | refine .nq ?_ | (refine .rv rfl ?_; cbv) | (refine .rr rfl ?_; cbv) | refine .sT ?_ | refine .sF ?_ | refine .fk ?_ | refine .split (fun h => ?_) (fun h => ?_)))
      refine .cl hw0 ?_; cbv
      (repeat' (first | refine .nd ?_ | refine .nq ?_ | (refine .rv rfl ?_; cbv) | (refine .rr rfl ?_; cbv) | refine .sT ?_ | refine .sF ?_ | refine .fk ?_ | refine .split (fun h => ?_) (fun h => ?_)))
      refine .prop ⟨1, by decide, by decide, ?_⟩
      (refine le_of ?_; cbv; refine .mk ?_; repeat' (first | exact AllP.nil | refine AllP.cons ?_ ?_))
      all_goals first | rfl | decide
    . (repeat' (first | refine .nd ?_ | refine .nq ?_ | (refine .rv rfl ?_; cbv) | (refine .rr rfl ?_; cbv) | refine .sT ?_ | refine .sF ?_ | refine .fk ?_ | refine .split (fun h => ?_) (fun h => ?_)))
      refine .cl hw1 ?_; cbv
      (repeat' (first | refine .nd ?_ | refine .nq ?_ | (refine .rv rfl ?_; cbv) | (refine .rr rfl ?_; cbv) | refine .sT ?_ | refine .sF ?_ | refine .fk ?_ | refine .split (fun h => ?_) (fun h => ?_)))
      refine .prop ⟨2, by decide, by decide, ?_⟩
      (refine le_of ?_; cbv; refine .mk ?_; repeat' (first | exact AllP.nil | refine AllP.cons ?_ ?_))
      all_goals first | rfl | decide
  refine .cl ho ?_; cbv; refine .cl hcp ?_; cbv; exact .fn
set_option maxHeartbeats 2000000 in
set_option maxRecDepth 100000 in
theorem eprim_BB {nm : ByteArray} {v : Sc} {e : Int} (a b : Bool)
    (hk : Pure Tryz.prog 16 [.str fun _ => nm, .int .i64 fun _ => 2] (.ds 1 fun _ => ints [2, 2]))
    (ho : Pure Tryz.prog 18 [.raw (.string nm), .ds 4 fun _ => [(bool0 a).dv, (bool0 b).dv]] (vk (v, e))) :
    Pure Tryz.prog 8 [.raw (.string nm), .ds 4 fun _ => [(bool0 a).dv, (bool0 b).dv]] (.tup [v.sv, .int .i64 fun _ => e, .int .i64 fun _ => 0]) := by
  have hw0 := well2 a; have hw1 := well2 b; have hcp := copied_sc v; refine pure_of (P := fun _ => Tryz.prog) tabOk Tryz.func8 rfl rfl ?_
  cbv
  (repeat' (first | refine .nd ?_ | refine .nq ?_ | (refine .rv rfl ?_; cbv) | (refine .rr rfl ?_; cbv) | refine .sT ?_ | refine .sF ?_ | refine .fk ?_ | refine .split (fun h => ?_) (fun h => ?_)))
  refine .cl hk ?_; cbv
  (repeat' (first | refine .nd ?_ | refine .nq ?_ | (refine .rv rfl ?_; cbv) | (refine .rr rfl ?_; cbv) | refine .sT ?_ | refine .sF ?_ | refine .fk ?_ | refine .split (fun h => ?_) (fun h => ?_)))
  refine .loop Nat (fun k => k <= 2) (fun k => [(36, .int .i64 fun _ => (k : Int))]) (fun _ => [(0, .cells 27 [.int .i64 fun _ => 0, .str fun _ => ⟨#[]⟩, .int .i64 fun _ => 0, .nils])]) 1 (fun k => 2 - k) 0 (by decide) ?_ ?_
  . (refine le_of ?_; cbv; refine .mk ?_; repeat' (first | exact AllP.nil | refine AllP.cons ?_ ?_))
    all_goals rfl
  intro k hk2; cbv; refine .split (fun h1 => ?_) (fun h1 => ?_)
  . have hkl : k < 2 := ltT h1; rcases (by omega : k = 0 \/ k = 1) with rfl | rfl
    . (repeat' (first | refine .nd ?_ | refine .nq ?_ | (refine .rv rfl ?_; cbv) | (refine .rr rfl ?_; cbv) | refine .sT ?_ | refine .sF ?_ | refine .fk ?_ | refine .split (fun h => ?_) (fun h => ?_)))
      refine .cl hw0 ?_; cbv
      (repeat' (first | refine .nd ?_ | refine .nq ?_ | (refine .rv rfl ?_; cbv) | (refine .rr rfl ?_; cbv) | refine .sT ?_ | refine .sF ?_ | refine .fk ?_ | refine .split (fun h => ?_) (fun h => ?_)))
      refine .prop ⟨1, by decide, by decide, ?_⟩
      (refine le_of ?_; cbv; refine .mk ?_; repeat' (first | exact AllP.nil | refine AllP.cons ?_ ?_))
      all_goals first | rfl | decide
    . (repeat' (first | refine .nd ?_ | refine .nq ?_ | (refine .rv rfl ?_; cbv) | (refine .rr rfl ?_; cbv) | refine .sT ?_ | refine .sF ?_ | refine .fk ?_ | refine .split (fun h => ?_) (fun h => ?_)))
      refine .cl hw1 ?_; cbv
      (repeat' (first | refine .nd ?_ | refine .nq ?_ | (refine .rv rfl ?_; cbv) | (refine .rr rfl ?_; cbv) | refine .sT ?_ | refine .sF ?_ | refine .fk ?_ | refine .split (fun h => ?_) (fun h => ?_)))
      refine .prop ⟨2, by decide, by decide, ?_⟩
      (refine le_of ?_; cbv; refine .mk ?_; repeat' (first | exact AllP.nil | refine AllP.cons ?_ ?_))
      all_goals first | rfl | decide
  refine .cl ho ?_; cbv; refine .cl hcp ?_; cbv; exact .fn
set_option maxHeartbeats 2000000 in
set_option maxRecDepth 100000 in
theorem eprim_B {nm : ByteArray} {v : Sc} {e : Int} (a : Bool)
    (hk : Pure Tryz.prog 16 [.str fun _ => nm, .int .i64 fun _ => 2] (.ds 1 fun _ => ints [2]))
    (ho : Pure Tryz.prog 18 [.raw (.string nm), .ds 4 fun _ => [(bool0 a).dv]] (vk (v, e))) :
    Pure Tryz.prog 8 [.raw (.string nm), .ds 4 fun _ => [(bool0 a).dv]] (.tup [v.sv, .int .i64 fun _ => e, .int .i64 fun _ => 0]) := by
  have hw0 := well2 a; have hcp := copied_sc v; refine pure_of (P := fun _ => Tryz.prog) tabOk Tryz.func8 rfl rfl ?_
  cbv
  (repeat' (first | refine .nd ?_ | refine .nq ?_ | (refine .rv rfl ?_; cbv) | (refine .rr rfl ?_; cbv) | refine .sT ?_ | refine .sF ?_ | refine .fk ?_ | refine .split (fun h => ?_) (fun h => ?_)))
  refine .cl hk ?_; cbv
  (repeat' (first | refine .nd ?_ | refine .nq ?_ | (refine .rv rfl ?_; cbv) | (refine .rr rfl ?_; cbv) | refine .sT ?_ | refine .sF ?_ | refine .fk ?_ | refine .split (fun h => ?_) (fun h => ?_)))
  refine .loop Nat (fun k => k <= 1) (fun k => [(36, .int .i64 fun _ => (k : Int))]) (fun _ => [(0, .cells 27 [.int .i64 fun _ => 0, .str fun _ => ⟨#[]⟩, .int .i64 fun _ => 0, .nils])]) 1 (fun k => 1 - k) 0 (by decide) ?_ ?_
  . (refine le_of ?_; cbv; refine .mk ?_; repeat' (first | exact AllP.nil | refine AllP.cons ?_ ?_))
    all_goals rfl
  intro k hk2; cbv; refine .split (fun h1 => ?_) (fun h1 => ?_)
  . have hkl : k < 1 := ltT h1; obtain rfl : k = 0 := by omega
    . (repeat' (first | refine .nd ?_ | refine .nq ?_ | (refine .rv rfl ?_; cbv) | (refine .rr rfl ?_; cbv) | refine .sT ?_ | refine .sF ?_ | refine .fk ?_ | refine .split (fun h => ?_) (fun h => ?_)))
      refine .cl hw0 ?_; cbv
      (repeat' (first | refine .nd ?_ | refine .nq ?_ | (refine .rv rfl ?_; cbv) | (refine .rr rfl ?_; cbv) | refine .sT ?_ | refine .sF ?_ | refine .fk ?_ | refine .split (fun h => ?_) (fun h => ?_)))
      refine .prop ⟨1, by decide, by decide, ?_⟩
      (refine le_of ?_; cbv; refine .mk ?_; repeat' (first | exact AllP.nil | refine AllP.cons ?_ ?_))
      all_goals first | rfl | decide
  refine .cl ho ?_; cbv; refine .cl hcp ?_; cbv; exact .fn
set_option maxHeartbeats 2000000 in
set_option maxRecDepth 100000 in
theorem eprim_V {nm : ByteArray} {v : Sc} {e : Int} (l : List Int) (hl : l.length <= 1000) (hm : ∀ x ∈ l, inM x)
    (hk : Pure Tryz.prog 16 [.str fun _ => nm, .int .i64 fun _ => 4] (.ds 1 fun _ => ints [4]))
    (ho : Pure Tryz.prog 18 [.raw (.string nm), .ds 4 fun _ => [vecD l]] (vk (v, e))) :
    Pure Tryz.prog 8 [.raw (.string nm), .ds 4 fun _ => [vecD l]] (.tup [v.sv, .int .i64 fun _ => e, .int .i64 fun _ => 0]) := by
  have hw0 := wellv_ok l hl hm; have hcp := copied_sc v; refine pure_of (P := fun _ => Tryz.prog) tabOk Tryz.func8 rfl rfl ?_
  cbv
  (repeat' (first | refine .nd ?_ | refine .nq ?_ | (refine .rv rfl ?_; cbv) | (refine .rr rfl ?_; cbv) | refine .sT ?_ | refine .sF ?_ | refine .fk ?_ | refine .split (fun h => ?_) (fun h => ?_)))
  refine .cl hk ?_; cbv
  (repeat' (first | refine .nd ?_ | refine .nq ?_ | (refine .rv rfl ?_; cbv) | (refine .rr rfl ?_; cbv) | refine .sT ?_ | refine .sF ?_ | refine .fk ?_ | refine .split (fun h => ?_) (fun h => ?_)))
  refine .loop Nat (fun k => k <= 1) (fun k => [(36, .int .i64 fun _ => (k : Int))]) (fun _ => [(0, .cells 27 [.int .i64 fun _ => 0, .str fun _ => ⟨#[]⟩, .int .i64 fun _ => 0, .nils])]) 1 (fun k => 1 - k) 0 (by decide) ?_ ?_
  . (refine le_of ?_; cbv; refine .mk ?_; repeat' (first | exact AllP.nil | refine AllP.cons ?_ ?_))
    all_goals rfl
  intro k hk2; cbv; refine .split (fun h1 => ?_) (fun h1 => ?_)
  . have hkl : k < 1 := ltT h1; obtain rfl : k = 0 := by omega
    . (repeat' (first | refine .nd ?_ | refine .nq ?_ | (refine .rv rfl ?_; cbv) | (refine .rr rfl ?_; cbv) | refine .sT ?_ | refine .sF ?_ | refine .fk ?_ | refine .split (fun h => ?_) (fun h => ?_)))
      refine .cl hw0 ?_; cbv
      (repeat' (first | refine .nd ?_ | refine .nq ?_ | (refine .rv rfl ?_; cbv) | (refine .rr rfl ?_; cbv) | refine .sT ?_ | refine .sF ?_ | refine .fk ?_ | refine .split (fun h => ?_) (fun h => ?_)))
      refine .prop ⟨1, by decide, by decide, ?_⟩
      (refine le_of ?_; cbv; refine .mk ?_; repeat' (first | exact AllP.nil | refine AllP.cons ?_ ?_))
      all_goals first | rfl | decide
  refine .cl ho ?_; cbv; refine .cl hcp ?_; cbv; exact .fn
set_option maxHeartbeats 2000000 in
set_option maxRecDepth 100000 in
theorem eprim_VI {nm : ByteArray} {v : Sc} {e : Int} (l : List Int) (hl : l.length <= 1000) (hm : ∀ x ∈ l, inM x) (b : Int) (hb : inM b)
    (hk : Pure Tryz.prog 16 [.str fun _ => nm, .int .i64 fun _ => 4] (.ds 1 fun _ => ints [4, 1]))
    (ho : Pure Tryz.prog 18 [.raw (.string nm), .ds 4 fun _ => [vecD l, (num0 b).dv]] (vk (v, e))) :
    Pure Tryz.prog 8 [.raw (.string nm), .ds 4 fun _ => [vecD l, (num0 b).dv]] (.tup [v.sv, .int .i64 fun _ => e, .int .i64 fun _ => 0]) := by
  have hw0 := wellv_ok l hl hm; have hw1 := well1 b hb; have hcp := copied_sc v; refine pure_of (P := fun _ => Tryz.prog) tabOk Tryz.func8 rfl rfl ?_
  cbv
  (repeat' (first | refine .nd ?_ | refine .nq ?_ | (refine .rv rfl ?_; cbv) | (refine .rr rfl ?_; cbv) | refine .sT ?_ | refine .sF ?_ | refine .fk ?_ | refine .split (fun h => ?_) (fun h => ?_)))
  refine .cl hk ?_; cbv
  (repeat' (first | refine .nd ?_ | refine .nq ?_ | (refine .rv rfl ?_; cbv) | (refine .rr rfl ?_; cbv) | refine .sT ?_ | refine .sF ?_ | refine .fk ?_ | refine .split (fun h => ?_) (fun h => ?_)))
  refine .loop Nat (fun k => k <= 2) (fun k => [(36, .int .i64 fun _ => (k : Int))]) (fun _ => [(0, .cells 27 [.int .i64 fun _ => 0, .str fun _ => ⟨#[]⟩, .int .i64 fun _ => 0, .nils])]) 1 (fun k => 2 - k) 0 (by decide) ?_ ?_
  . (refine le_of ?_; cbv; refine .mk ?_; repeat' (first | exact AllP.nil | refine AllP.cons ?_ ?_))
    all_goals rfl
  intro k hk2; cbv; refine .split (fun h1 => ?_) (fun h1 => ?_)
  . have hkl : k < 2 := ltT h1; rcases (by omega : k = 0 \/ k = 1) with rfl | rfl
    . (repeat' (first | refine .nd ?_ | refine .nq ?_ | (refine .rv rfl ?_; cbv) | (refine .rr rfl ?_; cbv) | refine .sT ?_ | refine .sF ?_ | refine .fk ?_ | refine .split (fun h => ?_) (fun h => ?_)))
      refine .cl hw0 ?_; cbv
      (repeat' (first | refine .nd ?_ | refine .nq ?_ | (refine .rv rfl ?_; cbv) | (refine .rr rfl ?_; cbv) | refine .sT ?_ | refine .sF ?_ | refine .fk ?_ | refine .split (fun h => ?_) (fun h => ?_)))
      refine .prop ⟨1, by decide, by decide, ?_⟩
      (refine le_of ?_; cbv; refine .mk ?_; repeat' (first | exact AllP.nil | refine AllP.cons ?_ ?_))
      all_goals first | rfl | decide
    . (repeat' (first | refine .nd ?_ | refine .nq ?_ | (refine .rv rfl ?_; cbv) | (refine .rr rfl ?_; cbv) | refine .sT ?_ | refine .sF ?_ | refine .fk ?_ | refine .split (fun h => ?_) (fun h => ?_)))
      refine .cl hw1 ?_; cbv
      (repeat' (first | refine .nd ?_ | refine .nq ?_ | (refine .rv rfl ?_; cbv) | (refine .rr rfl ?_; cbv) | refine .sT ?_ | refine .sF ?_ | refine .fk ?_ | refine .split (fun h => ?_) (fun h => ?_)))
      refine .prop ⟨2, by decide, by decide, ?_⟩
      (refine le_of ?_; cbv; refine .mk ?_; repeat' (first | exact AllP.nil | refine AllP.cons ?_ ?_))
      all_goals first | rfl | decide
  refine .cl ho ?_; cbv; refine .cl hcp ?_; cbv; exact .fn
set_option maxHeartbeats 2000000 in
set_option maxRecDepth 100000 in
theorem eprim_VII {nm : ByteArray} {v : Sc} {e : Int} (l : List Int) (hl : l.length <= 1000) (hm : ∀ x ∈ l, inM x) (b c : Int) (hb : inM b) (hc : inM c)
    (hk : Pure Tryz.prog 16 [.str fun _ => nm, .int .i64 fun _ => 4] (.ds 1 fun _ => ints [4, 1, 1]))
    (ho : Pure Tryz.prog 18 [.raw (.string nm), .ds 4 fun _ => [vecD l, (num0 b).dv, (num0 c).dv]] (vk (v, e))) :
    Pure Tryz.prog 8 [.raw (.string nm), .ds 4 fun _ => [vecD l, (num0 b).dv, (num0 c).dv]] (.tup [v.sv, .int .i64 fun _ => e, .int .i64 fun _ => 0]) := by
  have hw0 := wellv_ok l hl hm; have hw1 := well1 b hb; have hw2 := well1 c hc; have hcp := copied_sc v; refine pure_of (P := fun _ => Tryz.prog) tabOk Tryz.func8 rfl rfl ?_
  cbv
  (repeat' (first | refine .nd ?_ | refine .nq ?_ | (refine .rv rfl ?_; cbv) | (refine .rr rfl ?_; cbv) | refine .sT ?_ | refine .sF ?_ | refine .fk ?_ | refine .split (fun h => ?_) (fun h => ?_)))
  refine .cl hk ?_; cbv
  (repeat' (first | refine .nd ?_ | refine .nq ?_ | (refine .rv rfl ?_; cbv) | (refine .rr rfl ?_; cbv) | refine .sT ?_ | refine .sF ?_ | refine .fk ?_ | refine .split (fun h => ?_) (fun h => ?_)))
  refine .loop Nat (fun k => k <= 3) (fun k => [(36, .int .i64 fun _ => (k : Int))]) (fun _ => [(0, .cells 27 [.int .i64 fun _ => 0, .str fun _ => ⟨#[]⟩, .int .i64 fun _ => 0, .nils])]) 1 (fun k => 3 - k) 0 (by decide) ?_ ?_
  . (refine le_of ?_; cbv; refine .mk ?_; repeat' (first | exact AllP.nil | refine AllP.cons ?_ ?_))
    all_goals rfl
  intro k hk2; cbv; refine .split (fun h1 => ?_) (fun h1 => ?_)
  . have hkl : k < 3 := ltT h1; rcases (by omega : k = 0 \/ k = 1 \/ k = 2) with rfl | rfl | rfl
    . (repeat' (first | refine .nd ?_ | refine .nq ?_ | (refine .rv rfl ?_; cbv) | (refine .rr rfl ?_; cbv) | refine .sT ?_ | refine .sF ?_ | refine .fk ?_ | refine .split (fun h => ?_) (fun h => ?_)))
      refine .cl hw0 ?_; cbv
      (repeat' (first | refine .nd ?_ | refine .nq ?_ | (refine .rv rfl ?_; cbv) | (refine .rr rfl ?_; cbv) | refine .sT ?_ | refine .sF ?_ | refine .fk ?_ | refine .split (fun h => ?_) (fun h => ?_)))
      refine .prop ⟨1, by decide, by decide, ?_⟩
      (refine le_of ?_; cbv; refine .mk ?_; repeat' (first | exact AllP.nil | refine AllP.cons ?_ ?_))
      all_goals first | rfl | decide
    . (repeat' (first | refine .nd ?_ | refine .nq ?_ | (refine .rv rfl ?_; cbv) | (refine .rr rfl ?_; cbv) | refine .sT ?_ | refine .sF ?_ | refine .fk ?_ | refine .split (fun h => ?_) (fun h => ?_)))
      refine .cl hw1 ?_; cbv
      (repeat' (first | refine .nd ?_ | refine .nq ?_ | (refine .rv rfl ?_; cbv) | (refine .rr rfl ?_; cbv) | refine .sT ?_ | refine .sF ?_ | refine .fk ?_ | refine .split (fun h => ?_) (fun h => ?_)))
      refine .prop ⟨2, by decide, by decide, ?_⟩
      (refine le_of ?_; cbv; refine .mk ?_; repeat' (first | exact AllP.nil | refine AllP.cons ?_ ?_))
      all_goals first | rfl | decide
    . (repeat' (first | refine .nd ?_ | refine .nq ?_ | (refine .rv rfl ?_; cbv) | (refine .rr rfl ?_; cbv) | refine .sT ?_ | refine .sF ?_ | refine .fk ?_ | refine .split (fun h => ?_) (fun h => ?_)))
      refine .cl hw2 ?_; cbv
      (repeat' (first | refine .nd ?_ | refine .nq ?_ | (refine .rv rfl ?_; cbv) | (refine .rr rfl ?_; cbv) | refine .sT ?_ | refine .sF ?_ | refine .fk ?_ | refine .split (fun h => ?_) (fun h => ?_)))
      refine .prop ⟨3, by decide, by decide, ?_⟩
      (refine le_of ?_; cbv; refine .mk ?_; repeat' (first | exact AllP.nil | refine AllP.cons ?_ ?_))
      all_goals first | rfl | decide
  refine .cl ho ?_; cbv; refine .cl hcp ?_; cbv; exact .fn
set_option maxHeartbeats 2000000 in
set_option maxRecDepth 100000 in
theorem eprim_IO {nm : ByteArray} {v : Sc} {e : Int} (a b : Int) (ha : inM a)
    (hk : Pure Tryz.prog 16 [.str fun _ => nm, .int .i64 fun _ => 1] (.ds 1 fun _ => ints [1]))
    (ho : Eng.Spec Tryz.prog 18 [.raw (.string nm), .ov 0 4 (fun _ => 0) (fun _ => 1)] [(0, .arr 27 4 fun _ => [(num0 a).dv, (num0 b).dv])] 1 (fun _ : Unit => True) (fun _ => vk (v, e)) (fun _ => [(0, .arr 27 4 fun _ => [(num0 a).dv, (num0 b).dv])])) :
    Eng.Spec Tryz.prog 8 [.raw (.string nm), .ov 0 4 (fun _ => 0) (fun _ => 1)] [(0, .arr 27 4 fun _ => [(num0 a).dv, (num0 b).dv])] 1 (fun _ : Unit => True) (fun _ => .tup [v.sv, .int .i64 fun _ => e, .int .i64 fun _ => 0]) (fun _ => [(0, .arr 27 4 fun _ => [(num0 a).dv, (num0 b).dv])]) := by
  have hw0 := well1 a ha; have hcp := copied_sc v; refine spec_of' (P := fun _ => Tryz.prog) tabOk Tryz.func8 rfl rfl ?_
  cbv
  (repeat' (first | refine .nd ?_ | refine .nq ?_ | (refine .rv rfl ?_; cbv) | (refine .rr rfl ?_; cbv) | refine .sT ?_ | refine .sF ?_ | refine .fk ?_ | refine .split (fun h => ?_) (fun h => ?_)))
  refine .cl hk ?_; cbv
  (repeat' (first | refine .nd ?_ | refine .nq ?_ | (refine .rv rfl ?_; cbv) | (refine .rr rfl ?_; cbv) | refine .sT ?_ | refine .sF ?_ | refine .fk ?_ | refine .split (fun h => ?_) (fun h => ?_)))
  refine .loop Nat (fun k => k <= 1) (fun k => [(36, .int .i64 fun _ => (k : Int))]) (fun _ => [(1, .cells 27 [.int .i64 fun _ => 0, .str fun _ => ⟨#[]⟩, .int .i64 fun _ => 0, .nils]), (0, .arr 27 4 fun _ => [(num0 a).dv, (num0 b).dv])]) 2 (fun k => 1 - k) 0 (by decide) ?_ ?_
  . (refine le_of ?_; cbv; refine .mk ?_; repeat' (first | exact AllP.nil | refine AllP.cons ?_ ?_))
    all_goals rfl
  intro k hk2; cbv; refine .split (fun h1 => ?_) (fun h1 => ?_)
  . have hkl : k < 1 := ltT h1; obtain rfl : k = 0 := by omega
    . (repeat' (first | refine .nd ?_ | refine .nq ?_ | (refine .rv rfl ?_; cbv) | (refine .rr rfl ?_; cbv) | refine .sT ?_ | refine .sF ?_ | refine .fk ?_ | refine .split (fun h => ?_) (fun h => ?_)))
      refine .cl hw0 ?_; cbv
      (repeat' (first | refine .nd ?_ | refine .nq ?_ | (refine .rv rfl ?_; cbv) | (refine .rr rfl ?_; cbv) | refine .sT ?_ | refine .sF ?_ | refine .fk ?_ | refine .split (fun h => ?_) (fun h => ?_)))
      refine .prop ⟨1, by decide, by decide, ?_⟩
      (refine le_of ?_; cbv; refine .mk ?_; repeat' (first | exact AllP.nil | refine AllP.cons ?_ ?_))
      all_goals first | rfl | decide
  refine .cs [0] 99 ho ?_; cbv; refine .cl hcp ?_; cbv; exact .fn
set_option maxHeartbeats 2000000 in
set_option maxRecDepth 100000 in
theorem eprim_IIS {nm : ByteArray} (r : List Int) (hr : r.length <= 1000) (a b : Int) (ha : inM a) (hb : inM b)
    (hk : Pure Tryz.prog 16 [.str fun _ => nm, .int .i64 fun _ => 1] (.ds 1 fun _ => ints [1, 1]))
    (ho : Eng.Spec Tryz.prog 18 [.raw (.string nm), .os 0] [(0, .arr 27 4 fun _ => [(num0 a).dv, (num0 b).dv])] 1 (fun _ : Unit => True) (fun _ => .tup [.agg (vecV r), .int .i64 fun _ => 0]) (fun _ => [(0, .arr 27 4 fun _ => [(num0 a).dv, (num0 b).dv])])) :
    Eng.Spec Tryz.prog 8 [.raw (.string nm), .os 0] [(0, .arr 27 4 fun _ => [(num0 a).dv, (num0 b).dv])] 1 (fun _ : Unit => True) (fun _ => .tup [.agg (vecV r), .int .i64 fun _ => 0, .int .i64 fun _ => 0]) (fun _ => [(0, .arr 27 4 fun _ => [(num0 a).dv, (num0 b).dv])]) := by
  have hw0 := well1 a ha; have hw1 := well1 b hb; have hcp := copiedv_ok r hr; refine spec_of' (P := fun _ => Tryz.prog) tabOk Tryz.func8 rfl rfl ?_
  cbv
  (repeat' (first | refine .nd ?_ | refine .nq ?_ | (refine .rv rfl ?_; cbv) | (refine .rr rfl ?_; cbv) | refine .sT ?_ | refine .sF ?_ | refine .fk ?_ | refine .split (fun h => ?_) (fun h => ?_)))
  refine .cl hk ?_; cbv
  (repeat' (first | refine .nd ?_ | refine .nq ?_ | (refine .rv rfl ?_; cbv) | (refine .rr rfl ?_; cbv) | refine .sT ?_ | refine .sF ?_ | refine .fk ?_ | refine .split (fun h => ?_) (fun h => ?_)))
  refine .loop Nat (fun k => k <= 2) (fun k => [(36, .int .i64 fun _ => (k : Int))]) (fun _ => [(1, .cells 27 [.int .i64 fun _ => 0, .str fun _ => ⟨#[]⟩, .int .i64 fun _ => 0, .nils]), (0, .arr 27 4 fun _ => [(num0 a).dv, (num0 b).dv])]) 2 (fun k => 2 - k) 0 (by decide) ?_ ?_
  . (refine le_of ?_; cbv; refine .mk ?_; repeat' (first | exact AllP.nil | refine AllP.cons ?_ ?_))
    all_goals rfl
  intro k hk2; cbv; refine .split (fun h1 => ?_) (fun h1 => ?_)
  . have hkl : k < 2 := ltT h1; rcases (by omega : k = 0 \/ k = 1) with rfl | rfl
    . (repeat' (first | refine .nd ?_ | refine .nq ?_ | (refine .rv rfl ?_; cbv) | (refine .rr rfl ?_; cbv) | refine .sT ?_ | refine .sF ?_ | refine .fk ?_ | refine .split (fun h => ?_) (fun h => ?_)))
      refine .cl hw0 ?_; cbv
      (repeat' (first | refine .nd ?_ | refine .nq ?_ | (refine .rv rfl ?_; cbv) | (refine .rr rfl ?_; cbv) | refine .sT ?_ | refine .sF ?_ | refine .fk ?_ | refine .split (fun h => ?_) (fun h => ?_)))
      refine .prop ⟨1, by decide, by decide, ?_⟩
      (refine le_of ?_; cbv; refine .mk ?_; repeat' (first | exact AllP.nil | refine AllP.cons ?_ ?_))
      all_goals first | rfl | decide
    . (repeat' (first | refine .nd ?_ | refine .nq ?_ | (refine .rv rfl ?_; cbv) | (refine .rr rfl ?_; cbv) | refine .sT ?_ | refine .sF ?_ | refine .fk ?_ | refine .split (fun h => ?_) (fun h => ?_)))
      refine .cl hw1 ?_; cbv
      (repeat' (first | refine .nd ?_ | refine .nq ?_ | (refine .rv rfl ?_; cbv) | (refine .rr rfl ?_; cbv) | refine .sT ?_ | refine .sF ?_ | refine .fk ?_ | refine .split (fun h => ?_) (fun h => ?_)))
      refine .prop ⟨2, by decide, by decide, ?_⟩
      (refine le_of ?_; cbv; refine .mk ?_; repeat' (first | exact AllP.nil | refine AllP.cons ?_ ?_))
      all_goals first | rfl | decide
  refine .cs [0] 99 ho ?_; cbv; refine .cl hcp ?_; cbv; exact .fn
set_option maxHeartbeats 2000000 in
set_option maxRecDepth 100000 in
theorem eprim_VIIS {nm : ByteArray} (r : List Int) (hr : r.length <= 1000) (l : List Int) (hl : l.length <= 1000) (hm : ∀ x ∈ l, inM x) (b c : Int) (hb : inM b) (hc : inM c)
    (hk : Pure Tryz.prog 16 [.str fun _ => nm, .int .i64 fun _ => 4] (.ds 1 fun _ => ints [4, 1, 1]))
    (ho : Eng.Spec Tryz.prog 18 [.raw (.string nm), .os 0] [(0, .arr 27 4 fun _ => [vecD l, (num0 b).dv, (num0 c).dv])] 1 (fun _ : Unit => True) (fun _ => .tup [.agg (vecV r), .int .i64 fun _ => 0]) (fun _ => [(0, .arr 27 4 fun _ => [vecD l, (num0 b).dv, (num0 c).dv])])) :
    Eng.Spec Tryz.prog 8 [.raw (.string nm), .os 0] [(0, .arr 27 4 fun _ => [vecD l, (num0 b).dv, (num0 c).dv])] 1 (fun _ : Unit => True) (fun _ => .tup [.agg (vecV r), .int .i64 fun _ => 0, .int .i64 fun _ => 0]) (fun _ => [(0, .arr 27 4 fun _ => [vecD l, (num0 b).dv, (num0 c).dv])]) := by
  have hw0 := wellv_ok l hl hm; have hw1 := well1 b hb; have hw2 := well1 c hc; have hcp := copiedv_ok r hr; refine spec_of' (P := fun _ => Tryz.prog) tabOk Tryz.func8 rfl rfl ?_
  cbv
  (repeat' (first | refine .nd ?_ | refine .nq ?_ | (refine .rv rfl ?_; cbv) | (refine .rr rfl ?_; cbv) | refine .sT ?_ | refine .sF ?_ | refine .fk ?_ | refine .split (fun h => ?_) (fun h => ?_)))
  refine .cl hk ?_; cbv
  (repeat' (first | refine .nd ?_ | refine .nq ?_ | (refine .rv rfl ?_; cbv) | (refine .rr rfl ?_; cbv) | refine .sT ?_ | refine .sF ?_ | refine .fk ?_ | refine .split (fun h => ?_) (fun h => ?_)))
  refine .loop Nat (fun k => k <= 3) (fun k => [(36, .int .i64 fun _ => (k : Int))]) (fun _ => [(1, .cells 27 [.int .i64 fun _ => 0, .str fun _ => ⟨#[]⟩, .int .i64 fun _ => 0, .nils]), (0, .arr 27 4 fun _ => [vecD l, (num0 b).dv, (num0 c).dv])]) 2 (fun k => 3 - k) 0 (by decide) ?_ ?_
  . (refine le_of ?_; cbv; refine .mk ?_; repeat' (first | exact AllP.nil | refine AllP.cons ?_ ?_))
    all_goals rfl
  intro k hk2; cbv; refine .split (fun h1 => ?_) (fun h1 => ?_)
  . have hkl : k < 3 := ltT h1; rcases (by omega : k = 0 \/ k = 1 \/ k = 2) with rfl | rfl | rfl
    . (repeat' (first | refine .nd ?_ | refine .nq ?_ | (refine .rv rfl ?_; cbv) | (refine .rr rfl ?_; cbv) | refine .sT ?_ | refine .sF ?_ | refine .fk ?_ | refine .split (fun h => ?_) (fun h => ?_)))
      refine .cl hw0 ?_; cbv
      (repeat' (first | refine .nd ?_ | refine .nq ?_ | (refine .rv rfl ?_; cbv) | (refine .rr rfl ?_; cbv) | refine .sT ?_ | refine .sF ?_ | refine .fk ?_ | refine .split (fun h => ?_) (fun h => ?_)))
      refine .prop ⟨1, by decide, by decide, ?_⟩
      (refine le_of ?_; cbv; refine .mk ?_; repeat' (first | exact AllP.nil | refine AllP.cons ?_ ?_))
      all_goals first | rfl | decide
    . (repeat' (first | refine .nd ?_ | refine .nq ?_ | (refine .rv rfl ?_; cbv) | (refine .rr rfl ?_; cbv) | refine .sT ?_ | refine .sF ?_ | refine .fk ?_ | refine .split (fun h => ?_) (fun h => ?_)))
      refine .cl hw1 ?_; cbv
      (repeat' (first | refine .nd ?_ | refine .nq ?_ | (refine .rv rfl ?_; cbv) | (refine .rr rfl ?_; cbv) | refine .sT ?_ | refine .sF ?_ | refine .fk ?_ | refine .split (fun h => ?_) (fun h => ?_)))
      refine .prop ⟨2, by decide, by decide, ?_⟩
      (refine le_of ?_; cbv; refine .mk ?_; repeat' (first | exact AllP.nil | refine AllP.cons ?_ ?_))
      all_goals first | rfl | decide
    . (repeat' (first | refine .nd ?_ | refine .nq ?_ | (refine .rv rfl ?_; cbv) | (refine .rr rfl ?_; cbv) | refine .sT ?_ | refine .sF ?_ | refine .fk ?_ | refine .split (fun h => ?_) (fun h => ?_)))
      refine .cl hw2 ?_; cbv
      (repeat' (first | refine .nd ?_ | refine .nq ?_ | (refine .rv rfl ?_; cbv) | (refine .rr rfl ?_; cbv) | refine .sT ?_ | refine .sF ?_ | refine .fk ?_ | refine .split (fun h => ?_) (fun h => ?_)))
      refine .prop ⟨3, by decide, by decide, ?_⟩
      (refine le_of ?_; cbv; refine .mk ?_; repeat' (first | exact AllP.nil | refine AllP.cons ?_ ?_))
      all_goals first | rfl | decide
  refine .cs [0] 99 ho ?_; cbv; refine .cl hcp ?_; cbv; exact .fn
end Go.Qu
