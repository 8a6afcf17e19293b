/- eval.Prim where it tells an error; laid by mke.py. -/
import Derived.Test.YtkgiopdkhhinoaaGreatDoorVd
import Derived.Test.YtkgiopdkhhinoaaGreatDoorXc
set_option linter.all false
namespace Go.Qu
open Go.Eng Go.Proofs
set_option maxHeartbeats 2000000 in
set_option maxRecDepth 100000 in
theorem epow_II (a b : Int) : Pure Tryz.prog 8 [.raw (.string ⟨#[112, 111, 119, 101, 114]⟩), .ds 4 fun _ => [(num0 a).dv, (num0 b).dv]] (.tup [.agg [.int .i64 fun _ => 0, .str fun _ => ⟨#[]⟩, .int .i64 fun _ => 0, .nils], .int .i64 fun _ => 0, .int .i64 fun _ => 100]) := by
  have hk := kindsP 1; refine pure_of (P := fun _ => Tryz.prog) tabOk Tryz.func8 rfl rfl ?_
  cbv
  (repeat' (first | refine .nd ?_ | refine .nq ?_ | (refine .rv rfl ?_; cbv) | (refine .rr rfl ?_; cbv) | refine .sT ?_ | refine .sF ?_ | refine .fk ?_))
  refine .cl hk ?_; cbv
  (repeat' (first | refine .nd ?_ | refine .nq ?_ | (refine .rv rfl ?_; cbv) | (refine .rr rfl ?_; cbv) | refine .sT ?_ | refine .sF ?_ | refine .fk ?_))
  exact .fn
set_option maxHeartbeats 2000000 in
set_option maxRecDepth 100000 in
theorem epow_BB (a b : Bool) : Pure Tryz.prog 8 [.raw (.string ⟨#[112, 111, 119, 101, 114]⟩), .ds 4 fun _ => [(bool0 a).dv, (bool0 b).dv]] (.tup [.agg [.int .i64 fun _ => 0, .str fun _ => ⟨#[]⟩, .int .i64 fun _ => 0, .nils], .int .i64 fun _ => 0, .int .i64 fun _ => 100]) := by
  have hk := kindsP 2; refine pure_of (P := fun _ => Tryz.prog) tabOk Tryz.func8 rfl rfl ?_
  cbv
  (repeat' (first | refine .nd ?_ | refine .nq ?_ | (refine .rv rfl ?_; cbv) | (refine .rr rfl ?_; cbv) | refine .sT ?_ | refine .sF ?_ | refine .fk ?_))
  refine .cl hk ?_; cbv
  (repeat' (first | refine .nd ?_ | refine .nq ?_ | (refine .rv rfl ?_; cbv) | (refine .rr rfl ?_; cbv) | refine .sT ?_ | refine .sF ?_ | refine .fk ?_))
  exact .fn
set_option maxHeartbeats 2000000 in
set_option maxRecDepth 100000 in
theorem epow_B (a : Bool) : Pure Tryz.prog 8 [.raw (.string ⟨#[112, 111, 119, 101, 114]⟩), .ds 4 fun _ => [(bool0 a).dv]] (.tup [.agg [.int .i64 fun _ => 0, .str fun _ => ⟨#[]⟩, .int .i64 fun _ => 0, .nils], .int .i64 fun _ => 0, .int .i64 fun _ => 100]) := by
  have hk := kindsP 2; refine pure_of (P := fun _ => Tryz.prog) tabOk Tryz.func8 rfl rfl ?_
  cbv
  (repeat' (first | refine .nd ?_ | refine .nq ?_ | (refine .rv rfl ?_; cbv) | (refine .rr rfl ?_; cbv) | refine .sT ?_ | refine .sF ?_ | refine .fk ?_))
  refine .cl hk ?_; cbv
  (repeat' (first | refine .nd ?_ | refine .nq ?_ | (refine .rv rfl ?_; cbv) | (refine .rr rfl ?_; cbv) | refine .sT ?_ | refine .sF ?_ | refine .fk ?_))
  exact .fn
set_option maxHeartbeats 2000000 in
set_option maxRecDepth 100000 in
theorem epow_V (l : List Int) : Pure Tryz.prog 8 [.raw (.string ⟨#[112, 111, 119, 101, 114]⟩), .ds 4 fun _ => [vecD l]] (.tup [.agg [.int .i64 fun _ => 0, .str fun _ => ⟨#[]⟩, .int .i64 fun _ => 0, .nils], .int .i64 fun _ => 0, .int .i64 fun _ => 100]) := by
  have hk := kindsP 4; refine pure_of (P := fun _ => Tryz.prog) tabOk Tryz.func8 rfl rfl ?_
  cbv
  (repeat' (first | refine .nd ?_ | refine .nq ?_ | (refine .rv rfl ?_; cbv) | (refine .rr rfl ?_; cbv) | refine .sT ?_ | refine .sF ?_ | refine .fk ?_))
  refine .cl hk ?_; cbv
  (repeat' (first | refine .nd ?_ | refine .nq ?_ | (refine .rv rfl ?_; cbv) | (refine .rr rfl ?_; cbv) | refine .sT ?_ | refine .sF ?_ | refine .fk ?_))
  exact .fn
set_option maxHeartbeats 2000000 in
set_option maxRecDepth 100000 in
theorem epow_VI (l : List Int) (b : Int) : Pure Tryz.prog 8 [.raw (.string ⟨#[112, 111, 119, 101, 114]⟩), .ds 4 fun _ => [vecD l, (num0 b).dv]] (.tup [.agg [.int .i64 fun _ => 0, .str fun _ => ⟨#[]⟩, .int .i64 fun _ => 0, .nils], .int .i64 fun _ => 0, .int .i64 fun _ => 100]) := by
  have hk := kindsP 4; refine pure_of (P := fun _ => Tryz.prog) tabOk Tryz.func8 rfl rfl ?_
  cbv
  (repeat' (first | refine .nd ?_ | refine .nq ?_ | (refine .rv rfl ?_; cbv) | (refine .rr rfl ?_; cbv) | refine .sT ?_ | refine .sF ?_ | refine .fk ?_))
  refine .cl hk ?_; cbv
  (repeat' (first | refine .nd ?_ | refine .nq ?_ | (refine .rv rfl ?_; cbv) | (refine .rr rfl ?_; cbv) | refine .sT ?_ | refine .sF ?_ | refine .fk ?_))
  exact .fn
set_option maxHeartbeats 2000000 in
set_option maxRecDepth 100000 in
theorem epow_VII (l : List Int) (b c : Int) : Pure Tryz.prog 8 [.raw (.string ⟨#[112, 111, 119, 101, 114]⟩), .ds 4 fun _ => [vecD l, (num0 b).dv, (num0 c).dv]] (.tup [.agg [.int .i64 fun _ => 0, .str fun _ => ⟨#[]⟩, .int .i64 fun _ => 0, .nils], .int .i64 fun _ => 0, .int .i64 fun _ => 100]) := by
  have hk := kindsP 4; refine pure_of (P := fun _ => Tryz.prog) tabOk Tryz.func8 rfl rfl ?_
  cbv
  (repeat' (first | refine .nd ?_ | refine .nq ?_ | (refine .rv rfl ?_; cbv) | (refine .rr rfl ?_; cbv) | refine .sT ?_ | refine .sF ?_ | refine .fk ?_))
  refine .cl hk ?_; cbv
  (repeat' (first | refine .nd ?_ | refine .nq ?_ | (refine .rv rfl ?_; cbv) | (refine .rr rfl ?_; cbv) | refine .sT ?_ | refine .sF ?_ | refine .fk ?_))
  exact .fn
set_option maxHeartbeats 2000000 in
set_option maxRecDepth 100000 in
theorem epow_IIO (a b : Int) : Eng.Spec Tryz.prog 8 [.raw (.string ⟨#[112, 111, 119, 101, 114]⟩), .ov 0 4 (fun _ => 0) (fun _ => 1)] [(0, .arr 27 4 fun _ => [(num0 a).dv, (num0 b).dv])] 1 (fun _ : Unit => True) (fun _ => .tup [.agg [.int .i64 fun _ => 0, .str fun _ => ⟨#[]⟩, .int .i64 fun _ => 0, .nils], .int .i64 fun _ => 0, .int .i64 fun _ => 100]) (fun _ => [(0, .arr 27 4 fun _ => [(num0 a).dv, (num0 b).dv])]) := by
  have hk := kindsP 1; refine spec_of' (P := fun _ => Tryz.prog) tabOk Tryz.func8 rfl rfl ?_
  cbv
  (repeat' (first | refine .nd ?_ | refine .nq ?_ | (refine .rv rfl ?_; cbv) | (refine .rr rfl ?_; cbv) | refine .sT ?_ | refine .sF ?_ | refine .fk ?_))
  refine .cl hk ?_; cbv
  (repeat' (first | refine .nd ?_ | refine .nq ?_ | (refine .rv rfl ?_; cbv) | (refine .rr rfl ?_; cbv) | refine .sT ?_ | refine .sF ?_ | refine .fk ?_))
  exact .fn
set_option maxHeartbeats 2000000 in
set_option maxRecDepth 100000 in
theorem ebase_UI1 {nm : ByteArray} (b : Int) (hk : Pure Tryz.prog 16 [.str fun _ => nm, .int .i64 fun _ => 3] (.ds 1 fun _ => ints [1, 1])) : Pure Tryz.prog 8 [.raw (.string nm), .ds 4 fun _ => [unit0.dv, (num0 b).dv]] (.tup [.agg [.int .i64 fun _ => 0, .str fun _ => ⟨#[]⟩, .int .i64 fun _ => 0, .nils], .int .i64 fun _ => 0, .int .i64 fun _ => 110]) := by
  refine pure_of (P := fun _ => Tryz.prog) tabOk Tryz.func8 rfl rfl ?_
  cbv
  (repeat' (first | refine .nd ?_ | refine .nq ?_ | (refine .rv rfl ?_; cbv) | (refine .rr rfl ?_; cbv) | refine .sT ?_ | refine .sF ?_ | refine .fk ?_))
  refine .cl hk ?_; cbv
  (repeat' (first | refine .nd ?_ | refine .nq ?_ | (refine .rv rfl ?_; cbv) | (refine .rr rfl ?_; cbv) | refine .sT ?_ | refine .sF ?_ | refine .fk ?_))
  refine .loop Nat (fun k => k = 0) (fun k => [(36, .int .i64 fun _ => (k : Int))]) (fun _ => [(0, .cells 27 [.int .i64 fun _ => 0, .str fun _ => ⟨#[]⟩, .int .i64 fun _ => 0, .nils])]) 1 (fun _ => 0) 0 rfl ?_ ?_
  . (refine le_of ?_; cbv; refine .mk ?_; repeat' (first | exact AllP.nil | refine AllP.cons ?_ ?_))
    all_goals rfl
  intro k hk2; subst hk2; cbv
  (repeat' (first | refine .nd ?_ | refine .nq ?_ | (refine .rv rfl ?_; cbv) | (refine .rr rfl ?_; cbv) | refine .sT ?_ | refine .sF ?_ | refine .fk ?_))
  exact .fn
set_option maxHeartbeats 2000000 in
set_option maxRecDepth 100000 in
theorem ebase_UB2 {nm : ByteArray} (b : Bool) (hk : Pure Tryz.prog 16 [.str fun _ => nm, .int .i64 fun _ => 3] (.ds 1 fun _ => ints [2, 2])) : Pure Tryz.prog 8 [.raw (.string nm), .ds 4 fun _ => [unit0.dv, (bool0 b).dv]] (.tup [.agg [.int .i64 fun _ => 0, .str fun _ => ⟨#[]⟩, .int .i64 fun _ => 0, .nils], .int .i64 fun _ => 0, .int .i64 fun _ => 110]) := by
  refine pure_of (P := fun _ => Tryz.prog) tabOk Tryz.func8 rfl rfl ?_
  cbv
  (repeat' (first | refine .nd ?_ | refine .nq ?_ | (refine .rv rfl ?_; cbv) | (refine .rr rfl ?_; cbv) | refine .sT ?_ | refine .sF ?_ | refine .fk ?_))
  refine .cl hk ?_; cbv
  (repeat' (first | refine .nd ?_ | refine .nq ?_ | (refine .rv rfl ?_; cbv) | (refine .rr rfl ?_; cbv) | refine .sT ?_ | refine .sF ?_ | refine .fk ?_))
  refine .loop Nat (fun k => k = 0) (fun k => [(36, .int .i64 fun _ => (k : Int))]) (fun _ => [(0, .cells 27 [.int .i64 fun _ => 0, .str fun _ => ⟨#[]⟩, .int .i64 fun _ => 0, .nils])]) 1 (fun _ => 0) 0 rfl ?_ ?_
  . (refine le_of ?_; cbv; refine .mk ?_; repeat' (first | exact AllP.nil | refine AllP.cons ?_ ?_))
    all_goals rfl
  intro k hk2; subst hk2; cbv
  (repeat' (first | refine .nd ?_ | refine .nq ?_ | (refine .rv rfl ?_; cbv) | (refine .rr rfl ?_; cbv) | refine .sT ?_ | refine .sF ?_ | refine .fk ?_))
  exact .fn
set_option maxHeartbeats 2000000 in
set_option maxRecDepth 100000 in
theorem ebase_U2 {nm : ByteArray}  (hk : Pure Tryz.prog 16 [.str fun _ => nm, .int .i64 fun _ => 3] (.ds 1 fun _ => ints [2])) : Pure Tryz.prog 8 [.raw (.string nm), .ds 4 fun _ => [unit0.dv]] (.tup [.agg [.int .i64 fun _ => 0, .str fun _ => ⟨#[]⟩, .int .i64 fun _ => 0, .nils], .int .i64 fun _ => 0, .int .i64 fun _ => 110]) := by
  refine pure_of (P := fun _ => Tryz.prog) tabOk Tryz.func8 rfl rfl ?_
  cbv
  (repeat' (first | refine .nd ?_ | refine .nq ?_ | (refine .rv rfl ?_; cbv) | (refine .rr rfl ?_; cbv) | refine .sT ?_ | refine .sF ?_ | refine .fk ?_))
  refine .cl hk ?_; cbv
  (repeat' (first | refine .nd ?_ | refine .nq ?_ | (refine .rv rfl ?_; cbv) | (refine .rr rfl ?_; cbv) | refine .sT ?_ | refine .sF ?_ | refine .fk ?_))
  refine .loop Nat (fun k => k = 0) (fun k => [(36, .int .i64 fun _ => (k : Int))]) (fun _ => [(0, .cells 27 [.int .i64 fun _ => 0, .str fun _ => ⟨#[]⟩, .int .i64 fun _ => 0, .nils])]) 1 (fun _ => 0) 0 rfl ?_ ?_
  . (refine le_of ?_; cbv; refine .mk ?_; repeat' (first | exact AllP.nil | refine AllP.cons ?_ ?_))
    all_goals rfl
  intro k hk2; subst hk2; cbv
  (repeat' (first | refine .nd ?_ | refine .nq ?_ | (refine .rv rfl ?_; cbv) | (refine .rr rfl ?_; cbv) | refine .sT ?_ | refine .sF ?_ | refine .fk ?_))
  exact .fn
set_option maxHeartbeats 2000000 in
set_option maxRecDepth 100000 in
theorem ebase_U4 {nm : ByteArray}  (hk : Pure Tryz.prog 16 [.str fun _ => nm, .int .i64 fun _ => 3] (.ds 1 fun _ => ints [4])) : Pure Tryz.prog 8 [.raw (.string nm), .ds 4 fun _ => [unit0.dv]] (.tup [.agg [.int .i64 fun _ => 0, .str fun _ => ⟨#[]⟩, .int .i64 fun _ => 0, .nils], .int .i64 fun _ => 0, .int .i64 fun _ => 110]) := by
  refine pure_of (P := fun _ => Tryz.prog) tabOk Tryz.func8 rfl rfl ?_
  cbv
  (repeat' (first | refine .nd ?_ | refine .nq ?_ | (refine .rv rfl ?_; cbv) | (refine .rr rfl ?_; cbv) | refine .sT ?_ | refine .sF ?_ | refine .fk ?_))
  refine .cl hk ?_; cbv
  (repeat' (first | refine .nd ?_ | refine .nq ?_ | (refine .rv rfl ?_; cbv) | (refine .rr rfl ?_; cbv) | refine .sT ?_ | refine .sF ?_ | refine .fk ?_))
  refine .loop Nat (fun k => k = 0) (fun k => [(36, .int .i64 fun _ => (k : Int))]) (fun _ => [(0, .cells 27 [.int .i64 fun _ => 0, .str fun _ => ⟨#[]⟩, .int .i64 fun _ => 0, .nils])]) 1 (fun _ => 0) 0 rfl ?_ ?_
  . (refine le_of ?_; cbv; refine .mk ?_; repeat' (first | exact AllP.nil | refine AllP.cons ?_ ?_))
    all_goals rfl
  intro k hk2; subst hk2; cbv
  (repeat' (first | refine .nd ?_ | refine .nq ?_ | (refine .rv rfl ?_; cbv) | (refine .rr rfl ?_; cbv) | refine .sT ?_ | refine .sF ?_ | refine .fk ?_))
  exact .fn
set_option maxHeartbeats 2000000 in
set_option maxRecDepth 100000 in
theorem ebase_UI4 {nm : ByteArray} (b : Int) (hk : Pure Tryz.prog 16 [.str fun _ => nm, .int .i64 fun _ => 3] (.ds 1 fun _ => ints [4, 1])) : Pure Tryz.prog 8 [.raw (.string nm), .ds 4 fun _ => [unit0.dv, (num0 b).dv]] (.tup [.agg [.int .i64 fun _ => 0, .str fun _ => ⟨#[]⟩, .int .i64 fun _ => 0, .nils], .int .i64 fun _ => 0, .int .i64 fun _ => 110]) := by
  refine pure_of (P := fun _ => Tryz.prog) tabOk Tryz.func8 rfl rfl ?_
  cbv
  (repeat' (first | refine .nd ?_ | refine .nq ?_ | (refine .rv rfl ?_; cbv) | (refine .rr rfl ?_; cbv) | refine .sT ?_ | refine .sF ?_ | refine .fk ?_))
  refine .cl hk ?_; cbv
  (repeat' (first | refine .nd ?_ | refine .nq ?_ | (refine .rv rfl ?_; cbv) | (refine .rr rfl ?_; cbv) | refine .sT ?_ | refine .sF ?_ | refine .fk ?_))
  refine .loop Nat (fun k => k = 0) (fun k => [(36, .int .i64 fun _ => (k : Int))]) (fun _ => [(0, .cells 27 [.int .i64 fun _ => 0, .str fun _ => ⟨#[]⟩, .int .i64 fun _ => 0, .nils])]) 1 (fun _ => 0) 0 rfl ?_ ?_
  . (refine le_of ?_; cbv; refine .mk ?_; repeat' (first | exact AllP.nil | refine AllP.cons ?_ ?_))
    all_goals rfl
  intro k hk2; subst hk2; cbv
  (repeat' (first | refine .nd ?_ | refine .nq ?_ | (refine .rv rfl ?_; cbv) | (refine .rr rfl ?_; cbv) | refine .sT ?_ | refine .sF ?_ | refine .fk ?_))
  exact .fn
set_option maxHeartbeats 2000000 in
set_option maxRecDepth 100000 in
theorem ebase_UII4 {nm : ByteArray} (b c : Int) (hk : Pure Tryz.prog 16 [.str fun _ => nm, .int .i64 fun _ => 3] (.ds 1 fun _ => ints [4, 1, 1])) : Pure Tryz.prog 8 [.raw (.string nm), .ds 4 fun _ => [unit0.dv, (num0 b).dv, (num0 c).dv]] (.tup [.agg [.int .i64 fun _ => 0, .str fun _ => ⟨#[]⟩, .int .i64 fun _ => 0, .nils], .int .i64 fun _ => 0, .int .i64 fun _ => 110]) := by
  refine pure_of (P := fun _ => Tryz.prog) tabOk Tryz.func8 rfl rfl ?_
  cbv
  (repeat' (first | refine .nd ?_ | refine .nq ?_ | (refine .rv rfl ?_; cbv) | (refine .rr rfl ?_; cbv) | refine .sT ?_ | refine .sF ?_ | refine .fk ?_))
  refine .cl hk ?_; cbv
  (repeat' (first | refine .nd ?_ | refine .nq ?_ | (refine .rv rfl ?_; cbv) | (refine .rr rfl ?_; cbv) | refine .sT ?_ | refine .sF ?_ | refine .fk ?_))
  refine .loop Nat (fun k => k = 0) (fun k => [(36, .int .i64 fun _ => (k : Int))]) (fun _ => [(0, .cells 27 [.int .i64 fun _ => 0, .str fun _ => ⟨#[]⟩, .int .i64 fun _ => 0, .nils])]) 1 (fun _ => 0) 0 rfl ?_ ?_
  . (refine le_of ?_; cbv; refine .mk ?_; repeat' (first | exact AllP.nil | refine AllP.cons ?_ ?_))
    all_goals rfl
  intro k hk2; subst hk2; cbv
  (repeat' (first | refine .nd ?_ | refine .nq ?_ | (refine .rv rfl ?_; cbv) | (refine .rr rfl ?_; cbv) | refine .sT ?_ | refine .sF ?_ | refine .fk ?_))
  exact .fn
set_option maxHeartbeats 2000000 in
set_option maxRecDepth 100000 in
theorem ebase_UI1O {nm : ByteArray} (b : Int) (hk : Pure Tryz.prog 16 [.str fun _ => nm, .int .i64 fun _ => 3] (.ds 1 fun _ => ints [1])) : Eng.Spec Tryz.prog 8 [.raw (.string nm), .ov 0 4 (fun _ => 0) (fun _ => 1)] [(0, .arr 27 4 fun _ => [unit0.dv, (num0 b).dv])] 1 (fun _ : Unit => True) (fun _ => .tup [.agg [.int .i64 fun _ => 0, .str fun _ => ⟨#[]⟩, .int .i64 fun _ => 0, .nils], .int .i64 fun _ => 0, .int .i64 fun _ => 110]) (fun _ => [(0, .arr 27 4 fun _ => [unit0.dv, (num0 b).dv])]) := by
  refine spec_of' (P := fun _ => Tryz.prog) tabOk Tryz.func8 rfl rfl ?_
  cbv
  (repeat' (first | refine .nd ?_ | refine .nq ?_ | (refine .rv rfl ?_; cbv) | (refine .rr rfl ?_; cbv) | refine .sT ?_ | refine .sF ?_ | refine .fk ?_))
  refine .cl hk ?_; cbv
  (repeat' (first | refine .nd ?_ | refine .nq ?_ | (refine .rv rfl ?_; cbv) | (refine .rr rfl ?_; cbv) | refine .sT ?_ | refine .sF ?_ | refine .fk ?_))
  refine .loop Nat (fun k => k = 0) (fun k => [(36, .int .i64 fun _ => (k : Int))]) (fun _ => [(1, .cells 27 [.int .i64 fun _ => 0, .str fun _ => ⟨#[]⟩, .int .i64 fun _ => 0, .nils]), (0, .arr 27 4 fun _ => [unit0.dv, (num0 b).dv])]) 2 (fun _ => 0) 0 rfl ?_ ?_
  . (refine le_of ?_; cbv; refine .mk ?_; repeat' (first | exact AllP.nil | refine AllP.cons ?_ ?_))
    all_goals rfl
  intro k hk2; subst hk2; cbv
  (repeat' (first | refine .nd ?_ | refine .nq ?_ | (refine .rv rfl ?_; cbv) | (refine .rr rfl ?_; cbv) | refine .sT ?_ | refine .sF ?_ | refine .fk ?_))
  exact .fn
set_option maxHeartbeats 2000000 in
set_option maxRecDepth 100000 in
theorem earity_II {nm : ByteArray} (a b : Int) (hk : Pure Tryz.prog 16 [.str fun _ => nm, .int .i64 fun _ => 1] (.ds 1 fun _ => ints [1, 1])) : Eng.Spec Tryz.prog 8 [.raw (.string nm), .ov 0 4 (fun _ => 1) (fun _ => 2)] [(0, .arr 27 4 fun _ => [(num0 a).dv, (num0 b).dv])] 1 (fun _ : Unit => True) (fun _ => .tup [.agg [.int .i64 fun _ => 0, .str fun _ => ⟨#[]⟩, .int .i64 fun _ => 0, .nils], .int .i64 fun _ => 0, .int .i64 fun _ => 101]) (fun _ => [(0, .arr 27 4 fun _ => [(num0 a).dv, (num0 b).dv])]) := by
  refine spec_of' (P := fun _ => Tryz.prog) tabOk Tryz.func8 rfl rfl ?_
  cbv
  (repeat' (first | refine .nd ?_ | refine .nq ?_ | (refine .rv rfl ?_; cbv) | (refine .rr rfl ?_; cbv) | refine .sT ?_ | refine .sF ?_ | refine .fk ?_))
  refine .cl hk ?_; cbv
  (repeat' (first | refine .nd ?_ | refine .nq ?_ | (refine .rv rfl ?_; cbv) | (refine .rr rfl ?_; cbv) | refine .sT ?_ | refine .sF ?_ | refine .fk ?_))
  exact .fn
set_option maxHeartbeats 2000000 in
set_option maxRecDepth 100000 in
theorem earity_I {nm : ByteArray} (a b : Int) (hk : Pure Tryz.prog 16 [.str fun _ => nm, .int .i64 fun _ => 0] (.ds 1 fun _ => ints [1])) : Eng.Spec Tryz.prog 8 [.raw (.string nm), .ov 0 4 (fun _ => 1) (fun _ => 1)] [(0, .arr 27 4 fun _ => [(num0 a).dv, (num0 b).dv])] 1 (fun _ : Unit => True) (fun _ => .tup [.agg [.int .i64 fun _ => 0, .str fun _ => ⟨#[]⟩, .int .i64 fun _ => 0, .nils], .int .i64 fun _ => 0, .int .i64 fun _ => 101]) (fun _ => [(0, .arr 27 4 fun _ => [(num0 a).dv, (num0 b).dv])]) := by
  refine spec_of' (P := fun _ => Tryz.prog) tabOk Tryz.func8 rfl rfl ?_
  cbv
  (repeat' (first | refine .nd ?_ | refine .nq ?_ | (refine .rv rfl ?_; cbv) | (refine .rr rfl ?_; cbv) | refine .sT ?_ | refine .sF ?_ | refine .fk ?_))
  refine .cl hk ?_; cbv
  (repeat' (first | refine .nd ?_ | refine .nq ?_ | (refine .rv rfl ?_; cbv) | (refine .rr rfl ?_; cbv) | refine .sT ?_ | refine .sF ?_ | refine .fk ?_))
  exact .fn
set_option maxHeartbeats 2000000 in
set_option maxRecDepth 100000 in
theorem earity_BB {nm : ByteArray} (a b : Bool) (hk : Pure Tryz.prog 16 [.str fun _ => nm, .int .i64 fun _ => 2] (.ds 1 fun _ => ints [2, 2])) : Eng.Spec Tryz.prog 8 [.raw (.string nm), .ov 0 4 (fun _ => 1) (fun _ => 2)] [(0, .arr 27 4 fun _ => [(bool0 a).dv, (bool0 b).dv])] 1 (fun _ : Unit => True) (fun _ => .tup [.agg [.int .i64 fun _ => 0, .str fun _ => ⟨#[]⟩, .int .i64 fun _ => 0, .nils], .int .i64 fun _ => 0, .int .i64 fun _ => 101]) (fun _ => [(0, .arr 27 4 fun _ => [(bool0 a).dv, (bool0 b).dv])]) := by
  refine spec_of' (P := fun _ => Tryz.prog) tabOk Tryz.func8 rfl rfl ?_
  cbv
  (repeat' (first | refine .nd ?_ | refine .nq ?_ | (refine .rv rfl ?_; cbv) | (refine .rr rfl ?_; cbv) | refine .sT ?_ | refine .sF ?_ | refine .fk ?_))
  refine .cl hk ?_; cbv
  (repeat' (first | refine .nd ?_ | refine .nq ?_ | (refine .rv rfl ?_; cbv) | (refine .rr rfl ?_; cbv) | refine .sT ?_ | refine .sF ?_ | refine .fk ?_))
  exact .fn
set_option maxHeartbeats 2000000 in
set_option maxRecDepth 100000 in
theorem earity_B {nm : ByteArray} (a : Bool) (hk : Pure Tryz.prog 16 [.str fun _ => nm, .int .i64 fun _ => 0] (.ds 1 fun _ => ints [2])) : Eng.Spec Tryz.prog 8 [.raw (.string nm), .ov 0 4 (fun _ => 1) (fun _ => 1)] [(0, .arr 27 4 fun _ => [(bool0 a).dv])] 1 (fun _ : Unit => True) (fun _ => .tup [.agg [.int .i64 fun _ => 0, .str fun _ => ⟨#[]⟩, .int .i64 fun _ => 0, .nils], .int .i64 fun _ => 0, .int .i64 fun _ => 101]) (fun _ => [(0, .arr 27 4 fun _ => [(bool0 a).dv])]) := by
  refine spec_of' (P := fun _ => Tryz.prog) tabOk Tryz.func8 rfl rfl ?_
  cbv
  (repeat' (first | refine .nd ?_ | refine .nq ?_ | (refine .rv rfl ?_; cbv) | (refine .rr rfl ?_; cbv) | refine .sT ?_ | refine .sF ?_ | refine .fk ?_))
  refine .cl hk ?_; cbv
  (repeat' (first | refine .nd ?_ | refine .nq ?_ | (refine .rv rfl ?_; cbv) | (refine .rr rfl ?_; cbv) | refine .sT ?_ | refine .sF ?_ | refine .fk ?_))
  exact .fn
set_option maxHeartbeats 2000000 in
set_option maxRecDepth 100000 in
theorem earity_V {nm : ByteArray} (l : List Int) (hk : Pure Tryz.prog 16 [.str fun _ => nm, .int .i64 fun _ => 0] (.ds 1 fun _ => ints [4])) : Eng.Spec Tryz.prog 8 [.raw (.string nm), .ov 0 4 (fun _ => 1) (fun _ => 1)] [(0, .arr 27 4 fun _ => [vecD l])] 1 (fun _ : Unit => True) (fun _ => .tup [.agg [.int .i64 fun _ => 0, .str fun _ => ⟨#[]⟩, .int .i64 fun _ => 0, .nils], .int .i64 fun _ => 0, .int .i64 fun _ => 101]) (fun _ => [(0, .arr 27 4 fun _ => [vecD l])]) := by
  refine spec_of' (P := fun _ => Tryz.prog) tabOk Tryz.func8 rfl rfl ?_
  cbv
  (repeat' (first | refine .nd ?_ | refine .nq ?_ | (refine .rv rfl ?_; cbv) | (refine .rr rfl ?_; cbv) | refine .sT ?_ | refine .sF ?_ | refine .fk ?_))
  refine .cl hk ?_; cbv
  (repeat' (first | refine .nd ?_ | refine .nq ?_ | (refine .rv rfl ?_; cbv) | (refine .rr rfl ?_; cbv) | refine .sT ?_ | refine .sF ?_ | refine .fk ?_))
  exact .fn
set_option maxHeartbeats 2000000 in
set_option maxRecDepth 100000 in
theorem earity_VI {nm : ByteArray} (l : List Int) (b : Int) (hk : Pure Tryz.prog 16 [.str fun _ => nm, .int .i64 fun _ => 1] (.ds 1 fun _ => ints [4, 1])) : Eng.Spec Tryz.prog 8 [.raw (.string nm), .ov 0 4 (fun _ => 1) (fun _ => 2)] [(0, .arr 27 4 fun _ => [vecD l, (num0 b).dv])] 1 (fun _ : Unit => True) (fun _ => .tup [.agg [.int .i64 fun _ => 0, .str fun _ => ⟨#[]⟩, .int .i64 fun _ => 0, .nils], .int .i64 fun _ => 0, .int .i64 fun _ => 101]) (fun _ => [(0, .arr 27 4 fun _ => [vecD l, (num0 b).dv])]) := by
  refine spec_of' (P := fun _ => Tryz.prog) tabOk Tryz.func8 rfl rfl ?_
  cbv
  (repeat' (first | refine .nd ?_ | refine .nq ?_ | (refine .rv rfl ?_; cbv) | (refine .rr rfl ?_; cbv) | refine .sT ?_ | refine .sF ?_ | refine .fk ?_))
  refine .cl hk ?_; cbv
  (repeat' (first | refine .nd ?_ | refine .nq ?_ | (refine .rv rfl ?_; cbv) | (refine .rr rfl ?_; cbv) | refine .sT ?_ | refine .sF ?_ | refine .fk ?_))
  exact .fn
set_option maxHeartbeats 2000000 in
set_option maxRecDepth 100000 in
theorem earity_VII {nm : ByteArray} (l : List Int) (b c : Int) (hk : Pure Tryz.prog 16 [.str fun _ => nm, .int .i64 fun _ => 1] (.ds 1 fun _ => ints [4, 1, 1])) : Eng.Spec Tryz.prog 8 [.raw (.string nm), .ov 0 4 (fun _ => 1) (fun _ => 3)] [(0, .arr 27 4 fun _ => [vecD l, (num0 b).dv, (num0 c).dv])] 1 (fun _ : Unit => True) (fun _ => .tup [.agg [.int .i64 fun _ => 0, .str fun _ => ⟨#[]⟩, .int .i64 fun _ => 0, .nils], .int .i64 fun _ => 0, .int .i64 fun _ => 101]) (fun _ => [(0, .arr 27 4 fun _ => [vecD l, (num0 b).dv, (num0 c).dv])]) := by
  refine spec_of' (P := fun _ => Tryz.prog) tabOk Tryz.func8 rfl rfl ?_
  cbv
  (repeat' (first | refine .nd ?_ | refine .nq ?_ | (refine .rv rfl ?_; cbv) | (refine .rr rfl ?_; cbv) | refine .sT ?_ | refine .sF ?_ | refine .fk ?_))
  refine .cl hk ?_; cbv
  (repeat' (first | refine .nd ?_ | refine .nq ?_ | (refine .rv rfl ?_; cbv) | (refine .rr rfl ?_; cbv) | refine .sT ?_ | refine .sF ?_ | refine .fk ?_))
  exact .fn
end Go.Qu
