/- Well formed values; copies. -/
import Derived.Test.YtkgiopdkhhinoaaGreatDoorVb
set_option linter.all false
namespace Go.Qu
open Go.Eng Go.Proofs
def P0 : SV := .agg [.nils, .nils, .nils, .nils]
set_option maxRecDepth 100000 in
theorem well1 (n : Int) (hn : inM n) : Pure Tryz.prog 17 [P0, (num0 n).sv] (.bs fun _ => true) := by
  refine pure_of (P := fun _ => Tryz.prog) tabOk Tryz.func17 rfl rfl ?_
  cbv; repeat' (refine HU.split (fun h => ?_) (fun h => ?_) <;> first | (refine absurd h ?_; simp; done) | skip)
  all_goals
    (refine .fin () 99 trivial (le_of ?_); cbv; refine .mk ?_; repeat' (first | exact AllP.nil | refine AllP.cons ?_ ?_))
    all_goals first | rfl | (show true = (decide (-1000000000000 <= n) && decide (n <= 1000000000000)); unfold inM at hn; simp [hn.1, hn.2])
set_option maxRecDepth 100000 in
theorem well2 (b : Bool) : Pure Tryz.prog 17 [P0, (bool0 b).sv] (.bs fun _ => true) := by
  refine Exists.elim (show ∃ n : Int, (if b then 1 else 0) = n from ⟨_, rfl⟩) fun n hn => ?_
  have hn' : (n == 0 || n == 1) = true := by subst hn; cases b <;> rfl
  unfold bool0; rw [hn]; refine pure_of (P := fun _ => Tryz.prog) tabOk Tryz.func17 rfl rfl ?_
  cbv; repeat' (refine HU.split (fun h => ?_) (fun h => ?_) <;> first | (refine absurd h ?_; simp; done) | skip)
  all_goals
    (refine .fin () 99 trivial (le_of ?_); cbv; refine .mk ?_; repeat' (first | exact AllP.nil | refine AllP.cons ?_ ?_))
    all_goals first | rfl | exact hn'.symm
set_option maxRecDepth 100000 in
theorem clone_nil : Pure Tryz.prog 32 [.nils] .nils := by
  refine pure_of (P := fun _ => Tryz.prog) tabOk Tryz.func32 rfl rfl ?_
  cbv; exact .fn
set_option maxRecDepth 100000 in
theorem copied_sc (s : Sc) : Pure Tryz.prog 19 [s.sv] s.sv := by
  have hc := clone_nil; refine pure_of (P := fun _ => Tryz.prog) tabOk Tryz.func19 rfl rfl ?_
  cbv; refine .call hc ?_ rfl rfl ?_
  . (cbv; refine .mk ?_; repeat' (first | exact AllP.nil | refine AllP.cons ?_ ?_))
  cbv; refine .loop Unit (fun _ => True) (fun _ => [(10, .nils), (11, .int .i64 fun _ => 0), (12, .int .i64 fun _ => 0)]) (fun _ => [(0, .cells 27 [.int .i64 fun _ => s.k, .str fun _ => ⟨#[]⟩, .int .i64 fun _ => s.n, .nils]), (1, .cells 27 [.int .i64 fun _ => 0, .str fun _ => ⟨#[]⟩, .int .i64 fun _ => 0, .nils])]) 2 (fun _ => 0) () trivial ?_ ?_
  . (refine le_of ?_; cbv; refine .mk ?_; repeat' (first | exact AllP.nil | refine AllP.cons ?_ ?_))
    all_goals rfl
  rintro _ _; cbv; refine .split (fun h => ?_) (fun _ => ?_)
  . exact absurd h (by decide)
  exact .fn
set_option maxRecDepth 100000 in
theorem same_sc (s q : Sc) : Pure Tryz.prog 9 [s.sv, q.sv] (.bs fun _ => s.k == q.k && s.n == q.n) := by
  have he : (s.k != q.k || (!decide ((⟨#[]⟩ : ByteArray) = ⟨#[]⟩) || (s.n != q.n || (0 : Int) != 0))) = !(s.k == q.k && s.n == q.n) := by
    rw [decide_eq_true rfl]; cases h1 : s.k == q.k <;> cases h2 : s.n == q.n <;> simp [bne, h1, h2]
  generalize (s.k == q.k && s.n == q.n) = r at *; refine pure_of (P := fun _ => Tryz.prog) tabOk Tryz.func9 rfl rfl ?_
  cbv; refine .split (fun h => ?_) (fun h => ?_)
  . have h : (s.k != q.k || (!decide ((⟨#[]⟩ : ByteArray) = ⟨#[]⟩) || (s.n != q.n || (0 : Int) != 0))) = true := h
    rw [he] at h; have h : r = false := by simpa using h
    subst h; exact .fn
  . have h : (s.k != q.k || (!decide ((⟨#[]⟩ : ByteArray) = ⟨#[]⟩) || (s.n != q.n || (0 : Int) != 0))) = false := h
    rw [he] at h; have h : r = true := by simpa using h
    subst h; refine .loop Unit (fun _ => True) (fun _ => [(35, .nils), (36, .int .i64 fun _ => 0), (37, .int .i64 fun _ => 0)]) (fun _ => [(0, .cells 27 [.int .i64 fun _ => s.k, .str fun _ => ⟨#[]⟩, .int .i64 fun _ => s.n, .nils]), (1, .cells 27 [.int .i64 fun _ => q.k, .str fun _ => ⟨#[]⟩, .int .i64 fun _ => q.n, .nils])]) 2 (fun _ => 0) () trivial ?_ ?_
    . (refine le_of ?_; cbv; refine .mk ?_; repeat' (first | exact AllP.nil | refine AllP.cons ?_ ?_))
      all_goals rfl
    rintro _ _; cbv; refine .split (fun h => ?_) (fun _ => ?_)
    . exact absurd h (by decide)
    exact .fn
end Go.Qu
