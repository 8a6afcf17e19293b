/-  -/
import Derived.Test.YtoaifhhfcokipaaGreatDoorXd
namespace Go.Qu
open Go.Eng Go.Proofs
theorem natCast_eq (n : Nat) : @NatCast.natCast Int instNatCastInt n = (n : Int) := rfl
theorem wrap64_of {a b : Int} (e : b = a) (h : -9223372036854775808 ≤ a) (k : a < 9223372036854775808) : b = IntKind.i64.wrap a := by rw [IntKind.wrap_i64, e]; omega
set_option maxRecDepth 100000 in
theorem size_ok (x : Node) : x.size < 1152921504606846976 → Pure Tryz.prog 15 [.agg x.svs] (.int .i64 fun _ => (x.size : Int)) := by
  induction x using Node.ind with
  | h o s n m ks ih =>
    intro hlt
    refine pure_of (P := fun _ => Tryz.prog) tabOk Tryz.func15 rfl rfl ?_
    cbv
    refine .loop Nat (fun k => k ≤ ks.length) (fun k => [(3, .int .i64 fun _ => ((1 + Node.sizes (ks.take k) : Nat) : Int)), (9, .int .i64 fun _ => (k : Int))]) (fun k => [(0, .cells 31 (Node.svs (.mk o s n m ks)))]) 1 (fun k => ks.length - k) 0 (Nat.zero_le _) ?_ ?_
    · apply le_of
      cbv
      refine .mk ?_
      repeat' (first | exact AllP.nil | refine AllP.cons ?_ ?_)
      all_goals first | rfl | simp [Node.sizes]
    · intro k hk
      have hs := Node.sizes_take_le ks k
      have hl := Node.length_le_sizes ks
      simp only [Node.size] at hlt
      cbv
      refine .split (fun h => ?_) (fun h => ?_)
      · have hkl : k < ks.length := by simpa [lenL, Node.kids, Node.rows_length] using h
        refine .need ⟨by simp, by simpa [Node.kids, Node.rows_length] using hkl⟩ ?_
        obtain ⟨x, hx⟩ : ∃ x, ks[k]? = some x := ⟨_, List.getElem?_eq_getElem hkl⟩
        refine .row _ _ (Node.rows_get hx) (Node.row_toSV _) ?_
        cbv
        have hsz := Node.sizes_take_succ ks k hkl
        have hs2 := Node.sizes_take_le ks (k + 1)
        have hxe : ks[k] = x := by simpa [hkl] using hx
        rw [hxe] at hsz
        refine .call (ih x (List.mem_of_getElem? hx) (by omega)) ?_ rfl rfl ?_
        · cbv
          refine .mk ?_
          repeat' (first | exact AllP.nil | refine AllP.cons ?_ ?_)
          all_goals rfl
        cbv
        refine .prop ⟨k + 1, hkl, by omega, le_of ?_⟩
        cbv
        refine .mk ?_
        repeat' (first | exact AllP.nil | refine AllP.cons ?_ ?_)
        all_goals try rfl
        all_goals refine wrap64_of ?_ ?_ ?_ <;> simp only [natCast_eq] <;> omega
      · have hkl : k = ks.length := by simp [lenL, Node.kids, Node.rows_length] at h; omega
        refine .fin () 1 trivial (le_of ?_)
        cbv
        refine .mk ?_
        repeat' (first | exact AllP.nil | refine AllP.cons ?_ ?_)
        all_goals try rfl
        simp [hkl, Node.size]
end Go.Qu
