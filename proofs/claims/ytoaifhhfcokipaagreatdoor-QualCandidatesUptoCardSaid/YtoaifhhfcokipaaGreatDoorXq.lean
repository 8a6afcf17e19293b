/- The reference's Uniform; both Checks. -/
import Derived.Test.YtoaifhhfcokipaaGreatDoorXp
import Derived.Test.YtoaifhhfcokipaaGreatDoorXj
import Derived.Test.YtoaifhhfcokipaaGreatDoorXe0
namespace Go.Qu
open Go.Eng Go.Proofs
def adjB (l : List Decl) (i : Nat) : Bool := !decide ((l[i]?).map Decl.name = (l[i + 1]?).map Decl.name)
def uni1B (x : Node) : Bool := (List.range ((gatherN [] x).length - 1)).all (adjB (gatherN [] x)) && (gatherN [] x).all fun d => !constB d.name x
set_option maxRecDepth 100000 in
theorem uniform1_ok (x : Node) (hsz : Sm x) : Pure Tryz.prog 61 [.agg x.svs] (.bs fun _ => uni1B x) := by
  have hvl := gatherN_len x []
  have hres : uni1B x = ((List.range ((gatherN [] x).length - 1)).all (adjB (gatherN [] x)) && (gatherN [] x).all fun d => !constB d.name x) := rfl
  have hx2 : x.size < 1073741824 := hsz
  refine pure_of (P := fun _ => Tryz.prog) tabOk Tryz.func61 rfl rfl ?_
  cbv
  refine .call (vars1_ok x hsz) ?_ rfl rfl ?_
  · (cbv; refine .mk ?_; repeat' (first | exact AllP.nil | refine AllP.cons (by with_reducible rfl) ?_ | refine AllP.cons ?_ ?_))
    all_goals rfl
  cbv
  generalize gatherN [] x = v at *
  rw [List.length_nil] at hvl
  refine .loop Nat (fun k => 1 ≤ k ∧ k - 1 ≤ v.length - 1 ∧ (List.range (k - 1)).all (adjB v) = true) (fun k => [(3, .ds 2 fun _ => Decl.rows v), (4, .int .i64 fun _ => (k : Int))]) (fun _ => [(0, .cells 31 x.svs)]) 1 (fun k => v.length + 1 - k) 1 ⟨Nat.le_refl _, Nat.zero_le _, rfl⟩ ?_ ?_
  · (refine le_of ?_; cbv; refine .mk ?_; repeat' (first | exact AllP.nil | refine AllP.cons (by with_reducible rfl) ?_ | refine AllP.cons ?_ ?_))
    all_goals rfl
  rintro k ⟨hk1, hk2, hk3⟩
  cbv
  refine .split (fun h1 => ?_) (fun h1 => ?_)
  · have hkl : k < v.length := by simpa [lenL, Decl.rows_length] using h1
    have ek : IntKind.i64.wrap ((k : Int) - 1) = ((k - 1 : Nat) : Int) := by rw [IntKind.wrap_i64]; omega
    obtain ⟨a, ha⟩ := getI (show k - 1 < v.length by omega)
    obtain ⟨b, hb⟩ := getI hkl
    refine .need ⟨by rw [ek]; exact Int.natCast_nonneg _, by rw [ek, Decl.rows_length]; exact Int.ofNat_lt.2 (by omega)⟩ ?_
    refine .row _ _ (by rw [ek, Int.toNat_natCast]; exact Decl.rows_get ha) (Decl.dvs_toSV _) ?_
    cbv
    refine .need ⟨by simp, by simpa [Decl.rows_length] using hkl⟩ ?_
    refine .row _ _ (Decl.rows_get hb) (Decl.dvs_toSV _) ?_
    cbv
    have hA : adjB v (k - 1) = !decide (a.name = b.name) := by
      unfold adjB
      rw [ha, show k - 1 + 1 = k by omega, hb]
      simp
    refine .need rfl ?_
    refine .split (fun h2 => ?_) (fun h2 => ?_)
    · have h2 : decide (a.name = b.name) = true := h2
      (refine .fin () 99 trivial (le_of ?_); cbv; refine .mk ?_; repeat' (first | exact AllP.nil | refine AllP.cons (by with_reducible rfl) ?_ | refine AllP.cons ?_ ?_))
      all_goals try rfl
      show uni1B x = false
      rw [hres, Bool.and_eq_false_iff]
      refine .inl (List.all_eq_false.2 ⟨k - 1, List.mem_range.2 (by omega), ?_⟩)
      rw [hA, h2]
      decide
    · have h2 : decide (a.name = b.name) = false := h2
      refine .prop ⟨k + 1, ⟨by omega, by omega, ?_⟩, by omega, ?_⟩
      · rw [show k + 1 - 1 = (k - 1) + 1 by omega, List.range_succ, List.all_append, hk3]
        simp [hA, h2]
      · (refine le_of ?_; cbv; refine .mk ?_; repeat' (first | exact AllP.nil | refine AllP.cons (by with_reducible rfl) ?_ | refine AllP.cons ?_ ?_))
        all_goals (first | rfl | exact ⟨rfl, rfl⟩ | (refine wrap64_of ?_ ?_ ?_ <;> simp only [natCast_eq] <;> omega))
  · have hkl : ¬ k < v.length := by simpa [lenL, Decl.rows_length] using h1
    have hke : k - 1 = v.length - 1 := by omega
    rw [hke] at hk3
    rw [hk3, Bool.true_and] at hres
    refine .loop Nat (fun k => k ≤ v.length ∧ (v.take k).all (fun d => !constB d.name x) = true) (fun k => [(27, .ds 2 fun _ => Decl.rows v), (28, .int .i64 fun _ => (v.length : Int)), (29, .int .i64 fun _ => (k : Int))]) (fun _ => [(0, .cells 31 x.svs)]) 1 (fun k => v.length - k) 0 ⟨Nat.zero_le _, rfl⟩ ?_ ?_
    · (refine le_of ?_; cbv; refine .mk ?_; repeat' (first | exact AllP.nil | refine AllP.cons (by with_reducible rfl) ?_ | refine AllP.cons ?_ ?_))
      all_goals first | rfl | (simp [lenL, Decl.rows_length]; done)
    clear hk1 hk2 hk3 h1 hkl hke
    rintro k ⟨hk1, hk2⟩
    cbv
    refine .split (fun h1 => ?_) (fun h1 => ?_)
    · have hkl : k < v.length := by simpa [lenL, Decl.rows_length] using h1
      obtain ⟨d, hd⟩ := getI hkl
      refine .need ⟨by simp, by simpa [Decl.rows_length] using hkl⟩ ?_
      refine .row _ _ (Decl.rows_get hd) (Decl.dvs_toSV _) ?_
      cbv
      refine .call (const_ok d.name x hsz) ?_ rfl rfl ?_
      · (cbv; refine .mk ?_; repeat' (first | exact AllP.nil | refine AllP.cons (by with_reducible rfl) ?_ | refine AllP.cons ?_ ?_))
        all_goals rfl
      cbv
      refine .split (fun h2 => ?_) (fun h2 => ?_)
      · (refine .fin () 99 trivial (le_of ?_); cbv; refine .mk ?_; repeat' (first | exact AllP.nil | refine AllP.cons (by with_reducible rfl) ?_ | refine AllP.cons ?_ ?_))
        all_goals try rfl
        show uni1B x = false
        rw [hres, List.all_eq_false]
        exact ⟨d, List.mem_of_getElem? hd, by simp [show constB d.name x = true from h2]⟩
      · refine .prop ⟨k + 1, ⟨hkl, all_take_succ hd hk2 (by simp [show constB d.name x = false from h2])⟩, by omega, ?_⟩
        (refine le_of ?_; cbv; refine .mk ?_; repeat' (first | exact AllP.nil | refine AllP.cons (by with_reducible rfl) ?_ | refine AllP.cons ?_ ?_))
        all_goals (first | rfl | exact ⟨rfl, rfl⟩ | (refine wrap64_of ?_ ?_ ?_ <;> simp only [natCast_eq] <;> omega))
    · have hkl : k = v.length := by simp [lenL, Decl.rows_length] at h1; omega
      (refine .fin () 99 trivial (le_of ?_); cbv; refine .mk ?_; repeat' (first | exact AllP.nil | refine AllP.cons (by with_reducible rfl) ?_ | refine AllP.cons ?_ ?_))
      all_goals try rfl
      show uni1B x = true
      rw [hkl, List.take_length] at hk2
      rw [hres, hk2]
def checkV (u : Node → Bool) (x : Node) (s : Int) : Int :=
  if s < 0 ∨ 5 < s then 1 else if 4000 < x.size ∨ 100 < x.levels then 2 else if !(sortedB x) || !(u x) then 3 else if s ≠ 0 ∧ x.sortOf ≠ s then 10 else 0
set_option maxRecDepth 100000 in
theorem check2T_ok (x : Node) (s : Int) (hsz : Sm x) : Pure Tryz.prog 26 [.agg x.svs, .int .i64 fun _ => s] (.int .i64 fun _ => checkV uniB x s) := by
  refine pure_of (P := fun _ => Tryz.prog) tabOk Tryz.func26 rfl rfl ?_
  cbv
  refine .split (fun h1 => ?_) (fun h1 => ?_)
  · have h1 : (decide (s < 0) || decide (5 < s)) = true := h1
    (refine .fin () 99 trivial (le_of ?_); cbv; refine .mk ?_; repeat' (first | exact AllP.nil | refine AllP.cons (by with_reducible rfl) ?_ | refine AllP.cons ?_ ?_))
    all_goals try rfl
    show checkV uniB x s = _
    unfold checkV
    rw [if_pos (by simpa using h1)]
  have h1 : (decide (s < 0) || decide (5 < s)) = false := h1
  have h1 : ¬ (s < 0 ∨ 5 < s) := by simpa using h1
  refine .call (within_ok x hsz) ?_ rfl rfl ?_
  · (cbv; refine .mk ?_; repeat' (first | exact AllP.nil | refine AllP.cons (by with_reducible rfl) ?_ | refine AllP.cons ?_ ?_))
    all_goals rfl
  cbv
  refine .split (fun h2 => ?_) (fun h2 => ?_)
  · have h2 : (!(decide (x.size ≤ 4000) && decide (x.levels ≤ 100))) = true := h2
    (refine .fin () 99 trivial (le_of ?_); cbv; refine .mk ?_; repeat' (first | exact AllP.nil | refine AllP.cons (by with_reducible rfl) ?_ | refine AllP.cons ?_ ?_))
    all_goals try rfl
    show checkV uniB x s = _
    unfold checkV
    rw [if_neg h1, if_pos (by simp at h2; omega)]
  have h2 : (!(decide (x.size ≤ 4000) && decide (x.levels ≤ 100))) = false := h2
  have h2 : ¬ (4000 < x.size ∨ 100 < x.levels) := by simp at h2; omega
  refine .call (sorted2_ok x hsz) ?_ rfl rfl ?_
  · (cbv; refine .mk ?_; repeat' (first | exact AllP.nil | refine AllP.cons (by with_reducible rfl) ?_ | refine AllP.cons ?_ ?_))
    all_goals rfl
  cbv
  refine .split (fun h3 => ?_) (fun h3 => ?_)
  · have h3 : (!sortedB x) = true := h3
    (refine .fin () 99 trivial (le_of ?_); cbv; refine .mk ?_; repeat' (first | exact AllP.nil | refine AllP.cons (by with_reducible rfl) ?_ | refine AllP.cons ?_ ?_))
    all_goals try rfl
    show checkV uniB x s = _
    unfold checkV
    rw [if_neg h1, if_neg h2, h3]
    rfl
  · have h3 : (!sortedB x) = false := h3
    refine .call (uniform2_ok x hsz) ?_ rfl rfl ?_
    · (cbv; refine .mk ?_; repeat' (first | exact AllP.nil | refine AllP.cons (by with_reducible rfl) ?_ | refine AllP.cons ?_ ?_))
      all_goals rfl
    cbv
    refine .split (fun h4 => ?_) (fun h4 => ?_)
    · have h4 : (!uniB x) = true := h4
      (refine .fin () 99 trivial (le_of ?_); cbv; refine .mk ?_; repeat' (first | exact AllP.nil | refine AllP.cons (by with_reducible rfl) ?_ | refine AllP.cons ?_ ?_))
      all_goals try rfl
      show checkV uniB x s = _
      unfold checkV
      rw [if_neg h1, if_neg h2, h3, h4]
      rfl
    · have h4 : (!uniB x) = false := h4
      refine .split (fun h5 => ?_) (fun h5 => ?_)
      · have h5 : (s != 0) = true := h5
        refine .call (sort_ok x) ?_ rfl rfl ?_
        · (cbv; refine .mk ?_; repeat' (first | exact AllP.nil | refine AllP.cons (by with_reducible rfl) ?_ | refine AllP.cons ?_ ?_))
          all_goals rfl
        cbv
        refine .split (fun h6 => ?_) (fun h6 => ?_)
        · have h6 : (x.sortOf != s) = true := h6
          (refine .fin () 99 trivial (le_of ?_); cbv; refine .mk ?_; repeat' (first | exact AllP.nil | refine AllP.cons (by with_reducible rfl) ?_ | refine AllP.cons ?_ ?_))
          all_goals try rfl
          show checkV uniB x s = _
          unfold checkV
          rw [if_neg h1, if_neg h2, h3, h4, if_neg (by decide), if_pos ⟨by simpa using h5, by simpa using h6⟩]
        · have h6 : (x.sortOf != s) = false := h6
          (refine .fin () 99 trivial (le_of ?_); cbv; refine .mk ?_; repeat' (first | exact AllP.nil | refine AllP.cons (by with_reducible rfl) ?_ | refine AllP.cons ?_ ?_))
          all_goals try rfl
          show checkV uniB x s = _
          unfold checkV
          rw [if_neg h1, if_neg h2, h3, h4, if_neg (by decide), if_neg (by simp at h6; simp [h6])]
      · have h5 : (s != 0) = false := h5
        (refine .fin () 99 trivial (le_of ?_); cbv; refine .mk ?_; repeat' (first | exact AllP.nil | refine AllP.cons (by with_reducible rfl) ?_ | refine AllP.cons ?_ ?_))
        all_goals try rfl
        show checkV uniB x s = _
        unfold checkV
        rw [if_neg h1, if_neg h2, h3, h4, if_neg (by decide), if_neg (by simp at h5; simp [h5])]
set_option maxRecDepth 100000 in
theorem check1T_ok (x : Node) (s : Int) (hsz : Sm x) : Pure Tryz.prog 30 [.agg x.svs, .int .i64 fun _ => s] (.int .i64 fun _ => checkV uni1B x s) := by
  refine pure_of (P := fun _ => Tryz.prog) tabOk Tryz.func30 rfl rfl ?_
  cbv
  refine .split (fun h1 => ?_) (fun h1 => ?_)
  · have h1 : (decide (s < 0) || decide (5 < s)) = true := h1
    (refine .fin () 99 trivial (le_of ?_); cbv; refine .mk ?_; repeat' (first | exact AllP.nil | refine AllP.cons (by with_reducible rfl) ?_ | refine AllP.cons ?_ ?_))
    all_goals try rfl
    show checkV uni1B x s = _
    unfold checkV
    rw [if_pos (by simpa using h1)]
  have h1 : (decide (s < 0) || decide (5 < s)) = false := h1
  have h1 : ¬ (s < 0 ∨ 5 < s) := by simpa using h1
  refine .call (size_ok x (Sm.big hsz)) ?_ rfl rfl ?_
  · (cbv; refine .mk ?_; repeat' (first | exact AllP.nil | refine AllP.cons (by with_reducible rfl) ?_ | refine AllP.cons ?_ ?_))
    all_goals rfl
  cbv
  refine .split (fun h2 => ?_) (fun h2 => ?_)
  · have h2 : decide (4000 < (x.size : Int)) = true := h2
    have h2 : 4000 < x.size := Int.ofNat_lt.1 (of_decide_eq_true h2)
    (refine .fin () 99 trivial (le_of ?_); cbv; refine .mk ?_; repeat' (first | exact AllP.nil | refine AllP.cons (by with_reducible rfl) ?_ | refine AllP.cons ?_ ?_))
    all_goals try rfl
    show checkV uni1B x s = _
    unfold checkV
    rw [if_neg h1, if_pos (by omega)]
  have h2 : decide (4000 < (x.size : Int)) = false := h2
  have h2 : ¬ 4000 < x.size := fun h => of_decide_eq_false h2 (Int.ofNat_lt.2 h)
  refine .call (levels1_ok x hsz) ?_ rfl rfl ?_
  · (cbv; refine .mk ?_; repeat' (first | exact AllP.nil | refine AllP.cons (by with_reducible rfl) ?_ | refine AllP.cons ?_ ?_))
    all_goals rfl
  cbv
  refine .split (fun h3 => ?_) (fun h3 => ?_)
  · have h3 : decide (100 < (x.levels : Int)) = true := h3
    have h3 : 100 < x.levels := Int.ofNat_lt.1 (of_decide_eq_true h3)
    (refine .fin () 99 trivial (le_of ?_); cbv; refine .mk ?_; repeat' (first | exact AllP.nil | refine AllP.cons (by with_reducible rfl) ?_ | refine AllP.cons ?_ ?_))
    all_goals try rfl
    show checkV uni1B x s = _
    unfold checkV
    rw [if_neg h1, if_pos (by omega)]
  have h3 : decide (100 < (x.levels : Int)) = false := h3
  have h3 : ¬ 100 < x.levels := fun h => of_decide_eq_false h3 (Int.ofNat_lt.2 h)
  have h2 : ¬ (4000 < x.size ∨ 100 < x.levels) := by omega
  refine .call (sorted1_ok x hsz) ?_ rfl rfl ?_
  · (cbv; refine .mk ?_; repeat' (first | exact AllP.nil | refine AllP.cons (by with_reducible rfl) ?_ | refine AllP.cons ?_ ?_))
    all_goals rfl
  cbv
  refine .split (fun h3 => ?_) (fun h3 => ?_)
  · have h3 : (!sortedB x) = true := h3
    (refine .fin () 99 trivial (le_of ?_); cbv; refine .mk ?_; repeat' (first | exact AllP.nil | refine AllP.cons (by with_reducible rfl) ?_ | refine AllP.cons ?_ ?_))
    all_goals try rfl
    show checkV uni1B x s = _
    unfold checkV
    rw [if_neg h1, if_neg h2, h3]
    rfl
  · have h3 : (!sortedB x) = false := h3
    refine .call (uniform1_ok x hsz) ?_ rfl rfl ?_
    · (cbv; refine .mk ?_; repeat' (first | exact AllP.nil | refine AllP.cons (by with_reducible rfl) ?_ | refine AllP.cons ?_ ?_))
      all_goals rfl
    cbv
    refine .split (fun h4 => ?_) (fun h4 => ?_)
    · have h4 : (!uni1B x) = true := h4
      (refine .fin () 99 trivial (le_of ?_); cbv; refine .mk ?_; repeat' (first | exact AllP.nil | refine AllP.cons (by with_reducible rfl) ?_ | refine AllP.cons ?_ ?_))
      all_goals try rfl
      show checkV uni1B x s = _
      unfold checkV
      rw [if_neg h1, if_neg h2, h3, h4]
      rfl
    · have h4 : (!uni1B x) = false := h4
      refine .split (fun h5 => ?_) (fun h5 => ?_)
      · have h5 : (s != 0) = true := h5
        refine .call (sort1_ok x) ?_ rfl rfl ?_
        · (cbv; refine .mk ?_; repeat' (first | exact AllP.nil | refine AllP.cons (by with_reducible rfl) ?_ | refine AllP.cons ?_ ?_))
          all_goals rfl
        cbv
        refine .split (fun h6 => ?_) (fun h6 => ?_)
        · have h6 : (x.sortOf != s) = true := h6
          (refine .fin () 99 trivial (le_of ?_); cbv; refine .mk ?_; repeat' (first | exact AllP.nil | refine AllP.cons (by with_reducible rfl) ?_ | refine AllP.cons ?_ ?_))
          all_goals try rfl
          show checkV uni1B x s = _
          unfold checkV
          rw [if_neg h1, if_neg h2, h3, h4, if_neg (by decide), if_pos ⟨by simpa using h5, by simpa using h6⟩]
        · have h6 : (x.sortOf != s) = false := h6
          (refine .fin () 99 trivial (le_of ?_); cbv; refine .mk ?_; repeat' (first | exact AllP.nil | refine AllP.cons (by with_reducible rfl) ?_ | refine AllP.cons ?_ ?_))
          all_goals try rfl
          show checkV uni1B x s = _
          unfold checkV
          rw [if_neg h1, if_neg h2, h3, h4, if_neg (by decide), if_neg (by simp at h6; simp [h6])]
      · have h5 : (s != 0) = false := h5
        (refine .fin () 99 trivial (le_of ?_); cbv; refine .mk ?_; repeat' (first | exact AllP.nil | refine AllP.cons (by with_reducible rfl) ?_ | refine AllP.cons ?_ ?_))
        all_goals try rfl
        show checkV uni1B x s = _
        unfold checkV
        rw [if_neg h1, if_neg h2, h3, h4, if_neg (by decide), if_neg (by simp at h5; simp [h5])]
end Go.Qu
