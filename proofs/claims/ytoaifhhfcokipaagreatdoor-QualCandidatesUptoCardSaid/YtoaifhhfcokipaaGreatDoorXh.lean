/- What a node holds by itself; the sorts of kids. -/
import Derived.Test.YtoaifhhfcokipaaGreatDoorXg
namespace Go.Qu
open Go.Eng Go.Proofs
def numB (op num : Int) : Bool :=
  if op == 2 || op == 7 then decide (-1000000000000 ≤ num) && decide (num ≤ 1000000000000)
  else if op == 42 then decide (0 ≤ num) && decide (num < 200) else num == 0
def namedB (x : Node) : Bool := x.op == 1 || x.op == 3
def labB (x : Node) : Bool := if namedB x then nameB x.name && (decide (1 ≤ x.sort) && decide (x.sort ≤ 5)) else decide (x.name = ⟨#[]⟩) && x.sort == 0
def ownB (x : Node) : Bool := labB x && numB x.op x.num
theorem nameB_nil : nameB ⟨#[]⟩ = false := nameB_short rfl
set_option maxRecDepth 100000 in
theorem own_ok (x : Node) : Pure Tryz.prog 94 [.agg x.svs] (.bs fun _ => ownB x) := by
  refine pure_of (P := fun _ => Tryz.prog) tabOk Tryz.func94 rfl rfl ?_
  cbv
  repeat' (refine HU.split (fun _ => ?_) (fun _ => ?_))
  all_goals try
    (refine HU.call (name1_ok x.name) ?_ rfl rfl ?_
     · (cbv; refine .mk ?_; repeat' (first | exact AllP.nil | refine AllP.cons (by with_reducible rfl) ?_ | refine AllP.cons ?_ ?_))
       all_goals rfl
     cbv)
  all_goals repeat' (refine HU.split (fun _ => ?_) (fun _ => ?_))
  all_goals
    (refine .fin () 99 trivial (le_of ?_); cbv; refine .mk ?_; repeat' (first | exact AllP.nil | refine AllP.cons (by with_reducible rfl) ?_ | refine AllP.cons ?_ ?_))
    all_goals try rfl
    show ownB x = _
    try simp only [boolOf] at *
    grind [ownB, labB, namedB, numB]
set_option maxRecDepth 100000 in
theorem fields_ok (x : Node) : Pure Tryz.prog 87 [.agg x.svs] (.bs fun _ => ownB x) := by
  have hnil := nameB_nil
  refine pure_of (P := fun _ => Tryz.prog) tabOk Tryz.func87 rfl rfl ?_
  cbv
  repeat' (refine HU.split (fun _ => ?_) (fun _ => ?_))
  all_goals
    (refine HU.call (name2_ok x.name) ?_ rfl rfl ?_
     · (cbv; refine .mk ?_; repeat' (first | exact AllP.nil | refine AllP.cons (by with_reducible rfl) ?_ | refine AllP.cons ?_ ?_))
       all_goals rfl
     cbv)
  all_goals repeat' (refine HU.split (fun _ => ?_) (fun _ => ?_))
  all_goals
    (refine .fin () 99 trivial (le_of ?_); cbv; refine .mk ?_; repeat' (first | exact AllP.nil | refine AllP.cons (by with_reducible rfl) ?_ | refine AllP.cons ?_ ?_))
    all_goals try rfl
    show ownB x = _
    try simp only [boolOf] at *
    grind [ownB, labB, namedB, numB]
/-- the sorts of the kids of an operator -/
def wants (op : Int) : Option (List Int) :=
  if op == 1 || op == 2 || op == 9 || op == 30 || op == 31 then some []
  else if op == 6 || op == 7 || op == 10 then some [1]
  else if op == 4 || op == 5 || op == 38 || op == 39 then some [1, 1]
  else if op == 11 || op == 12 || op == 13 || op == 41 then some [4, 4]
  else if op == 40 then some [1, 4]
  else if op == 14 then some [5, 1]
  else if op == 15 then some [5, 1, 1]
  else if op == 16 then some [5]
  else if op == 32 then some [2]
  else if op == 33 || op == 34 || op == 35 || op == 36 then some [2, 2]
  else none
def ints (l : List Int) : List (List DV) := l.map fun n => [.int .i64 n]
def wantsSV (op : Int) : SV := .tup [.ds 1 fun _ => ints ((wants op).getD []), .bs fun _ => (wants op).isSome]
set_option maxRecDepth 100000 in
theorem wants_ok (o : Int) : Pure Tryz.prog 96 [.int .i64 fun _ => o] (wantsSV o) := by
  refine pure_of (P := fun _ => Tryz.prog) tabOk Tryz.func96 rfl rfl ?_
  cbv
  repeat' (refine HU.split (fun _ => ?_) (fun _ => ?_))
  all_goals
    refine .fin () 99 trivial (le_of ?_)
    cbv
    refine .mk ?_
    repeat' (first | exact AllP.nil | refine AllP.cons ?_ ?_)
  all_goals try rfl
  all_goals
    simp only [Bool.or_eq_true, beq_iff_eq, Bool.or_eq_false_iff, beq_eq_false_iff_ne, ne_eq] at *
    first
      | (show ints ((wants o).getD []) = _; grind [wants, ints])
      | (show (wants o).isSome = _; grind [wants])
      | (rw [show wants o = some [5, 1, 1] by grind [wants]]; rfl)
set_option maxRecDepth 100000 in
theorem takes_ok (o : Int) : Pure Tryz.prog 113 [.int .i64 fun _ => o] (wantsSV o) := by
  refine pure_of (P := fun _ => Tryz.prog) tabOk Tryz.func113 rfl rfl ?_
  cbv
  repeat' (refine HU.split (fun _ => ?_) (fun _ => ?_))
  all_goals
    refine .fin () 99 trivial (le_of ?_)
    cbv
    refine .mk ?_
    repeat' (first | exact AllP.nil | refine AllP.cons ?_ ?_)
  all_goals try rfl
  all_goals
    simp only [Bool.or_eq_true, beq_iff_eq, Bool.or_eq_false_iff, beq_eq_false_iff_ne, ne_eq] at *
    first
      | (show ints ((wants o).getD []) = _; grind [wants, ints])
      | (show (wants o).isSome = _; grind [wants])
      | (rw [show wants o = some [5, 1, 1] by grind [wants]]; rfl)
theorem ints_length (l : List Int) : (ints l).length = l.length := by simp [ints]
theorem ints_get {l : List Int} {k : Nat} {x : Int} (h : l[k]? = some x) : (ints l)[k]? = some [.int .i64 x] := by simp [ints, h]
theorem neq_take {l m : List Int} {k : Nat} (h : l.take k = m.take k) (hl : l.length = m.length) (hk : k = l.length) : l = m := by
  rw [List.take_of_length_le (by omega), List.take_of_length_le (by omega)] at h
  exact h
set_option maxRecDepth 100000 in
theorem eqInts_ok (l m : List Int) (hl : l.length < 1152921504606846976) : Pure Tryz.prog 114 [.ds 1 fun _ => ints l, .ds 1 fun _ => ints m] (.bs fun _ => decide (l = m)) := by
  refine pure_of (P := fun _ => Tryz.prog) tabOk Tryz.func114 rfl rfl ?_
  cbv
  refine .split (fun h0 => ?_) (fun h0 => ?_)
  · have h0 : ¬ l.length = m.length := fun h => by simp [lenL, ints_length, h] at h0
    (refine .fin () 99 trivial (le_of ?_); cbv; refine .mk ?_; repeat' (first | exact AllP.nil | refine AllP.cons (by with_reducible rfl) ?_ | refine AllP.cons ?_ ?_))
    all_goals try rfl
    show decide (l = m) = false
    exact decide_eq_false fun h => h0 (by rw [h])
  have h0 : l.length = m.length := by simp [lenL, ints_length, natCast_eq] at h0; omega
  refine .loop Nat (fun k => k ≤ l.length ∧ l.take k = m.take k) (fun k => [(12, .int .i64 fun _ => (l.length : Int)), (13, .int .i64 fun _ => (k : Int))]) (fun _ => []) 0 (fun k => l.length - k) 0 ⟨by omega, by simp⟩ ?_ ?_
  · (refine le_of ?_; cbv; refine .mk ?_; repeat' (first | exact AllP.nil | refine AllP.cons (by with_reducible rfl) ?_ | refine AllP.cons ?_ ?_))
    all_goals first | rfl | (simp [lenL, ints_length]; done)
  rintro k ⟨hk, hn⟩
  cbv
  refine .split (fun h1 => ?_) (fun h1 => ?_)
  · have hkl : k < l.length := ltT h1
    obtain ⟨y, hy⟩ := getI hkl
    obtain ⟨z, hz⟩ := getI (show k < m.length by omega)
    refine .need ⟨by simp, by simpa [ints_length] using hkl⟩ ?_
    refine .row _ _ (ints_get hy) rfl ?_
    cbv
    refine .need ⟨by simp, by rw [ints_length]; simp only [natCast_eq]; omega⟩ ?_
    refine .row _ _ (ints_get hz) rfl ?_
    cbv
    refine .need rfl ?_
    refine .split (fun h2 => ?_) (fun h2 => ?_)
    · have h2 : ¬ y = z := of_bne h2
      (refine .fin () 99 trivial (le_of ?_); cbv; refine .mk ?_; repeat' (first | exact AllP.nil | refine AllP.cons (by with_reducible rfl) ?_ | refine AllP.cons ?_ ?_))
      all_goals try rfl
      show decide (l = m) = false
      refine decide_eq_false fun h => h2 ?_
      rw [h] at hy
      rw [hy] at hz
      cases hz
      rfl
    · have h2 : y = z := of_nbne h2
      refine .prop ⟨k + 1, ⟨hkl, ?_⟩, by omega, ?_⟩
      · rw [List.take_add_one, List.take_add_one, hn, hy, hz, h2]
      · (refine le_of ?_; cbv; refine .mk ?_; repeat' (first | exact AllP.nil | refine AllP.cons (by with_reducible rfl) ?_ | refine AllP.cons ?_ ?_))
        all_goals (first | rfl | exact ⟨rfl, rfl⟩ | (refine wrap64_of ?_ ?_ ?_ <;> simp only [natCast_eq] <;> omega))
  · have hkl : k = l.length := Nat.le_antisymm hk (geF h1)
    (refine .fin () 99 trivial (le_of ?_); cbv; refine .mk ?_; repeat' (first | exact AllP.nil | refine AllP.cons (by with_reducible rfl) ?_ | refine AllP.cons ?_ ?_))
    all_goals try rfl
    exact decide_eq_true (neq_take hn h0 hkl)
end Go.Qu
