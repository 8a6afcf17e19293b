/- Sort. Small functions of packages quantaleref01 and logic, further. -/
import Derived.Test.YtoaifhhfcokipaaGreatDoorXe
namespace Go.Qu
open Go.Eng Go.Proofs
/-- the sort by the operator alone -/
def opSort (op s : Int) : Int :=
  if op = 1 ∨ op = 3 then s
  else if op = 2 ∨ op = 4 ∨ op = 5 ∨ op = 6 ∨ op = 7 ∨ op = 14 ∨ op = 16 then 1
  else if op = 9 ∨ op = 10 ∨ op = 11 ∨ op = 12 ∨ op = 13 then 4
  else if op = 15 then 5
  else if 30 ≤ op ∧ op ≤ 42 then 2 else 0
namespace Node
def sortOf : Node → Int
  | .mk op s _ _ ks => match ks with
    | [] => if op = 8 then 0 else opSort op s
    | [_] => if op = 8 then 0 else opSort op s
    | _ :: y :: _ => if op = 8 then sortOf y else opSort op s
theorem sortOf_eq (x : Node) : x.sortOf = if x.op = 8 then (match x.kids[1]? with | some y => y.sortOf | none => 0) else opSort x.op x.sort := by
  cases x with
  | mk o s n m ks =>
    cases ks with
    | nil => simp [sortOf, op, sort, kids]
    | cons a ks => cases ks with
      | nil => simp [sortOf, op, sort, kids]
      | cons b ks => simp [sortOf, op, sort, kids]
end Node
theorem Node.sortOf_8 {x : Node} (h : x.op = 8) (hl : ¬ 1 < x.kids.length) : x.sortOf = 0 := by
  rw [Node.sortOf_eq, if_pos h, List.getElem?_eq_none (by omega)]
theorem Node.sortOf_8k {x y : Node} (h : x.op = 8) (hy : x.kids[1]? = some y) : x.sortOf = y.sortOf := by
  rw [Node.sortOf_eq, if_pos h, hy]
theorem Node.sortOf_n {x : Node} (h : ¬ x.op = 8) : x.sortOf = opSort x.op x.sort := by
  rw [Node.sortOf_eq, if_neg h]
set_option maxRecDepth 100000 in
theorem sort1_ok (x : Node) : Pure Tryz.prog 62 [.agg x.svs] (.int .i64 fun _ => x.sortOf) := by
  induction x using Node.ind with
  | h o s n m ks ih =>
  generalize hx : Node.mk o s n m ks = x
  have hks : x.kids = ks := by rw [← hx]; rfl
  refine pure_of (P := fun _ => Tryz.prog) tabOk Tryz.func62 rfl rfl ?_
  cbv
  repeat' (refine HU.split (fun _ => ?_) (fun _ => ?_))
  all_goals try
    ((refine .fin () 99 trivial (le_of ?_); cbv; refine .mk ?_; repeat' (first | exact AllP.nil | refine AllP.cons (by with_reducible rfl) ?_ | refine AllP.cons ?_ ?_))
     all_goals try rfl
     show x.sortOf = _
     simp only [Bool.or_eq_true, beq_iff_eq, Bool.or_eq_false_iff, beq_eq_false_iff_ne, ne_eq, Bool.and_eq_true, Bool.and_eq_false_imp, decide_eq_true_eq, decide_eq_false_iff_not] at *
     rw [Node.sortOf_n (by omega)]
     unfold opSort
     repeat' split
     all_goals omega)
  · rename_i h8 hl
    have hl : ¬ 1 < x.kids.length := by have := of_decide_eq_true hl; simp [lenL, Node.rows_length] at this; omega
    (refine .fin () 99 trivial (le_of ?_); cbv; refine .mk ?_; repeat' (first | exact AllP.nil | refine AllP.cons (by with_reducible rfl) ?_ | refine AllP.cons ?_ ?_))
    all_goals try rfl
    exact Node.sortOf_8 (by simpa using h8) hl
  · rename_i h8 hl
    have hl : 1 < x.kids.length := by have := of_decide_eq_false hl; simp [lenL, Node.rows_length] at this; omega
    refine .need ⟨by simp, by rw [Node.rows_length]; simp only [natCast_eq]; omega⟩ ?_
    obtain ⟨y, hy⟩ : ∃ y, x.kids[1]? = some y := ⟨_, List.getElem?_eq_getElem hl⟩
    refine .row _ _ (Node.rows_get hy) (Node.row_toSV _) ?_
    cbv
    refine .call (ih y (by rw [← hks]; exact List.mem_of_getElem? hy)) ?_ rfl rfl ?_
    · (cbv; refine .mk ?_; repeat' (first | exact AllP.nil | refine AllP.cons (by with_reducible rfl) ?_ | refine AllP.cons ?_ ?_))
    cbv
    (refine .fin () 99 trivial (le_of ?_); cbv; refine .mk ?_; repeat' (first | exact AllP.nil | refine AllP.cons (by with_reducible rfl) ?_ | refine AllP.cons ?_ ?_))
    all_goals try rfl
    exact Node.sortOf_8k (by simpa using h8) hy
set_option maxRecDepth 100000 in
theorem sort_ok (x : Node) : Pure Tryz.prog 52 [.agg x.svs] (.int .i64 fun _ => x.sortOf) := by
  refine pure_of (P := fun _ => Tryz.prog) tabOk Tryz.func52 rfl rfl ?_
  cbv
  refine .loop Node (fun y => y.sortOf = x.sortOf) (fun _ => []) (fun y => [(0, .cells 31 y.svs)]) 1 (fun y => y.size) x rfl ?_ ?_
  · (refine le_of ?_; cbv; refine .mk ?_; repeat' (first | exact AllP.nil | refine AllP.cons (by with_reducible rfl) ?_ | refine AllP.cons ?_ ?_))
    all_goals rfl
  · intro y hy0
    cbv
    repeat' (refine HU.split (fun _ => ?_) (fun _ => ?_))
    all_goals try
      ((refine .fin () 99 trivial (le_of ?_); cbv; refine .mk ?_; repeat' (first | exact AllP.nil | refine AllP.cons (by with_reducible rfl) ?_ | refine AllP.cons ?_ ?_))
       all_goals try rfl
       show x.sortOf = _
       rw [← hy0]
       simp only [Bool.or_eq_true, beq_iff_eq, Bool.or_eq_false_iff, beq_eq_false_iff_ne, ne_eq, Bool.and_eq_true, Bool.and_eq_false_imp, decide_eq_true_eq, decide_eq_false_iff_not] at *
       rw [Node.sortOf_n (by omega)]
       unfold opSort
       repeat' split
       all_goals omega)
    · rename_i h8 hl
      have hl : ¬ 1 < y.kids.length := by have := of_decide_eq_true hl; simp [lenL, Node.rows_length] at this; omega
      (refine .fin () 99 trivial (le_of ?_); cbv; refine .mk ?_; repeat' (first | exact AllP.nil | refine AllP.cons (by with_reducible rfl) ?_ | refine AllP.cons ?_ ?_))
      all_goals try rfl
      show x.sortOf = _
      rw [← hy0]
      exact Node.sortOf_8 (by simpa using h8) hl
    · rename_i h8 hl
      have hl : 1 < y.kids.length := by have := of_decide_eq_false hl; simp [lenL, Node.rows_length] at this; omega
      refine .need ⟨by simp, by rw [Node.rows_length]; simp only [natCast_eq]; omega⟩ ?_
      obtain ⟨z, hz⟩ : ∃ z, y.kids[1]? = some z := ⟨_, List.getElem?_eq_getElem hl⟩
      refine .row _ _ (Node.rows_get hz) (Node.row_toSV _) ?_
      cbv
      have hs := Node.size_kid hz
      refine .prop ⟨z, by rw [← hy0]; exact (Node.sortOf_8k (by simpa using h8) hz).symm, by omega, ?_⟩
      (refine le_of ?_; cbv; refine .mk ?_; repeat' (first | exact AllP.nil | refine AllP.cons (by with_reducible rfl) ?_ | refine AllP.cons ?_ ?_))
      all_goals rfl
end Go.Qu
namespace Go.Qu
open Go.Eng Go.Proofs
theorem Node.ind2 {P : Node → Prop} (h : ∀ x : Node, (∀ y ∈ x.kids, P y) → P x) (x : Node) : P x := by
  induction x using Node.ind with
  | h o s n m ks ih => exact h _ ih
theorem ltT {a b : Nat} (h : decide ((a : Int) < (b : Int)) = true) : a < b := by simpa using h
theorem geF {a b : Nat} (h : decide ((a : Int) < (b : Int)) = false) : b ≤ a := by simpa using h
abbrev Sm (x : Node) : Prop := x.size < 1073741824
theorem Node.size_mem {x y : Node} (h : y ∈ x.kids) : y.size < x.size := by
  obtain ⟨k, hk⟩ := List.getElem?_of_mem h
  have := Node.size_kid hk
  have : x.kids.length ≠ 0 := by
    intro e
    have := (List.getElem?_eq_some_iff.1 hk).1
    omega
  omega
theorem Sm.kid {x y : Node} (h : Sm x) (hy : y ∈ x.kids) : Sm y := by have := Node.size_mem hy; unfold Sm at *; omega
theorem Sm.big {x : Node} (h : Sm x) : x.size < 1152921504606846976 := by unfold Sm at h; omega
theorem Sm.len {x : Node} (h : Sm x) : x.kids.length < 1073741824 := by
  cases x with
  | mk o s n m ks => have := Node.length_le_sizes ks; simp only [Node.size, Sm] at h; show ks.length < _; omega
theorem getI {α : Type} {l : List α} {k : Nat} (h : k < l.length) : ∃ x, l[k]? = some x := ⟨_, List.getElem?_eq_getElem h⟩
theorem any_take_succ {α : Type} {l : List α} {k : Nat} {x : α} {p : α → Bool} (hx : l[k]? = some x) (h : (l.take k).any p = false) (hp : p x = false) : (l.take (k + 1)).any p = false := by
  rw [List.take_add_one, hx, List.any_append, h]
  simpa using hp
theorem any_hit {α : Type} {l : List α} {k : Nat} {x : α} {p : α → Bool} (hx : l[k]? = some x) (hp : p x = true) : l.any p = true :=
  List.any_eq_true.2 ⟨x, List.mem_of_getElem? hx, hp⟩
theorem all_take_succ {α : Type} {l : List α} {k : Nat} {x : α} {p : α → Bool} (hx : l[k]? = some x) (h : (l.take k).all p = true) (hp : p x = true) : (l.take (k + 1)).all p = true := by
  rw [List.take_add_one, hx, List.all_append, h]
  simpa using hp
theorem all_hit {α : Type} {l : List α} {k : Nat} {x : α} {p : α → Bool} (hx : l[k]? = some x) (hp : p x = false) : l.all p = false := by
  rw [Bool.eq_false_iff]
  intro h
  have := List.all_eq_true.1 h x (List.mem_of_getElem? hx)
  rw [hp] at this
  cases this
theorem pres_any (p : Node → Bool) : ∀ l, (Node.pres l).any p = l.any fun y => y.pre.any p
  | [] => rfl
  | x :: l => by rw [Node.pres, List.any_append, pres_any p l, List.any_cons]
theorem pre_any (p : Node → Bool) (x : Node) : x.pre.any p = (p x || x.kids.any fun y => y.pre.any p) := by
  rw [Node.pre_eq, List.any_cons, pres_any]
def holesB (x : Node) : Bool := x.pre.any fun y => y.op == 42
theorem holesB_eq (x : Node) : holesB x = (x.op == 42 || x.kids.any holesB) := pre_any _ x
set_option maxRecDepth 100000 in
theorem two_ok (o : Int) (a b : Node) : Pure Tryz.prog 13 [.int .i64 fun _ => o, .agg a.svs, .agg b.svs] (.agg (Node.mk o 0 ⟨#[]⟩ 0 [a, b]).svs) := by
  refine pure_of (P := fun _ => Tryz.prog) tabOk Tryz.func13 rfl rfl ?_
  cbv
  (refine .fin () 99 trivial (le_of ?_); cbv; refine .mk ?_; repeat' (first | exact AllP.nil | refine AllP.cons (by with_reducible rfl) ?_ | refine AllP.cons ?_ ?_))
  all_goals try rfl
  simp [Node.rows, Node.row_dvs, Node.kids, Node.dvs]
set_option maxRecDepth 100000 in
theorem holes1_ok (x : Node) : Sm x → Pure Tryz.prog 31 [.agg x.svs] (.bs fun _ => holesB x) := by
  induction x using Node.ind2 with
  | h x ih =>
  intro hsz
  have hl := Sm.len hsz
  refine pure_of (P := fun _ => Tryz.prog) tabOk Tryz.func31 rfl rfl ?_
  cbv
  refine .split (fun h => ?_) (fun h => ?_)
  · (refine .fin () 99 trivial (le_of ?_); cbv; refine .mk ?_; repeat' (first | exact AllP.nil | refine AllP.cons (by with_reducible rfl) ?_ | refine AllP.cons ?_ ?_))
    all_goals try rfl
    show holesB x = true
    rw [holesB_eq, h]; rfl
  · have h0 : holesB x = x.kids.any holesB := by rw [holesB_eq, h]; rfl
    refine .loop Nat (fun k => k ≤ x.kids.length ∧ (x.kids.take k).any holesB = false) (fun k => [(9, .ds 5 fun _ => Node.rows x.kids), (10, .int .i64 fun _ => (x.kids.length : Int)), (11, .int .i64 fun _ => (k : Int))]) (fun _ => [(0, .cells 31 x.svs)]) 1 (fun k => x.kids.length - k) 0 ⟨Nat.zero_le _, by simp⟩ ?_ ?_
    · (refine le_of ?_; cbv; refine .mk ?_; repeat' (first | exact AllP.nil | refine AllP.cons (by with_reducible rfl) ?_ | refine AllP.cons ?_ ?_))
      all_goals first | rfl | (simp [Node.rows_length, lenL]; done)
    rintro k ⟨hk, hn⟩
    cbv
    refine .split (fun h1 => ?_) (fun h1 => ?_)
    · have hkl : k < x.kids.length := ltT h1
      obtain ⟨y, hy⟩ := getI hkl
      refine .need ⟨by simp, by simpa [Node.rows_length] using hkl⟩ ?_
      refine .row _ _ (Node.rows_get hy) (Node.row_toSV _) ?_
      cbv
      refine .call (ih y (List.mem_of_getElem? hy) (Sm.kid hsz (List.mem_of_getElem? hy))) ?_ rfl rfl ?_
      · (cbv; refine .mk ?_; repeat' (first | exact AllP.nil | refine AllP.cons (by with_reducible rfl) ?_ | refine AllP.cons ?_ ?_))
        all_goals rfl
      cbv
      refine .split (fun h2 => ?_) (fun h2 => ?_)
      · (refine .fin () 99 trivial (le_of ?_); cbv; refine .mk ?_; repeat' (first | exact AllP.nil | refine AllP.cons (by with_reducible rfl) ?_ | refine AllP.cons ?_ ?_))
        all_goals try rfl
        rw [h0, any_hit hy h2]
      · refine .prop ⟨k + 1, ⟨hkl, any_take_succ hy hn h2⟩, by omega, ?_⟩
        (refine le_of ?_; cbv; refine .mk ?_; repeat' (first | exact AllP.nil | refine AllP.cons (by with_reducible rfl) ?_ | refine AllP.cons ?_ ?_))
        all_goals (first | rfl | exact ⟨rfl, rfl⟩ | (refine wrap64_of ?_ ?_ ?_ <;> simp only [natCast_eq] <;> omega))
    · have hkl : k = x.kids.length := Nat.le_antisymm hk (geF h1)
      (refine .fin () 99 trivial (le_of ?_); cbv; refine .mk ?_; repeat' (first | exact AllP.nil | refine AllP.cons (by with_reducible rfl) ?_ | refine AllP.cons ?_ ?_))
      all_goals try rfl
      rw [hkl, List.take_length] at hn
      show holesB x = false
      rw [h0, hn]
end Go.Qu
