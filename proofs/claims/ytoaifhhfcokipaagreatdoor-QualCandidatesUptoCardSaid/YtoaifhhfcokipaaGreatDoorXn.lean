/- The reference's variables: Equal, nodes, putDecl, gather, Vars. -/
import Derived.Test.YtoaifhhfcokipaaGreatDoorXm
import Derived.Test.YtoaifhhfcokipaaGreatDoorXe
namespace Go.Qu
open Go.Eng Go.Proofs
set_option maxRecDepth 100000 in
theorem eq1_ok (x y : Node) (hx : Sm x) (hy : Sm y) : Pure Tryz.prog 14 [.agg x.svs, .agg y.svs] (.bs fun _ => x.cmp y == 0) := by
  refine pure_of (P := fun _ => Tryz.prog) tabOk Tryz.func14 rfl rfl ?_
  cbv
  refine .call (cmp1_ok x y hx hy) ?_ rfl rfl ?_
  · (cbv; refine .mk ?_; repeat' (first | exact AllP.nil | refine AllP.cons (by with_reducible rfl) ?_ | refine AllP.cons ?_ ?_))
    all_goals rfl
  cbv
  (refine .fin () 99 trivial (le_of ?_); cbv; refine .mk ?_; repeat' (first | exact AllP.nil | refine AllP.cons (by with_reducible rfl) ?_ | refine AllP.cons ?_ ?_))
  all_goals rfl
namespace Decl
theorem rows_append (l m : List Decl) : rows (l ++ m) = rows l ++ rows m := by simp [rows]
def cmp (a b : Decl) : Int := thenC (cmpS a.name b.name) (sgn a.sort b.sort)
theorem cmp_0 {a b : Decl} : a.cmp b = 0 ↔ a = b := by
  unfold cmp thenC
  cases a; cases b
  split
  · rename_i h; rw [sgn_0]; have := cmpS_0.1 h; simp only at this; simp [this]
  · rename_i h; constructor
    · intro h'; exact absurd h' h
    · intro e; injection e with e1 e2; exact absurd (cmpS_0.2 e1) h
end Decl
theorem sgn_lt {a b : Int} : decide (a < b) = decide (sgn a b < 0) := by
  unfold sgn; split
  · simp [*]
  · split <;> simp [*]
set_option maxRecDepth 100000 in
theorem ahead_ok (x y : Decl) : Pure Tryz.prog 119 [.agg x.svs, .agg y.svs] (.bs fun _ => decide (x.cmp y < 0)) := by
  refine pure_of (P := fun _ => Tryz.prog) tabOk Tryz.func119 rfl rfl ?_
  cbv
  (refine .fin () 99 trivial (le_of ?_); cbv; refine .mk ?_; repeat' (first | exact AllP.nil | refine AllP.cons (by with_reducible rfl) ?_ | refine AllP.cons ?_ ?_))
  all_goals try rfl
  show decide (thenC (cmpS x.name y.name) (sgn x.sort y.sort) < 0) = _
  rw [cmpS_lt, sgn_lt (a := x.sort)]
  by_cases h : x.name = y.name
  · rw [thenC_of (cmpS_0.2 h), cmpS_0.2 h, h]; simp
  · rw [thenC_n (fun e => h (cmpS_0.1 e))]; simp [h]
/-- what is put ahead of the first one that is greater, if it is not there -/
def putStep {α : Type} (cmp : α → α → Int) (d : α) (s : List α × Bool) (y : α) : List α × Bool :=
  ((if !(s.2 || cmp d y == 0) && decide (cmp d y < 0) then s.1 ++ [d] else s.1) ++ [y], (s.2 || cmp d y == 0) || decide (cmp d y < 0))
def putAll {α : Type} (cmp : α → α → Int) (d : α) (l : List α) : List α :=
  bif (l.foldl (putStep cmp d) ([], false)).2 then (l.foldl (putStep cmp d) ([], false)).1 else (l.foldl (putStep cmp d) ([], false)).1 ++ [d]
theorem fold_take_succ {α β : Type} {l : List α} {k : Nat} {x : α} (f : β → α → β) (z : β) (h : l[k]? = some x) : (l.take (k + 1)).foldl f z = f ((l.take k).foldl f z) x := by
  rw [List.take_add_one, h, List.foldl_append]; rfl
theorem putStep_len {α : Type} (cmp : α → α → Int) (d : α) : ∀ (l : List α) (s : List α × Bool), (l.foldl (putStep cmp d) s).1.length ≤ s.1.length + 2 * l.length
  | [], s => by simp
  | y :: l, s => by
    have := putStep_len cmp d l (putStep cmp d s y)
    have h2 : (putStep cmp d s y).1.length ≤ s.1.length + 2 := by unfold putStep; simp only; split <;> simp
    rw [List.foldl_cons]
    simp only [List.length_cons]
    omega
theorem eqD (y d : Decl) : (decide (y.name = d.name) && (y.sort == d.sort && true)) = (d.cmp y == 0) := by
  rw [Bool.eq_iff_iff]
  simp only [Bool.and_true, Bool.and_eq_true, decide_eq_true_eq, beq_iff_eq, Decl.cmp_0]
  cases y; cases d
  simp [eq_comm]
set_option maxRecDepth 100000 in
theorem putDecl_ok (l : List Decl) (d : Decl) (hl : l.length < 1073741824) : Pure Tryz.prog 99 [.ds 2 fun _ => Decl.rows l, .agg d.svs] (.ds 2 fun _ => Decl.rows (putAll Decl.cmp d l)) := by
  refine pure_of (P := fun _ => Tryz.prog) tabOk Tryz.func99 rfl rfl ?_
  cbv
  refine .loop Nat (fun k => k ≤ l.length) (fun k => [(5, .os 1), (6, .bs fun _ => ((l.take k).foldl (putStep Decl.cmp d) ([], false)).2), (9, .ds 2 fun _ => Decl.rows l), (10, .int .i64 fun _ => (l.length : Int)), (11, .int .i64 fun _ => (k : Int))]) (fun k => [(0, .cells 42 d.svs), (1, .arr 42 2 fun _ => Decl.rows ((l.take k).foldl (putStep Decl.cmp d) ([], false)).1)]) 2 (fun k => l.length - k) 0 (Nat.zero_le _) ?_ ?_
  · (refine le_of ?_; cbv; refine .mk ?_; repeat' (first | exact AllP.nil | refine AllP.cons (by with_reducible rfl) ?_ | refine AllP.cons ?_ ?_))
    all_goals first | rfl | (simp [lenL, Decl.rows_length]; done)
  rintro k hk
  cbv
  refine .split (fun h1 => ?_) (fun h1 => ?_)
  · have hkl : k < l.length := by simpa [lenL, Decl.rows_length] using h1
    obtain ⟨y, hy⟩ := getI hkl
    refine .need ⟨by simp, by simpa [Decl.rows_length] using hkl⟩ ?_
    refine .row _ _ (Decl.rows_get hy) (Decl.dvs_toSV _) ?_
    cbv
    have hD := eqD y d
    have hS := fold_take_succ (putStep Decl.cmp d) ([], false) hy
    have hln := putStep_len Decl.cmp d (l.take k) ([], false)
    rw [List.length_take, List.length_nil] at hln
    generalize hs : List.foldl (putStep Decl.cmp d) ([], false) (List.take k l) = s at *
    have hE : putStep Decl.cmp d s y = ((if !((decide (y.name = d.name) && (y.sort == d.sort && true)) || s.2) && decide (d.cmp y < 0) then s.1 ++ [d] else s.1) ++ [y], ((decide (y.name = d.name) && (y.sort == d.sort && true)) || s.2) || decide (d.cmp y < 0)) := by
      rw [hD, putStep, Bool.or_comm s.2]
    rw [hE] at hS
    refine .split (fun h2 => ?_) (fun h2 => ?_)
    · have h2 : (!(decide (y.name = d.name) && (y.sort == d.sort && true) || s.2)) = true := h2
      refine .call (ahead_ok d y) ?_ rfl rfl ?_
      · (cbv; refine .mk ?_; repeat' (first | exact AllP.nil | refine AllP.cons (by with_reducible rfl) ?_ | refine AllP.cons ?_ ?_))
        all_goals rfl
      cbv
      refine .split (fun h3 => ?_) (fun h3 => ?_)
      · have h3 : decide (d.cmp y < 0) = true := h3
        refine .need (by simp [Decl.rows_length]; omega) ?_
        refine .need (by simp [Decl.rows_length]; omega) ?_
        refine .prop ⟨k + 1, hkl, by omega, ?_⟩
        rw [hS, h2, h3]
        (refine le_of ?_; cbv; refine .mk ?_; repeat' (first | exact AllP.nil | refine AllP.cons (by with_reducible rfl) ?_ | refine AllP.cons ?_ ?_))
        all_goals first | (first | rfl | exact ⟨rfl, rfl⟩ | (refine wrap64_of ?_ ?_ ?_ <;> simp only [natCast_eq] <;> omega)) | (simp [Decl.rows, Decl.dvs]; done) | (simp at h2; simp [Decl.rows, Decl.dvs, h2]; done)
      · have h3 : decide (d.cmp y < 0) = false := h3
        refine .need (by simp [Decl.rows_length]; omega) ?_
        refine .prop ⟨k + 1, hkl, by omega, ?_⟩
        rw [hS, h3]
        (refine le_of ?_; cbv; refine .mk ?_; repeat' (first | exact AllP.nil | refine AllP.cons (by with_reducible rfl) ?_ | refine AllP.cons ?_ ?_))
        all_goals first | (first | rfl | exact ⟨rfl, rfl⟩ | (refine wrap64_of ?_ ?_ ?_ <;> simp only [natCast_eq] <;> omega)) | (simp [Decl.rows, Decl.dvs]; done) | (simp at h2; simp [Decl.rows, Decl.dvs, h2]; done)
    · have h2 : (!(decide (y.name = d.name) && (y.sort == d.sort && true) || s.2)) = false := h2
      refine .need (by simp [Decl.rows_length]; omega) ?_
      refine .prop ⟨k + 1, hkl, by omega, ?_⟩
      rw [hS, h2]
      (refine le_of ?_; cbv; refine .mk ?_; repeat' (first | exact AllP.nil | refine AllP.cons (by with_reducible rfl) ?_ | refine AllP.cons ?_ ?_))
      all_goals first | (first | rfl | exact ⟨rfl, rfl⟩ | (refine wrap64_of ?_ ?_ ?_ <;> simp only [natCast_eq] <;> omega)) | (rw [Bool.not_eq_false'] at h2; simp only [h2]; done) | (rw [Bool.not_eq_false'] at h2; simp only [h2]; rfl) | (simp [Decl.rows, Decl.dvs]; done)
  · have hkl : k = l.length := by simp [lenL, Decl.rows_length] at h1; omega
    subst hkl
    have hln := putStep_len Decl.cmp d l ([], false)
    rw [List.length_nil] at hln
    have hA : putAll Decl.cmp d l = bif (l.foldl (putStep Decl.cmp d) ([], false)).2 then (l.foldl (putStep Decl.cmp d) ([], false)).1 else (l.foldl (putStep Decl.cmp d) ([], false)).1 ++ [d] := rfl
    rw [List.take_length]
    generalize List.foldl (putStep Decl.cmp d) ([], false) l = s at *
    refine .split (fun h2 => ?_) (fun h2 => ?_)
    · have h2 : (!s.2) = true := h2
      refine .need (by simp [Decl.rows_length]; omega) ?_
      (refine .fin () 99 trivial (le_of ?_); cbv; refine .mk ?_; repeat' (first | exact AllP.nil | refine AllP.cons (by with_reducible rfl) ?_ | refine AllP.cons ?_ ?_))
      all_goals try rfl
      show Decl.rows (putAll Decl.cmp d l) = _
      rw [hA]
      simp at h2
      simp [Decl.rows, Decl.dvs, h2]
    · have h2 : (!s.2) = false := h2
      (refine .fin () 99 trivial (le_of ?_); cbv; refine .mk ?_; repeat' (first | exact AllP.nil | refine AllP.cons (by with_reducible rfl) ?_ | refine AllP.cons ?_ ?_))
      all_goals try rfl
      show Decl.rows (putAll Decl.cmp d l) = _
      rw [hA]
      simp at h2
      simp [h2]
mutual
/-- the declarations put one after the other -/
def gatherN : List Decl → Node → List Decl
  | l, .mk o s n _ ks => gatherL (if o == 1 then putAll Decl.cmp ⟨n, s⟩ l else l) ks
def gatherL : List Decl → List Node → List Decl
  | l, [] => l
  | l, x :: m => gatherL (gatherN l x) m
end
def put1 (l : List Decl) (x : Node) : List Decl := if x.op == 1 then putAll Decl.cmp ⟨x.name, x.sort⟩ l else l
theorem gatherN_eq (l : List Decl) (x : Node) : gatherN l x = gatherL (put1 l x) x.kids := by cases x; rw [gatherN]; rfl
theorem gatherL_append : ∀ (a b : List Node) (l : List Decl), gatherL l (a ++ b) = gatherL (gatherL l a) b
  | [], b, l => by simp [gatherL]
  | x :: a, b, l => by simp [gatherL, gatherL_append a b]
theorem gatherL_succ {ks : List Node} {k : Nat} {x : Node} (l : List Decl) (h : ks[k]? = some x) : gatherL l (ks.take (k + 1)) = gatherN (gatherL l (ks.take k)) x := by
  rw [List.take_add_one, h, gatherL_append]
  simp [gatherL]
theorem putFold_len {α : Type} (cmp : α → α → Int) (d : α) : ∀ (l : List α) (s : List α × Bool), (l.foldl (putStep cmp d) s).1.length + (if (l.foldl (putStep cmp d) s).2 then 0 else 1) ≤ s.1.length + (if s.2 then 0 else 1) + l.length
  | [], s => Nat.le_refl _
  | y :: l, s => by
    have := putFold_len cmp d l (putStep cmp d s y)
    have h2 : (putStep cmp d s y).1.length + (if (putStep cmp d s y).2 then 0 else 1) ≤ s.1.length + (if s.2 then 0 else 1) + 1 := by
      unfold putStep
      cases s.2 <;> cases h : (cmp d y == 0) <;> cases h' : decide (cmp d y < 0) <;> simp
    rw [List.foldl_cons]
    simp only [List.length_cons]
    omega
theorem putAll_len {α : Type} (cmp : α → α → Int) (d : α) (l : List α) : (putAll cmp d l).length ≤ l.length + 1 := by
  have := putFold_len cmp d l ([], false)
  unfold putAll
  cases h : (l.foldl (putStep cmp d) ([], false)).2 <;> rw [h] at this <;> simp at this ⊢ <;> omega
theorem put1_len (l : List Decl) (x : Node) : (put1 l x).length ≤ l.length + 1 := by
  unfold put1; split
  · exact putAll_len _ _ _
  · omega
mutual
theorem gatherN_len : ∀ (x : Node) (l : List Decl), (gatherN l x).length ≤ l.length + x.size
  | .mk o s n m ks, l => by
    rw [gatherN_eq]
    have h1 := gatherL_len ks (put1 l (.mk o s n m ks))
    have h2 := put1_len l (.mk o s n m ks)
    show (gatherL (put1 l (.mk o s n m ks)) ks).length ≤ _
    simp only [Node.size]
    omega
theorem gatherL_len : ∀ (ks : List Node) (l : List Decl), (gatherL l ks).length ≤ l.length + Node.sizes ks
  | [], l => by simp [gatherL, Node.sizes]
  | x :: ks, l => by
    have h1 := gatherN_len x l
    have h2 := gatherL_len ks (gatherN l x)
    simp only [gatherL, Node.sizes]
    omega
end
theorem kids_le (x : Node) : x.kids.length ≤ x.size := by
  cases x with
  | mk o s n m ks => have := Node.length_le_sizes ks; simp only [Node.kids, Node.size]; omega
theorem sizes_room {x y : Node} {k : Nat} (h : x.kids[k]? = some y) : 1 + Node.sizes (x.kids.take k) + y.size ≤ x.size := by
  cases x with
  | mk o s n m ks =>
    have hk : ks[k]? = some y := h
    obtain ⟨hlt, e⟩ := List.getElem?_eq_some_iff.1 hk
    have h1 := Node.sizes_take_succ ks k hlt
    have h2 := Node.sizes_take_le ks (k + 1)
    rw [e] at h1
    simp only [Node.kids, Node.size]
    omega
set_option maxRecDepth 100000 in
theorem gather_ok (x : Node) : ∀ l : List Decl, l.length + x.size < 1073741824 → Pure Tryz.prog 66 [.ds 2 fun _ => Decl.rows l, .agg x.svs] (.ds 2 fun _ => Decl.rows (gatherN l x)) := by
  induction x using Node.ind2 with
  | h x ih =>
  intro l hl
  have hg := gatherN_eq l x
  have hkl := kids_le x
  refine pure_of (P := fun _ => Tryz.prog) tabOk Tryz.func66 rfl rfl ?_
  cbv
  refine .split (fun h => ?_) (fun h => ?_)
  · have h : (x.op == 1) = true := h
    refine .call (putDecl_ok l ⟨x.name, x.sort⟩ (by omega)) ?_ rfl rfl ?_
    · (cbv; refine .mk ?_; repeat' (first | exact AllP.nil | refine AllP.cons (by with_reducible rfl) ?_ | refine AllP.cons ?_ ?_))
      all_goals rfl
    cbv
    obtain ⟨l1, h1, hlen, hg1⟩ : ∃ l1, putAll Decl.cmp ⟨x.name, x.sort⟩ l = l1 ∧ l1.length ≤ l.length + 1 ∧ gatherN l x = gatherL l1 x.kids := ⟨_, rfl, putAll_len _ _ _, by rw [hg, put1, if_pos h]⟩
    refine .loop Nat (fun k => k ≤ x.kids.length) (fun k => [(0, .ds 2 fun _ => Decl.rows (gatherL l1 (x.kids.take k))), (18, .ds 5 fun _ => Node.rows x.kids), (19, .int .i64 fun _ => (x.kids.length : Int)), (20, .int .i64 fun _ => (k : Int))]) (fun _ => [(0, .cells 31 x.svs)]) 1 (fun k => x.kids.length - k) 0 (Nat.zero_le _) ?_ ?_
    · (refine le_of ?_; cbv; refine .mk ?_; repeat' (first | exact AllP.nil | refine AllP.cons (by with_reducible rfl) ?_ | refine AllP.cons ?_ ?_))
      all_goals first | rfl | (simp [lenL, Node.rows_length]; done) | (rw [← h1]; rfl)
    rintro k hk
    cbv
    refine .split (fun h1 => ?_) (fun h1 => ?_)
    · have hkl : k < x.kids.length := ltT h1
      obtain ⟨y, hy⟩ := getI hkl
      refine .need ⟨by simp, by simpa [Node.rows_length] using hkl⟩ ?_
      refine .row _ _ (Node.rows_get hy) (Node.row_toSV _) ?_
      cbv
      have hr := gatherL_succ l1 hy
      have hb := gatherL_len (x.kids.take k) l1
      have hc := sizes_room hy
      refine .call (ih y (List.mem_of_getElem? hy) (gatherL l1 (x.kids.take k)) (by omega)) ?_ rfl rfl ?_
      · (cbv; refine .mk ?_; repeat' (first | exact AllP.nil | refine AllP.cons (by with_reducible rfl) ?_ | refine AllP.cons ?_ ?_))
        all_goals rfl
      cbv
      refine .prop ⟨k + 1, hkl, by omega, ?_⟩
      (refine le_of ?_; cbv; refine .mk ?_; repeat' (first | exact AllP.nil | refine AllP.cons (by with_reducible rfl) ?_ | refine AllP.cons ?_ ?_))
      all_goals first | (first | rfl | exact ⟨rfl, rfl⟩ | (refine wrap64_of ?_ ?_ ?_ <;> simp only [natCast_eq] <;> omega)) | (rw [hr]; done)
    · have hkl : k = x.kids.length := Nat.le_antisymm hk (geF h1)
      subst hkl
      (refine .fin () 99 trivial (le_of ?_); cbv; refine .mk ?_; repeat' (first | exact AllP.nil | refine AllP.cons (by with_reducible rfl) ?_ | refine AllP.cons ?_ ?_))
      all_goals try rfl
      show Decl.rows (gatherN l x) = Decl.rows (gatherL l1 (List.take x.kids.length x.kids))
      rw [hg1, List.take_length]
  · have h : (x.op == 1) = false := h
    obtain ⟨l1, h1, hlen, hg1⟩ : ∃ l1, l = l1 ∧ l1.length ≤ l.length + 1 ∧ gatherN l x = gatherL l1 x.kids := ⟨_, rfl, by omega, by rw [hg, put1, if_neg (by simp [h])]⟩
    refine .loop Nat (fun k => k ≤ x.kids.length) (fun k => [(0, .ds 2 fun _ => Decl.rows (gatherL l1 (x.kids.take k))), (18, .ds 5 fun _ => Node.rows x.kids), (19, .int .i64 fun _ => (x.kids.length : Int)), (20, .int .i64 fun _ => (k : Int))]) (fun _ => [(0, .cells 31 x.svs)]) 1 (fun k => x.kids.length - k) 0 (Nat.zero_le _) ?_ ?_
    · (refine le_of ?_; cbv; refine .mk ?_; repeat' (first | exact AllP.nil | refine AllP.cons (by with_reducible rfl) ?_ | refine AllP.cons ?_ ?_))
      all_goals first | rfl | (simp [lenL, Node.rows_length]; done) | (rw [← h1]; rfl)
    rintro k hk
    cbv
    refine .split (fun h1 => ?_) (fun h1 => ?_)
    · have hkl : k < x.kids.length := ltT h1
      obtain ⟨y, hy⟩ := getI hkl
      refine .need ⟨by simp, by simpa [Node.rows_length] using hkl⟩ ?_
      refine .row _ _ (Node.rows_get hy) (Node.row_toSV _) ?_
      cbv
      have hr := gatherL_succ l1 hy
      have hb := gatherL_len (x.kids.take k) l1
      have hc := sizes_room hy
      refine .call (ih y (List.mem_of_getElem? hy) (gatherL l1 (x.kids.take k)) (by omega)) ?_ rfl rfl ?_
      · (cbv; refine .mk ?_; repeat' (first | exact AllP.nil | refine AllP.cons (by with_reducible rfl) ?_ | refine AllP.cons ?_ ?_))
        all_goals rfl
      cbv
      refine .prop ⟨k + 1, hkl, by omega, ?_⟩
      (refine le_of ?_; cbv; refine .mk ?_; repeat' (first | exact AllP.nil | refine AllP.cons (by with_reducible rfl) ?_ | refine AllP.cons ?_ ?_))
      all_goals first | (first | rfl | exact ⟨rfl, rfl⟩ | (refine wrap64_of ?_ ?_ ?_ <;> simp only [natCast_eq] <;> omega)) | (rw [hr]; done)
    · have hkl : k = x.kids.length := Nat.le_antisymm hk (geF h1)
      subst hkl
      (refine .fin () 99 trivial (le_of ?_); cbv; refine .mk ?_; repeat' (first | exact AllP.nil | refine AllP.cons (by with_reducible rfl) ?_ | refine AllP.cons ?_ ?_))
      all_goals try rfl
      show Decl.rows (gatherN l x) = Decl.rows (gatherL l1 (List.take x.kids.length x.kids))
      rw [hg1, List.take_length]
set_option maxRecDepth 100000 in
theorem vars1_ok (x : Node) (hx : Sm x) : Pure Tryz.prog 33 [.agg x.svs] (.ds 2 fun _ => Decl.rows (gatherN [] x)) := by
  refine pure_of (P := fun _ => Tryz.prog) tabOk Tryz.func33 rfl rfl ?_
  cbv
  refine .call (gather_ok x [] (by simpa using hx)) ?_ rfl rfl ?_
  · (cbv; refine .mk ?_; repeat' (first | exact AllP.nil | refine AllP.cons (by with_reducible rfl) ?_ | refine AllP.cons ?_ ?_))
    all_goals first | rfl | exact ⟨rfl, rfl⟩
  cbv
  (refine .fin () 99 trivial (le_of ?_); cbv; refine .mk ?_; repeat' (first | exact AllP.nil | refine AllP.cons (by with_reducible rfl) ?_ | refine AllP.cons ?_ ?_))
  all_goals rfl
set_option maxRecDepth 100000 in
theorem nodes_ok (l m : List Node) (hl : ∀ x ∈ l, Sm x) (hm : ∀ x ∈ m, Sm x) (hll : l.length < 1073741824) : Pure Tryz.prog 8 [.ds 5 fun _ => Node.rows l, .ds 5 fun _ => Node.rows m] (.bs fun _ => decide (l.length = m.length) && Node.cmpL l m == 0) := by
  refine pure_of (P := fun _ => Tryz.prog) tabOk Tryz.func8 rfl rfl ?_
  cbv
  refine .split (fun h => ?_) (fun h => ?_)
  · have h : (((Node.rows l).length : Int) != ((Node.rows m).length : Int)) = true := h
    rw [Node.rows_length, Node.rows_length] at h
    have h : ¬ l.length = m.length := fun e => of_bne h (by rw [e])
    (refine .fin () 99 trivial (le_of ?_); cbv; refine .mk ?_; repeat' (first | exact AllP.nil | refine AllP.cons (by with_reducible rfl) ?_ | refine AllP.cons ?_ ?_))
    all_goals try rfl
    show (decide (l.length = m.length) && Node.cmpL l m == 0) = false
    simp [h]
  · have h : (((Node.rows l).length : Int) != ((Node.rows m).length : Int)) = false := h
    rw [Node.rows_length, Node.rows_length] at h
    have hll2 : l.length = m.length := Int.ofNat.inj (of_nbne h)
    refine .loop Nat (fun k => k ≤ l.length ∧ Node.cmpL l m = Node.cmpL (l.drop k) (m.drop k)) (fun k => [(11, .ds 5 fun _ => Node.rows l), (12, .int .i64 fun _ => (l.length : Int)), (13, .int .i64 fun _ => (k : Int))]) (fun k => []) 0 (fun k => l.length - k) 0 ⟨Nat.zero_le _, rfl⟩ ?_ ?_
    · (refine le_of ?_; cbv; refine .mk ?_; repeat' (first | exact AllP.nil | refine AllP.cons (by with_reducible rfl) ?_ | refine AllP.cons ?_ ?_))
      all_goals first | rfl | (simp [lenL, Node.rows_length]; done)
    rintro k ⟨hk, hi⟩
    cbv
    refine .split (fun h1 => ?_) (fun h1 => ?_)
    · have hkl : k < l.length := ltT h1
      obtain ⟨a, ha⟩ := getI hkl
      obtain ⟨b, hb⟩ := getI (hll2 ▸ hkl)
      have hr := Node.cmpL_drop ha hb
      refine .need ⟨by simp, by simpa [Node.rows_length] using hkl⟩ ?_
      refine .row _ _ (Node.rows_get ha) (Node.row_toSV _) ?_
      cbv
      refine .need ⟨by simp, by simpa [Node.rows_length] using hll2 ▸ hkl⟩ ?_
      refine .row _ _ (Node.rows_get hb) (Node.row_toSV _) ?_
      cbv
      refine .callD (eq1_ok a b (hl a (List.mem_of_getElem? ha)) (hm b (List.mem_of_getElem? hb))) ?_ rfl rfl (fun _ => rfl) ?_ rfl
      · (cbv; refine .mk ?_; repeat' (first | exact AllP.nil | refine AllP.cons (by with_reducible rfl) ?_ | refine AllP.cons ?_ ?_))
        all_goals rfl
      cbv
      refine .need rfl ?_
      refine .split (fun h => ?_) (fun h => ?_)
      · have h : (!(a.cmp b == 0)) = true := h
        have h : ¬ a.cmp b = 0 := by simpa using h
        (refine .fin () 99 trivial (le_of ?_); cbv; refine .mk ?_; repeat' (first | exact AllP.nil | refine AllP.cons (by with_reducible rfl) ?_ | refine AllP.cons ?_ ?_))
        all_goals try rfl
        show (decide (l.length = m.length) && Node.cmpL l m == 0) = false
        rw [hi, hr, thenC_n h]
        simp [h]
      · have h : (!(a.cmp b == 0)) = false := h
        have h : a.cmp b = 0 := by simpa using h
        rw [thenC_of h] at hr
        refine .prop ⟨k + 1, ⟨hkl, hi.trans hr⟩, by omega, ?_⟩
        (refine le_of ?_; cbv; refine .mk ?_; repeat' (first | exact AllP.nil | refine AllP.cons (by with_reducible rfl) ?_ | refine AllP.cons ?_ ?_))
        all_goals (first | rfl | exact ⟨rfl, rfl⟩ | (refine wrap64_of ?_ ?_ ?_ <;> simp only [natCast_eq] <;> omega))
    · have hkl : k = l.length := Nat.le_antisymm hk (geF h1)
      subst hkl
      (refine .fin () 99 trivial (le_of ?_); cbv; refine .mk ?_; repeat' (first | exact AllP.nil | refine AllP.cons (by with_reducible rfl) ?_ | refine AllP.cons ?_ ?_))
      all_goals try rfl
      show (decide (l.length = m.length) && Node.cmpL l m == 0) = true
      rw [hi, List.drop_length, Node.cmpL, hll2]
      simp
end Go.Qu
