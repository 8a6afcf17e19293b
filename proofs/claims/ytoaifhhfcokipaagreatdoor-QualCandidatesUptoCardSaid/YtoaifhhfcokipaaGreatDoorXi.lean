/- The kids of a node: their number and sorts. Well sorted nodes. -/
import Derived.Test.YtoaifhhfcokipaaGreatDoorXh
import Derived.Test.YtoaifhhfcokipaaGreatDoorXe
namespace Go.Qu
open Go.Eng Go.Proofs
namespace Node
def sorts (x : Node) : List Int := x.kids.map sortOf
theorem sorts_length (x : Node) : x.sorts.length = x.kids.length := by simp [sorts]
theorem sorts_get {x y : Node} {k : Nat} (h : x.kids[k]? = some y) : x.sorts[k]? = some y.sortOf := by simp [sorts, h]
end Node
def termP (s : Int) : Bool := s == 1 || decide (3 ≤ s)
def eqP (p : Int → Bool) (l : List Int) (k : Nat) : Bool := decide (l.length = k + 2) && (decide (l[k]? = l[k + 1]?) && p ((l[k]?).getD 0))
def shapeP (p : Int → Bool) (op : Int) (l : List Int) : Bool :=
  match wants op with
  | some w => decide (l = w)
  | none => if op == 8 then decide (l.length = 3) && (decide (l[0]? = some 2) && eqP p l 1)
    else if op == 37 then eqP p l 0
    else if op == 3 then decide (l.length ≤ 8)
    else if op == 42 then decide (1 ≤ l.length) && decide (l.length ≤ 40)
    else false
set_option maxRecDepth 100000 in
theorem equal_ok (l : List Int) (k : Nat) (hk : k < 1000) : Pure Tryz.prog 115 [.int .i64 fun _ => (k : Int), .dp 1 (fun _ => [[.sl 1 (ints l)]]) (fun _ => 0) 0] (.bs fun _ => eqP termP l k) := by
  have e2 : IntKind.i64.wrap ((k : Int) + 2) = (k : Int) + 2 := by rw [IntKind.wrap_i64]; omega
  have e1 : IntKind.i64.wrap ((k : Int) + 1) = (k : Int) + 1 := by rw [IntKind.wrap_i64]; omega
  have e3 : ((k : Int) + 1).toNat = k + 1 := by omega
  refine pure_of (P := fun _ => Tryz.prog) tabOk Tryz.func115 rfl rfl ?_
  cbv
  refine .row [.sl 1 (ints l)] [.ds 1 fun _ => ints l] rfl rfl ?_
  cbv
  refine .split (fun h0 => ?_) (fun h0 => ?_)
  · have h0 : l.length = k + 2 := by
      have : ((ints l).length : Int) = IntKind.i64.wrap ((k : Int) + 2) := by simpa [lenL] using h0
      rw [e2, ints_length] at this
      omega
    obtain ⟨a, ha⟩ := getI (show k < l.length by omega)
    obtain ⟨b, hb⟩ := getI (show k + 1 < l.length by omega)
    have hv : eqP termP l k = (decide (a = b) && termP a) := by
      unfold eqP
      rw [ha, hb]
      simp [h0]
    refine .row [.sl 1 (ints l)] [.ds 1 fun _ => ints l] rfl rfl ?_
    cbv
    refine .need ⟨by simp, by rw [ints_length]; simp only [natCast_eq]; omega⟩ ?_
    refine .row [.int .i64 a] [.int .i64 fun _ => a] (ints_get ha) rfl ?_
    cbv
    refine .row [.sl 1 (ints l)] [.ds 1 fun _ => ints l] rfl rfl ?_
    cbv
    refine .need ⟨by rw [e1]; omega, by rw [e1, ints_length]; simp only [natCast_eq]; omega⟩ ?_
    refine .row [.int .i64 b] [.int .i64 fun _ => b] (by rw [e1, e3]; exact ints_get hb) rfl ?_
    cbv
    refine .split (fun h1 => ?_) (fun h1 => ?_)
    · refine .row [.sl 1 (ints l)] [.ds 1 fun _ => ints l] rfl rfl ?_
      cbv
      refine .need ⟨by simp, by rw [ints_length]; simp only [natCast_eq]; omega⟩ ?_
      refine .row [.int .i64 a] [.int .i64 fun _ => a] (ints_get ha) rfl ?_
      cbv
      refine .split (fun h2 => ?_) (fun h2 => ?_)
      · refine .need rfl ?_
        (refine .fin () 99 trivial (le_of ?_); cbv; refine .mk ?_; repeat' (first | exact AllP.nil | refine AllP.cons (by with_reducible rfl) ?_ | refine AllP.cons ?_ ?_))
        all_goals try rfl
        show eqP termP l k = _
        rw [hv]
        simp_all [termP]
      · refine .row [.sl 1 (ints l)] [.ds 1 fun _ => ints l] rfl rfl ?_
        cbv
        refine .need ⟨by simp, by rw [ints_length]; simp only [natCast_eq]; omega⟩ ?_
        refine .row [.int .i64 a] [.int .i64 fun _ => a] (ints_get ha) rfl ?_
        cbv
        refine .need rfl ?_
        (refine .fin () 99 trivial (le_of ?_); cbv; refine .mk ?_; repeat' (first | exact AllP.nil | refine AllP.cons (by with_reducible rfl) ?_ | refine AllP.cons ?_ ?_))
        all_goals try rfl
        show eqP termP l k = _
        rw [hv]
        simp_all [termP]
    · refine .need rfl ?_
      (refine .fin () 99 trivial (le_of ?_); cbv; refine .mk ?_; repeat' (first | exact AllP.nil | refine AllP.cons (by with_reducible rfl) ?_ | refine AllP.cons ?_ ?_))
      all_goals try rfl
      show eqP termP l k = _
      rw [hv]
      simp_all [termP]
  · have h0 : ¬ l.length = k + 2 := by
      intro h
      have : ¬ ((ints l).length : Int) = IntKind.i64.wrap ((k : Int) + 2) := by simpa [lenL] using h0
      rw [e2, ints_length] at this
      omega
    refine .need rfl ?_
    (refine .fin () 99 trivial (le_of ?_); cbv; refine .mk ?_; repeat' (first | exact AllP.nil | refine AllP.cons (by with_reducible rfl) ?_ | refine AllP.cons ?_ ?_))
    all_goals try rfl
    show eqP termP l k = _
    simp [eqP, h0]
theorem shapeP_none {p : Int → Bool} {op : Int} {l : List Int} (h : wants op = none) : shapeP p op l =
    if op == 8 then decide (l.length = 3) && (decide (l[0]? = some 2) && eqP p l 1)
    else if op == 37 then eqP p l 0
    else if op == 3 then decide (l.length ≤ 8)
    else if op == 42 then decide (1 ≤ l.length) && decide (l.length ≤ 40)
    else false := by
  unfold shapeP
  rw [h]
theorem shapeP_some {p : Int → Bool} {op : Int} {l w : List Int} (h : wants op = some w) : shapeP p op l = decide (l = w) := by
  unfold shapeP
  rw [h]
theorem setRow_ints (l : List Int) (i : Nat) (v : Int) (h : i < l.length) : setRow (ints l) i 0 [.int .i64 v] = ints (l.set i v) := by
  unfold setRow
  have : ((ints l)[i]?).getD [] = [.int .i64 l[i]] := by rw [ints_get (List.getElem?_eq_getElem h)]; rfl
  rw [this]
  simp [splice, upd, ints, List.map_set]
theorem fill_step {α : Type} {l : List α} {k n : Nat} {a z : α} (h : l[k]? = some a) (hn : k < n) : (l.take k ++ List.replicate (n - k) z).set k a = l.take (k + 1) ++ List.replicate (n - (k + 1)) z := by
  have hk : k < l.length := (List.getElem?_eq_some_iff.1 h).1
  rw [List.set_append, if_neg (by simp; omega)]
  have e : n - k = (n - (k + 1)) + 1 := by omega
  rw [e, List.replicate_succ, List.length_take, Nat.min_eq_left (by omega), Nat.sub_self, List.set_cons_zero, List.take_add_one, h]
  simp
set_option maxRecDepth 100000 in
theorem shape_ok (x : Node) (hsz : Sm x) : Pure Tryz.prog 88 [.agg x.svs] (.bs fun _ => shapeP termP x.op x.sorts) := by
  have hl := Sm.len hsz
  have hsl := x.sorts_length
  refine pure_of (P := fun _ => Tryz.prog) tabOk Tryz.func88 rfl rfl ?_
  cbv
  refine .need ?_ ?_
  · simp [lenL, Node.rows_length]
    omega
  refine .loop Nat (fun k => k ≤ x.kids.length) (fun k => [(14, .ds 5 fun _ => Node.rows x.kids), (15, .int .i64 fun _ => (x.kids.length : Int)), (16, .int .i64 fun _ => (k : Int))]) (fun k => [(0, .cells 31 x.svs), (1, .arr 3 1 fun _ => ints (x.sorts.take k ++ List.replicate (x.kids.length - k) 0)), (2, .cells 23 [.os 1])]) 3 (fun k => x.kids.length - k) 0 (Nat.zero_le _) ?_ ?_
  · (refine le_of ?_; cbv; refine .mk ?_; repeat' (first | exact AllP.nil | refine AllP.cons (by with_reducible rfl) ?_ | refine AllP.cons ?_ ?_))
    all_goals first | rfl | (simp [lenL, Node.rows_length, ints]; done)
  rintro k hk
  cbv
  refine .split (fun h1 => ?_) (fun h1 => ?_)
  · have hkl : k < x.kids.length := ltT h1
    obtain ⟨y, hy⟩ := getI hkl
    refine .need ⟨by simp, by simpa [Node.rows_length] using hkl⟩ ?_
    refine .row _ _ (Node.rows_get hy) (Node.row_toSV _) ?_
    cbv
    refine .callD (sort_ok y) ?_ rfl rfl (fun _ => rfl) ?_ rfl
    · (cbv; refine .mk ?_; repeat' (first | exact AllP.nil | refine AllP.cons (by with_reducible rfl) ?_ | refine AllP.cons ?_ ?_))
      all_goals rfl
    cbv
    refine .need ⟨by simp, by rw [ints_length]; simp [natCast_eq, hsl]; omega⟩ ?_
    refine .need rfl ?_
    refine .prop ⟨k + 1, hkl, by omega, ?_⟩
    (refine le_of ?_; cbv; refine .mk ?_; repeat' (first | exact AllP.nil | refine AllP.cons (by with_reducible rfl) ?_ | refine AllP.cons ?_ ?_))
    all_goals first
      | (first | rfl | exact ⟨rfl, rfl⟩ | (refine wrap64_of ?_ ?_ ?_ <;> simp only [natCast_eq] <;> omega))
      | exact ((setRow_ints _ _ _ (by simp [hsl]; omega)).trans (congrArg ints (fill_step (Node.sorts_get hy) hkl))).symm
  · have hkl : k = x.kids.length := Nat.le_antisymm hk (geF h1)
    subst hkl
    have hN : List.take x.kids.length x.sorts ++ List.replicate (x.kids.length - x.kids.length) 0 = x.sorts := by
      rw [← hsl, List.take_length]
      simp
    have hR : (ints (List.take x.kids.length x.sorts ++ List.replicate (x.kids.length - x.kids.length) 0)).length = x.sorts.length := by rw [hN, ints_length]
    refine .call (takes_ok x.op) ?_ rfl rfl ?_
    · (cbv; refine .mk ?_; repeat' (first | exact AllP.nil | refine AllP.cons (by with_reducible rfl) ?_ | refine AllP.cons ?_ ?_))
      all_goals rfl
    cbv
    refine .split (fun hw => ?_) (fun hw => ?_)
    · refine .lend (eqInts_ok x.sorts ((wants x.op).getD []) (by omega)) ?_ rfl rfl ?_
      · (cbv; refine .mk ?_; repeat' (first | exact AllP.nil | refine AllP.cons (by with_reducible rfl) ?_ | refine AllP.cons ?_ ?_))
        all_goals first | rfl | exact congrArg ints hN.symm
      cbv
      (refine .fin () 99 trivial (le_of ?_); cbv; refine .mk ?_; repeat' (first | exact AllP.nil | refine AllP.cons (by with_reducible rfl) ?_ | refine AllP.cons ?_ ?_))
      all_goals try rfl
      obtain ⟨w, hw⟩ := Option.isSome_iff_exists.1 (show (wants x.op).isSome = true from hw)
      show shapeP termP x.op x.sorts = decide (x.sorts = (wants x.op).getD [])
      rw [shapeP, hw]
      rfl
    · have hw : (wants x.op).isSome = false := hw
      have hw : wants x.op = none := by simpa using hw
      have hv := shapeP_none (p := termP) (l := x.sorts) hw
      refine .split (fun h8 => ?_) (fun h8 => ?_)
      · rw [h8, if_pos rfl] at hv
        refine .split (fun h9 => ?_) (fun h9 => ?_)
        · have h9 : x.sorts.length = 3 := by
            have : ((ints (List.take x.kids.length x.sorts ++ List.replicate (x.kids.length - x.kids.length) 0)).length : Int) = 3 := by simpa only [lenL, beq_iff_eq] using h9
            rw [hR] at this
            omega
          obtain ⟨a, ha⟩ := getI (show 0 < x.sorts.length by omega)
          refine .need ⟨by simp, by rw [hR, h9]; decide⟩ ?_
          refine .row [.int .i64 a] [.int .i64 fun _ => a] (by rw [hN]; exact ints_get ha) rfl ?_
          cbv
          refine .split (fun h10 => ?_) (fun h10 => ?_)
          · refine .lend (equal_ok x.sorts 1 (by omega)) ?_ rfl rfl ?_
            · (cbv; refine .mk ?_; repeat' (first | exact AllP.nil | refine AllP.cons (by with_reducible rfl) ?_ | refine AllP.cons ?_ ?_))
              all_goals first | rfl | (rw [hN])
            cbv
            (refine .fin () 99 trivial (le_of ?_); cbv; refine .mk ?_; repeat' (first | exact AllP.nil | refine AllP.cons (by with_reducible rfl) ?_ | refine AllP.cons ?_ ?_))
            all_goals try rfl
            show shapeP termP x.op x.sorts = eqP termP x.sorts 1
            have h10 : a = 2 := by simpa using h10
            rw [hv, h9, ha, h10]
            simp
          · (refine .fin () 99 trivial (le_of ?_); cbv; refine .mk ?_; repeat' (first | exact AllP.nil | refine AllP.cons (by with_reducible rfl) ?_ | refine AllP.cons ?_ ?_))
            all_goals try rfl
            show shapeP termP x.op x.sorts = false
            have h10 : ¬ a = 2 := by simpa using h10
            rw [hv, ha]
            simp [h10]
        · have h9 : ¬ x.sorts.length = 3 := by
            intro h
            have : ¬ ((ints (List.take x.kids.length x.sorts ++ List.replicate (x.kids.length - x.kids.length) 0)).length : Int) = 3 := by simpa only [lenL, beq_eq_false_iff_ne, ne_eq] using h9
            rw [hR] at this
            omega
          (refine .fin () 99 trivial (le_of ?_); cbv; refine .mk ?_; repeat' (first | exact AllP.nil | refine AllP.cons (by with_reducible rfl) ?_ | refine AllP.cons ?_ ?_))
          all_goals try rfl
          show shapeP termP x.op x.sorts = false
          rw [hv]
          simp [h9]
      · rw [h8] at hv
        simp only [Bool.false_eq_true, if_false] at hv
        refine .split (fun h9 => ?_) (fun h9 => ?_)
        · rw [h9, if_pos rfl] at hv
          refine .lend (equal_ok x.sorts 0 (by omega)) ?_ rfl rfl ?_
          · (cbv; refine .mk ?_; repeat' (first | exact AllP.nil | refine AllP.cons (by with_reducible rfl) ?_ | refine AllP.cons ?_ ?_))
            all_goals first | rfl | (rw [hN])
          cbv
          (refine .fin () 99 trivial (le_of ?_); cbv; refine .mk ?_; repeat' (first | exact AllP.nil | refine AllP.cons (by with_reducible rfl) ?_ | refine AllP.cons ?_ ?_))
          all_goals try rfl
          exact hv
        · rw [h9] at hv
          simp only [Bool.false_eq_true, if_false] at hv
          have hR' : (lenL (fun _ => ints (List.take x.kids.length x.sorts ++ List.replicate (x.kids.length - x.kids.length) 0)) ()) = (x.sorts.length : Int) := congrArg Nat.cast hR
          refine .split (fun h10 => ?_) (fun h10 => ?_)
          · rw [h10, if_pos rfl] at hv
            (refine .fin () 99 trivial (le_of ?_); cbv; refine .mk ?_; repeat' (first | exact AllP.nil | refine AllP.cons (by with_reducible rfl) ?_ | refine AllP.cons ?_ ?_))
            all_goals try rfl
            refine hv.trans ?_
            rw [Bool.eq_iff_iff]
            simp only [lenL, decide_eq_true_eq, hR]
            omega
          · rw [h10] at hv
            simp only [Bool.false_eq_true, if_false] at hv
            refine .split (fun h11 => ?_) (fun h11 => ?_)
            · rw [h11, if_pos rfl] at hv
              (refine .fin () 99 trivial (le_of ?_); cbv; refine .mk ?_; repeat' (first | exact AllP.nil | refine AllP.cons (by with_reducible rfl) ?_ | refine AllP.cons ?_ ?_))
              all_goals try rfl
              refine hv.trans ?_
              rw [Bool.eq_iff_iff]
              simp only [lenL, decide_eq_true_eq, Bool.and_eq_true, hR]
              omega
            · rw [h11] at hv
              (refine .fin () 99 trivial (le_of ?_); cbv; refine .mk ?_; repeat' (first | exact AllP.nil | refine AllP.cons (by with_reducible rfl) ?_ | refine AllP.cons ?_ ?_))
              all_goals try rfl
              exact hv
end Go.Qu
namespace Go.Qu
open Go.Eng Go.Proofs
theorem pres_all (p : Node → Bool) : ∀ l, (Node.pres l).all p = l.all fun y => y.pre.all p
  | [] => rfl
  | x :: l => by rw [Node.pres, List.all_append, pres_all p l, List.all_cons]
theorem pre_all (p : Node → Bool) (x : Node) : x.pre.all p = (p x && x.kids.all fun y => y.pre.all p) := by
  rw [Node.pre_eq, List.all_cons, pres_all]
theorem mem_pres {z : Node} : ∀ {l : List Node}, z ∈ Node.pres l ↔ ∃ y ∈ l, z ∈ y.pre
  | [] => by simp [Node.pres]
  | x :: l => by simp [Node.pres, mem_pres (l := l)]
theorem mem_pre {x z : Node} : z ∈ x.pre ↔ z = x ∨ ∃ y ∈ x.kids, z ∈ y.pre := by
  rw [Node.pre_eq, List.mem_cons, mem_pres]
theorem pre_self (x : Node) : x ∈ x.pre := mem_pre.2 (.inl rfl)
theorem pre_trans {z : Node} (x : Node) : ∀ y ∈ x.pre, z ∈ y.pre → z ∈ x.pre := by
  induction x using Node.ind2 with
  | h x ih =>
    intro y hy hz
    rcases mem_pre.1 hy with rfl | ⟨k, hk, hy⟩
    · exact hz
    · exact mem_pre.2 (.inr ⟨k, hk, ih k hk y hy hz⟩)
theorem pre_size {x : Node} : ∀ y ∈ x.pre, y.size ≤ x.size := by
  induction x using Node.ind2 with
  | h x ih =>
    intro y hy
    rcases mem_pre.1 hy with rfl | ⟨k, hk, hy⟩
    · exact Nat.le_refl _
    · have := ih k hk y hy
      have := Node.size_mem hk
      omega
theorem Sm.pre {x y : Node} (h : Sm x) (hy : y ∈ x.pre) : Sm y := by have := pre_size y hy; unfold Sm at *; omega
theorem opSort_le {x : Node} (h : ownB x = true) : opSort x.op x.sort ≤ 5 := by
  by_cases h13 : x.op = 1 ∨ x.op = 3
  · have : namedB x = true := by simpa [namedB] using h13
    unfold opSort
    rw [if_pos h13]
    unfold ownB labB at h
    rw [if_pos this] at h
    simp at h
    omega
  · unfold opSort
    rw [if_neg h13]
    repeat' split
    all_goals omega
theorem sortOf_le {x : Node} : (∀ y ∈ x.pre, ownB y = true) → x.sortOf ≤ 5 := by
  induction x using Node.ind2 with
  | h x ih =>
    intro h
    rw [Node.sortOf_eq]
    split
    · split
      · rename_i y hy
        have hm := List.mem_of_getElem? hy
        exact ih y hm fun z hz => h z (mem_pre.2 (.inr ⟨y, hm, hz⟩))
      · omega
    · exact opSort_le (h x (pre_self x))
theorem eqP_congr {p q : Int → Bool} {l : List Int} (h : ∀ s ∈ l, p s = q s) (k : Nat) : eqP p l k = eqP q l k := by
  unfold eqP
  by_cases hl : l.length = k + 2
  · have hk : k < l.length := by omega
    rw [List.getElem?_eq_getElem hk]
    simp only [Option.getD_some, h _ (List.getElem_mem hk)]
  · simp [hl]
theorem shapeP_congr {p q : Int → Bool} {op : Int} {l : List Int} (h : ∀ s ∈ l, p s = q s) : shapeP p op l = shapeP q op l := by
  cases hw : wants op with
  | some w => rw [shapeP_some hw, shapeP_some hw]
  | none => rw [shapeP_none hw, shapeP_none hw, eqP_congr h, eqP_congr h]
theorem term_plain {s : Int} (h : s ≤ 5) : termP s = plainB s := by
  rw [Bool.eq_iff_iff]
  simp [termP, plainB]
  omega
def okP (p : Int → Bool) (y : Node) : Bool := ownB y && shapeP p y.op y.sorts
def sortedB (x : Node) : Bool := x.pre.all (okP plainB)
theorem sortedB_eq (x : Node) : sortedB x = (okP plainB x && x.kids.all sortedB) := pre_all _ x
theorem okP_pre {p q : Int → Bool} (hpq : ∀ s : Int, s ≤ 5 → p s = q s) {x : Node} (h : ∀ y ∈ x.pre, okP p y = true) : ∀ y ∈ x.pre, okP q y = true := by
  intro y hy
  have := h y hy
  unfold okP at this ⊢
  rw [shapeP_congr (p := q) (q := p)]
  · exact this
  · intro s hs
    obtain ⟨z, hz, rfl⟩ := List.mem_map.1 hs
    refine (hpq _ (sortOf_le fun u hu => ?_)).symm
    have := h u (pre_trans x y hy (mem_pre.2 (.inr ⟨z, hz, hu⟩)))
    unfold okP at this
    exact (Bool.and_eq_true_iff.1 this).1
theorem sortedB_term (x : Node) : x.pre.all (okP termP) = sortedB x := by
  unfold sortedB
  rw [Bool.eq_iff_iff, List.all_eq_true, List.all_eq_true]
  exact ⟨okP_pre fun s h => term_plain h, okP_pre fun s h => (term_plain h).symm⟩
set_option maxRecDepth 100000 in
theorem sorted2_ok (x : Node) (hsz : Sm x) : Pure Tryz.prog 50 [.agg x.svs] (.bs fun _ => sortedB x) := by
  have hres := sortedB_term x
  refine pure_of (P := fun _ => Tryz.prog) tabOk Tryz.func50 rfl rfl ?_
  cbv
  refine .callN (walk_ok x) 3 ?_ rfl rfl (fun _ => ⟨rfl, rfl⟩) (fun _ _ => ?_)
  · (cbv; refine .mk ?_; repeat' (first | exact AllP.nil | refine AllP.cons (by with_reducible rfl) ?_ | refine AllP.cons ?_ ?_))
    all_goals rfl
  cbv
  refine .range [.dp 5 (fun _ => [x.dvs]) (fun _ => 0) 0] (Node.its x.pre) Nat (fun k => k ≤ x.pre.length ∧ (x.pre.take k).all (okP termP) = true) id (fun _ => [(1, .cells 4 [.bool false])]) 3 0 rfl (walk_it x (Sm.big hsz)) (Node.its_ok _) ⟨Nat.zero_le _, by simp⟩ rfl ?_ ?_ ?_
  · (refine le_of ?_; cbv; refine .mk ?_; repeat' (first | exact AllP.nil | refine AllP.cons (by with_reducible rfl) ?_ | refine AllP.cons ?_ ?_))
    all_goals rfl
  · rintro k ⟨hk1, hk2⟩ item hit
    obtain ⟨y, hy, rfl⟩ := Node.its_get hit
    have hy : x.pre[k]? = some y := hy
    have hlt : k < x.pre.length := (List.getElem?_eq_some_iff.1 hy).1
    have hys : Sm y := Sm.pre hsz (List.mem_of_getElem? hy)
    cbv
    refine .call (fields_ok y) ?_ rfl rfl ?_
    · (cbv; refine .mk ?_; repeat' (first | exact AllP.nil | refine AllP.cons (by with_reducible rfl) ?_ | refine AllP.cons ?_ ?_))
      all_goals rfl
    cbv
    have bad : okP termP y = false → sortedB x = false := fun h => by rw [← hres]; exact all_hit hy h
    refine .split (fun h => ?_) (fun h => ?_)
    · (refine .fin () 99 trivial (le_of ?_); cbv; refine .mk ?_; repeat' (first | exact AllP.nil | refine AllP.cons (by with_reducible rfl) ?_ | refine AllP.cons ?_ ?_))
      all_goals try rfl
      exact bad (by have h : ownB y = false := by simpa using h
                    simp [okP, h])
    · have h : ownB y = true := by simpa using h
      refine .call (shape_ok y hys) ?_ rfl rfl ?_
      · (cbv; refine .mk ?_; repeat' (first | exact AllP.nil | refine AllP.cons (by with_reducible rfl) ?_ | refine AllP.cons ?_ ?_))
        all_goals rfl
      cbv
      refine .split (fun h2 => ?_) (fun h2 => ?_)
      · (refine .fin () 99 trivial (le_of ?_); cbv; refine .mk ?_; repeat' (first | exact AllP.nil | refine AllP.cons (by with_reducible rfl) ?_ | refine AllP.cons ?_ ?_))
        all_goals try rfl
        exact bad (by have h2 : shapeP termP y.op y.sorts = false := by simpa using h2
                      simp [okP, h2])
      · have h2 : shapeP termP y.op y.sorts = true := by simpa using h2
        refine .prop ⟨k + 1, ⟨hlt, all_take_succ hy hk2 (by simp [okP, h, h2])⟩, rfl, ?_⟩
        (refine le_of ?_; cbv; refine .mk ?_; repeat' (first | exact AllP.nil | refine AllP.cons (by with_reducible rfl) ?_ | refine AllP.cons ?_ ?_))
        all_goals rfl
  · rintro k ⟨hk1, hk2⟩ hk
    have hk : k = x.pre.length := by simpa [Node.its_length] using hk
    cbv
    (refine .fin () 99 trivial (le_of ?_); cbv; refine .mk ?_; repeat' (first | exact AllP.nil | refine AllP.cons (by with_reducible rfl) ?_ | refine AllP.cons ?_ ?_))
    all_goals try rfl
    rw [hk, List.take_length, hres] at hk2
    exact hk2
theorem pres_length : ∀ l : List Node, (Node.pres l).length = Node.sizes l ∧ ∀ x ∈ l, x.pre.length = x.size
  | [] => by simp [Node.pres, Node.sizes]
  | .mk o s n m ks :: l => by
    have h1 := pres_length ks
    have h2 := pres_length l
    have h3 : (Node.mk o s n m ks).pre.length = (Node.mk o s n m ks).size := by
      rw [Node.pre_eq, List.length_cons, Node.size]
      show (Node.pres ks).length + 1 = _
      omega
    refine ⟨by rw [Node.pres, Node.sizes, List.length_append, h2.1, h3], fun x hx => ?_⟩
    rcases List.mem_cons.1 hx with rfl | hx
    · exact h3
    · exact h2.2 x hx
theorem pre_length (x : Node) : x.pre.length = x.size := (pres_length [x]).2 x (by simp)
set_option maxRecDepth 100000 in
theorem size2_ok (x : Node) (hsz : Sm x) : Pure Tryz.prog 85 [.agg x.svs] (.int .i64 fun _ => (x.size : Int)) := by
  have hp := pre_length x
  refine pure_of (P := fun _ => Tryz.prog) tabOk Tryz.func85 rfl rfl ?_
  cbv
  refine .callN (walk_ok x) 3 ?_ rfl rfl (fun _ => ⟨rfl, rfl⟩) (fun _ _ => ?_)
  · (cbv; refine .mk ?_; repeat' (first | exact AllP.nil | refine AllP.cons (by with_reducible rfl) ?_ | refine AllP.cons ?_ ?_))
    all_goals rfl
  cbv
  refine .range [.dp 5 (fun _ => [x.dvs]) (fun _ => 0) 0] (Node.its x.pre) Nat (fun k => k ≤ x.pre.length) id (fun k => [(1, .cells 3 [.int .i64 fun _ => (k : Int)])]) 3 0 rfl (walk_it x (Sm.big hsz)) (Node.its_ok _) (Nat.zero_le _) rfl ?_ ?_ ?_
  · (refine le_of ?_; cbv; refine .mk ?_; repeat' (first | exact AllP.nil | refine AllP.cons (by with_reducible rfl) ?_ | refine AllP.cons ?_ ?_))
    all_goals rfl
  · rintro k hk1 item hit
    obtain ⟨y, hy, rfl⟩ := Node.its_get hit
    have hy : x.pre[k]? = some y := hy
    have hlt : k < x.pre.length := (List.getElem?_eq_some_iff.1 hy).1
    cbv
    refine .prop ⟨k + 1, hlt, rfl, ?_⟩
    (refine le_of ?_; cbv; refine .mk ?_; repeat' (first | exact AllP.nil | refine AllP.cons (by with_reducible rfl) ?_ | refine AllP.cons ?_ ?_))
    have hsz2 := hsz
    all_goals (first | rfl | exact ⟨rfl, rfl⟩ | (refine wrap64_of ?_ ?_ ?_ <;> simp only [natCast_eq] <;> omega))
  · rintro k hk1 hk
    have hk : k = x.pre.length := by simpa [Node.its_length] using hk
    cbv
    (refine .fin () 99 trivial (le_of ?_); cbv; refine .mk ?_; repeat' (first | exact AllP.nil | refine AllP.cons (by with_reducible rfl) ?_ | refine AllP.cons ?_ ?_))
    all_goals try rfl
    rw [hk, hp]
set_option maxRecDepth 100000 in
theorem within_ok (x : Node) (hsz : Sm x) : Pure Tryz.prog 49 [.agg x.svs] (.bs fun _ => decide (x.size ≤ 4000) && decide (x.levels ≤ 100)) := by
  refine pure_of (P := fun _ => Tryz.prog) tabOk Tryz.func49 rfl rfl ?_
  cbv
  refine .call (size2_ok x hsz) ?_ rfl rfl ?_
  · (cbv; refine .mk ?_; repeat' (first | exact AllP.nil | refine AllP.cons (by with_reducible rfl) ?_ | refine AllP.cons ?_ ?_))
    all_goals rfl
  cbv
  refine .split (fun h => ?_) (fun h => ?_)
  · have h : x.size ≤ 4000 := by have h := of_decide_eq_true h; simp only [natCast_eq] at h; omega
    refine .call (levels2_ok x hsz) ?_ rfl rfl ?_
    · (cbv; refine .mk ?_; repeat' (first | exact AllP.nil | refine AllP.cons (by with_reducible rfl) ?_ | refine AllP.cons ?_ ?_))
      all_goals rfl
    cbv
    (refine .fin () 99 trivial (le_of ?_); cbv; refine .mk ?_; repeat' (first | exact AllP.nil | refine AllP.cons (by with_reducible rfl) ?_ | refine AllP.cons ?_ ?_))
    all_goals try rfl
    rw [Bool.eq_iff_iff]
    simp [h, natCast_eq]
    omega
  · have h : ¬ x.size ≤ 4000 := by have h := of_decide_eq_false h; simp only [natCast_eq] at h; omega
    (refine .fin () 99 trivial (le_of ?_); cbv; refine .mk ?_; repeat' (first | exact AllP.nil | refine AllP.cons (by with_reducible rfl) ?_ | refine AllP.cons ?_ ?_))
    all_goals try rfl
    simp [h]
end Go.Qu
