/- quantaleref01.Sorted, Check. -/
import Derived.Test.YtoaifhhfcokipaaGreatDoorXi
namespace Go.Qu
open Go.Eng Go.Proofs
theorem shapeP_3 {p : Int → Bool} {op : Int} {l : List Int} (h : op = 3) : shapeP p op l = decide (l.length ≤ 8) := by subst h; rfl
theorem shapeP_42 {p : Int → Bool} {op : Int} {l : List Int} (h : op = 42) : shapeP p op l = (decide (1 ≤ l.length) && decide (l.length ≤ 40)) := by subst h; rfl
theorem shapeP_37 {p : Int → Bool} {op : Int} {l : List Int} (h : op = 37) : shapeP p op l = eqP p l 0 := by subst h; rfl
theorem shapeP_8 {p : Int → Bool} {op : Int} {l : List Int} (h : op = 8) : shapeP p op l = (decide (l.length = 3) && (decide (l[0]? = some 2) && eqP p l 1)) := by subst h; rfl
theorem allB_take_succ {α : Type} {l : List α} {k : Nat} {x : α} {p : α → Bool} (hx : l[k]? = some x) (h : (l.take k).all p = true) (hp : p x = true) : (l.take (k + 1)).all p = true := all_take_succ hx h hp
set_option maxRecDepth 100000 in
set_option maxHeartbeats 1000000 in
theorem sorted1_ok (x : Node) : Sm x → Pure Tryz.prog 60 [.agg x.svs] (.bs fun _ => sortedB x) := by
  induction x using Node.ind2 with
  | h x ih =>
  intro hsz
  have hl := Sm.len hsz
  have hsl := x.sorts_length
  refine pure_of (P := fun _ => Tryz.prog) tabOk Tryz.func60 rfl rfl ?_
  cbv
  refine .call (own_ok x) ?_ rfl rfl ?_
  · (cbv; refine .mk ?_; repeat' (first | exact AllP.nil | refine AllP.cons (by with_reducible rfl) ?_ | refine AllP.cons ?_ ?_))
    all_goals rfl
  cbv
  refine .split (fun ho => ?_) (fun ho => ?_)
  · have ho : ownB x = false := by simpa using ho
    (refine .fin () 99 trivial (le_of ?_); cbv; refine .mk ?_; repeat' (first | exact AllP.nil | refine AllP.cons (by with_reducible rfl) ?_ | refine AllP.cons ?_ ?_))
    all_goals try rfl
    show sortedB x = false
    rw [sortedB_eq, okP, ho]
    simp
  have ho : ownB x = true := by simpa using ho
  refine .loop Nat (fun k => k ≤ x.kids.length ∧ (x.kids.take k).all sortedB = true) (fun k => [(13, .ds 5 fun _ => Node.rows x.kids), (14, .int .i64 fun _ => (x.kids.length : Int)), (15, .int .i64 fun _ => (k : Int))]) (fun _ => [(0, .cells 31 x.svs)]) 1 (fun k => x.kids.length - k) 0 ⟨Nat.zero_le _, by simp⟩ ?_ ?_
  · (refine le_of ?_; cbv; refine .mk ?_; repeat' (first | exact AllP.nil | refine AllP.cons (by with_reducible rfl) ?_ | refine AllP.cons ?_ ?_))
    all_goals first | rfl | (simp [Node.rows_length, lenL]; done)
  rintro k ⟨hk, hn⟩
  cbv
  refine .split (fun h1 => ?_) (fun h1 => ?_)
  · have hkl : k < x.kids.length := ltT h1
    obtain ⟨y, hy⟩ := getI hkl
    refine .need ⟨by simp, by simpa [Node.rows_length] using hkl⟩ ?_
    refine .row _ _ (Node.rows_get hy) (Node.row_toSV _) ?_
    cbv
    refine .call (ih y (List.mem_of_getElem? hy) (Sm.kid hsz (List.mem_of_getElem? hy))) ?_ rfl rfl ?_
    · (cbv; refine .mk ?_; repeat' (first | exact AllP.nil | refine AllP.cons (by with_reducible rfl) ?_ | refine AllP.cons ?_ ?_))
      all_goals rfl
    cbv
    refine .split (fun h2 => ?_) (fun h2 => ?_)
    · have h2 : sortedB y = false := by simpa using h2
      (refine .fin () 99 trivial (le_of ?_); cbv; refine .mk ?_; repeat' (first | exact AllP.nil | refine AllP.cons (by with_reducible rfl) ?_ | refine AllP.cons ?_ ?_))
      all_goals try rfl
      show sortedB x = false
      rw [sortedB_eq, all_hit hy h2]
      simp
    · have h2 : sortedB y = true := by simpa using h2
      refine .prop ⟨k + 1, ⟨hkl, all_take_succ hy hn h2⟩, by omega, ?_⟩
      (refine le_of ?_; cbv; refine .mk ?_; repeat' (first | exact AllP.nil | refine AllP.cons (by with_reducible rfl) ?_ | refine AllP.cons ?_ ?_))
      all_goals (first | rfl | exact ⟨rfl, rfl⟩ | (refine wrap64_of ?_ ?_ ?_ <;> simp only [natCast_eq] <;> omega))
  have hkl : k = x.kids.length := Nat.le_antisymm hk (geF h1)
  rw [hkl, List.take_length] at hn
  have hfin : sortedB x = shapeP plainB x.op x.sorts := by
    rw [sortedB_eq, okP, ho, hn]
    simp
  clear h1
  subst hkl
  have hR : (lenL (fun _ => Node.rows x.kids) ()) = (x.kids.length : Int) := congrArg Nat.cast (Node.rows_length _)
  refine .split (fun h3 => ?_) (fun h3 => ?_)
  · have h3 : x.op = 3 := by simpa using h3
    rw [shapeP_3 h3, hsl] at hfin
    (refine .fin () 99 trivial (le_of ?_); cbv; refine .mk ?_; repeat' (first | exact AllP.nil | refine AllP.cons (by with_reducible rfl) ?_ | refine AllP.cons ?_ ?_))
    all_goals try rfl
    refine hfin.trans ?_
    rw [Bool.eq_iff_iff]
    simp only [lenL, Node.rows_length, decide_eq_true_eq]
    omega
  refine .split (fun h42 => ?_) (fun h42 => ?_)
  · have h42 : x.op = 42 := by simpa using h42
    rw [shapeP_42 h42, hsl] at hfin
    (refine .fin () 99 trivial (le_of ?_); cbv; refine .mk ?_; repeat' (first | exact AllP.nil | refine AllP.cons (by with_reducible rfl) ?_ | refine AllP.cons ?_ ?_))
    all_goals try rfl
    refine hfin.trans ?_
    rw [Bool.eq_iff_iff]
    simp only [lenL, Node.rows_length, decide_eq_true_eq, Bool.and_eq_true]
    omega
  refine .split (fun h37 => ?_) (fun h37 => ?_)
  · have h37 : x.op = 37 := by simpa using h37
    rw [shapeP_37 h37] at hfin
    refine .split (fun h5 => ?_) (fun h5 => ?_)
    · have h5 : x.kids.length = 2 := by simp [lenL, Node.rows_length, natCast_eq] at h5; omega
      obtain ⟨a, ha⟩ := getI (show 0 < x.kids.length by omega)
      obtain ⟨b, hb⟩ := getI (show 1 < x.kids.length by omega)
      have hv : eqP plainB x.sorts 0 = (decide (a.sortOf = b.sortOf) && plainB a.sortOf) := by
        unfold eqP
        rw [Node.sorts_get ha, Node.sorts_get hb]
        simp [Node.sorts_length, h5]
      rw [hv] at hfin
      refine .need ⟨by simp, by rw [Node.rows_length]; simp only [natCast_eq]; omega⟩ ?_
      refine .row _ _ (Node.rows_get ha) (Node.row_toSV _) ?_
      cbv
      refine .callD (sort1_ok a) ?_ rfl rfl (fun _ => rfl) ?_ rfl
      · (cbv; refine .mk ?_; repeat' (first | exact AllP.nil | refine AllP.cons (by with_reducible rfl) ?_ | refine AllP.cons ?_ ?_))
        all_goals rfl
      cbv
      refine .need ⟨by simp, by rw [Node.rows_length]; simp only [natCast_eq]; omega⟩ ?_
      refine .row _ _ (Node.rows_get hb) (Node.row_toSV _) ?_
      cbv
      refine .callD (sort1_ok b) ?_ rfl rfl (fun _ => rfl) ?_ rfl
      · (cbv; refine .mk ?_; repeat' (first | exact AllP.nil | refine AllP.cons (by with_reducible rfl) ?_ | refine AllP.cons ?_ ?_))
        all_goals rfl
      cbv
      refine .split (fun h6 => ?_) (fun h6 => ?_)
      · have h6 : a.sortOf = b.sortOf := by simpa using h6
        refine .need ⟨by simp, by rw [Node.rows_length]; simp only [natCast_eq]; omega⟩ ?_
        refine .row _ _ (Node.rows_get ha) (Node.row_toSV _) ?_
        cbv
        refine .callD (sort1_ok a) ?_ rfl rfl (fun _ => rfl) ?_ rfl
        · (cbv; refine .mk ?_; repeat' (first | exact AllP.nil | refine AllP.cons (by with_reducible rfl) ?_ | refine AllP.cons ?_ ?_))
          all_goals rfl
        cbv
        refine .callD (plain_ok a.sortOf) ?_ rfl rfl (fun _ => rfl) ?_ rfl
        · (cbv; refine .mk ?_; repeat' (first | exact AllP.nil | refine AllP.cons (by with_reducible rfl) ?_ | refine AllP.cons ?_ ?_))
          all_goals rfl
        cbv
        refine .need rfl ?_
        (refine .fin () 99 trivial (le_of ?_); cbv; refine .mk ?_; repeat' (first | exact AllP.nil | refine AllP.cons (by with_reducible rfl) ?_ | refine AllP.cons ?_ ?_))
        all_goals try rfl
        refine hfin.trans ?_
        simp [h6]
      · have h6 : ¬ a.sortOf = b.sortOf := by simpa using h6
        refine .need rfl ?_
        (refine .fin () 99 trivial (le_of ?_); cbv; refine .mk ?_; repeat' (first | exact AllP.nil | refine AllP.cons (by with_reducible rfl) ?_ | refine AllP.cons ?_ ?_))
        all_goals try rfl
        refine hfin.trans ?_
        simp [h6]
    · have h5 : ¬ x.kids.length = 2 := fun h => by simp [lenL, Node.rows_length, natCast_eq, h] at h5
      refine .need rfl ?_
      (refine .fin () 99 trivial (le_of ?_); cbv; refine .mk ?_; repeat' (first | exact AllP.nil | refine AllP.cons (by with_reducible rfl) ?_ | refine AllP.cons ?_ ?_))
      all_goals try rfl
      refine hfin.trans ?_
      simp [eqP, Node.sorts_length, h5]
  refine .split (fun h8 => ?_) (fun h8 => ?_)
  · have h8 : x.op = 8 := by simpa using h8
    rw [shapeP_8 h8] at hfin
    refine .split (fun h5 => ?_) (fun h5 => ?_)
    · have h5 : x.kids.length = 3 := by simp [lenL, Node.rows_length, natCast_eq] at h5; omega
      obtain ⟨a, ha⟩ := getI (show 0 < x.kids.length by omega)
      obtain ⟨b, hb⟩ := getI (show 1 < x.kids.length by omega)
      obtain ⟨c, hc⟩ := getI (show 2 < x.kids.length by omega)
      have hv : eqP plainB x.sorts 1 = (decide (b.sortOf = c.sortOf) && plainB b.sortOf) := by
        unfold eqP
        rw [Node.sorts_get hb, Node.sorts_get hc]
        simp [Node.sorts_length, h5]
      rw [hv, Node.sorts_length, h5, Node.sorts_get ha] at hfin
      refine .need ⟨by simp, by rw [Node.rows_length]; simp only [natCast_eq]; omega⟩ ?_
      refine .row _ _ (Node.rows_get ha) (Node.row_toSV _) ?_
      cbv
      refine .callD (sort1_ok a) ?_ rfl rfl (fun _ => rfl) ?_ rfl
      · (cbv; refine .mk ?_; repeat' (first | exact AllP.nil | refine AllP.cons (by with_reducible rfl) ?_ | refine AllP.cons ?_ ?_))
        all_goals rfl
      cbv
      refine .split (fun h6 => ?_) (fun h6 => ?_)
      · have h6 : a.sortOf = 2 := by simpa using h6
        refine .need ⟨by simp, by rw [Node.rows_length]; simp only [natCast_eq]; omega⟩ ?_
        refine .row _ _ (Node.rows_get hb) (Node.row_toSV _) ?_
        cbv
        refine .callD (sort1_ok b) ?_ rfl rfl (fun _ => rfl) ?_ rfl
        · (cbv; refine .mk ?_; repeat' (first | exact AllP.nil | refine AllP.cons (by with_reducible rfl) ?_ | refine AllP.cons ?_ ?_))
          all_goals rfl
        cbv
        refine .need ⟨by simp, by rw [Node.rows_length]; simp only [natCast_eq]; omega⟩ ?_
        refine .row _ _ (Node.rows_get hc) (Node.row_toSV _) ?_
        cbv
        refine .callD (sort1_ok c) ?_ rfl rfl (fun _ => rfl) ?_ rfl
        · (cbv; refine .mk ?_; repeat' (first | exact AllP.nil | refine AllP.cons (by with_reducible rfl) ?_ | refine AllP.cons ?_ ?_))
          all_goals rfl
        cbv
        refine .split (fun h7 => ?_) (fun h7 => ?_)
        · have h7 : b.sortOf = c.sortOf := by simpa using h7
          refine .need ⟨by simp, by rw [Node.rows_length]; simp only [natCast_eq]; omega⟩ ?_
          refine .row _ _ (Node.rows_get hb) (Node.row_toSV _) ?_
          cbv
          refine .callD (sort1_ok b) ?_ rfl rfl (fun _ => rfl) ?_ rfl
          · (cbv; refine .mk ?_; repeat' (first | exact AllP.nil | refine AllP.cons (by with_reducible rfl) ?_ | refine AllP.cons ?_ ?_))
            all_goals rfl
          cbv
          refine .callD (plain_ok b.sortOf) ?_ rfl rfl (fun _ => rfl) ?_ rfl
          · (cbv; refine .mk ?_; repeat' (first | exact AllP.nil | refine AllP.cons (by with_reducible rfl) ?_ | refine AllP.cons ?_ ?_))
            all_goals rfl
          cbv
          refine .need rfl ?_
          (refine .fin () 99 trivial (le_of ?_); cbv; refine .mk ?_; repeat' (first | exact AllP.nil | refine AllP.cons (by with_reducible rfl) ?_ | refine AllP.cons ?_ ?_))
          all_goals try rfl
          refine hfin.trans ?_
          simp [h6, h7]
        · have h7 : ¬ b.sortOf = c.sortOf := by simpa using h7
          refine .need rfl ?_
          (refine .fin () 99 trivial (le_of ?_); cbv; refine .mk ?_; repeat' (first | exact AllP.nil | refine AllP.cons (by with_reducible rfl) ?_ | refine AllP.cons ?_ ?_))
          all_goals try rfl
          refine hfin.trans ?_
          simp [h7]
      · have h6 : ¬ a.sortOf = 2 := by simpa using h6
        refine .need rfl ?_
        (refine .fin () 99 trivial (le_of ?_); cbv; refine .mk ?_; repeat' (first | exact AllP.nil | refine AllP.cons (by with_reducible rfl) ?_ | refine AllP.cons ?_ ?_))
        all_goals try rfl
        refine hfin.trans ?_
        simp [h6]
    · have h5 : ¬ x.kids.length = 3 := fun h => by simp [lenL, Node.rows_length, natCast_eq, h] at h5
      refine .need rfl ?_
      (refine .fin () 99 trivial (le_of ?_); cbv; refine .mk ?_; repeat' (first | exact AllP.nil | refine AllP.cons (by with_reducible rfl) ?_ | refine AllP.cons ?_ ?_))
      all_goals try rfl
      refine hfin.trans ?_
      simp [eqP, Node.sorts_length, h5]
  refine .call (wants_ok x.op) ?_ rfl rfl ?_
  · (cbv; refine .mk ?_; repeat' (first | exact AllP.nil | refine AllP.cons (by with_reducible rfl) ?_ | refine AllP.cons ?_ ?_))
    all_goals rfl
  cbv
  have hnone : wants x.op = none → sortedB x = false := fun h => by
    rw [hfin, shapeP_none h]
    simp_all
  have hsome : ∀ w, wants x.op = some w → sortedB x = decide (x.sorts = w) := fun w h => by rw [hfin, shapeP_some h]
  refine .split (fun hw => ?_) (fun hw => ?_)
  · have hw : (!(wants x.op).isSome || ((ints ((wants x.op).getD [])).length : Int) != ((Node.rows x.kids).length : Int)) = true := hw
    (refine .fin () 99 trivial (le_of ?_); cbv; refine .mk ?_; repeat' (first | exact AllP.nil | refine AllP.cons (by with_reducible rfl) ?_ | refine AllP.cons ?_ ?_))
    all_goals try rfl
    show sortedB x = false
    cases hwo : wants x.op with
    | none => exact hnone hwo
    | some w =>
      rw [hwo] at hw
      rw [hsome w hwo]
      refine decide_eq_false fun h => ?_
      have h2 : w.length = x.kids.length := by rw [← h, hsl]
      simp [ints_length, Node.rows_length, h2] at hw
  have hw : (!(wants x.op).isSome || ((ints ((wants x.op).getD [])).length : Int) != ((Node.rows x.kids).length : Int)) = false := hw
  rw [Bool.or_eq_false_iff] at hw
  obtain ⟨hw, hlen⟩ := hw
  obtain ⟨w, hw⟩ := Option.isSome_iff_exists.1 (show (wants x.op).isSome = true by simpa using hw)
  have hwg : (wants x.op).getD [] = w := by rw [hw]; rfl
  have hres := hsome w hw
  have hlen : ((ints ((wants x.op).getD [])).length : Int) = ((Node.rows x.kids).length : Int) := of_nbne hlen
  rw [hwg, ints_length, Node.rows_length] at hlen
  have hlen : w.length = x.kids.length := by omega
  refine .loop Nat (fun k => k ≤ w.length ∧ x.sorts.take k = w.take k) (fun k => [(121, .ds 1 fun _ => ints w), (122, .int .i64 fun _ => (w.length : Int)), (123, .int .i64 fun _ => (k : Int))]) (fun _ => [(0, .cells 31 x.svs)]) 1 (fun k => w.length - k) 0 ⟨Nat.zero_le _, by simp⟩ ?_ ?_
  · (refine le_of ?_; cbv; refine .mk ?_; repeat' (first | exact AllP.nil | refine AllP.cons (by with_reducible rfl) ?_ | refine AllP.cons ?_ ?_))
    all_goals first | rfl | exact congrArg ints hwg.symm | (show (w.length : Int) = ((ints ((wants x.op).getD [])).length : Int); rw [hwg, ints_length])
  rintro k ⟨hk, hn⟩
  cbv
  refine .split (fun h1 => ?_) (fun h1 => ?_)
  · have hkl : k < w.length := ltT h1
    obtain ⟨v, hv⟩ := getI hkl
    obtain ⟨y, hy⟩ := getI (show k < x.kids.length by omega)
    refine .need ⟨by simp, by rw [ints_length]; simp only [natCast_eq]; omega⟩ ?_
    refine .row _ _ (ints_get hv) rfl ?_
    cbv
    refine .need ⟨by simp, by rw [Node.rows_length]; simp only [natCast_eq]; omega⟩ ?_
    refine .row _ _ (Node.rows_get hy) (Node.row_toSV _) ?_
    cbv
    refine .call (sort1_ok y) ?_ rfl rfl ?_
    · (cbv; refine .mk ?_; repeat' (first | exact AllP.nil | refine AllP.cons (by with_reducible rfl) ?_ | refine AllP.cons ?_ ?_))
      all_goals rfl
    cbv
    refine .split (fun h2 => ?_) (fun h2 => ?_)
    · have h2 : ¬ y.sortOf = v := of_bne h2
      (refine .fin () 99 trivial (le_of ?_); cbv; refine .mk ?_; repeat' (first | exact AllP.nil | refine AllP.cons (by with_reducible rfl) ?_ | refine AllP.cons ?_ ?_))
      all_goals try rfl
      show sortedB x = false
      rw [hres]
      refine decide_eq_false fun h => h2 ?_
      have := Node.sorts_get hy
      rw [h, hv] at this
      cases this
      rfl
    · have h2 : y.sortOf = v := of_nbne h2
      refine .prop ⟨k + 1, ⟨hkl, ?_⟩, by omega, ?_⟩
      · rw [List.take_add_one, List.take_add_one, hn, hv, Node.sorts_get hy, h2]
      · (refine le_of ?_; cbv; refine .mk ?_; repeat' (first | exact AllP.nil | refine AllP.cons (by with_reducible rfl) ?_ | refine AllP.cons ?_ ?_))
        all_goals (first | rfl | exact ⟨rfl, rfl⟩ | (refine wrap64_of ?_ ?_ ?_ <;> simp only [natCast_eq] <;> omega))
  · have hkl : k = w.length := Nat.le_antisymm hk (geF h1)
    (refine .fin () 99 trivial (le_of ?_); cbv; refine .mk ?_; repeat' (first | exact AllP.nil | refine AllP.cons (by with_reducible rfl) ?_ | refine AllP.cons ?_ ?_))
    all_goals try rfl
    show sortedB x = true
    rw [hres]
    exact decide_eq_true (neq_take hn (by omega) (by omega))
end Go.Qu
