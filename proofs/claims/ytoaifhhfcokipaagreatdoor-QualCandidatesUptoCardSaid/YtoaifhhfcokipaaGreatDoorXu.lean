/- Substitution. -/
import Derived.Test.YtoaifhhfcokipaaGreatDoorXt
namespace Go.Qu
open Go.Eng Go.Proofs
def strs (l : List ByteArray) : List (List DV) := l.map fun n => [.str n]
theorem strs_length (l : List ByteArray) : (strs l).length = l.length := by simp [strs]
theorem strs_get {l : List ByteArray} {k : Nat} {x : ByteArray} (h : l[k]? = some x) : (strs l)[k]? = some [.str x] := by simp [strs, h]
def look : List ByteArray → List Node → ByteArray → Option Node
  | n :: ns, a :: az, s => if n = s then some a else look ns az s
  | _, _, _ => none
mutual
def sub (ns : List ByteArray) (az : List Node) : Node → Node
  | .mk o s n m ks => ((if o == 1 then look ns az n else none)).getD (.mk o s n m (subs ns az ks))
def subs (ns : List ByteArray) (az : List Node) : List Node → List Node
  | [] => []
  | x :: l => sub ns az x :: subs ns az l
end
theorem subs_eq (ns : List ByteArray) (az : List Node) : ∀ l, subs ns az l = l.map (sub ns az)
  | [] => rfl
  | x :: l => by rw [subs, subs_eq ns az l]; rfl
theorem sub_eq (ns : List ByteArray) (az : List Node) (x : Node) : sub ns az x = ((if x.op == 1 then look ns az x.name else none)).getD (.mk x.op x.sort x.name x.num (x.kids.map (sub ns az))) := by
  cases x; rw [sub, subs_eq]; rfl
theorem look_drop {ns : List ByteArray} {az : List Node} {s : ByteArray} {k : Nat} {n : ByteArray} {a : Node} (h1 : ns[k]? = some n) (h2 : az[k]? = some a) : look (ns.drop k) (az.drop k) s = if n = s then some a else look (ns.drop (k + 1)) (az.drop (k + 1)) s := by
  have e1 : ns.drop k = n :: ns.drop (k + 1) := by
    obtain ⟨h, e⟩ := List.getElem?_eq_some_iff.1 h1
    rw [List.drop_eq_getElem_cons h, e]
  have e2 : az.drop k = a :: az.drop (k + 1) := by
    obtain ⟨h, e⟩ := List.getElem?_eq_some_iff.1 h2
    rw [List.drop_eq_getElem_cons h, e]
  rw [e1, e2, look]
theorem look_end {ns : List ByteArray} {az : List Node} {s : ByteArray} {k : Nat} (h : ¬ (k < ns.length ∧ k < az.length)) : look (ns.drop k) (az.drop k) s = none := by
  by_cases h1 : k < ns.length
  · have : az.drop k = [] := List.drop_eq_nil_of_le (by omega)
    rw [this]
    cases ns.drop k <;> rfl
  · have : ns.drop k = [] := List.drop_eq_nil_of_le (by omega)
    rw [this]
    cases az.drop k <;> rfl
theorem mk_svs (o s : Int) (n : ByteArray) (m : Int) (ks : List Node) : (Node.mk o s n m ks).svs = [.int .i64 fun _ => o, .int .i64 fun _ => s, .str fun _ => n, .int .i64 fun _ => m, .ds 5 fun _ => Node.rows ks] := rfl
theorem map_take_succ {α β : Type} (f : α → β) {l : List α} {k : Nat} {x : α} (h : l[k]? = some x) : (l.map f).take (k + 1) = (l.map f).take k ++ [f x] := by
  rw [List.take_add_one, List.getElem?_map, h]; rfl
theorem map_take_all {α β : Type} (f : α → β) (l : List α) : (l.map f).take l.length = l.map f := by
  exact List.take_of_length_le (by simp)
set_option maxRecDepth 100000 in
theorem subst1_ok (ns : List ByteArray) (az : List Node) (hns : ns.length < 1073741824) (hal : az.length < 1073741824) (has : ∀ a ∈ az, Sm a) (x : Node) : Sm x → Pure Tryz.prog 45 [.agg x.svs, .ds 1 fun _ => strs ns, .ds 5 fun _ => Node.rows az] (.agg (sub ns az x).svs) := by
  induction x using Node.ind2 with
  | h x ih =>
  intro hsz
  have hl := Sm.len hsz
  have he := sub_eq ns az x
  have hwl : (x.kids.map (sub ns az)).length = x.kids.length := by simp
  have hww : ∀ {k : Nat} {y : Node}, x.kids[k]? = some y → (x.kids.map (sub ns az)).take (k + 1) = (x.kids.map (sub ns az)).take k ++ [sub ns az y] := fun h => map_take_succ (sub ns az) h
  generalize x.kids.map (sub ns az) = w at *
  refine pure_of (P := fun _ => Tryz.prog) tabOk Tryz.func45 rfl rfl ?_
  cbv
  refine .split (fun h => ?_) (fun h => ?_)
  · have h : (x.op == 1) = true := h
    rw [if_pos h] at he
    refine .loop Nat (fun k => k ≤ ns.length ∧ look ns az x.name = look (ns.drop k) (az.drop k) x.name) (fun k => [(7, .int .i64 fun _ => (k : Int))]) (fun _ => [(0, .cells 31 x.svs), (1, .cells 31 [.int .i64 fun _ => 0, .int .i64 fun _ => 0, .str fun _ => ⟨#[]⟩, .int .i64 fun _ => 0, .nils])]) 2 (fun k => ns.length - k) 0 ⟨Nat.zero_le _, rfl⟩ ?_ ?_
    · (refine le_of ?_; cbv; refine .mk ?_; repeat' (first | exact AllP.nil | refine AllP.cons (by with_reducible rfl) ?_ | refine AllP.cons ?_ ?_))
      all_goals rfl
    rintro k ⟨hk, hi⟩
    cbv
    refine .split (fun h1 => ?_) (fun h1 => ?_)
    · have h1 : (decide ((k : Int) < ((strs ns).length : Int)) && decide ((k : Int) < ((Node.rows az).length : Int))) = true := h1
      rw [strs_length, Node.rows_length] at h1
      have h1 := Bool.and_eq_true_iff.1 h1
      have hk1 : k < ns.length := Int.ofNat_lt.1 (of_decide_eq_true h1.1)
      have hk2 : k < az.length := Int.ofNat_lt.1 (of_decide_eq_true h1.2)
      refine Exists.elim (getI hk1) fun n hn => ?_
      refine Exists.elim (getI hk2) fun a ha => ?_
      have hd := look_drop (s := x.name) hn ha
      refine .need ⟨by simp, by rw [strs_length]; exact Int.ofNat_lt.2 hk1⟩ ?_
      refine .row [.str n] [.str fun _ => n] (strs_get hn) rfl ?_
      cbv
      refine .need rfl ?_
      refine .split (fun h2 => ?_) (fun h2 => ?_)
      · have h2 : decide (n = x.name) = true := h2
        rw [if_pos (of_decide_eq_true h2)] at hd
        rw [hi, hd, Option.getD_some] at he
        rw [he]
        refine .need ⟨by simp, by rw [Node.rows_length]; exact Int.ofNat_lt.2 hk2⟩ ?_
        refine .row _ _ (Node.rows_get ha) (Node.row_toSV _) ?_
        cbv
        refine .call (same_ok a (has a (List.mem_of_getElem? ha))) ?_ rfl rfl ?_
        · (cbv; refine .mk ?_; repeat' (first | exact AllP.nil | refine AllP.cons (by with_reducible rfl) ?_ | refine AllP.cons ?_ ?_))
          all_goals rfl
        cbv
        (refine .fin () 99 trivial (le_of ?_); cbv; refine .mk ?_; repeat' (first | exact AllP.nil | refine AllP.cons (by with_reducible rfl) ?_ | refine AllP.cons ?_ ?_))
        all_goals rfl
      · have h2 : decide (n = x.name) = false := h2
        rw [if_neg (of_decide_eq_false h2)] at hd
        refine .prop ⟨k + 1, ⟨hk1, hi.trans hd⟩, by omega, ?_⟩
        (refine le_of ?_; cbv; refine .mk ?_; repeat' (first | exact AllP.nil | refine AllP.cons (by with_reducible rfl) ?_ | refine AllP.cons ?_ ?_))
        all_goals (first | rfl | exact ⟨rfl, rfl⟩ | (refine wrap64_of ?_ ?_ ?_ <;> simp only [natCast_eq] <;> omega))
    · have h1 : (decide ((k : Int) < ((strs ns).length : Int)) && decide ((k : Int) < ((Node.rows az).length : Int))) = false := h1
      rw [strs_length, Node.rows_length] at h1
      have hend : ¬ (k < ns.length ∧ k < az.length) := by
        rintro ⟨q1, q2⟩
        rw [decide_eq_true (Int.ofNat_lt.2 q1), decide_eq_true (Int.ofNat_lt.2 q2)] at h1
        exact absurd h1 (by decide)
      rw [hi, look_end hend, Option.getD_none] at he
      clear hi hend h1 hk
      rw [he]
      refine .loop Nat (fun k => k ≤ x.kids.length) (fun k => [(49, .ds 5 fun _ => Node.rows x.kids), (50, .int .i64 fun _ => (x.kids.length : Int)), (51, .int .i64 fun _ => (k : Int))]) (fun k => [(0, .cells 31 x.svs), (1, .cells 31 [.int .i64 fun _ => 0, .int .i64 fun _ => 0, .str fun _ => ⟨#[]⟩, .int .i64 fun _ => 0, .nils]), (2, .cells 31 [.int .i64 fun _ => x.op, .int .i64 fun _ => x.sort, .str fun _ => x.name, .int .i64 fun _ => x.num, .os 3]), (3, .arr 31 5 fun _ => Node.rows (w.take k))]) 6 (fun k => x.kids.length - k) 0 (Nat.zero_le _) ?_ ?_
      · (refine le_of ?_; cbv; refine .mk ?_; repeat' (first | exact AllP.nil | refine AllP.cons (by with_reducible rfl) ?_ | refine AllP.cons ?_ ?_))
        all_goals first | rfl | exact ⟨rfl, rfl⟩ | (simp [lenL, Node.rows_length]; done)
      rintro k hk
      cbv
      refine .split (fun h1 => ?_) (fun h1 => ?_)
      · have hkl : k < x.kids.length := ltT h1
        obtain ⟨y, hy⟩ := getI hkl
        refine .need ⟨by simp, by simpa [Node.rows_length] using hkl⟩ ?_
        refine .row _ _ (Node.rows_get hy) (Node.row_toSV _) ?_
        cbv
        have ihy := ih y (List.mem_of_getElem? hy) (Sm.kid hsz (List.mem_of_getElem? hy))
        have hms := hww hy
        refine Exists.elim (show ∃ z, sub ns az y = z from ⟨_, rfl⟩) fun z hz => ?_
        rw [hz] at ihy hms
        refine .call ihy ?_ rfl rfl ?_
        · (cbv; refine .mk ?_; repeat' (first | exact AllP.nil | refine AllP.cons (by with_reducible rfl) ?_ | refine AllP.cons ?_ ?_))
          all_goals rfl
        cbv
        refine .need (by simp [Node.rows_length]; omega) ?_
        refine .prop ⟨k + 1, hkl, by omega, ?_⟩
        (refine le_of ?_; cbv; refine .mk ?_; repeat' (first | exact AllP.nil | refine AllP.cons (by with_reducible rfl) ?_ | refine AllP.cons ?_ ?_))
        all_goals first | (first | rfl | exact ⟨rfl, rfl⟩ | (refine wrap64_of ?_ ?_ ?_ <;> simp only [natCast_eq] <;> omega)) | (rw [hms, Node.rows_append]; simp only [Node.rows_one, Node.row_dvs]; rfl)
      · have hkl : k = x.kids.length := Nat.le_antisymm hk (geF h1)
        subst hkl
        (refine .fin () 99 trivial (le_of ?_); cbv; refine .mk ?_; repeat' (first | exact AllP.nil | refine AllP.cons (by with_reducible rfl) ?_ | refine AllP.cons ?_ ?_))
        all_goals first | rfl | (show Node.rows w = Node.rows (w.take x.kids.length); rw [← hwl, List.take_length])
  · have h : (x.op == 1) = false := h
    rw [if_neg (by rw [h]; decide), Option.getD_none] at he
    rw [he]
    refine .loop Nat (fun k => k ≤ x.kids.length) (fun k => [(49, .ds 5 fun _ => Node.rows x.kids), (50, .int .i64 fun _ => (x.kids.length : Int)), (51, .int .i64 fun _ => (k : Int))]) (fun k => [(0, .cells 31 x.svs), (1, .cells 31 [.int .i64 fun _ => 0, .int .i64 fun _ => 0, .str fun _ => ⟨#[]⟩, .int .i64 fun _ => 0, .nils]), (2, .cells 31 [.int .i64 fun _ => x.op, .int .i64 fun _ => x.sort, .str fun _ => x.name, .int .i64 fun _ => x.num, .os 3]), (3, .arr 31 5 fun _ => Node.rows (w.take k))]) 6 (fun k => x.kids.length - k) 0 (Nat.zero_le _) ?_ ?_
    · (refine le_of ?_; cbv; refine .mk ?_; repeat' (first | exact AllP.nil | refine AllP.cons (by with_reducible rfl) ?_ | refine AllP.cons ?_ ?_))
      all_goals first | rfl | exact ⟨rfl, rfl⟩ | (simp [lenL, Node.rows_length]; done)
    rintro k hk
    cbv
    refine .split (fun h1 => ?_) (fun h1 => ?_)
    · have hkl : k < x.kids.length := ltT h1
      obtain ⟨y, hy⟩ := getI hkl
      refine .need ⟨by simp, by simpa [Node.rows_length] using hkl⟩ ?_
      refine .row _ _ (Node.rows_get hy) (Node.row_toSV _) ?_
      cbv
      have ihy := ih y (List.mem_of_getElem? hy) (Sm.kid hsz (List.mem_of_getElem? hy))
      have hms := hww hy
      refine Exists.elim (show ∃ z, sub ns az y = z from ⟨_, rfl⟩) fun z hz => ?_
      rw [hz] at ihy hms
      refine .call ihy ?_ rfl rfl ?_
      · (cbv; refine .mk ?_; repeat' (first | exact AllP.nil | refine AllP.cons (by with_reducible rfl) ?_ | refine AllP.cons ?_ ?_))
        all_goals rfl
      cbv
      refine .need (by simp [Node.rows_length]; omega) ?_
      refine .prop ⟨k + 1, hkl, by omega, ?_⟩
      (refine le_of ?_; cbv; refine .mk ?_; repeat' (first | exact AllP.nil | refine AllP.cons (by with_reducible rfl) ?_ | refine AllP.cons ?_ ?_))
      all_goals first | (first | rfl | exact ⟨rfl, rfl⟩ | (refine wrap64_of ?_ ?_ ?_ <;> simp only [natCast_eq] <;> omega)) | (rw [hms, Node.rows_append]; simp only [Node.rows_one, Node.row_dvs]; rfl)
    · have hkl : k = x.kids.length := Nat.le_antisymm hk (geF h1)
      subst hkl
      (refine .fin () 99 trivial (le_of ?_); cbv; refine .mk ?_; repeat' (first | exact AllP.nil | refine AllP.cons (by with_reducible rfl) ?_ | refine AllP.cons ?_ ?_))
      all_goals first | rfl | (show Node.rows w = Node.rows (w.take x.kids.length); rw [← hwl, List.take_length])
set_option maxRecDepth 100000 in
theorem subst2_ok (ns : List ByteArray) (az : List Node) (hns : ns.length < 1073741824) (hal : az.length < 1073741824) (has : ∀ a ∈ az, Sm a) (x : Node) : Sm x → Pure Tryz.prog 18 [.agg x.svs, .ds 1 fun _ => strs ns, .ds 5 fun _ => Node.rows az] (.agg (sub ns az x).svs) := by
  induction x using Node.ind2 with
  | h x ih =>
  intro hsz
  have hl := Sm.len hsz
  have he := sub_eq ns az x
  have hwl : (x.kids.map (sub ns az)).length = x.kids.length := by simp
  have hww : ∀ {k : Nat} {y : Node}, x.kids[k]? = some y → (x.kids.map (sub ns az)).take (k + 1) = (x.kids.map (sub ns az)).take k ++ [sub ns az y] := fun h => map_take_succ (sub ns az) h
  generalize x.kids.map (sub ns az) = w at *
  refine pure_of (P := fun _ => Tryz.prog) tabOk Tryz.func18 rfl rfl ?_
  cbv
  refine .split (fun h => ?_) (fun h => ?_)
  · have h : (x.op == 1) = true := h
    rw [if_pos h] at he
    refine .loop Nat (fun k => k ≤ min ns.length az.length ∧ look ns az x.name = look (ns.drop k) (az.drop k) x.name) (fun k => [(18, .int .i64 fun _ => (min ns.length az.length : Nat)), (19, .int .i64 fun _ => (k : Int))]) (fun _ => [(0, .cells 31 x.svs), (1, .cells 31 [.int .i64 fun _ => 0, .int .i64 fun _ => 0, .str fun _ => ⟨#[]⟩, .int .i64 fun _ => 0, .nils])]) 2 (fun k => min ns.length az.length - k) 0 ⟨Nat.zero_le _, rfl⟩ ?_ ?_
    · (refine le_of ?_; cbv; refine .mk ?_; repeat' (first | exact AllP.nil | refine AllP.cons (by with_reducible rfl) ?_ | refine AllP.cons ?_ ?_))
      all_goals first | rfl | (show ((min ns.length az.length : Nat) : Int) = _; rw [show lenL (fun _ => Node.rows az) () = (az.length : Int) from by simp [lenL, Node.rows_length], show lenL (fun _ => strs ns) () = (ns.length : Int) from by simp [lenL, strs_length]]; split <;> omega)
    rintro k ⟨hk, hi⟩
    cbv
    refine .split (fun h1 => ?_) (fun h1 => ?_)
    · have h1 : decide ((k : Int) < ((min ns.length az.length : Nat) : Int)) = true := h1
      have h1 : k < min ns.length az.length := Int.ofNat_lt.1 (of_decide_eq_true h1)
      have hk1 : k < ns.length := by omega
      have hk2 : k < az.length := by omega
      refine Exists.elim (getI hk1) fun n hn => ?_
      refine Exists.elim (getI hk2) fun a ha => ?_
      have hd := look_drop (s := x.name) hn ha
      refine .need ⟨by simp, by rw [strs_length]; exact Int.ofNat_lt.2 hk1⟩ ?_
      refine .row [.str n] [.str fun _ => n] (strs_get hn) rfl ?_
      cbv
      refine .need rfl ?_
      refine .split (fun h2 => ?_) (fun h2 => ?_)
      · have h2 : decide (n = x.name) = true := h2
        rw [if_pos (of_decide_eq_true h2)] at hd
        rw [hi, hd, Option.getD_some] at he
        rw [he]
        refine .need ⟨by simp, by rw [Node.rows_length]; exact Int.ofNat_lt.2 hk2⟩ ?_
        refine .row _ _ (Node.rows_get ha) (Node.row_toSV _) ?_
        cbv
        refine .call (copied_ok a (has a (List.mem_of_getElem? ha))) ?_ rfl rfl ?_
        · (cbv; refine .mk ?_; repeat' (first | exact AllP.nil | refine AllP.cons (by with_reducible rfl) ?_ | refine AllP.cons ?_ ?_))
          all_goals rfl
        cbv
        (refine .fin () 99 trivial (le_of ?_); cbv; refine .mk ?_; repeat' (first | exact AllP.nil | refine AllP.cons (by with_reducible rfl) ?_ | refine AllP.cons ?_ ?_))
        all_goals rfl
      · have h2 : decide (n = x.name) = false := h2
        rw [if_neg (of_decide_eq_false h2)] at hd
        refine .prop ⟨k + 1, ⟨h1, hi.trans hd⟩, by omega, ?_⟩
        (refine le_of ?_; cbv; refine .mk ?_; repeat' (first | exact AllP.nil | refine AllP.cons (by with_reducible rfl) ?_ | refine AllP.cons ?_ ?_))
        all_goals (first | rfl | exact ⟨rfl, rfl⟩ | (refine wrap64_of ?_ ?_ ?_ <;> simp only [natCast_eq] <;> omega))
    · have h1 : decide ((k : Int) < ((min ns.length az.length : Nat) : Int)) = false := h1
      have h1 : ¬ k < min ns.length az.length := fun h => of_decide_eq_false h1 (Int.ofNat_lt.2 h)
      have hend : ¬ (k < ns.length ∧ k < az.length) := by omega
      rw [hi, look_end hend, Option.getD_none] at he
      clear hi hend h1 hk
      rw [he]
      refine .need (by simp [lenL, Node.rows_length, natCast_eq]; omega) ?_
      refine .loop Nat (fun k => k ≤ x.kids.length) (fun k => [(38, .any), (8, .os 2), (40, .ds 5 fun _ => Node.rows x.kids), (41, .int .i64 fun _ => (x.kids.length : Int)), (42, .int .i64 fun _ => (k : Int))]) (fun k => [(0, .cells 31 x.svs), (1, .cells 31 [.int .i64 fun _ => 0, .int .i64 fun _ => 0, .str fun _ => ⟨#[]⟩, .int .i64 fun _ => 0, .nils]), (2, .arr 31 5 fun _ => Node.rows (w.take k))]) 6 (fun k => x.kids.length - k) 0 (Nat.zero_le _) ?_ ?_
      · (refine le_of ?_; cbv; refine .mk ?_; repeat' (first | exact AllP.nil | refine AllP.cons (by with_reducible rfl) ?_ | refine AllP.cons ?_ ?_))
        all_goals first | rfl | exact ⟨rfl, rfl⟩ | (simp [lenL, Node.rows_length]; done)
      rintro k hk
      cbv
      refine .split (fun h1 => ?_) (fun h1 => ?_)
      · have hkl : k < x.kids.length := ltT h1
        obtain ⟨y, hy⟩ := getI hkl
        refine .need ⟨by simp, by simpa [Node.rows_length] using hkl⟩ ?_
        refine .row _ _ (Node.rows_get hy) (Node.row_toSV _) ?_
        cbv
        have ihy := ih y (List.mem_of_getElem? hy) (Sm.kid hsz (List.mem_of_getElem? hy))
        have hms := hww hy
        refine Exists.elim (show ∃ z, sub ns az y = z from ⟨_, rfl⟩) fun z hz => ?_
        rw [hz] at ihy hms
        refine .call ihy ?_ rfl rfl ?_
        · (cbv; refine .mk ?_; repeat' (first | exact AllP.nil | refine AllP.cons (by with_reducible rfl) ?_ | refine AllP.cons ?_ ?_))
          all_goals rfl
        cbv
        refine .need (by simp [Node.rows_length]; omega) ?_
        refine .prop ⟨k + 1, hkl, by omega, ?_⟩
        (refine le_of ?_; cbv; refine .mk ?_; repeat' (first | exact AllP.nil | refine AllP.cons (by with_reducible rfl) ?_ | refine AllP.cons ?_ ?_))
        all_goals first | (first | rfl | exact ⟨rfl, rfl⟩ | (refine wrap64_of ?_ ?_ ?_ <;> simp only [natCast_eq] <;> omega)) | (rw [hms, Node.rows_append]; simp only [Node.rows_one, Node.row_dvs]; rfl)
      · have hkl : k = x.kids.length := Nat.le_antisymm hk (geF h1)
        subst hkl
        (refine .fin () 99 trivial (le_of ?_); cbv; refine .mk ?_; repeat' (first | exact AllP.nil | refine AllP.cons (by with_reducible rfl) ?_ | refine AllP.cons ?_ ?_))
        all_goals first | rfl | (show Node.rows w = Node.rows (w.take x.kids.length); rw [← hwl, List.take_length])
  · have h : (x.op == 1) = false := h
    rw [if_neg (by rw [h]; decide), Option.getD_none] at he
    rw [he]
    refine .need (by simp [lenL, Node.rows_length, natCast_eq]; omega) ?_
    refine .loop Nat (fun k => k ≤ x.kids.length) (fun k => [(38, .any), (8, .os 2), (40, .ds 5 fun _ => Node.rows x.kids), (41, .int .i64 fun _ => (x.kids.length : Int)), (42, .int .i64 fun _ => (k : Int))]) (fun k => [(0, .cells 31 x.svs), (1, .cells 31 [.int .i64 fun _ => 0, .int .i64 fun _ => 0, .str fun _ => ⟨#[]⟩, .int .i64 fun _ => 0, .nils]), (2, .arr 31 5 fun _ => Node.rows (w.take k))]) 6 (fun k => x.kids.length - k) 0 (Nat.zero_le _) ?_ ?_
    · (refine le_of ?_; cbv; refine .mk ?_; repeat' (first | exact AllP.nil | refine AllP.cons (by with_reducible rfl) ?_ | refine AllP.cons ?_ ?_))
      all_goals first | rfl | exact ⟨rfl, rfl⟩ | (simp [lenL, Node.rows_length]; done)
    rintro k hk
    cbv
    refine .split (fun h1 => ?_) (fun h1 => ?_)
    · have hkl : k < x.kids.length := ltT h1
      obtain ⟨y, hy⟩ := getI hkl
      refine .need ⟨by simp, by simpa [Node.rows_length] using hkl⟩ ?_
      refine .row _ _ (Node.rows_get hy) (Node.row_toSV _) ?_
      cbv
      have ihy := ih y (List.mem_of_getElem? hy) (Sm.kid hsz (List.mem_of_getElem? hy))
      have hms := hww hy
      refine Exists.elim (show ∃ z, sub ns az y = z from ⟨_, rfl⟩) fun z hz => ?_
      rw [hz] at ihy hms
      refine .call ihy ?_ rfl rfl ?_
      · (cbv; refine .mk ?_; repeat' (first | exact AllP.nil | refine AllP.cons (by with_reducible rfl) ?_ | refine AllP.cons ?_ ?_))
        all_goals rfl
      cbv
      refine .need (by simp [Node.rows_length]; omega) ?_
      refine .prop ⟨k + 1, hkl, by omega, ?_⟩
      (refine le_of ?_; cbv; refine .mk ?_; repeat' (first | exact AllP.nil | refine AllP.cons (by with_reducible rfl) ?_ | refine AllP.cons ?_ ?_))
      all_goals first | (first | rfl | exact ⟨rfl, rfl⟩ | (refine wrap64_of ?_ ?_ ?_ <;> simp only [natCast_eq] <;> omega)) | (rw [hms, Node.rows_append]; simp only [Node.rows_one, Node.row_dvs]; rfl)
    · have hkl : k = x.kids.length := Nat.le_antisymm hk (geF h1)
      subst hkl
      (refine .fin () 99 trivial (le_of ?_); cbv; refine .mk ?_; repeat' (first | exact AllP.nil | refine AllP.cons (by with_reducible rfl) ?_ | refine AllP.cons ?_ ?_))
      all_goals first | rfl | (show Node.rows w = Node.rows (w.take x.kids.length); rw [← hwl, List.take_length])
end Go.Qu
