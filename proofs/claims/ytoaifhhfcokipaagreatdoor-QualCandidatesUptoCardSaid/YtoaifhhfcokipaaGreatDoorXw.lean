/- The reference's choices and Count. -/
import Derived.Test.YtoaifhhfcokipaaGreatDoorXv
namespace Go.Qu
open Go.Eng Go.Proofs
/-- the places above 0 of a sort -/
def chP (u : List Int) (s : Int) (j : Nat) : Bool := decide (0 < j) && decide (u[j]? = some s)
def chsK (u : List Int) (s : Int) (k : Nat) : List Int := ((List.range k).filter (chP u s)).map Int.ofNat
def chs (u : List Int) (s : Int) : List Int := chsK u s u.length
theorem chsK_succ (u : List Int) (s : Int) (k : Nat) : chsK u s (k + 1) = bif chP u s k then chsK u s k ++ [Int.ofNat k] else chsK u s k := by
  unfold chsK
  rw [List.range_succ, List.filter_append, List.map_append]
  cases h : chP u s k <;> simp [h]
theorem chsK_len (u : List Int) (s : Int) (k : Nat) : (chsK u s k).length ≤ k := by
  unfold chsK
  rw [List.length_map]
  exact Nat.le_trans (List.length_filter_le _ _) (by simp)
def chAll (q : Qual) (u : List Int) : List (List Int) := (q.decls.drop 1).map fun d => chs u d.sort
theorem ints_append (l m : List Int) : ints (l ++ m) = ints l ++ ints m := by simp [ints]
theorem unks_append (l m : List (List Int)) : unks (l ++ m) = unks l ++ unks m := by simp [unks]
set_option maxRecDepth 100000 in
theorem choices_ok (q : Qual) (u : List Int) (hq : 1 ≤ q.decls.length) (hql : q.decls.length < 1073741824) (hu : u.length < 1073741824) : Pure Tryz.prog 22 [.agg q.svs, .agg [.ds 1 fun _ => ints u]] (.ds 1 fun _ => unks (chAll q u)) := by
  have hall : chAll q u = (q.decls.drop 1).map fun d => chs u d.sort := rfl
  have hdl : (q.decls.drop 1).length = q.decls.length - 1 := List.length_drop
  have hdr : Decl.rows (q.decls.drop 1) = (Decl.rows q.decls).drop 1 := by simp [Decl.rows]
  refine pure_of (P := fun _ => Tryz.prog) tabOk Tryz.func22 rfl rfl ?_
  cbv
  refine .need (by show (0:Int) ≤ 1 ∧ (1:Int) ≤ ((Decl.rows q.decls).length : Int); rw [Decl.rows_length]; omega) ?_
  generalize q.decls.drop 1 = ds at *
  have hdt : List.drop (1 : Int).toNat (List.take (((Decl.rows q.decls).length : Nat) : Int).toNat (Decl.rows q.decls)) = Decl.rows ds := by
    rw [Int.toNat_natCast, List.take_length, hdr]
    rfl
  refine .loop Nat (fun k => k ≤ ds.length) (fun k => [(5, .os 2), (13, .ds 2 fun _ => Decl.rows ds), (14, .int .i64 fun _ => (ds.length : Int)), (15, .int .i64 fun _ => (k : Int))]) (fun k => [(0, .cells 33 q.svs), (1, .cells 25 [.ds 1 fun _ => ints u]), (2, .arr 23 1 fun _ => unks ((ds.take k).map fun d => chs u d.sort))]) 3 (fun k => ds.length - k) 0 (Nat.zero_le _) ?_ ?_
  · (refine le_of ?_; cbv; refine .mk ?_; repeat' (first | exact AllP.nil | refine AllP.cons (by with_reducible rfl) ?_ | refine AllP.cons ?_ ?_))
    all_goals first | rfl | exact hdt.symm | (show ((ds.length : Nat) : Int) = ((List.drop (1 : Int).toNat (List.take (((Decl.rows q.decls).length : Nat) : Int).toNat (Decl.rows q.decls))).length : Int); rw [hdt, Decl.rows_length])
  rintro k hk
  cbv
  refine .split (fun h1 => ?_) (fun h1 => ?_)
  · have h1 : decide ((k : Int) < (ds.length : Int)) = true := h1
    have hkl : k < ds.length := Int.ofNat_lt.1 (of_decide_eq_true h1)
    refine Exists.elim (getI hkl) fun d hd => ?_
    refine .need ⟨by simp, by rw [Decl.rows_length]; exact Int.ofNat_lt.2 hkl⟩ ?_
    refine .row _ _ (Decl.rows_get hd) (Decl.dvs_toSV _) ?_
    cbv
    refine .loop Nat (fun j => j ≤ u.length) (fun j => [(8, .os 4), (20, .ds 1 fun _ => ints u), (21, .int .i64 fun _ => (u.length : Int)), (22, .int .i64 fun _ => (j : Int))]) (fun j => [(0, .cells 33 q.svs), (1, .cells 25 [.ds 1 fun _ => ints u]), (2, .arr 23 1 fun _ => unks ((ds.take k).map fun d => chs u d.sort)), (3, .cells 42 d.svs), (4, .arr 3 1 fun _ => ints (chsK u d.sort j))]) 5 (fun j => u.length - j) 0 (Nat.zero_le _) ?_ ?_
    · (refine le_of ?_; cbv; refine .mk ?_; repeat' (first | exact AllP.nil | refine AllP.cons (by with_reducible rfl) ?_ | refine AllP.cons ?_ ?_))
      all_goals first | rfl | (simp [lenL, ints_length]; done)
    rintro j hj
    cbv
    refine .split (fun h2 => ?_) (fun h2 => ?_)
    · have h2 : decide ((j : Int) < (u.length : Int)) = true := h2
      have hjl : j < u.length := Int.ofNat_lt.1 (of_decide_eq_true h2)
      refine Exists.elim (getI hjl) fun x hx => ?_
      refine .need ⟨by simp, by rw [ints_length]; exact Int.ofNat_lt.2 hjl⟩ ?_
      refine .row [.int .i64 x] [.int .i64 fun _ => x] (ints_get hx) rfl ?_
      cbv
      have hcS := chsK_succ u d.sort j
      have hcl := chsK_len u d.sort j
      have hP : chP u d.sort j = (decide (0 < (j : Int)) && (x == d.sort)) := by
        unfold chP
        rw [hx]
        by_cases h0 : 0 < j
        · rw [decide_eq_true h0, decide_eq_true (show (0 : Int) < (j : Int) from Int.ofNat_lt.2 h0)]
          by_cases he : x = d.sort <;> simp [he]
        · rw [decide_eq_false h0, decide_eq_false (show ¬ (0 : Int) < (j : Int) from fun h => h0 (Int.ofNat_lt.1 h))]
          rfl
      refine .split (fun h3 => ?_) (fun h3 => ?_)
      · rw [hP.trans h3, cond_true] at hcS
        refine .need (by simp [ints_length]; omega) ?_
        refine .prop ⟨j + 1, hjl, by omega, ?_⟩
        (refine le_of ?_; cbv; refine .mk ?_; repeat' (first | exact AllP.nil | refine AllP.cons (by with_reducible rfl) ?_ | refine AllP.cons ?_ ?_))
        all_goals first | (first | rfl | exact ⟨rfl, rfl⟩ | (refine wrap64_of ?_ ?_ ?_ <;> simp only [natCast_eq] <;> omega)) | (rw [hcS, ints_append]; rfl)
      · rw [hP.trans h3, cond_false] at hcS
        refine .prop ⟨j + 1, hjl, by omega, ?_⟩
        (refine le_of ?_; cbv; refine .mk ?_; repeat' (first | exact AllP.nil | refine AllP.cons (by with_reducible rfl) ?_ | refine AllP.cons ?_ ?_))
        all_goals first | (first | rfl | exact ⟨rfl, rfl⟩ | (refine wrap64_of ?_ ?_ ?_ <;> simp only [natCast_eq] <;> omega)) | (rw [hcS]; done)
    · have h2 : decide ((j : Int) < (u.length : Int)) = false := h2
      have hjl : j = u.length := Nat.le_antisymm hj (Nat.le_of_not_lt fun h => of_decide_eq_false h2 (Int.ofNat_lt.2 h))
      refine .need (by simp [unks_length]; omega) ?_
      refine .prop ⟨k + 1, hkl, by omega, ?_⟩
      (refine le_of ?_; cbv; refine .mk ?_; repeat' (first | exact AllP.nil | refine AllP.cons (by with_reducible rfl) ?_ | refine AllP.cons ?_ ?_))
      all_goals first | (first | rfl | exact ⟨rfl, rfl⟩ | (refine wrap64_of ?_ ?_ ?_ <;> simp only [natCast_eq] <;> omega)) | (rw [List.take_add_one, hd, List.map_append, unks_append, hjl]; rfl)
  · have h1 : decide ((k : Int) < (ds.length : Int)) = false := h1
    have hkl : k = ds.length := Nat.le_antisymm hk (Nat.le_of_not_lt fun h => of_decide_eq_false h1 (Int.ofNat_lt.2 h))
    (refine .fin () 99 trivial (le_of ?_); cbv; refine .mk ?_; repeat' (first | exact AllP.nil | refine AllP.cons (by with_reducible rfl) ?_ | refine AllP.cons ?_ ?_))
    all_goals first | rfl | skip
    rw [hkl, List.take_length]
    exact congrArg unks hall
def cntF (a : Nat) (c : List Int) : Nat := min (a * c.length) 2001
theorem cnt_le : ∀ (l : List (List Int)) (a : Nat), a ≤ 2001 → l.foldl cntF a ≤ 2001
  | [], a, h => h
  | c :: l, a, h => cnt_le l (cntF a c) (Nat.min_le_right _ _)
theorem cnt_step (a : Nat) (c : List Int) (h : a ≤ 2001) (hc : c.length < 1073741824) : ((cntF a c : Nat) : Int) = if 2001 < IntKind.i64.wrap ((a : Int) * (c.length : Int)) then 2001 else IntKind.i64.wrap ((a : Int) * (c.length : Int)) := by
  have h1 : a * c.length ≤ 2001 * 1073741824 := Nat.mul_le_mul h (by omega)
  have h2 : ((a : Int) * (c.length : Int)) = ((a * c.length : Nat) : Int) := by simp
  have h3 : IntKind.i64.wrap ((a : Int) * (c.length : Int)) = ((a * c.length : Nat) : Int) := by rw [h2, IntKind.wrap_i64]; omega
  rw [h3]
  unfold cntF
  generalize a * c.length = m at *
  split <;> omega
theorem chs_len (u : List Int) (s : Int) : (chs u s).length ≤ u.length := chsK_len u s _
set_option maxRecDepth 100000 in
theorem count_ok (q : Qual) (u : List Int) (d0 : Decl) (u0 : Int) (hq0 : q.decls[0]? = some d0) (hu0 : u[0]? = some u0) (hql : q.decls.length < 1073741824) (hu : u.length < 1073741824) : Pure Tryz.prog 20 [.agg q.svs, .agg [.ds 1 fun _ => ints u]] (.int .i64 fun _ => bif d0.sort == u0 then ((chAll q u).foldl cntF 1 : Nat) else 0) := by
  have hq : 1 ≤ q.decls.length := (List.getElem?_eq_some_iff.1 hq0).1
  have hu1 : 1 ≤ u.length := (List.getElem?_eq_some_iff.1 hu0).1
  refine pure_of (P := fun _ => Tryz.prog) tabOk Tryz.func20 rfl rfl ?_
  cbv
  refine .split (fun h => ?_) (fun _ => ?_)
  · have h : ((((Decl.rows q.decls).length : Nat) : Int) == 0) = true := h
    rw [Decl.rows_length] at h
    have := len0T h
    omega
  refine .split (fun h => ?_) (fun _ => ?_)
  · have h : ((((ints u).length : Nat) : Int) == 0) = true := h
    rw [ints_length] at h
    have := len0T h
    omega
  refine .need ⟨by decide, by rw [Decl.rows_length]; exact Int.ofNat_lt.2 hq⟩ ?_
  refine .row _ _ (Decl.rows_get hq0) (Decl.dvs_toSV _) ?_
  cbv
  refine .need ⟨by decide, by rw [ints_length]; exact Int.ofNat_lt.2 hu1⟩ ?_
  refine .row [.int .i64 u0] [.int .i64 fun _ => u0] (ints_get hu0) rfl ?_
  cbv
  refine .need rfl ?_
  refine .split (fun h => ?_) (fun h => ?_)
  · have h : (d0.sort != u0) = true := h
    (refine .fin () 99 trivial (le_of ?_); cbv; refine .mk ?_; repeat' (first | exact AllP.nil | refine AllP.cons (by with_reducible rfl) ?_ | refine AllP.cons ?_ ?_))
    all_goals try rfl
    rw [show (d0.sort == u0) = false by simpa using h]
    rfl
  · have h : (d0.sort != u0) = false := h
    rw [show (d0.sort == u0) = true by simpa using h, cond_true]
    refine .call (choices_ok q u hq hql hu) ?_ rfl rfl ?_
    · (cbv; refine .mk ?_; repeat' (first | exact AllP.nil | refine AllP.cons (by with_reducible rfl) ?_ | refine AllP.cons ?_ ?_))
      all_goals rfl
    cbv
    have hcl : (chAll q u).length ≤ q.decls.length := by simp [chAll]
    have hce : ∀ c ∈ chAll q u, c.length ≤ u.length := by
      intro c hc
      obtain ⟨d, _, rfl⟩ := List.mem_map.1 hc
      exact chs_len u d.sort
    generalize chAll q u = l at *
    refine .loop Nat (fun k => k ≤ l.length) (fun k => [(5, .int .i64 fun _ => ((l.take k).foldl cntF 1 : Nat)), (32, .ds 1 fun _ => unks l), (33, .int .i64 fun _ => (l.length : Int)), (34, .int .i64 fun _ => (k : Int))]) (fun _ => [(0, .cells 33 q.svs), (1, .cells 25 [.ds 1 fun _ => ints u])]) 2 (fun k => l.length - k) 0 (Nat.zero_le _) ?_ ?_
    · (refine le_of ?_; cbv; refine .mk ?_; repeat' (first | exact AllP.nil | refine AllP.cons (by with_reducible rfl) ?_ | refine AllP.cons ?_ ?_))
      all_goals first | rfl | (simp [lenL, unks_length]; done)
    rintro k hk
    cbv
    refine .split (fun h1 => ?_) (fun h1 => ?_)
    · have h1 : decide ((k : Int) < (l.length : Int)) = true := h1
      have hkl : k < l.length := Int.ofNat_lt.1 (of_decide_eq_true h1)
      refine Exists.elim (getI hkl) fun c hc => ?_
      refine .need ⟨by simp, by rw [unks_length]; exact Int.ofNat_lt.2 hkl⟩ ?_
      refine .row [.sl 1 (ints c)] [.ds 1 fun _ => ints c] (unks_get hc) rfl ?_
      cbv
      have hS := fold_take_succ cntF 1 hc
      have hcc := hce c (List.mem_of_getElem? hc)
      have hn := cnt_le (l.take k) 1 (by decide)
      refine .prop ⟨k + 1, hkl, by omega, ?_⟩
      (refine le_of ?_; cbv; refine .mk ?_; repeat' (first | exact AllP.nil | refine AllP.cons (by with_reducible rfl) ?_ | refine AllP.cons ?_ ?_))
      all_goals first | (first | rfl | exact ⟨rfl, rfl⟩ | (refine wrap64_of ?_ ?_ ?_ <;> simp only [natCast_eq] <;> omega)) | skip
      rw [hS, show lenL (fun _ => ints c) () = (c.length : Int) from by simp [lenL, ints_length]]
      exact cnt_step _ _ hn (by omega)
    · have h1 : decide ((k : Int) < (l.length : Int)) = false := h1
      have hkl : k = l.length := Nat.le_antisymm hk (Nat.le_of_not_lt fun h => of_decide_eq_false h1 (Int.ofNat_lt.2 h))
      (refine .fin () 99 trivial (le_of ?_); cbv; refine .mk ?_; repeat' (first | exact AllP.nil | refine AllP.cons (by with_reducible rfl) ?_ | refine AllP.cons ?_ ?_))
      all_goals first | rfl | skip
      rw [hkl, List.take_length]
end Go.Qu
