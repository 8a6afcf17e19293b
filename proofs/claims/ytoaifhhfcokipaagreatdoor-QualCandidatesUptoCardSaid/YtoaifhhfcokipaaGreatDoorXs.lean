/- The reference's Check of a qualifier. -/
import Derived.Test.YtoaifhhfcokipaaGreatDoorXr
namespace Go.Qu
open Go.Eng Go.Proofs
set_option maxRecDepth 100000 in
theorem qual1_ok (q : Qual) (hsz : Sm q.node) : Pure Tryz.prog 10 [.agg q.svs] (.int .i64 fun _ => qualV uni1B (gatherN []) q) := by
  have hx2 : q.node.size < 1073741824 := hsz
  have hqv : qualV uni1B (gatherN []) q = bif qualB uni1B (gatherN []) q then 0 else 3 := rfl
  refine pure_of (P := fun _ => Tryz.prog) tabOk Tryz.func10 rfl rfl ?_
  cbv
  have hshort : (q.decls.length < 1 ∨ 8 < q.decls.length) → qualV uni1B (gatherN []) q = 3 := by
    intro h
    have h2 : qualB uni1B (gatherN []) q = false := by
      unfold qualB
      rw [Bool.and_eq_false_iff]
      refine .inl ?_
      rw [Bool.and_eq_false_iff, decide_eq_false_iff_not, decide_eq_false_iff_not]
      omega
    rw [hqv, h2]
    rfl
  refine .split (fun h1 => ?_) (fun h1 => ?_)
  · have h1 : decide (((Decl.rows q.decls).length : Int) < 1) = true := h1
    rw [Decl.rows_length] at h1
    have h1 : q.decls.length < 1 := Int.ofNat_lt.1 (of_decide_eq_true h1)
    (refine .fin () 99 trivial (le_of ?_); cbv; refine .mk ?_; repeat' (first | exact AllP.nil | refine AllP.cons (by with_reducible rfl) ?_ | refine AllP.cons ?_ ?_))
    all_goals try rfl
    exact hshort (by omega)
  have h1 : decide (((Decl.rows q.decls).length : Int) < 1) = false := h1
  rw [Decl.rows_length] at h1
  have h1 : ¬ q.decls.length < 1 := fun h => of_decide_eq_false h1 (Int.ofNat_lt.2 h)
  refine .split (fun h0 => ?_) (fun h0 => ?_)
  · have h0 : decide (8 < ((Decl.rows q.decls).length : Int)) = true := h0
    rw [Decl.rows_length] at h0
    have h0 : 8 < q.decls.length := Int.ofNat_lt.1 (of_decide_eq_true h0)
    (refine .fin () 99 trivial (le_of ?_); cbv; refine .mk ?_; repeat' (first | exact AllP.nil | refine AllP.cons (by with_reducible rfl) ?_ | refine AllP.cons ?_ ?_))
    all_goals try rfl
    exact hshort (by omega)
  have h0 : decide (8 < ((Decl.rows q.decls).length : Int)) = false := h0
  rw [Decl.rows_length] at h0
  have h0 : ¬ 8 < q.decls.length := fun h => of_decide_eq_false h0 (Int.ofNat_lt.2 h)
  have hlen : (decide (1 ≤ q.decls.length) && decide (q.decls.length ≤ 8)) = true := by
    rw [Bool.and_eq_true, decide_eq_true_eq, decide_eq_true_eq]
    omega
  have hl8 : q.decls.length ≤ 8 := by omega
  rw [qualB, hlen, Bool.true_and] at hqv
  refine .call (check1T_ok q.node 2 hsz) ?_ rfl rfl ?_
  · (cbv; refine .mk ?_; repeat' (first | exact AllP.nil | refine AllP.cons (by with_reducible rfl) ?_ | refine AllP.cons ?_ ?_))
    all_goals rfl
  cbv
  refine .split (fun h3 => ?_) (fun h3 => ?_)
  · have h3 : (checkV uni1B q.node 2 != 0) = true := h3
    (refine .fin () 99 trivial (le_of ?_); cbv; refine .mk ?_; repeat' (first | exact AllP.nil | refine AllP.cons (by with_reducible rfl) ?_ | refine AllP.cons ?_ ?_))
    all_goals try rfl
    rw [hqv, show (checkV uni1B q.node 2 == 0) = false by simpa using h3, Bool.false_and, Bool.false_and, Bool.and_false]
    rfl
  have h3 : (checkV uni1B q.node 2 != 0) = false := h3
  rw [show (checkV uni1B q.node 2 == 0) = true by simpa using h3, Bool.true_and] at hqv
  refine .call (holes1_ok q.node hsz) ?_ rfl rfl ?_
  · (cbv; refine .mk ?_; repeat' (first | exact AllP.nil | refine AllP.cons (by with_reducible rfl) ?_ | refine AllP.cons ?_ ?_))
    all_goals rfl
  cbv
  refine .split (fun h4 => ?_) (fun h4 => ?_)
  · have h4 : holesB q.node = true := h4
    (refine .fin () 99 trivial (le_of ?_); cbv; refine .mk ?_; repeat' (first | exact AllP.nil | refine AllP.cons (by with_reducible rfl) ?_ | refine AllP.cons ?_ ?_))
    all_goals try rfl
    rw [hqv, h4, Bool.not_true, Bool.false_and, Bool.and_false]
    rfl
  have h4 : holesB q.node = false := h4
  rw [h4, Bool.not_false, Bool.true_and] at hqv
  refine .loop Nat (fun k => k ≤ q.decls.length ∧ (List.range k).all (declAt q.decls) = true) (fun k => [(33, .ds 2 fun _ => Decl.rows q.decls), (34, .int .i64 fun _ => (q.decls.length : Int)), (35, .int .i64 fun _ => (k : Int))]) (fun _ => [(0, .cells 33 q.svs)]) 1 (fun k => q.decls.length - k) 0 ⟨Nat.zero_le _, rfl⟩ ?_ ?_
  · (refine le_of ?_; cbv; refine .mk ?_; repeat' (first | exact AllP.nil | refine AllP.cons (by with_reducible rfl) ?_ | refine AllP.cons ?_ ?_))
    all_goals first | rfl | (simp [lenL, Decl.rows_length]; done)
  rintro k ⟨hk1, hk2⟩
  cbv
  refine .split (fun h2 => ?_) (fun h2 => ?_)
  · have hkl : k < q.decls.length := by simpa [lenL, Decl.rows_length] using h2
    obtain ⟨d, hd⟩ := getI hkl
    refine .need ⟨by simp, by simpa [Decl.rows_length] using hkl⟩ ?_
    refine .row _ _ (Decl.rows_get hd) (Decl.dvs_toSV _) ?_
    cbv
    have hda : declAt q.decls k = (declB d && !((q.decls.take k).any fun e => decide (e.name = d.name))) := by rw [declAt, hd]; rfl
    have hbad : declAt q.decls k = false → qualV uni1B (gatherN []) q = 3 := by
      intro h
      have : declsB q.decls = false := List.all_eq_false.2 ⟨k, List.mem_range.2 hkl, by rw [h]; decide⟩
      rw [hqv, this]
      rfl
    rw [hda] at hbad
    refine .split (fun h3 => ?_) (fun h3 => ?_)
    · have h3 : decide (d.sort < 1) = true := h3
      have h3 : ¬ 1 ≤ d.sort := by simp at h3; omega
      (refine .fin () 99 trivial (le_of ?_); cbv; refine .mk ?_; repeat' (first | exact AllP.nil | refine AllP.cons (by with_reducible rfl) ?_ | refine AllP.cons ?_ ?_))
      all_goals try rfl
      exact hbad (by simp [declB, h3])
    have h3 : decide (d.sort < 1) = false := h3
    have h3 : 1 ≤ d.sort := by simp at h3; omega
    refine .split (fun h4 => ?_) (fun h4 => ?_)
    · have h4 : decide (5 < d.sort) = true := h4
      have h4 : ¬ d.sort ≤ 5 := by simp at h4; omega
      (refine .fin () 99 trivial (le_of ?_); cbv; refine .mk ?_; repeat' (first | exact AllP.nil | refine AllP.cons (by with_reducible rfl) ?_ | refine AllP.cons ?_ ?_))
      all_goals try rfl
      exact hbad (by simp [declB, h4])
    have h4 : decide (5 < d.sort) = false := h4
    have h4 : d.sort ≤ 5 := by simp at h4; omega
    refine .call (name1_ok d.name) ?_ rfl rfl ?_
    · (cbv; refine .mk ?_; repeat' (first | exact AllP.nil | refine AllP.cons (by with_reducible rfl) ?_ | refine AllP.cons ?_ ?_))
      all_goals rfl
    cbv
    refine .split (fun h5 => ?_) (fun h5 => ?_)
    · have h5 : (!nameB d.name) = true := h5
      have h5 : nameB d.name = false := by simpa using h5
      (refine .fin () 99 trivial (le_of ?_); cbv; refine .mk ?_; repeat' (first | exact AllP.nil | refine AllP.cons (by with_reducible rfl) ?_ | refine AllP.cons ?_ ?_))
      all_goals try rfl
      exact hbad (by simp [declB, h5])
    have h5 : (!nameB d.name) = false := h5
    have h5 : nameB d.name = true := by simpa using h5
    refine .loop Nat (fun j => j ≤ k ∧ ((q.decls.take j).any fun e => decide (e.name = d.name)) = false) (fun j => [(5, .int .i64 fun _ => (j : Int))]) (fun _ => [(0, .cells 33 q.svs), (1, .cells 42 d.svs)]) 2 (fun j => k - j) 0 ⟨Nat.zero_le _, rfl⟩ ?_ ?_
    · (refine le_of ?_; cbv; refine .mk ?_; repeat' (first | exact AllP.nil | refine AllP.cons (by with_reducible rfl) ?_ | refine AllP.cons ?_ ?_))
      all_goals first | rfl | (simp [lenL, Decl.rows_length]; done)
    rintro j ⟨hj1, hj2⟩
    cbv
    refine .split (fun h6 => ?_) (fun h6 => ?_)
    · have h6 : decide ((j : Int) < (k : Int)) = true := h6
      have h6 : (j : Int) < (k : Int) := of_decide_eq_true h6
      have h6 : j < k := Int.ofNat_lt.1 h6
      have hjl : j < q.decls.length := Nat.lt_trans h6 hkl
      refine Exists.elim (getI hjl) fun e he => ?_
      refine .need ⟨by simp, by rw [Decl.rows_length]; exact Int.ofNat_lt.2 hjl⟩ ?_
      refine .row _ _ (Decl.rows_get he) (Decl.dvs_toSV _) ?_
      cbv
      refine .need rfl ?_
      refine .split (fun h7 => ?_) (fun h7 => ?_)
      · have h7 : decide (e.name = d.name) = true := h7
        have h8 : ((q.decls.take k).any fun e => decide (e.name = d.name)) = true := List.any_eq_true.2 ⟨e, List.mem_of_getElem? (by rw [List.getElem?_take, if_pos h6]; exact he), h7⟩
        (refine .fin () 99 trivial (le_of ?_); cbv; refine .mk ?_; repeat' (first | exact AllP.nil | refine AllP.cons (by with_reducible rfl) ?_ | refine AllP.cons ?_ ?_))
        all_goals try rfl
        exact hbad (by rw [h8]; simp)
      · have h7 : decide (e.name = d.name) = false := h7
        refine .prop ⟨j + 1, ⟨h6, any_take_succ he hj2 h7⟩, by omega, ?_⟩
        (refine le_of ?_; cbv; refine .mk ?_; repeat' (first | exact AllP.nil | refine AllP.cons (by with_reducible rfl) ?_ | refine AllP.cons ?_ ?_))
        all_goals (first | rfl | exact ⟨rfl, rfl⟩ | (refine wrap64_of ?_ ?_ ?_ <;> simp only [natCast_eq] <;> omega))
    · have h6 : decide ((j : Int) < (k : Int)) = false := h6
      have h6 : ¬ j < k := fun h => of_decide_eq_false h6 (Int.ofNat_lt.2 h)
      have hjk : j = k := by omega
      rw [hjk] at hj2
      refine .prop ⟨k + 1, ⟨hkl, ?_⟩, by omega, ?_⟩
      · rw [List.range_succ, List.all_append, hk2]
        simp [hda, declB, h3, h4, h5, hj2]
      (refine le_of ?_; cbv; refine .mk ?_; repeat' (first | exact AllP.nil | refine AllP.cons (by with_reducible rfl) ?_ | refine AllP.cons ?_ ?_))
      all_goals (first | rfl | exact ⟨rfl, rfl⟩ | (refine wrap64_of ?_ ?_ ?_ <;> simp only [natCast_eq] <;> omega))
  · have hkl : k = q.decls.length := by simp [lenL, Decl.rows_length] at h2; omega
    have hD : declsB q.decls = true := by rw [declsB, ← hkl]; exact hk2
    rw [hD, Bool.true_and] at hqv
    refine .call (vars1_ok q.node hsz) ?_ rfl rfl ?_
    · (cbv; refine .mk ?_; repeat' (first | exact AllP.nil | refine AllP.cons (by with_reducible rfl) ?_ | refine AllP.cons ?_ ?_))
      all_goals rfl
    cbv
    have hvl := gatherN_len q.node []
    rw [List.length_nil] at hvl
    generalize gatherN [] q.node = v at *
    refine .loop Nat (fun k => k ≤ v.length ∧ (v.take k).all (fun d => q.decls.any (eqDB d)) = true) (fun k => [(71, .ds 2 fun _ => Decl.rows v), (72, .int .i64 fun _ => (v.length : Int)), (73, .int .i64 fun _ => (k : Int))]) (fun _ => [(0, .cells 33 q.svs)]) 1 (fun k => v.length - k) 0 ⟨Nat.zero_le _, rfl⟩ ?_ ?_
    · (refine le_of ?_; cbv; refine .mk ?_; repeat' (first | exact AllP.nil | refine AllP.cons (by with_reducible rfl) ?_ | refine AllP.cons ?_ ?_))
      all_goals first | rfl | (simp [lenL, Decl.rows_length]; done)
    clear h2 hk1 hk2 hkl
    rintro k ⟨hk1, hk2⟩
    cbv
    refine .split (fun h2 => ?_) (fun h2 => ?_)
    · have hkl : k < v.length := by simpa [lenL, Decl.rows_length] using h2
      obtain ⟨d, hd⟩ := getI hkl
      refine .need ⟨by simp, by simpa [Decl.rows_length] using hkl⟩ ?_
      refine .row _ _ (Decl.rows_get hd) (Decl.dvs_toSV _) ?_
      cbv
      refine .loop Nat (fun j => j ≤ q.decls.length) (fun j => [(8, .bs fun _ => (q.decls.take j).any (eqDB d)), (78, .ds 2 fun _ => Decl.rows q.decls), (79, .int .i64 fun _ => (q.decls.length : Int)), (80, .int .i64 fun _ => (j : Int))]) (fun _ => [(0, .cells 33 q.svs), (1, .cells 42 d.svs)]) 2 (fun j => q.decls.length - j) 0 (Nat.zero_le _) ?_ ?_
      · (refine le_of ?_; cbv; refine .mk ?_; repeat' (first | exact AllP.nil | refine AllP.cons (by with_reducible rfl) ?_ | refine AllP.cons ?_ ?_))
        all_goals first | rfl | (simp [lenL, Decl.rows_length]; done)
      rintro j hj1
      cbv
      refine .split (fun h6 => ?_) (fun h6 => ?_)
      · have hjl : j < q.decls.length := by simpa [lenL, Decl.rows_length] using h6
        refine Exists.elim (getI hjl) fun e he => ?_
        refine .need ⟨by simp, by simpa [Decl.rows_length] using hjl⟩ ?_
        refine .row _ _ (Decl.rows_get he) (Decl.dvs_toSV _) ?_
        cbv
        have hS : (q.decls.take (j + 1)).any (eqDB d) = ((q.decls.take j).any (eqDB d) || eqDB d e) := by rw [List.take_add_one, he, List.any_append]; simp
        refine .prop ⟨j + 1, hjl, by omega, ?_⟩
        (refine le_of ?_; cbv; refine .mk ?_; repeat' (first | exact AllP.nil | refine AllP.cons (by with_reducible rfl) ?_ | refine AllP.cons ?_ ?_))
        all_goals first | (first | rfl | exact ⟨rfl, rfl⟩ | (refine wrap64_of ?_ ?_ ?_ <;> simp only [natCast_eq] <;> omega)) | (rw [hS, eqDB_eq]; done) | (rw [hS, eqDB_eq]; rfl)
      · have hjl : j = q.decls.length := by simp [lenL, Decl.rows_length] at h6; omega
        rw [hjl, List.take_length]
        refine .split (fun h7 => ?_) (fun h7 => ?_)
        · have h7 : (!q.decls.any (eqDB d)) = true := h7
          (refine .fin () 99 trivial (le_of ?_); cbv; refine .mk ?_; repeat' (first | exact AllP.nil | refine AllP.cons (by with_reducible rfl) ?_ | refine AllP.cons ?_ ?_))
          all_goals try rfl
          rw [hqv, show (v.all fun d => q.decls.any (eqDB d)) = false from List.all_eq_false.2 ⟨d, List.mem_of_getElem? hd, by simpa using h7⟩]
          rfl
        · have h7 : (!q.decls.any (eqDB d)) = false := h7
          refine .prop ⟨k + 1, ⟨hkl, all_take_succ hd hk2 (by simpa using h7)⟩, by omega, ?_⟩
          (refine le_of ?_; cbv; refine .mk ?_; repeat' (first | exact AllP.nil | refine AllP.cons (by with_reducible rfl) ?_ | refine AllP.cons ?_ ?_))
          all_goals (first | rfl | exact ⟨rfl, rfl⟩ | (refine wrap64_of ?_ ?_ ?_ <;> simp only [natCast_eq] <;> omega))
    · have hkl : k = v.length := by simp [lenL, Decl.rows_length] at h2; omega
      (refine .fin () 99 trivial (le_of ?_); cbv; refine .mk ?_; repeat' (first | exact AllP.nil | refine AllP.cons (by with_reducible rfl) ?_ | refine AllP.cons ?_ ?_))
      all_goals try rfl
      rw [hkl, List.take_length] at hk2
      rw [hqv, hk2]
      rfl
end Go.Qu
