/- The qualifiers' Checks. -/
import Derived.Test.YtoaifhhfcokipaaGreatDoorXq
import Derived.Test.YtoaifhhfcokipaaGreatDoorXe
namespace Go.Qu
open Go.Eng Go.Proofs
structure Qual where
  name : ByteArray
  decls : List Decl
  node : Node
namespace Qual
def dvs (q : Qual) : List DV := [.str q.name, .sl 2 (Decl.rows q.decls), .int .i64 q.node.op, .int .i64 q.node.sort, .str q.node.name, .int .i64 q.node.num, .sl 5 (Node.rows q.node.kids)]
def svs (q : Qual) : List SV := [.str fun _ => q.name, .ds 2 fun _ => Decl.rows q.decls, .int .i64 fun _ => q.node.op, .int .i64 fun _ => q.node.sort, .str fun _ => q.node.name, .int .i64 fun _ => q.node.num, .ds 5 fun _ => Node.rows q.node.kids]
def rows (l : List Qual) : List (List DV) := l.map dvs
theorem rows_length (l : List Qual) : (rows l).length = l.length := by simp [rows]
theorem rows_get {l : List Qual} {i : Nat} {x : Qual} (h : l[i]? = some x) : (rows l)[i]? = some x.dvs := by simp [rows, h]
theorem dvs_toSV (x : Qual) : x.dvs.map DV.toSV = x.svs := rfl
end Qual
def declB (d : Decl) : Bool := (decide (1 ≤ d.sort) && decide (d.sort ≤ 5)) && nameB d.name
def declAt (l : List Decl) (i : Nat) : Bool := (l[i]?).any fun d => declB d && !((l.take i).any fun e => decide (e.name = d.name))
def declsB (l : List Decl) : Bool := (List.range l.length).all (declAt l)
def eqDB (d e : Decl) : Bool := decide (e.name = d.name) && e.sort == d.sort
def qualB (u : Node → Bool) (vs : Node → List Decl) (q : Qual) : Bool :=
  (decide (1 ≤ q.decls.length) && decide (q.decls.length ≤ 8)) && (declsB q.decls && ((checkV u q.node 2 == 0 && !holesB q.node) && (vs q.node).all fun d => q.decls.any (eqDB d)))
def qualV (u : Node → Bool) (vs : Node → List Decl) (q : Qual) : Int := bif qualB u vs q then 0 else 3
theorem eqDB_comm (d e : Decl) : eqDB d e = (decide (d.name = e.name) && (d.sort == e.sort && true)) := by
  unfold eqDB
  rw [Bool.and_true, Bool.eq_iff_iff]
  simp only [Bool.and_eq_true, decide_eq_true_eq, beq_iff_eq]
  exact ⟨fun h => ⟨h.1.symm, h.2.symm⟩, fun h => ⟨h.1.symm, h.2.symm⟩⟩
theorem eqDB_eq (d e : Decl) : eqDB d e = (decide (e.name = d.name) && (e.sort == d.sort && true)) := by
  unfold eqDB
  rw [Bool.and_true]
set_option maxRecDepth 100000 in
theorem indexD_ok (l : List Decl) (d : Decl) (hl : l.length < 4611686018427387904) :
    Pure Tryz.prog 58 [.ds 2 fun _ => Decl.rows l, .agg d.svs] (.int .i64 fun _ => idxOf (eqDB d) l) := by
  refine pure_of (P := fun _ => Tryz.prog) tabOk Tryz.func58 rfl rfl ?_
  cbv
  refine .loop Nat (fun k => k ≤ l.length ∧ (l.take k).any (eqDB d) = false) (fun k => [(6, .ds 2 fun _ => Decl.rows l), (7, .int .i64 fun _ => (l.length : Int)), (8, .int .i64 fun _ => (k : Int))]) (fun _ => [(0, .cells 42 d.svs)]) 1 (fun k => l.length - k) 0 ⟨Nat.zero_le _, by simp⟩ ?_ ?_
  · (refine le_of ?_; cbv; refine .mk ?_; repeat' (first | exact AllP.nil | refine AllP.cons (by with_reducible rfl) ?_ | refine AllP.cons ?_ ?_))
    all_goals first | rfl | (simp [lenL, Decl.rows_length]; done)
  rintro k ⟨hk, hn⟩
  cbv
  refine .split (fun h1 => ?_) (fun h1 => ?_)
  · have hkl : k < l.length := by simpa [lenL, Decl.rows_length] using h1
    obtain ⟨x, hx⟩ := getI hkl
    refine .need ⟨by simp, by simpa [Decl.rows_length] using hkl⟩ ?_
    refine .row _ _ (Decl.rows_get hx) (Decl.dvs_toSV _) ?_
    cbv
    refine .need rfl ?_
    refine .split (fun hp => ?_) (fun hp => ?_)
    · have hp : eqDB d x = true := (eqDB_comm d x).trans hp
      (refine .fin () 99 trivial (le_of ?_); cbv; refine .mk ?_; repeat' (first | exact AllP.nil | refine AllP.cons (by with_reducible rfl) ?_ | refine AllP.cons ?_ ?_))
      all_goals try rfl
      exact idxOf_hit hx hp hn
    · have hp : eqDB d x = false := (eqDB_comm d x).trans hp
      refine .prop ⟨k + 1, ⟨hkl, any_take_succ hx hn hp⟩, by omega, ?_⟩
      (refine le_of ?_; cbv; refine .mk ?_; repeat' (first | exact AllP.nil | refine AllP.cons (by with_reducible rfl) ?_ | refine AllP.cons ?_ ?_))
      all_goals (first | rfl | exact ⟨rfl, rfl⟩ | (refine wrap64_of ?_ ?_ ?_ <;> simp only [natCast_eq] <;> omega))
  · have hkl : k = l.length := by simp [lenL, Decl.rows_length] at h1; omega
    (refine .fin () 99 trivial (le_of ?_); cbv; refine .mk ?_; repeat' (first | exact AllP.nil | refine AllP.cons (by with_reducible rfl) ?_ | refine AllP.cons ?_ ?_))
    all_goals try rfl
    rw [hkl, List.take_length] at hn
    exact idxOf_none hn
set_option maxRecDepth 100000 in
theorem containsD_ok (l : List Decl) (d : Decl) (hl : l.length < 4611686018427387904) :
    Pure Tryz.prog 29 [.ds 2 fun _ => Decl.rows l, .agg d.svs] (.bs fun _ => l.any (eqDB d)) := by
  refine pure_of (P := fun _ => Tryz.prog) tabOk Tryz.func29 rfl rfl ?_
  cbv
  refine .call (indexD_ok l d hl) ?_ rfl rfl ?_
  · (cbv; refine .mk ?_; repeat' (first | exact AllP.nil | refine AllP.cons (by with_reducible rfl) ?_ | refine AllP.cons ?_ ?_))
    all_goals rfl
  cbv
  (refine .fin () 99 trivial (le_of ?_); cbv; refine .mk ?_; repeat' (first | exact AllP.nil | refine AllP.cons (by with_reducible rfl) ?_ | refine AllP.cons ?_ ?_))
  all_goals try rfl
  exact (idxOf_nonneg (eqDB d) l).symm
set_option maxRecDepth 100000 in
theorem qual2_ok (q : Qual) (hsz : Sm q.node) : Pure Tryz.prog 9 [.agg q.svs] (.int .i64 fun _ => qualV uniB varsB q) := by
  refine pure_of (P := fun _ => Tryz.prog) tabOk Tryz.func9 rfl rfl ?_
  cbv
  have hx2 : q.node.size < 1073741824 := hsz
  have hqv : qualV uniB varsB q = bif qualB uniB varsB q then 0 else 3 := rfl
  refine .split (fun h1 => ?_) (fun h1 => ?_)
  · have h1 : (decide (((Decl.rows q.decls).length : Int) < 1) || decide (8 < ((Decl.rows q.decls).length : Int))) = true := h1
    rw [Decl.rows_length] at h1
    have h2 : qualB uniB varsB q = false := by
      unfold qualB
      simp only [Bool.or_eq_true, decide_eq_true_eq] at h1
      rw [Bool.and_eq_false_iff]
      refine .inl ?_
      rw [Bool.and_eq_false_iff, decide_eq_false_iff_not, decide_eq_false_iff_not]
      omega
    (refine .fin () 99 trivial (le_of ?_); cbv; refine .mk ?_; repeat' (first | exact AllP.nil | refine AllP.cons (by with_reducible rfl) ?_ | refine AllP.cons ?_ ?_))
    all_goals try rfl
    show qualV uniB varsB q = _
    rw [hqv, h2]
    rfl
  have h1 : (decide (((Decl.rows q.decls).length : Int) < 1) || decide (8 < ((Decl.rows q.decls).length : Int))) = false := h1
  rw [Decl.rows_length] at h1
  simp only [Bool.or_eq_false_iff, decide_eq_false_iff_not] at h1
  have hlen : (decide (1 ≤ q.decls.length) && decide (q.decls.length ≤ 8)) = true := by
    rw [Bool.and_eq_true, decide_eq_true_eq, decide_eq_true_eq]
    omega
  have hl8 : q.decls.length ≤ 8 := by omega
  rw [qualB, hlen, Bool.true_and] at hqv
  refine .loop Nat (fun k => k ≤ q.decls.length ∧ (List.range k).all (declAt q.decls) = true) (fun k => [(18, .ds 2 fun _ => Decl.rows q.decls), (19, .int .i64 fun _ => (q.decls.length : Int)), (20, .int .i64 fun _ => (k : Int))]) (fun _ => [(0, .cells 33 q.svs)]) 1 (fun k => q.decls.length - k) 0 ⟨Nat.zero_le _, rfl⟩ ?_ ?_
  · (refine le_of ?_; cbv; refine .mk ?_; repeat' (first | exact AllP.nil | refine AllP.cons (by with_reducible rfl) ?_ | refine AllP.cons ?_ ?_))
    all_goals first | rfl | (simp [lenL, Decl.rows_length]; done)
  rintro k ⟨hk1, hk2⟩
  cbv
  refine .split (fun h2 => ?_) (fun h2 => ?_)
  · have hkl : k < q.decls.length := by simpa [lenL, Decl.rows_length] using h2
    obtain ⟨d, hd⟩ := getI hkl
    refine .need ⟨by simp, by simpa [Decl.rows_length] using hkl⟩ ?_
    refine .row _ _ (Decl.rows_get hd) (Decl.dvs_toSV _) ?_
    cbv
    have hda : declAt q.decls k = (declB d && !((q.decls.take k).any fun e => decide (e.name = d.name))) := by rw [declAt, hd]; rfl
    have hbad : declAt q.decls k = false → qualV uniB varsB q = 3 := by
      intro h
      have : declsB q.decls = false := List.all_eq_false.2 ⟨k, List.mem_range.2 hkl, by rw [h]; decide⟩
      rw [hqv, this]
      rfl
    rw [hda] at hbad
    refine .split (fun h3 => ?_) (fun h3 => ?_)
    · have h3 : decide (d.sort < 1) = true := h3
      have h3 : ¬ 1 ≤ d.sort := by simp at h3; omega
      (refine .fin () 99 trivial (le_of ?_); cbv; refine .mk ?_; repeat' (first | exact AllP.nil | refine AllP.cons (by with_reducible rfl) ?_ | refine AllP.cons ?_ ?_))
      all_goals try rfl
      exact hbad (by simp [declB, h3])
    have h3 : decide (d.sort < 1) = false := h3
    have h3 : 1 ≤ d.sort := by simp at h3; omega
    refine .split (fun h4 => ?_) (fun h4 => ?_)
    · have h4 : decide (5 < d.sort) = true := h4
      have h4 : ¬ d.sort ≤ 5 := by simp at h4; omega
      (refine .fin () 99 trivial (le_of ?_); cbv; refine .mk ?_; repeat' (first | exact AllP.nil | refine AllP.cons (by with_reducible rfl) ?_ | refine AllP.cons ?_ ?_))
      all_goals try rfl
      exact hbad (by simp [declB, h4])
    have h4 : decide (5 < d.sort) = false := h4
    have h4 : d.sort ≤ 5 := by simp at h4; omega
    refine .call (name2_ok d.name) ?_ rfl rfl ?_
    · (cbv; refine .mk ?_; repeat' (first | exact AllP.nil | refine AllP.cons (by with_reducible rfl) ?_ | refine AllP.cons ?_ ?_))
      all_goals rfl
    cbv
    refine .split (fun h5 => ?_) (fun h5 => ?_)
    · have h5 : (!nameB d.name) = true := h5
      have h5 : nameB d.name = false := by simpa using h5
      (refine .fin () 99 trivial (le_of ?_); cbv; refine .mk ?_; repeat' (first | exact AllP.nil | refine AllP.cons (by with_reducible rfl) ?_ | refine AllP.cons ?_ ?_))
      all_goals try rfl
      exact hbad (by simp [declB, h5])
    have h5 : (!nameB d.name) = false := h5
    have h5 : nameB d.name = true := by simpa using h5
    refine .need ⟨by simp, by show (k : Int) ≤ ((Decl.rows q.decls).length : Int); rw [Decl.rows_length]; exact Int.ofNat_le.2 hk1⟩ ?_
    refine .lend (containsDecl_ok (q.decls.take k) (fun e => decide (e.name = d.name)) 25 [.dp 2 (fun _ => [d.dvs]) (fun _ => 0) 0] (kbVs_sound _ rfl) (by rw [List.length_take]; omega) (fun x _ => check1_ok x d)) ?_ rfl rfl ?_
    · (cbv; refine .mk ?_; repeat' (first | exact AllP.nil | refine AllP.cons (by with_reducible rfl) ?_ | refine AllP.cons ?_ ?_))
      all_goals first | rfl | (simp [Decl.rows, List.map_take]; done)
    cbv
    refine .split (fun h6 => ?_) (fun h6 => ?_)
    · have h6 : ((q.decls.take k).any fun e => decide (e.name = d.name)) = true := h6
      (refine .fin () 99 trivial (le_of ?_); cbv; refine .mk ?_; repeat' (first | exact AllP.nil | refine AllP.cons (by with_reducible rfl) ?_ | refine AllP.cons ?_ ?_))
      all_goals try rfl
      exact hbad (by rw [h6]; simp)
    have h6 : ((q.decls.take k).any fun e => decide (e.name = d.name)) = false := h6
    refine .prop ⟨k + 1, ⟨hkl, ?_⟩, by omega, ?_⟩
    · rw [List.range_succ, List.all_append, hk2]
      simp [hda, declB, h3, h4, h5, h6]
    (refine le_of ?_; cbv; refine .mk ?_; repeat' (first | exact AllP.nil | refine AllP.cons (by with_reducible rfl) ?_ | refine AllP.cons ?_ ?_))
    all_goals (first | rfl | exact ⟨rfl, rfl⟩ | (refine wrap64_of ?_ ?_ ?_ <;> simp only [natCast_eq] <;> omega))
  · have hkl : k = q.decls.length := by simp [lenL, Decl.rows_length] at h2; omega
    have hD : declsB q.decls = true := by rw [declsB, ← hkl]; exact hk2
    rw [hD, Bool.true_and] at hqv
    refine .call (check2T_ok q.node 2 hsz) ?_ rfl rfl ?_
    · (cbv; refine .mk ?_; repeat' (first | exact AllP.nil | refine AllP.cons (by with_reducible rfl) ?_ | refine AllP.cons ?_ ?_))
      all_goals rfl
    cbv
    refine .split (fun h3 => ?_) (fun h3 => ?_)
    · have h3 : (checkV uniB q.node 2 != 0) = true := h3
      (refine .fin () 99 trivial (le_of ?_); cbv; refine .mk ?_; repeat' (first | exact AllP.nil | refine AllP.cons (by with_reducible rfl) ?_ | refine AllP.cons ?_ ?_))
      all_goals try rfl
      rw [hqv, show (checkV uniB q.node 2 == 0) = false by simpa using h3]
      rfl
    have h3 : (checkV uniB q.node 2 != 0) = false := h3
    rw [show (checkV uniB q.node 2 == 0) = true by simpa using h3, Bool.true_and] at hqv
    refine .call (holes_ok q.node (Sm.big hsz)) ?_ rfl rfl ?_
    · (cbv; refine .mk ?_; repeat' (first | exact AllP.nil | refine AllP.cons (by with_reducible rfl) ?_ | refine AllP.cons ?_ ?_))
      all_goals rfl
    cbv
    refine .split (fun h4 => ?_) (fun h4 => ?_)
    · have h4 : holesB q.node = true := h4
      (refine .fin () 99 trivial (le_of ?_); cbv; refine .mk ?_; repeat' (first | exact AllP.nil | refine AllP.cons (by with_reducible rfl) ?_ | refine AllP.cons ?_ ?_))
      all_goals try rfl
      rw [hqv, h4]
      rfl
    have h4 : holesB q.node = false := h4
    rw [h4, Bool.not_false, Bool.true_and] at hqv
    refine .call (vars2_ok q.node hsz) ?_ rfl rfl ?_
    · (cbv; refine .mk ?_; repeat' (first | exact AllP.nil | refine AllP.cons (by with_reducible rfl) ?_ | refine AllP.cons ?_ ?_))
      all_goals rfl
    cbv
    have hvl := put2s_len q.node.pre []
    have hvp := pre_length q.node
    have hvl : (varsB q.node).length ≤ 0 + q.node.pre.length := hvl
    refine .loop Nat (fun k => k ≤ (varsB q.node).length ∧ ((varsB q.node).take k).all (fun d => q.decls.any (eqDB d)) = true) (fun k => [(59, .ds 2 fun _ => Decl.rows (varsB q.node)), (60, .int .i64 fun _ => ((varsB q.node).length : Int)), (61, .int .i64 fun _ => (k : Int))]) (fun _ => [(0, .cells 33 q.svs)]) 1 (fun k => (varsB q.node).length - k) 0 ⟨Nat.zero_le _, rfl⟩ ?_ ?_
    · (refine le_of ?_; cbv; refine .mk ?_; repeat' (first | exact AllP.nil | refine AllP.cons (by with_reducible rfl) ?_ | refine AllP.cons ?_ ?_))
      all_goals first | rfl | (simp [lenL, Decl.rows_length]; done)
    generalize varsB q.node = v at *
    clear h2 hk1 hk2 hkl
    rintro k ⟨hk1, hk2⟩
    cbv
    refine .split (fun h2 => ?_) (fun h2 => ?_)
    · have hkl : k < v.length := by simpa [lenL, Decl.rows_length] using h2
      obtain ⟨d, hd⟩ := getI hkl
      refine .need ⟨by simp, by simpa [Decl.rows_length] using hkl⟩ ?_
      refine .row _ _ (Decl.rows_get hd) (Decl.dvs_toSV _) ?_
      cbv
      refine .call (containsD_ok q.decls d (by omega)) ?_ rfl rfl ?_
      · (cbv; refine .mk ?_; repeat' (first | exact AllP.nil | refine AllP.cons (by with_reducible rfl) ?_ | refine AllP.cons ?_ ?_))
        all_goals rfl
      cbv
      refine .split (fun h5 => ?_) (fun h5 => ?_)
      · have h5 : (!q.decls.any (eqDB d)) = true := h5
        (refine .fin () 99 trivial (le_of ?_); cbv; refine .mk ?_; repeat' (first | exact AllP.nil | refine AllP.cons (by with_reducible rfl) ?_ | refine AllP.cons ?_ ?_))
        all_goals try rfl
        rw [hqv, show (v.all fun d => q.decls.any (eqDB d)) = false from List.all_eq_false.2 ⟨d, List.mem_of_getElem? hd, by simpa using h5⟩]
        rfl
      · have h5 : (!q.decls.any (eqDB d)) = false := h5
        refine .prop ⟨k + 1, ⟨hkl, all_take_succ hd hk2 (by simpa using h5)⟩, by omega, ?_⟩
        (refine le_of ?_; cbv; refine .mk ?_; repeat' (first | exact AllP.nil | refine AllP.cons (by with_reducible rfl) ?_ | refine AllP.cons ?_ ?_))
        all_goals (first | rfl | exact ⟨rfl, rfl⟩ | (refine wrap64_of ?_ ?_ ?_ <;> simp only [natCast_eq] <;> omega))
    · have hkl : k = v.length := by simp [lenL, Decl.rows_length] at h2; omega
      (refine .fin () 99 trivial (le_of ?_); cbv; refine .mk ?_; repeat' (first | exact AllP.nil | refine AllP.cons (by with_reducible rfl) ?_ | refine AllP.cons ?_ ?_))
      all_goals try rfl
      rw [hkl, List.take_length] at hk2
      rw [hqv, hk2]
      rfl
end Go.Qu
