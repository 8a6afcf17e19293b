/- The statement's function. -/
import Derived.Test.YtoaifhhfcokipaaGreatDoorYc
namespace Go.Qu
open Go.Eng Go.Proofs
set_option maxRecDepth 100000 in
set_option maxHeartbeats 1600000 in
theorem awake_ok : Pure Tryz.prog 4 [] (.bs fun _ => true) := by
  have hc := cand2_ok [awQ] [1] (by decide) (fun q hq => by rw [List.mem_singleton] at hq; rw [hq]; decide +kernel) (by decide) _ aw_val
  have h1 := two_ok 38 awI awV
  have h2 := two_ok 38 awI awZ
  have h3 := eq1_ok (awN awZ) (awN awZ) (by decide +kernel) (by decide +kernel)
  rw [Node.cmp_self] at h3
  refine Exists.elim (show ∃ n, awN awZ = n from ⟨_, rfl⟩) fun n hn => ?_
  rw [hn] at hc h3
  rw [show Node.mk 38 0 ⟨#[]⟩ 0 [awI, awZ] = n from hn] at h2
  refine Exists.elim (show ∃ L, [n] = L from ⟨_, rfl⟩) fun L hL => ?_
  refine Exists.elim (show ∃ e : Int, 0 = e from ⟨_, rfl⟩) fun e he => ?_
  rw [hL] at hc
  have hc : Pure Tryz.prog 11 [.ds 7 fun _ => Qual.rows [awQ], .agg [.ds 1 fun _ => ints [1]]] (.tup [.ds 5 fun _ => Node.rows L, .int .i64 fun _ => e]) := by rw [← he]; exact hc
  have hl0 : L[0]? = some n := by rw [← hL]; rfl
  have hll : L.length = 1 := by rw [← hL]; rfl
  refine pure_of (P := fun _ => Tryz.prog) tabOk Tryz.func4 rfl rfl ?_
  cbv
  refine .call h1 ?_ rfl rfl ?_
  · (cbv; refine .mk ?_; repeat' (first | exact AllP.nil | refine AllP.cons (by with_reducible rfl) ?_ | refine AllP.cons ?_ ?_))
    all_goals first | rfl | exact ⟨rfl, rfl⟩
  cbv
  refine .call hc ?_ rfl rfl ?_
  · (cbv; refine .mk ?_; repeat' (first | exact AllP.nil | refine AllP.cons (by with_reducible rfl) ?_ | refine AllP.cons ?_ ?_))
    all_goals first | rfl | exact ⟨rfl, rfl⟩
  cbv
  refine .split (fun _ => ?_) (fun h => absurd h (by rw [← he]; decide))
  refine .split (fun _ => ?_) (fun h => absurd (show (((Node.rows L).length : Nat) : Int) == 1 from by rw [Node.rows_length, hll]; rfl) (by rw [show ((((Node.rows L).length : Nat) : Int) == 1) = false from h]; decide))
  refine .need ⟨by decide, by rw [Node.rows_length, hll]; decide⟩ ?_
  refine .row _ _ (Node.rows_get hl0) (Node.row_toSV _) ?_
  cbv
  refine .callD h2 ?_ rfl rfl (fun h => nomatch h) ?_ rfl
  · (cbv; refine .mk ?_; repeat' (first | exact AllP.nil | refine AllP.cons (by with_reducible rfl) ?_ | refine AllP.cons ?_ ?_))
    all_goals first | rfl | exact ⟨rfl, rfl⟩
  cbv
  refine .callD h3 ?_ rfl rfl (fun h => nomatch h) ?_ rfl
  · (cbv; refine .mk ?_; repeat' (first | exact AllP.nil | refine AllP.cons (by with_reducible rfl) ?_ | refine AllP.cons ?_ ?_))
    all_goals rfl
  cbv
  refine .need rfl ?_
  (refine .fin () 99 trivial (le_of ?_); cbv; refine .mk ?_; repeat' (first | exact AllP.nil | refine AllP.cons (by with_reducible rfl) ?_ | refine AllP.cons ?_ ?_))
  all_goals rfl
theorem fold_insF {ns acc : List Node} (h : ∀ x ∈ acc, Sm x) (h2 : ∀ x ∈ ns, Sm x) : ∀ x ∈ ns.foldl insF acc, Sm x := (insF_fact (N := acc.length) h h2 (Nat.le_refl _)).2
theorem candGo_fact (ins : Qual → List Node × Int) : ∀ (qs : List Qual) (acc : List Node), (∀ x ∈ acc, Sm x) → (∀ q ∈ qs, ∀ x ∈ (ins q).1, Sm x) → (candGo ins insF acc qs).1.length ≤ 400 ∧ ∀ x ∈ (candGo ins insF acc qs).1, Sm x
  | [], acc, h, _ => by
    rw [candGo]
    cases h1 : decide (400 < acc.length)
    · exact ⟨Nat.le_of_not_lt (of_decide_eq_false h1), h⟩
    · exact ⟨Nat.zero_le _, fun x hx => nomatch hx⟩
  | q :: qs, acc, h, h2 => by
    rw [candGo]
    cases (ins q).2 != 0
    · exact candGo_fact ins qs _ (fold_insF h (h2 q List.mem_cons_self)) fun q hq => h2 q (List.mem_cons_of_mem _ hq)
    · exact ⟨Nat.zero_le _, fun x hx => nomatch hx⟩
theorem candV_fact (qs : List Qual) (u : List Int) (hsz : ∀ q ∈ qs, Sm q.node) : (candV (qualB uniB varsB) (fun q => instV (qualB uniB varsB q) q u) insF qs u).1.length ≤ 400 ∧ ∀ x ∈ (candV (qualB uniB varsB) (fun q => instV (qualB uniB varsB q) q u) insF qs u).1, Sm x := by
  unfold candV
  cases !(unkB u && qs.all (qualB uniB varsB))
  · exact candGo_fact _ qs [] (fun x hx => nomatch hx) fun q hq x hx => Nat.lt_of_le_of_lt ((instV_fact _ q u).2 x hx) (hsz q hq)
  · exact ⟨Nat.zero_le _, fun x hx => nomatch hx⟩
set_option maxRecDepth 100000 in
set_option maxHeartbeats 1600000 in
theorem law_ok (qs : List Qual) (u : List Int) (hq : qs.length < 1073741824) (hsz : ∀ q ∈ qs, Sm q.node) (hul : u.length < 1073741824) : Pure Tryz.prog 3 [.ds 7 fun _ => Qual.rows qs, .agg [.ds 1 fun _ => ints u]] (.bs fun _ => true) := by
  have hlg := light_ok qs hq hsz
  have hlv : lightB qs = true → qs.length ≤ 20 := fun h => by
    unfold lightB at h
    exact of_decide_eq_true (Bool.and_eq_true_iff.1 h).2
  generalize lightB qs = lt at *
  refine pure_of (P := fun _ => Tryz.prog) tabOk Tryz.func3 rfl rfl ?_
  cbv
  refine .call0 awake_ok ?_ rfl ?_
  · trivial
  cbv
  refine .split (fun h => nomatch h) (fun _ => ?_)
  refine .call hlg ?_ rfl rfl ?_
  · (cbv; refine .mk ?_; repeat' (first | exact AllP.nil | refine AllP.cons (by with_reducible rfl) ?_ | refine AllP.cons ?_ ?_))
    all_goals rfl
  cbv
  refine .split (fun _ => ?_) (fun h1 => ?_)
  · (refine .fin () 99 trivial (le_of ?_); cbv; refine .mk ?_; repeat' (first | exact AllP.nil | refine AllP.cons (by with_reducible rfl) ?_ | refine AllP.cons ?_ ?_))
    all_goals rfl
  have h1 : (!lt || decide (60 < (((ints u).length : Nat) : Int))) = false := h1
  have hlt : lt = true := by
    cases lt
    · cases h1
    · rfl
  have hq20 := hlv hlt
  have hcv := cand2_ok qs u (by omega) hsz hul
  have hcw := cand1_ok qs u (by omega) hsz hul
  have hsame := candV_same qs u
  have hvf := candV_fact qs u hsz
  have hcf := hvf.2
  have hcl := hvf.1
  generalize candV (qualB uniB varsB) (fun q => instV (qualB uniB varsB q) q u) insF qs u = V at *
  rw [← hsame] at hcw
  have hcv := hcv V rfl
  have hcw := hcw V rfl
  have hnd := nodes_ok V.1 V.1 hcf hcf (by omega)
  rw [cmpL_self, decide_eq_true rfl] at hnd
  have hnd : Pure Tryz.prog 8 [.ds 5 fun _ => Node.rows V.1, .ds 5 fun _ => Node.rows V.1] (.bs fun _ => true) := hnd
  refine .loop Nat (fun k => k ≤ qs.length) (fun k => [(26, .ds 7 fun _ => Qual.rows qs), (27, .int .i64 fun _ => (qs.length : Int)), (28, .int .i64 fun _ => (k : Int))]) (fun _ => [(0, .cells 25 [.ds 1 fun _ => ints u])]) 1 (fun k => qs.length - k) 0 (Nat.zero_le _) ?_ ?_
  · (refine le_of ?_; cbv; refine .mk ?_; repeat' (first | exact AllP.nil | refine AllP.cons (by with_reducible rfl) ?_ | refine AllP.cons ?_ ?_))
    all_goals first | rfl | (simp [lenL, Qual.rows_length]; done)
  rintro k hk
  cbv
  refine .split (fun h2 => ?_) (fun h2 => ?_)
  · have hkl : k < qs.length := ltT h2
    refine Exists.elim (getI hkl) fun q hqq => ?_
    have hqs := hsz q (List.mem_of_getElem? hqq)
    have hi2 := inst2_ok q u hqs hul
    have hi1 := inst1_ok q u hqs hul
    have hif := instV_fact (qualB uni1B (gatherN []) q) q u
    have hq2 := qual2_ok q hqs
    have hq1 := qual1_ok q hqs
    unfold qualV at hq2 hq1
    rw [qualB_same] at hi2 hq2
    generalize instV (qualB uni1B (gatherN []) q) q u = I at *
    generalize (bif qualB uni1B (gatherN []) q then (0 : Int) else 3) = cd at *
    have hsI : ∀ x ∈ I.1, Sm x := fun x hx => Nat.lt_of_le_of_lt (hif.2 x hx) hqs
    have hni := nodes_ok I.1 I.1 hsI hsI (by omega)
    rw [cmpL_self, decide_eq_true rfl] at hni
    have hni : Pure Tryz.prog 8 [.ds 5 fun _ => Node.rows I.1, .ds 5 fun _ => Node.rows I.1] (.bs fun _ => true) := hni
    refine .need ⟨by simp, by rw [Qual.rows_length]; exact Int.ofNat_lt.2 hkl⟩ ?_
    refine .row _ _ (Qual.rows_get hqq) (Qual.dvs_toSV _) ?_
    cbv
    refine .call hi2 ?_ rfl rfl ?_
    · (cbv; refine .mk ?_; repeat' (first | exact AllP.nil | refine AllP.cons (by with_reducible rfl) ?_ | refine AllP.cons ?_ ?_))
      all_goals rfl
    cbv
    refine .call hi1 ?_ rfl rfl ?_
    · (cbv; refine .mk ?_; repeat' (first | exact AllP.nil | refine AllP.cons (by with_reducible rfl) ?_ | refine AllP.cons ?_ ?_))
      all_goals rfl
    cbv
    refine .split (fun h3 => ?_) (fun _ => ?_)
    · exact absurd h3 (by simp)
    refine .callD hni ?_ rfl rfl (fun h => nomatch h) ?_ rfl
    · (cbv; refine .mk ?_; repeat' (first | exact AllP.nil | refine AllP.cons (by with_reducible rfl) ?_ | refine AllP.cons ?_ ?_))
      all_goals rfl
    cbv
    refine .split (fun h => nomatch h) (fun _ => ?_)
    refine .callD hq2 ?_ rfl rfl (fun h => nomatch h) ?_ rfl
    · (cbv; refine .mk ?_; repeat' (first | exact AllP.nil | refine AllP.cons (by with_reducible rfl) ?_ | refine AllP.cons ?_ ?_))
      all_goals rfl
    cbv
    refine .callD hq1 ?_ rfl rfl (fun h => nomatch h) ?_ rfl
    · (cbv; refine .mk ?_; repeat' (first | exact AllP.nil | refine AllP.cons (by with_reducible rfl) ?_ | refine AllP.cons ?_ ?_))
      all_goals rfl
    cbv
    refine .need rfl ?_
    refine .split (fun h => absurd h (by simp)) (fun _ => ?_)
    refine .prop ⟨k + 1, hkl, by omega, ?_⟩
    (refine le_of ?_; cbv; refine .mk ?_; repeat' (first | exact AllP.nil | refine AllP.cons (by with_reducible rfl) ?_ | refine AllP.cons ?_ ?_))
    all_goals (first | rfl | exact ⟨rfl, rfl⟩ | (refine wrap64_of ?_ ?_ ?_ <;> simp only [natCast_eq] <;> omega))
  · have hkl : k = qs.length := Nat.le_antisymm hk (geF h2)
    refine .call hcv ?_ rfl rfl ?_
    · (cbv; refine .mk ?_; repeat' (first | exact AllP.nil | refine AllP.cons (by with_reducible rfl) ?_ | refine AllP.cons ?_ ?_))
      all_goals rfl
    cbv
    refine .call hcw ?_ rfl rfl ?_
    · (cbv; refine .mk ?_; repeat' (first | exact AllP.nil | refine AllP.cons (by with_reducible rfl) ?_ | refine AllP.cons ?_ ?_))
      all_goals rfl
    cbv
    refine .split (fun _ => ?_) (fun h => absurd h (by simp))
    refine .call hnd ?_ rfl rfl ?_
    · (cbv; refine .mk ?_; repeat' (first | exact AllP.nil | refine AllP.cons (by with_reducible rfl) ?_ | refine AllP.cons ?_ ?_))
      all_goals rfl
    cbv
    (refine .fin () 99 trivial (le_of ?_); cbv; refine .mk ?_; repeat' (first | exact AllP.nil | refine AllP.cons (by with_reducible rfl) ?_ | refine AllP.cons ?_ ?_))
    all_goals rfl
end Go.Qu
