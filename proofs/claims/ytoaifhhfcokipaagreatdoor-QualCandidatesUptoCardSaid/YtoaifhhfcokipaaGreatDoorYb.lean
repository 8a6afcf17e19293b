/- The program's Candidates. -/
import Derived.Test.YtoaifhhfcokipaaGreatDoorYa
import Derived.Test.YtoaifhhfcokipaaGreatDoorXy
namespace Go.Qu
open Go.Eng Go.Proofs
def insF (a : List Node) (n : Node) : List Node := insS Node.cmp n a
theorem insS_mem {α : Type} {cmp : α → α → Int} {d : α} {l : List α} {x : α} (h : x ∈ insS cmp d l) : x = d ∨ x ∈ l := by
  unfold insS at h
  cases hb : bsF cmp d l
  · rw [hb, cond_false] at h
    unfold insAt at h
    rcases List.mem_append.1 h with h | h
    · exact .inr (List.mem_of_mem_take h)
    · rcases List.mem_cons.1 h with h | h
      · exact .inl h
      · exact .inr (List.mem_of_mem_drop h)
  · rw [hb, cond_true] at h
    exact .inr h
theorem insF_fact {l : List Node} : ∀ {ns : List Node} {N : Nat}, (∀ x ∈ l, Sm x) → (∀ x ∈ ns, Sm x) → l.length ≤ N → (ns.foldl insF l).length ≤ N + ns.length ∧ ∀ x ∈ ns.foldl insF l, Sm x := by
  intro ns
  induction ns generalizing l with
  | nil => intro N h1 _ h3; exact ⟨h3, h1⟩
  | cons n ns ih =>
    intro N h1 h2 h3
    rw [List.foldl_cons]
    have := ih (l := insF l n) (N := N + 1) (fun x hx => by
      rcases insS_mem hx with h | h
      · rw [h]; exact h2 n List.mem_cons_self
      · exact h1 x h) (fun x hx => h2 x (List.mem_cons_of_mem _ hx)) (Nat.le_trans (insS_len Node.cmp n l) (Nat.succ_le_succ h3))
    refine ⟨?_, this.2⟩
    rw [List.length_cons]
    omega
theorem insAt_rows (l : List Node) (i : Nat) (x : Node) : insAt (Node.rows l) i x.dvs = Node.rows (insAt l i x) := by
  simp [insAt, Node.rows_eq, Node.row_dvs]
theorem any_not {α : Type} : ∀ (l : List α) (p : α → Bool), (l.any fun q => !p q) = !l.all p
  | [], _ => rfl
  | q :: l, p => by rw [List.any_cons, List.all_cons, any_not l p]; cases p q <;> rfl
set_option maxRecDepth 100000 in
set_option maxHeartbeats 1600000 in
theorem cand2_ok (qs : List Qual) (u : List Int) (hq : qs.length ≤ 1000) (hsz : ∀ q ∈ qs, Sm q.node) (hul : u.length < 1073741824) (V : List Node × Int) (hV : candV (qualB uniB varsB) (fun q => instV (qualB uniB varsB q) q u) insF qs u = V) :
    Pure Tryz.prog 11 [.ds 7 fun _ => Qual.rows qs, .agg [.ds 1 fun _ => ints u]] (.tup [.ds 5 fun _ => Node.rows V.1, .int .i64 fun _ => V.2]) := by
  have hcv : candV (qualB uniB varsB) (fun q => instV (qualB uniB varsB q) q u) insF qs u = bif !(unkB u && qs.all (qualB uniB varsB)) then ([], 3) else candGo (fun q => instV (qualB uniB varsB q) q u) insF [] qs := rfl
  rw [hV] at hcv
  clear hV
  have hins : ∀ q ∈ qs, Pure Tryz.prog 6 [.agg q.svs, .agg [.ds 1 fun _ => ints u]] (.tup [.ds 5 fun _ => Node.rows ((fun q => instV (qualB uniB varsB q) q u) q).1, .int .i64 fun _ => ((fun q => instV (qualB uniB varsB q) q u) q).2]) := fun q hq => inst2_ok q u (hsz q hq) hul
  have hfact : ∀ q ∈ qs, ((fun q => instV (qualB uniB varsB q) q u) q).1.length ≤ 2000 ∧ ∀ x ∈ ((fun q => instV (qualB uniB varsB q) q u) q).1, Sm x := fun q hq => ⟨(instV_fact _ q u).1, fun x hx => Nat.lt_of_le_of_lt ((instV_fact _ q u).2 x hx) (hsz q hq)⟩
  generalize hie : (fun q => instV (qualB uniB varsB q) q u) = ins at *
  have hqc := containsQual_ok qs (fun q => !qualB uniB varsB q) 35 (by omega) (fun q hq => bad35_ok q (hsz q hq))
  have hany := any_not qs (qualB uniB varsB)
  rw [hany] at hqc
  generalize qs.all (qualB uniB varsB) = al at *
  refine pure_of (P := fun _ => Tryz.prog) tabOk Tryz.func11 rfl rfl ?_
  cbv
  refine .call hqc ?_ rfl rfl ?_
  · (cbv; refine .mk ?_; repeat' (first | exact AllP.nil | refine AllP.cons (by with_reducible rfl) ?_ | refine AllP.cons ?_ ?_))
    all_goals first | rfl | exact ⟨rfl, rfl⟩
  cbv
  refine .split (fun h1 => ?_) (fun h1 => ?_)
  · have h1 : (!al) = true := h1
    have e : V = ([], 3) := by rw [hcv, show al = false by simpa using h1, Bool.and_false]; rfl
    rw [e]
    (refine .fin () 99 trivial (le_of ?_); cbv; refine .mk ?_; repeat' (first | exact AllP.nil | refine AllP.cons (by with_reducible rfl) ?_ | refine AllP.cons ?_ ?_))
    all_goals rfl
  have h1 : (!al) = false := h1
  rw [show al = true by simpa using h1, Bool.and_true] at hcv
  refine .call (unk16_ok u hul) ?_ rfl rfl ?_
  · (cbv; refine .mk ?_; repeat' (first | exact AllP.nil | refine AllP.cons (by with_reducible rfl) ?_ | refine AllP.cons ?_ ?_))
    all_goals rfl
  cbv
  refine .split (fun h2 => ?_) (fun h2 => ?_)
  · have h2 : (!unkB u) = true := h2
    have e : V = ([], 3) := by rw [hcv, h2]; rfl
    rw [e]
    (refine .fin () 99 trivial (le_of ?_); cbv; refine .mk ?_; repeat' (first | exact AllP.nil | refine AllP.cons (by with_reducible rfl) ?_ | refine AllP.cons ?_ ?_))
    all_goals rfl
  have h2 : (!unkB u) = false := h2
  rw [h2, cond_false] at hcv
  refine .loop (Nat × List Node) (fun s => s.1 ≤ qs.length ∧ s.2.length ≤ 2000 * s.1 ∧ (∀ x ∈ s.2, Sm x) ∧ V = candGo ins insF s.2 (qs.drop s.1)) (fun s => [(6, .os 1), (22, .ds 7 fun _ => Qual.rows qs), (23, .int .i64 fun _ => (qs.length : Int)), (24, .int .i64 fun _ => (s.1 : Int))]) (fun s => [(0, .cells 25 [.ds 1 fun _ => ints u]), (1, .arr 31 5 fun _ => Node.rows s.2)]) 2 (fun s => qs.length - s.1) (0, []) ⟨Nat.zero_le _, Nat.zero_le _, by simp, hcv⟩ ?_ ?_
  · (refine le_of ?_; cbv; refine .mk ?_; repeat' (first | exact AllP.nil | refine AllP.cons (by with_reducible rfl) ?_ | refine AllP.cons ?_ ?_))
    all_goals first | rfl | exact ⟨rfl, rfl⟩ | (simp [lenL, Qual.rows_length]; done)
  clear hcv
  rintro ⟨k, acc⟩ ⟨hk, hal, hsm, hcv⟩
  dsimp only at hk hal hsm hcv
  cbv
  refine .split (fun h1 => ?_) (fun h1 => ?_)
  · have hkl : k < qs.length := ltT h1
    refine Exists.elim (getI hkl) fun q hqq => ?_
    have hqm := List.mem_of_getElem? hqq
    have hik := hins q hqm
    have hfk := hfact q hqm
    rw [candGo_drop hqq] at hcv
    refine Exists.elim (show ∃ ns, (ins q).1 = ns from ⟨_, rfl⟩) fun ns hns => ?_
    refine Exists.elim (show ∃ cd, (ins q).2 = cd from ⟨_, rfl⟩) fun cd hcd => ?_
    rw [hns, hcd] at hik hcv
    rw [hns] at hfk
    refine .need ⟨by simp, by rw [Qual.rows_length]; exact Int.ofNat_lt.2 hkl⟩ ?_
    refine .row _ _ (Qual.rows_get hqq) (Qual.dvs_toSV _) ?_
    cbv
    refine .call hik ?_ rfl rfl ?_
    · (cbv; refine .mk ?_; repeat' (first | exact AllP.nil | refine AllP.cons (by with_reducible rfl) ?_ | refine AllP.cons ?_ ?_))
      all_goals rfl
    cbv
    refine .split (fun h3 => ?_) (fun h3 => ?_)
    · have h3 : (cd != 0) = true := h3
      rw [h3, cond_true] at hcv
      rw [hcv]
      (refine .fin () 99 trivial (le_of ?_); cbv; refine .mk ?_; repeat' (first | exact AllP.nil | refine AllP.cons (by with_reducible rfl) ?_ | refine AllP.cons ?_ ?_))
      all_goals rfl
    · have h3 : (cd != 0) = false := h3
      rw [h3, cond_false] at hcv
      refine .loop Nat (fun m => m ≤ ns.length) (fun m => [(6, .os 1), (37, .ds 5 fun _ => Node.rows ns), (38, .int .i64 fun _ => (ns.length : Int)), (39, .int .i64 fun _ => (m : Int))]) (fun m => [(0, .cells 25 [.ds 1 fun _ => ints u]), (1, .arr 31 5 fun _ => Node.rows ((ns.take m).foldl insF acc)), (2, .cells 33 q.svs)]) 3 (fun m => ns.length - m) 0 (Nat.zero_le _) ?_ ?_
      · (refine le_of ?_; cbv; refine .mk ?_; repeat' (first | exact AllP.nil | refine AllP.cons (by with_reducible rfl) ?_ | refine AllP.cons ?_ ?_))
        all_goals first | rfl | (simp [lenL, Node.rows_length]; done)
      rintro m hm
      cbv
      refine .split (fun h4 => ?_) (fun h4 => ?_)
      · have hml : m < ns.length := ltT h4
        refine Exists.elim (getI hml) fun x hx => ?_
        have hxs := hfk.2 x (List.mem_of_getElem? hx)
        have hpf := insF_fact (ns := ns.take m) hsm (fun x hx => hfk.2 x (List.mem_of_mem_take hx)) hal
        have hfs := fold_take_succ insF acc hx
        rw [List.length_take] at hpf
        refine .need ⟨by simp, by rw [Node.rows_length]; exact Int.ofNat_lt.2 hml⟩ ?_
        refine .row _ _ (Node.rows_get hx) (Node.row_toSV _) ?_
        cbv
        generalize (ns.take m).foldl insF acc = A at *
        have hAl : A.length < 1073741824 := by have := hfk.1; have := hpf.1; omega
        have hsr := searchNode_ok A x hAl 37 (fun y hy => cmp2_ok y x (hpf.2 y hy) hxs)
        refine .lend hsr ?_ rfl rfl ?_
        · (cbv; refine .mk ?_; repeat' (first | exact AllP.nil | refine AllP.cons (by with_reducible rfl) ?_ | refine AllP.cons ?_ ?_))
          all_goals first | rfl | exact ⟨rfl, rfl⟩
        cbv
        have hv : insF A x = bif bsF Node.cmp x A then A else insAt A (bsI Node.cmp x A) x := rfl
        have hb := bsI_le Node.cmp x A
        refine .split (fun h => ?_) (fun h => ?_)
        · have h : (!bsF Node.cmp x A) = true := h
          rw [show bsF Node.cmp x A = false by simpa using h, cond_false] at hv
          refine .callR [1, 4] 20 (insNode_ok (Node.rows A) x.dvs (bsI Node.cmp x A) (by rw [Node.rows_length]; exact hb) (by rw [Node.rows_length]; exact hAl)) rfl rfl rfl rfl rfl ?_ rfl rfl (fun _ => ⟨rfl, rfl⟩) fun _ _ => ?_
          · (cbv; refine .mk ?_; repeat' (first | exact AllP.nil | refine AllP.cons (by with_reducible rfl) ?_ | refine AllP.cons ?_ ?_))
            all_goals rfl
          cbv
          refine .prop ⟨m + 1, hml, by omega, ?_⟩
          (refine le_of ?_; cbv; refine .mk ?_; repeat' (first | exact AllP.nil | refine AllP.cons (by with_reducible rfl) ?_ | refine AllP.cons ?_ ?_))
          all_goals first | (first | rfl | exact ⟨rfl, rfl⟩ | (refine wrap64_of ?_ ?_ ?_ <;> simp only [natCast_eq] <;> omega)) | (rw [hfs, hv, ← insAt_rows]; done)
        · have h : (!bsF Node.cmp x A) = false := h
          rw [show bsF Node.cmp x A = true by simpa using h, cond_true] at hv
          refine .prop ⟨m + 1, hml, by omega, ?_⟩
          (refine le_of ?_; cbv; refine .mk ?_; repeat' (first | exact AllP.nil | refine AllP.cons (by with_reducible rfl) ?_ | refine AllP.cons ?_ ?_))
          all_goals first | (first | rfl | exact ⟨rfl, rfl⟩ | (refine wrap64_of ?_ ?_ ?_ <;> simp only [natCast_eq] <;> omega)) | (rw [hfs, hv]; done)
      · have hml : m = ns.length := Nat.le_antisymm hm (geF h4)
        have hpf := insF_fact (ns := ns) hsm hfk.2 hal
        refine .prop ⟨(k + 1, ns.foldl insF acc), ⟨hkl, ?_, hpf.2, hcv⟩, by dsimp only; omega, ?_⟩
        · have := hfk.1
          have := hpf.1
          dsimp only
          omega
        (refine le_of ?_; cbv; refine .mk ?_; repeat' (first | exact AllP.nil | refine AllP.cons (by with_reducible rfl) ?_ | refine AllP.cons ?_ ?_))
        all_goals first | (first | rfl | exact ⟨rfl, rfl⟩ | (refine wrap64_of ?_ ?_ ?_ <;> simp only [natCast_eq] <;> omega)) | (rw [hml, List.take_length])
  · have hkl : k = qs.length := Nat.le_antisymm hk (geF h1)
    rw [hkl, List.drop_length, candGo] at hcv
    refine .split (fun h5 => ?_) (fun h5 => ?_)
    · have h5 : decide (400 < (((Node.rows acc).length : Nat) : Int)) = true := h5
      rw [Node.rows_length] at h5
      have h5 : 400 < acc.length := Int.ofNat_lt.1 (of_decide_eq_true h5)
      rw [decide_eq_true h5, cond_true] at hcv
      rw [hcv]
      (refine .fin () 99 trivial (le_of ?_); cbv; refine .mk ?_; repeat' (first | exact AllP.nil | refine AllP.cons (by with_reducible rfl) ?_ | refine AllP.cons ?_ ?_))
      all_goals rfl
    · have h5 : decide (400 < (((Node.rows acc).length : Nat) : Int)) = false := h5
      rw [Node.rows_length] at h5
      have h5 : ¬ 400 < acc.length := fun h => of_decide_eq_false h5 (Int.ofNat_lt.2 h)
      rw [decide_eq_false h5, cond_false] at hcv
      rw [hcv]
      (refine .fin () 99 trivial (le_of ?_); cbv; refine .mk ?_; repeat' (first | exact AllP.nil | refine AllP.cons (by with_reducible rfl) ?_ | refine AllP.cons ?_ ?_))
      all_goals rfl
end Go.Qu
