/- The reference's Instances. The reference's Candidates. What is light. -/
import Derived.Test.YtoaifhhfcokipaaGreatDoorXx
namespace Go.Qu
open Go.Eng Go.Proofs
def cntQ (q : Qual) (u : List Int) : Nat :=
  match q.decls[0]?, u[0]? with
  | some d0, some u0 => bif d0.sort == u0 then (chAll q u).foldl cntF 1 else 0
  | _, _ => 0
/-- the instances of a qualifier and the code -/
def instV (ok : Bool) (q : Qual) (u : List Int) : List Node × Int :=
  bif !(ok && unkB u) then ([], 3) else bif decide (2000 < cntQ q u) then ([], 2) else bif cntQ q u == 0 then ([], 0) else (builtR q u (chAll q u) [], 0)
theorem cnt_top : ∀ (l : List (List Int)), l.foldl cntF 2001 = 0 ∨ l.foldl cntF 2001 = 2001
  | [] => .inr rfl
  | c :: l => by
    rw [List.foldl_cons]
    by_cases h : c.length = 0
    · have : cntF 2001 c = 0 := by unfold cntF; rw [h]; rfl
      rw [this]
      have z : ∀ l : List (List Int), l.foldl cntF 0 = 0 := by
        intro l
        induction l with
        | nil => rfl
        | cons c l ih => rw [List.foldl_cons, show cntF 0 c = 0 by unfold cntF; simp]; exact ih
      exact .inl (z l)
    · have : cntF 2001 c = 2001 := by
        unfold cntF
        have : 2001 * 1 ≤ 2001 * c.length := Nat.mul_le_mul_left _ (by omega)
        omega
      rw [this]
      exact cnt_top l
theorem cnt_prod : ∀ (l : List (List Int)) (a : Nat), a ≤ 2000 → l.foldl cntF a ≠ 0 → l.foldl cntF a ≤ 2000 → a * prodL l = l.foldl cntF a
  | [], a, _, _, _ => by simp [prodL]
  | c :: l, a, ha, h0, h1 => by
    rw [List.foldl_cons] at h0 h1 ⊢
    by_cases h : a * c.length ≤ 2000
    · have e : cntF a c = a * c.length := by unfold cntF; omega
      rw [e] at h0 h1 ⊢
      rw [prodL, ← Nat.mul_assoc]
      exact cnt_prod l _ h h0 h1
    · have e : cntF a c = 2001 := by unfold cntF; omega
      rw [e] at h0 h1
      rcases cnt_top l with h | h
      · exact absurd h h0
      · rw [h] at h1; omega
theorem chs_in {u : List Int} {s : Int} {j : Int} (h : j ∈ chs u s) : ∃ n : Nat, j = (n : Int) ∧ n < u.length := by
  unfold chs chsK at h
  obtain ⟨n, h1, h2⟩ := List.mem_map.1 h
  exact ⟨n, h2.symm, List.mem_range.1 (List.mem_filter.1 h1).1⟩
set_option maxRecDepth 100000 in
theorem inst1_ok (q : Qual) (u : List Int) (hsz : Sm q.node) (hul : u.length < 1073741824) : Pure Tryz.prog 7 [.agg q.svs, .agg [.ds 1 fun _ => ints u]] (.tup [.ds 5 fun _ => Node.rows (instV (qualB uni1B (gatherN []) q) q u).1, .int .i64 fun _ => (instV (qualB uni1B (gatherN []) q) q u).2]) := by
  have hiv : instV (qualB uni1B (gatherN []) q) q u = bif !(qualB uni1B (gatherN []) q && unkB u) then ([], 3) else bif decide (2000 < cntQ q u) then ([], 2) else bif cntQ q u == 0 then ([], 0) else (builtR q u (chAll q u) [], 0) := rfl
  have hqv : qualV uni1B (gatherN []) q = bif qualB uni1B (gatherN []) q then 0 else 3 := rfl
  have hdl : qualB uni1B (gatherN []) q = true → 1 ≤ q.decls.length ∧ q.decls.length ≤ 8 := by
    intro h
    unfold qualB at h
    have := (Bool.and_eq_true_iff.1 h).1
    simpa using this
  have hul2 : unkB u = true → 1 ≤ u.length ∧ u.length ≤ 40 := by
    intro h
    unfold unkB at h
    have := (Bool.and_eq_true_iff.1 h).1
    simpa using this
  generalize qualB uni1B (gatherN []) q = ok at *
  generalize hI : instV ok q u = I at *
  clear hI
  refine pure_of (P := fun _ => Tryz.prog) tabOk Tryz.func7 rfl rfl ?_
  cbv
  refine .call (qual1_ok q hsz) ?_ rfl rfl ?_
  · (cbv; refine .mk ?_; repeat' (first | exact AllP.nil | refine AllP.cons (by with_reducible rfl) ?_ | refine AllP.cons ?_ ?_))
    all_goals rfl
  cbv
  refine .split (fun h1 => ?_) (fun h1 => ?_)
  · have h1 : (qualV uni1B (gatherN []) q != 0) = true := h1
    have hok : ok = false := by rw [hqv] at h1; cases ok <;> simp_all
    have e : I = ([], 3) := by rw [hiv, hok]; rfl
    rw [e]
    (refine .fin () 99 trivial (le_of ?_); cbv; refine .mk ?_; repeat' (first | exact AllP.nil | refine AllP.cons (by with_reducible rfl) ?_ | refine AllP.cons ?_ ?_))
    all_goals rfl
  have h1 : (qualV uni1B (gatherN []) q != 0) = false := h1
  have hok : ok = true := by rw [hqv] at h1; cases ok <;> simp_all
  refine .call (unk19_ok u hul) ?_ rfl rfl ?_
  · (cbv; refine .mk ?_; repeat' (first | exact AllP.nil | refine AllP.cons (by with_reducible rfl) ?_ | refine AllP.cons ?_ ?_))
    all_goals rfl
  cbv
  refine .split (fun h2 => ?_) (fun h2 => ?_)
  · have h2 : (!unkB u) = true := h2
    have hu : unkB u = false := by simpa using h2
    have e : I = ([], 3) := by rw [hiv, hok, hu]; rfl
    rw [e]
    (refine .fin () 99 trivial (le_of ?_); cbv; refine .mk ?_; repeat' (first | exact AllP.nil | refine AllP.cons (by with_reducible rfl) ?_ | refine AllP.cons ?_ ?_))
    all_goals rfl
  have h2 : (!unkB u) = false := h2
  have hu : unkB u = true := by simpa using h2
  have hd := hdl hok
  have hu3 := hul2 hu
  rw [hok, hu, Bool.and_true, Bool.not_true, cond_false] at hiv
  refine Exists.elim (getI (show 0 < q.decls.length from hd.1)) fun d0 hd0 => ?_
  refine Exists.elim (getI (show 0 < u.length from hu3.1)) fun u0 hu0 => ?_
  have hcq : cntQ q u = bif d0.sort == u0 then (chAll q u).foldl cntF 1 else 0 := by unfold cntQ; rw [hd0, hu0]
  have hcc : ((cntQ q u : Nat) : Int) = bif d0.sort == u0 then (((chAll q u).foldl cntF 1 : Nat) : Int) else 0 := by rw [hcq]; cases d0.sort == u0 <;> rfl
  have hct := count_ok q u d0 u0 hd0 hu0 (by omega) (by omega)
  rw [← hcc] at hct
  have hall : (chAll q u).length + 1 = q.decls.length := by simp [chAll]; omega
  have hin : ∀ c ∈ chAll q u, c.length ≤ 100 ∧ ∀ j ∈ c, ∃ n : Nat, j = (n : Int) ∧ n < u.length := by
    intro c hc
    obtain ⟨d, _, rfl⟩ := List.mem_map.1 hc
    exact ⟨Nat.le_trans (chs_len u d.sort) (by omega), fun j hj => chs_in hj⟩
  have hprod : cntQ q u ≠ 0 → cntQ q u ≤ 2000 → prodL (chAll q u) ≤ 2000 := by
    intro q1 q2
    rw [hcq] at q1 q2
    cases h : d0.sort == u0
    · rw [h] at q1; exact absurd rfl q1
    · rw [h, cond_true] at q1 q2
      have := cnt_prod (chAll q u) 1 (by decide) q1 q2
      rw [Nat.one_mul] at this
      omega
  refine .call hct ?_ rfl rfl ?_
  · (cbv; refine .mk ?_; repeat' (first | exact AllP.nil | refine AllP.cons (by with_reducible rfl) ?_ | refine AllP.cons ?_ ?_))
    all_goals rfl
  cbv
  refine .split (fun h3 => ?_) (fun h3 => ?_)
  · have h3 : decide (2000 < ((cntQ q u : Nat) : Int)) = true := h3
    have h3 : 2000 < cntQ q u := Int.ofNat_lt.1 (of_decide_eq_true h3)
    have e : I = ([], 2) := by rw [hiv, decide_eq_true h3]; rfl
    rw [e]
    (refine .fin () 99 trivial (le_of ?_); cbv; refine .mk ?_; repeat' (first | exact AllP.nil | refine AllP.cons (by with_reducible rfl) ?_ | refine AllP.cons ?_ ?_))
    all_goals rfl
  have h3 : decide (2000 < ((cntQ q u : Nat) : Int)) = false := h3
  have h3 : ¬ 2000 < cntQ q u := fun h => of_decide_eq_false h3 (Int.ofNat_lt.2 h)
  rw [decide_eq_false h3, cond_false] at hiv
  refine .split (fun h4 => ?_) (fun h4 => ?_)
  · have h4 : (((cntQ q u : Nat) : Int) == 0) = true := h4
    have h4 := len0T h4
    have e : I = ([], 0) := by rw [hiv, h4]; rfl
    rw [e]
    (refine .fin () 99 trivial (le_of ?_); cbv; refine .mk ?_; repeat' (first | exact AllP.nil | refine AllP.cons (by with_reducible rfl) ?_ | refine AllP.cons ?_ ?_))
    all_goals rfl
  have h4 : (((cntQ q u : Nat) : Int) == 0) = false := h4
  have h4 := len0F h4
  have e : I = (builtR q u (chAll q u) [], 0) := by rw [hiv, show (cntQ q u == 0) = false by simpa using h4]; rfl
  rw [e]
  have hbt := built_ok q u (chAll q u) d0 u0 hd0 hu0 (by omega) (by omega) hsz hall hin (chAll q u).length 0 [] rfl (Nat.zero_le _) rfl (by simp) (by rw [List.drop_zero]; exact hprod h4 (by omega))
  rw [List.drop_zero] at hbt
  clear hcc hct hiv e hall hin hprod
  have hch := choices_ok q u hd.1 (by omega) (by omega)
  generalize chAll q u = ch at *
  generalize builtR q u ch [] = B at *
  refine .callD hch ?_ rfl rfl (fun h => nomatch h) ?_ rfl
  · (cbv; refine .mk ?_; repeat' (first | exact AllP.nil | refine AllP.cons (by with_reducible rfl) ?_ | refine AllP.cons ?_ ?_))
    all_goals rfl
  cbv
  refine .callD hbt ?_ rfl rfl (fun h => nomatch h) ?_ rfl
  · (cbv; refine .mk ?_; repeat' (first | exact AllP.nil | refine AllP.cons (by with_reducible rfl) ?_ | refine AllP.cons ?_ ?_))
    all_goals first | rfl | exact ⟨rfl, rfl⟩
  cbv
  refine .need rfl ?_
  (refine .fin () 99 trivial (le_of ?_); cbv; refine .mk ?_; repeat' (first | exact AllP.nil | refine AllP.cons (by with_reducible rfl) ?_ | refine AllP.cons ?_ ?_))
  all_goals rfl
end Go.Qu
namespace Go.Qu
open Go.Eng Go.Proofs
theorem look_mem {ns : List ByteArray} {az : List Node} {s : ByteArray} {a : Node} (h : look ns az s = some a) : a ∈ az := by
  induction ns generalizing az with
  | nil => simp [look] at h
  | cons n ns ih =>
    cases az with
    | nil => simp [look] at h
    | cons b az =>
      rw [look] at h
      split at h
      · injection h with h; rw [h]; exact List.mem_cons_self
      · exact List.mem_cons_of_mem _ (ih h)
mutual
theorem sub_size {ns : List ByteArray} {az : List Node} (h : ∀ a ∈ az, a.size ≤ 1) : ∀ x : Node, (sub ns az x).size ≤ x.size
  | .mk o s n m ks => by
    rw [sub]
    cases hl : (if o == 1 then look ns az n else none) with
    | none =>
      rw [Option.getD_none, Node.size, Node.size]
      have := subs_size (ns := ns) h ks
      omega
    | some a =>
      rw [Option.getD_some, Node.size]
      have : a ∈ az := by
        by_cases ho : (o == 1) = true
        · rw [if_pos ho] at hl; exact look_mem hl
        · rw [if_neg ho] at hl; cases hl
      have := h a this
      omega
theorem subs_size {ns : List ByteArray} {az : List Node} (h : ∀ a ∈ az, a.size ≤ 1) : ∀ l : List Node, Node.sizes (subs ns az l) ≤ Node.sizes l
  | [] => Nat.le_refl _
  | x :: l => by
    have h1 := sub_size (ns := ns) h x
    have h2 := subs_size (ns := ns) h l
    rw [subs, Node.sizes, Node.sizes]
    omega
end
theorem leaf_size (q : Qual) (u cs : List Int) : (leaf q u cs).size ≤ q.node.size := by
  refine sub_size (fun a ha => ?_) q.node
  obtain ⟨c, _, rfl⟩ := List.mem_map.1 ha
  exact Nat.le_refl 1
theorem builtR_size (q : Qual) (u : List Int) : ∀ (l : List (List Int)) (cs : List Int), ∀ x ∈ builtR q u l cs, x.size ≤ q.node.size
  | [], cs, x, h => by
    rw [builtR, List.mem_singleton] at h
    rw [h]; exact leaf_size q u cs
  | c :: l, cs, x, h => by
    rw [builtR, List.mem_flatMap] at h
    obtain ⟨j, _, h⟩ := h
    exact builtR_size q u l _ x h
theorem cntQ_prod {q : Qual} {u : List Int} (q1 : cntQ q u ≠ 0) (q2 : cntQ q u ≤ 2000) : prodL (chAll q u) ≤ 2000 := by
  unfold cntQ at q1 q2
  split at q1
  · rename_i d0 u0 h1 h2
    simp only [h1, h2] at q2
    cases h : d0.sort == u0
    · rw [h] at q1; exact absurd rfl q1
    · rw [h, cond_true] at q1 q2
      have := cnt_prod (chAll q u) 1 (by decide) q1 q2
      rw [Nat.one_mul] at this
      omega
  · exact absurd rfl q1
theorem instV_fact (ok : Bool) (q : Qual) (u : List Int) : (instV ok q u).1.length ≤ 2000 ∧ ∀ x ∈ (instV ok q u).1, x.size ≤ q.node.size := by
  unfold instV
  cases ok && unkB u
  · exact ⟨Nat.zero_le _, fun x h => by cases h⟩
  cases h1 : decide (2000 < cntQ q u)
  · cases h2 : cntQ q u == 0
    · refine ⟨?_, builtR_size q u _ _⟩
      show (builtR q u (chAll q u) []).length ≤ 2000
      rw [builtR_len]
      exact cntQ_prod (by simpa using h2) (by have := of_decide_eq_false h1; omega)
    · exact ⟨Nat.zero_le _, fun x h => by cases h⟩
  · exact ⟨Nat.zero_le _, fun x h => by cases h⟩
def candGo (ins : Qual → List Node × Int) (put : List Node → Node → List Node) : List Node → List Qual → List Node × Int
  | acc, [] => bif decide (400 < acc.length) then ([], 2) else (acc, 0)
  | acc, q :: l => bif (ins q).2 != 0 then ([], (ins q).2) else candGo ins put ((ins q).1.foldl put acc) l
def candV (ok : Qual → Bool) (ins : Qual → List Node × Int) (put : List Node → Node → List Node) (qs : List Qual) (u : List Int) : List Node × Int :=
  bif !(unkB u && qs.all ok) then ([], 3) else candGo ins put [] qs
theorem candGo_drop {ins : Qual → List Node × Int} {put : List Node → Node → List Node} {acc : List Node} {qs : List Qual} {k : Nat} {q : Qual} (h : qs[k]? = some q) : candGo ins put acc (qs.drop k) = bif (ins q).2 != 0 then ([], (ins q).2) else candGo ins put ((ins q).1.foldl put acc) (qs.drop (k + 1)) := by
  obtain ⟨hl, e⟩ := List.getElem?_eq_some_iff.1 h
  rw [List.drop_eq_getElem_cons hl, e, candGo]
def putF (a : List Node) (n : Node) : List Node := putAll Node.cmp n a
theorem putStep_mem {α : Type} (cmp : α → α → Int) (d : α) : ∀ (l : List α) (s : List α × Bool), ∀ x ∈ (l.foldl (putStep cmp d) s).1, x ∈ s.1 ∨ x = d ∨ x ∈ l
  | [], s, x, h => .inl h
  | y :: l, s, x, h => by
    rw [List.foldl_cons] at h
    rcases putStep_mem cmp d l _ x h with h | h | h
    · unfold putStep at h
      simp only at h
      rcases List.mem_append.1 h with h | h
      · split at h
        · rcases List.mem_append.1 h with h | h
          · exact .inl h
          · rw [List.mem_singleton] at h; exact .inr (.inl h)
        · exact .inl h
      · rw [List.mem_singleton] at h; exact .inr (.inr (by rw [h]; exact List.mem_cons_self))
    · exact .inr (.inl h)
    · exact .inr (.inr (List.mem_cons_of_mem _ h))
theorem putAll_mem {α : Type} {cmp : α → α → Int} {d : α} {l : List α} {x : α} (h : x ∈ putAll cmp d l) : x = d ∨ x ∈ l := by
  unfold putAll at h
  have k := putStep_mem cmp d l ([], false)
  cases hb : (l.foldl (putStep cmp d) ([], false)).2
  · rw [hb, cond_false] at h
    rcases List.mem_append.1 h with h | h
    · rcases k x h with h | h | h
      · cases h
      · exact .inl h
      · exact .inr h
    · rw [List.mem_singleton] at h; exact .inl h
  · rw [hb, cond_true] at h
    rcases k x h with h | h | h
    · cases h
    · exact .inl h
    · exact .inr h
theorem putF_fact {l : List Node} : ∀ {ns : List Node} {N : Nat}, (∀ x ∈ l, Sm x) → (∀ x ∈ ns, Sm x) → l.length ≤ N → (ns.foldl putF l).length ≤ N + ns.length ∧ ∀ x ∈ ns.foldl putF l, Sm x := by
  intro ns
  induction ns generalizing l with
  | nil => intro N h1 _ h3; exact ⟨h3, h1⟩
  | cons n ns ih =>
    intro N h1 h2 h3
    rw [List.foldl_cons]
    have := ih (l := putF l n) (N := N + 1) (fun x hx => by
      rcases putAll_mem hx with h | h
      · rw [h]; exact h2 n List.mem_cons_self
      · exact h1 x h) (fun x hx => h2 x (List.mem_cons_of_mem _ hx)) (Nat.le_trans (putAll_len Node.cmp n l) (Nat.succ_le_succ h3))
    refine ⟨?_, this.2⟩
    rw [List.length_cons]
    omega
set_option maxRecDepth 100000 in
theorem cand1_ok (qs : List Qual) (u : List Int) (hq : qs.length ≤ 1000) (hsz : ∀ q ∈ qs, Sm q.node) (hul : u.length < 1073741824) (V : List Node × Int) (hV : candV (qualB uni1B (gatherN [])) (fun q => instV (qualB uni1B (gatherN []) q) q u) putF qs u = V) :
    Pure Tryz.prog 12 [.ds 7 fun _ => Qual.rows qs, .agg [.ds 1 fun _ => ints u]] (.tup [.ds 5 fun _ => Node.rows V.1, .int .i64 fun _ => V.2]) := by
  have hcv : candV (qualB uni1B (gatherN [])) (fun q => instV (qualB uni1B (gatherN []) q) q u) putF qs u = bif !(unkB u && qs.all (qualB uni1B (gatherN []))) then ([], 3) else candGo (fun q => instV (qualB uni1B (gatherN []) q) q u) putF [] qs := rfl
  rw [hV] at hcv
  clear hV
  have hins : ∀ q ∈ qs, Pure Tryz.prog 7 [.agg q.svs, .agg [.ds 1 fun _ => ints u]] (.tup [.ds 5 fun _ => Node.rows ((fun q => instV (qualB uni1B (gatherN []) q) q u) q).1, .int .i64 fun _ => ((fun q => instV (qualB uni1B (gatherN []) q) q u) q).2]) := fun q hq => inst1_ok q u (hsz q hq) hul
  have hfact : ∀ q ∈ qs, ((fun q => instV (qualB uni1B (gatherN []) q) q u) q).1.length ≤ 2000 ∧ ∀ x ∈ ((fun q => instV (qualB uni1B (gatherN []) q) q u) q).1, Sm x := fun q hq => ⟨(instV_fact _ q u).1, fun x hx => Nat.lt_of_le_of_lt ((instV_fact _ q u).2 x hx) (hsz q hq)⟩
  generalize hie : (fun q => instV (qualB uni1B (gatherN []) q) q u) = ins at *
  have hqc : ∀ q ∈ qs, Pure Tryz.prog 10 [.agg q.svs] (.int .i64 fun _ => bif qualB uni1B (gatherN []) q then 0 else 3) := fun q hq => qual1_ok q (hsz q hq)
  generalize qualB uni1B (gatherN []) = ok at *
  refine pure_of (P := fun _ => Tryz.prog) tabOk Tryz.func12 rfl rfl ?_
  cbv
  refine .call (unk19_ok u hul) ?_ rfl rfl ?_
  · (cbv; refine .mk ?_; repeat' (first | exact AllP.nil | refine AllP.cons (by with_reducible rfl) ?_ | refine AllP.cons ?_ ?_))
    all_goals rfl
  cbv
  refine .split (fun h2 => ?_) (fun h2 => ?_)
  · have h2 : (!unkB u) = true := h2
    have hu : unkB u = false := by simpa using h2
    have e : V = ([], 3) := by rw [hcv, hu]; rfl
    rw [e]
    (refine .fin () 99 trivial (le_of ?_); cbv; refine .mk ?_; repeat' (first | exact AllP.nil | refine AllP.cons (by with_reducible rfl) ?_ | refine AllP.cons ?_ ?_))
    all_goals rfl
  have h2 : (!unkB u) = false := h2
  have hu : unkB u = true := by simpa using h2
  rw [hu, Bool.true_and] at hcv
  refine .loop Nat (fun k => k ≤ qs.length ∧ (qs.take k).all ok = true) (fun k => [(18, .ds 7 fun _ => Qual.rows qs), (19, .int .i64 fun _ => (qs.length : Int)), (20, .int .i64 fun _ => (k : Int))]) (fun _ => [(0, .cells 25 [.ds 1 fun _ => ints u])]) 1 (fun k => qs.length - k) 0 ⟨Nat.zero_le _, rfl⟩ ?_ ?_
  · (refine le_of ?_; cbv; refine .mk ?_; repeat' (first | exact AllP.nil | refine AllP.cons (by with_reducible rfl) ?_ | refine AllP.cons ?_ ?_))
    all_goals first | rfl | (simp [lenL, Qual.rows_length]; done)
  rintro k ⟨hk, hk2⟩
  cbv
  refine .split (fun h1 => ?_) (fun h1 => ?_)
  · have h1 : decide ((k : Int) < (qs.length : Int)) = true := h1
    have hkl : k < qs.length := Int.ofNat_lt.1 (of_decide_eq_true h1)
    refine Exists.elim (getI hkl) fun q hqq => ?_
    have hqm := List.mem_of_getElem? hqq
    have hqk := hqc q hqm
    refine .need ⟨by simp, by rw [Qual.rows_length]; exact Int.ofNat_lt.2 hkl⟩ ?_
    refine .row _ _ (Qual.rows_get hqq) (Qual.dvs_toSV _) ?_
    cbv
    refine .call hqk ?_ rfl rfl ?_
    · (cbv; refine .mk ?_; repeat' (first | exact AllP.nil | refine AllP.cons (by with_reducible rfl) ?_ | refine AllP.cons ?_ ?_))
      all_goals rfl
    cbv
    refine .split (fun h3 => ?_) (fun h3 => ?_)
    · have h3 : ((bif ok q then (0 : Int) else 3) != 0) = true := h3
      have hb : ok q = false := by cases h : ok q <;> rw [h] at h3 <;> first | rfl | cases h3
      have e : V = ([], 3) := by rw [hcv, List.all_eq_false.2 ⟨q, hqm, by rw [hb]; decide⟩]; rfl
      rw [e]
      (refine .fin () 99 trivial (le_of ?_); cbv; refine .mk ?_; repeat' (first | exact AllP.nil | refine AllP.cons (by with_reducible rfl) ?_ | refine AllP.cons ?_ ?_))
      all_goals rfl
    · have h3 : ((bif ok q then (0 : Int) else 3) != 0) = false := h3
      have hb : ok q = true := by cases h : ok q <;> rw [h] at h3 <;> first | rfl | cases h3
      refine .prop ⟨k + 1, ⟨hkl, all_take_succ hqq hk2 hb⟩, by omega, ?_⟩
      (refine le_of ?_; cbv; refine .mk ?_; repeat' (first | exact AllP.nil | refine AllP.cons (by with_reducible rfl) ?_ | refine AllP.cons ?_ ?_))
      all_goals (first | rfl | exact ⟨rfl, rfl⟩ | (refine wrap64_of ?_ ?_ ?_ <;> simp only [natCast_eq] <;> omega))
  · have h1 : decide ((k : Int) < (qs.length : Int)) = false := h1
    have hkl : k = qs.length := Nat.le_antisymm hk (Nat.le_of_not_lt fun h => of_decide_eq_false h1 (Int.ofNat_lt.2 h))
    rw [hkl, List.take_length] at hk2
    rw [hk2, Bool.not_true, cond_false] at hcv
    clear hkl h1 hk2 hk
    refine .loop (Nat × List Node) (fun s => s.1 ≤ qs.length ∧ s.2.length ≤ 2000 * s.1 ∧ (∀ x ∈ s.2, Sm x) ∧ V = candGo ins putF s.2 (qs.drop s.1)) (fun s => [(8, .ds 5 fun _ => Node.rows s.2), (28, .ds 7 fun _ => Qual.rows qs), (29, .int .i64 fun _ => (qs.length : Int)), (30, .int .i64 fun _ => (s.1 : Int))]) (fun _ => [(0, .cells 25 [.ds 1 fun _ => ints u])]) 1 (fun s => qs.length - s.1) (0, []) ⟨Nat.zero_le _, Nat.zero_le _, by simp, hcv⟩ ?_ ?_
    · (refine le_of ?_; cbv; refine .mk ?_; repeat' (first | exact AllP.nil | refine AllP.cons (by with_reducible rfl) ?_ | refine AllP.cons ?_ ?_))
      all_goals first | rfl | exact ⟨rfl, rfl⟩ | (simp [lenL, Qual.rows_length]; done)
    clear hcv
    rintro ⟨k, acc⟩ ⟨hk, hal, hsm, hcv⟩
    dsimp only at hk hal hsm hcv
    cbv
    refine .split (fun h1 => ?_) (fun h1 => ?_)
    · have h1 : decide ((k : Int) < (qs.length : Int)) = true := h1
      have hkl : k < qs.length := Int.ofNat_lt.1 (of_decide_eq_true h1)
      refine Exists.elim (getI hkl) fun q hqq => ?_
      have hqm := List.mem_of_getElem? hqq
      have hik := hins q hqm
      have hfk := hfact q hqm
      rw [candGo_drop hqq] at hcv
      refine Exists.elim (show ∃ ns, (ins q).1 = ns from ⟨_, rfl⟩) fun ns hns => ?_
      refine Exists.elim (show ∃ cd, (ins q).2 = cd from ⟨_, rfl⟩) fun cd hcd => ?_
      rw [hns, hcd] at hik hcv
      rw [hns] at hfk
      refine .need ⟨by simp, by rw [Qual.rows_length]; exact Int.ofNat_lt.2 hkl⟩ ?_
      refine .row _ _ (Qual.rows_get hqq) (Qual.dvs_toSV _) ?_
      cbv
      refine .call hik ?_ rfl rfl ?_
      · (cbv; refine .mk ?_; repeat' (first | exact AllP.nil | refine AllP.cons (by with_reducible rfl) ?_ | refine AllP.cons ?_ ?_))
        all_goals rfl
      cbv
      refine .split (fun h3 => ?_) (fun h3 => ?_)
      · have h3 : (cd != 0) = true := h3
        rw [h3, cond_true] at hcv
        rw [hcv]
        (refine .fin () 99 trivial (le_of ?_); cbv; refine .mk ?_; repeat' (first | exact AllP.nil | refine AllP.cons (by with_reducible rfl) ?_ | refine AllP.cons ?_ ?_))
        all_goals rfl
      · have h3 : (cd != 0) = false := h3
        rw [h3, cond_false] at hcv
        refine .loop Nat (fun m => m ≤ ns.length) (fun m => [(8, .ds 5 fun _ => Node.rows ((ns.take m).foldl putF acc)), (43, .ds 5 fun _ => Node.rows ns), (44, .int .i64 fun _ => (ns.length : Int)), (45, .int .i64 fun _ => (m : Int))]) (fun _ => [(0, .cells 25 [.ds 1 fun _ => ints u])]) 2 (fun m => ns.length - m) 0 (Nat.zero_le _) ?_ ?_
        · (refine le_of ?_; cbv; refine .mk ?_; repeat' (first | exact AllP.nil | refine AllP.cons (by with_reducible rfl) ?_ | refine AllP.cons ?_ ?_))
          all_goals first | rfl | (simp [lenL, Node.rows_length]; done)
        rintro m hm
        cbv
        refine .split (fun h4 => ?_) (fun h4 => ?_)
        · have hml : m < ns.length := ltT h4
          refine Exists.elim (getI hml) fun x hx => ?_
          have hxs := hfk.2 x (List.mem_of_getElem? hx)
          have hpf := putF_fact (ns := ns.take m) hsm (fun x hx => hfk.2 x (List.mem_of_mem_take hx)) hal
          have hfs := fold_take_succ putF acc hx
          rw [List.length_take] at hpf
          refine .need ⟨by simp, by rw [Node.rows_length]; exact Int.ofNat_lt.2 hml⟩ ?_
          refine .row _ _ (Node.rows_get hx) (Node.row_toSV _) ?_
          cbv
          have hput := put_ok ((ns.take m).foldl putF acc) x (by have := hfk.1; have := hpf.1; omega) hxs hpf.2
          rw [show putAll Node.cmp x ((ns.take m).foldl putF acc) = (ns.take (m + 1)).foldl putF acc from hfs.symm] at hput
          refine .call hput ?_ rfl rfl ?_
          · (cbv; refine .mk ?_; repeat' (first | exact AllP.nil | refine AllP.cons (by with_reducible rfl) ?_ | refine AllP.cons ?_ ?_))
            all_goals rfl
          cbv
          refine .prop ⟨m + 1, hml, by omega, ?_⟩
          (refine le_of ?_; cbv; refine .mk ?_; repeat' (first | exact AllP.nil | refine AllP.cons (by with_reducible rfl) ?_ | refine AllP.cons ?_ ?_))
          all_goals (first | rfl | exact ⟨rfl, rfl⟩ | (refine wrap64_of ?_ ?_ ?_ <;> simp only [natCast_eq] <;> omega))
        · have hml : m = ns.length := Nat.le_antisymm hm (geF h4)
          have hpf := putF_fact (ns := ns) hsm hfk.2 hal
          refine .prop ⟨(k + 1, ns.foldl putF acc), ⟨hkl, ?_, hpf.2, hcv⟩, by dsimp only; omega, ?_⟩
          · have := hfk.1
            have := hpf.1
            dsimp only
            omega
          (refine le_of ?_; cbv; refine .mk ?_; repeat' (first | exact AllP.nil | refine AllP.cons (by with_reducible rfl) ?_ | refine AllP.cons ?_ ?_))
          all_goals first | (first | rfl | exact ⟨rfl, rfl⟩ | (refine wrap64_of ?_ ?_ ?_ <;> simp only [natCast_eq] <;> omega)) | (rw [hml, List.take_length])
    · have h1 : decide ((k : Int) < (qs.length : Int)) = false := h1
      have hkl : k = qs.length := Nat.le_antisymm hk (Nat.le_of_not_lt fun h => of_decide_eq_false h1 (Int.ofNat_lt.2 h))
      rw [hkl, List.drop_length, candGo] at hcv
      refine .split (fun h5 => ?_) (fun h5 => ?_)
      · have h5 : decide (400 < (((Node.rows acc).length : Nat) : Int)) = true := h5
        rw [Node.rows_length] at h5
        have h5 : 400 < acc.length := Int.ofNat_lt.1 (of_decide_eq_true h5)
        rw [decide_eq_true h5, cond_true] at hcv
        rw [hcv]
        (refine .fin () 99 trivial (le_of ?_); cbv; refine .mk ?_; repeat' (first | exact AllP.nil | refine AllP.cons (by with_reducible rfl) ?_ | refine AllP.cons ?_ ?_))
        all_goals rfl
      · have h5 : decide (400 < (((Node.rows acc).length : Nat) : Int)) = false := h5
        rw [Node.rows_length] at h5
        have h5 : ¬ 400 < acc.length := fun h => of_decide_eq_false h5 (Int.ofNat_lt.2 h)
        rw [decide_eq_false h5, cond_false] at hcv
        rw [hcv]
        (refine .fin () 99 trivial (le_of ?_); cbv; refine .mk ?_; repeat' (first | exact AllP.nil | refine AllP.cons (by with_reducible rfl) ?_ | refine AllP.cons ?_ ?_))
        all_goals rfl
end Go.Qu
namespace Go.Qu
open Go.Eng Go.Proofs
def lightQ (q : Qual) : Bool := decide (q.node.size ≤ 200) && decide (q.decls.length ≤ 20)
def lightB (qs : List Qual) : Bool := qs.all lightQ && decide (qs.length ≤ 20)
set_option maxRecDepth 100000 in
theorem light_ok (qs : List Qual) (hq : qs.length < 1073741824) (hsz : ∀ q ∈ qs, Sm q.node) : Pure Tryz.prog 5 [.ds 7 fun _ => Qual.rows qs] (.bs fun _ => lightB qs) := by
  have hres : lightB qs = (qs.all lightQ && decide (qs.length ≤ 20)) := rfl
  refine pure_of (P := fun _ => Tryz.prog) tabOk Tryz.func5 rfl rfl ?_
  cbv
  refine .loop Nat (fun k => k ≤ qs.length ∧ (qs.take k).all lightQ = true) (fun k => [(5, .ds 7 fun _ => Qual.rows qs), (6, .int .i64 fun _ => (qs.length : Int)), (7, .int .i64 fun _ => (k : Int))]) (fun _ => []) 0 (fun k => qs.length - k) 0 ⟨Nat.zero_le _, rfl⟩ ?_ ?_
  · (refine le_of ?_; cbv; refine .mk ?_; repeat' (first | exact AllP.nil | refine AllP.cons (by with_reducible rfl) ?_ | refine AllP.cons ?_ ?_))
    all_goals first | rfl | (simp [lenL, Qual.rows_length]; done)
  rintro k ⟨hk, hk2⟩
  cbv
  refine .split (fun h1 => ?_) (fun h1 => ?_)
  · have h1 : decide ((k : Int) < (qs.length : Int)) = true := h1
    have hkl : k < qs.length := Int.ofNat_lt.1 (of_decide_eq_true h1)
    refine Exists.elim (getI hkl) fun q hqq => ?_
    have hqm := List.mem_of_getElem? hqq
    have hbad : lightQ q = false → lightB qs = false := fun h => by
      rw [hres, List.all_eq_false.2 ⟨q, hqm, by rw [h]; decide⟩, Bool.false_and]
    have hlq : lightQ q = (decide (q.node.size ≤ 200) && decide (q.decls.length ≤ 20)) := rfl
    have hsq := size_ok q.node (Sm.big (hsz q hqm))
    refine .need ⟨by simp, by rw [Qual.rows_length]; exact Int.ofNat_lt.2 hkl⟩ ?_
    refine .row _ _ (Qual.rows_get hqq) (Qual.dvs_toSV _) ?_
    cbv
    refine .call hsq ?_ rfl rfl ?_
    · (cbv; refine .mk ?_; repeat' (first | exact AllP.nil | refine AllP.cons (by with_reducible rfl) ?_ | refine AllP.cons ?_ ?_))
      all_goals rfl
    cbv
    have hlt : (decide (200 < ((q.node.size : Nat) : Int)) || decide (20 < (((Decl.rows q.decls).length : Nat) : Int))) = !lightQ q := by
      rw [hlq, Decl.rows_length]
      by_cases h2 : q.node.size ≤ 200
      · by_cases h3 : q.decls.length ≤ 20
        · rw [decide_eq_true h2, decide_eq_true h3, decide_eq_false (show ¬ (200 : Int) < ((q.node.size : Nat) : Int) from fun h => Nat.not_lt_of_le h2 (Int.ofNat_lt.1 h)), decide_eq_false (show ¬ (20 : Int) < ((q.decls.length : Nat) : Int) from fun h => Nat.not_lt_of_le h3 (Int.ofNat_lt.1 h))]; rfl
        · rw [decide_eq_false h3, decide_eq_true (show (20 : Int) < ((q.decls.length : Nat) : Int) from Int.ofNat_lt.2 (Nat.lt_of_not_le h3)), Bool.or_true, Bool.and_false]; rfl
      · rw [decide_eq_false h2, decide_eq_true (show (200 : Int) < ((q.node.size : Nat) : Int) from Int.ofNat_lt.2 (Nat.lt_of_not_le h2)), Bool.true_or, Bool.false_and]; rfl
    refine .split (fun h2 => ?_) (fun h2 => ?_)
    · have h2 := hlt.symm.trans h2
      (refine .fin () 99 trivial (le_of ?_); cbv; refine .mk ?_; repeat' (first | exact AllP.nil | refine AllP.cons (by with_reducible rfl) ?_ | refine AllP.cons ?_ ?_))
      all_goals try rfl
      exact hbad (by simpa using h2)
    have h2 := hlt.symm.trans h2
    refine .prop ⟨k + 1, ⟨hkl, all_take_succ hqq hk2 (by simpa using h2)⟩, by omega, ?_⟩
    (refine le_of ?_; cbv; refine .mk ?_; repeat' (first | exact AllP.nil | refine AllP.cons (by with_reducible rfl) ?_ | refine AllP.cons ?_ ?_))
    all_goals (first | rfl | exact ⟨rfl, rfl⟩ | (refine wrap64_of ?_ ?_ ?_ <;> simp only [natCast_eq] <;> omega))
  · have h1 : decide ((k : Int) < (qs.length : Int)) = false := h1
    have hkl : k = qs.length := Nat.le_antisymm hk (Nat.le_of_not_lt fun h => of_decide_eq_false h1 (Int.ofNat_lt.2 h))
    rw [hkl, List.take_length] at hk2
    (refine .fin () 99 trivial (le_of ?_); cbv; refine .mk ?_; repeat' (first | exact AllP.nil | refine AllP.cons (by with_reducible rfl) ?_ | refine AllP.cons ?_ ?_))
    all_goals try rfl
    show lightB qs = decide ((((Qual.rows qs).length : Nat) : Int) ≤ 20)
    rw [hres, hk2, Bool.true_and, Qual.rows_length]
    exact decide_eq_decide.2 Int.ofNat_le.symm
end Go.Qu
