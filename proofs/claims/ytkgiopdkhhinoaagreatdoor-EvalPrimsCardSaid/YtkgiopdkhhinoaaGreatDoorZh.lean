/- The concrete evaluator: regions whose order is drawn: facts of the evaluator's own way. The concrete evaluator: regions whose order is drawn: new blocks. The concrete evaluator: regions whose order is drawn: blocks that stand aside. The concrete evaluator: regions whose order is drawn: the invariant. The concrete evaluator: regions whose order is drawn: the steps. The concrete evaluator: regions whose order is drawn: a new block. -/
import Derived.Test.YtkgiopdkhhinoaaGreatDoorZg
set_option linter.all false
namespace Go.Z
open Go.Eng (TI TD DV DRep DRows DCells Snap nth upd slice' splice TabOk tiOk tdOk TFacts FW)
section
variable {E : Env} {cf yf : CF} {ops : List Oper} {D : Nat -> ZD}
def Trace (E : Env) (cf yf : CF) (ops : List Oper) (D : Nat -> ZD) : Prop := ∀ i o, ops[i]? = some o -> DStep E cf yf ops o i (D i) (D (i + 1))
theorem Trace.get {i : Nat} (h : i < ops.length) : ∃ o, ops[i]? = some o := ⟨_, List.getElem?_eq_getElem h⟩
theorem DStep.fix {o : Oper} {i : Nat} {A B : ZD} (h : DStep E cf yf ops o i A B) : B.s.nt = A.s.nt /\ B.s.df = A.s.df /\ ∃ v, B.s.t = setD A.s.t o.dst v /\ ∀ e, o.dst = some e -> e < A.s.nt := by
  cases h with
  | eff M1 c h1 h2 h3 h4 h5 h6 h7 h8 => rw [h5]; exact ⟨rfl, rfl, _, rfl, h6⟩
  | new v M1 n1 ob h1 h2 h3 h4 h5 h6 h7 h8 h9 => rw [h5]; exact ⟨rfl, rfl, _, rfl, h6⟩
  | look v M1 n1 h1 h2 h3 h4 h5 h6 h7 h8 => rw [h4]; exact ⟨rfl, rfl, _, rfl, h5⟩
  | skip h1 h2 h3 h4 h5 h6 => rw [h2]; exact ⟨rfl, rfl, _, rfl, h3⟩
theorem Trace.fix (tr : Trace E cf yf ops D) : ∀ i, i <= ops.length -> (D i).s.nt = (D 0).s.nt /\ (D i).s.df = (D 0).s.df
  | 0, _ => ⟨rfl, rfl⟩
  | i + 1, h => by
    obtain ⟨o, ho⟩ := Trace.get (show i < ops.length by omega)
    obtain ⟨g1, g2, _⟩ := (tr i o ho).fix; obtain ⟨h1, h2⟩ := tr.fix i (by omega)
    exact ⟨g1.trans h1, g2.trans h2⟩
theorem setD_get {t : Tri ZV} {d : Option Nat} {v : ZV} {e : Nat} : (setD t d v).get e = if d = some e then some v else t.get e := by
  unfold setD
  cases d with
  | none => simp
  | some d =>
    dsimp only
    rw [Tri.get_set]; by_cases h : d = e
    . subst h; simp
    . rw [if_neg h, if_neg (fun x => h (Option.some.inj x))]
theorem Trace.still (tr : Trace E cf yf ops D) {d : Nat} {i : Nat} : ∀ j, i <= j -> j <= ops.length -> (∀ q o, i <= q -> q < j -> ops[q]? = some o -> o.dst ≠ some d) -> (D j).s.t.get d = (D i).s.t.get d
  | 0, h, _, _ => by rw [show i = 0 by omega]
  | j + 1, h, hl, hn => by
    by_cases e : i = j + 1
    . rw [e]
    . obtain ⟨o, ho⟩ := Trace.get (show j < ops.length by omega)
      obtain ⟨_, _, v, g, _⟩ := (tr j o ho).fix; rw [g, setD_get, if_neg (hn j o (by omega) (by omega) ho)]
      exact tr.still j (by omega) (by omega) fun q o h1 h2 => hn q o h1 (by omega)
theorem Trace.slot (tr : Trace E cf yf ops D) (fa : DrawFacts ops) {i : Nat} (hi : i <= ops.length) (d : Nat) :
    (∀ q o, q < i -> ops[q]? = some o -> o.dst = some d -> (D i).s.t.get d = (D ops.length).s.t.get d) /\ ((∀ q o, q < i -> ops[q]? = some o -> o.dst ≠ some d) -> (D i).s.t.get d = (D 0).s.t.get d) := by
  refine ⟨fun q o hq ho hd => (tr.still ops.length hi (Nat.le_refl _) fun q' o' h1 h2 ho' hd' => ?_).symm, fun hn => tr.still i (Nat.zero_le _) hi fun q o _ h2 ho => hn q o h2 ho⟩
  have := fa.one q q' o o' d ho ho' hd hd'; omega
theorem Trace.quiet (tr : Trace E cf yf ops D) {i : Nat} : ∀ j, i <= j -> j <= ops.length -> (∀ q o, i <= q -> q < j -> ops[q]? = some o -> isEff (kind o.op) = false) -> (D j).s.M = (D i).s.M /\ (D j).s.n = (D i).s.n
  | 0, h, _, _ => by rw [show i = 0 by omega]; exact ⟨rfl, rfl⟩
  | j + 1, h, hl, hn => by
    by_cases e : i = j + 1
    . rw [e]; exact ⟨rfl, rfl⟩
    . obtain ⟨o, ho⟩ := Trace.get (show j < ops.length by omega)
      have ih := tr.quiet j (by omega) (by omega) fun q o h1 h2 => hn q o h1 (by omega)
      have he := hn j o (by omega) (by omega) ho
      cases tr j o ho with
      | eff M1 c h1 h2 h3 h4 h5 h6 h7 h8 => rw [he] at h2; cases h2
      | new v M1 n1 ob h1 h2 h3 h4 h5 h6 h7 h8 h9 => rw [h5]; exact ih
      | look v M1 n1 h1 h2 h3 h4 h5 h6 h7 h8 => rw [h4]; exact ih
      | skip h1 h2 h3 h4 h5 h6 => rw [h2]; exact ih
def cnt (ops : List Oper) (j : Nat) : Nat := ((effIx ops).filter fun e => Nat.blt e j).length
theorem cnt_succ {i : Nat} {o : Oper} (h : ops[i]? = some o) : cnt ops (i + 1) = cnt ops i + (if isEff (kind o.op) = true then 1 else 0) := by
  unfold cnt
  have key : ∀ (l : List Nat), l.Nodup -> (l.filter fun e => Nat.blt e (i + 1)).length = (l.filter fun e => Nat.blt e i).length + (if i ∈ l then 1 else 0) := by
    intro l
    induction l with
    | nil => intro _; rfl
    | cons a l ih =>
      intro hn; obtain ⟨h1, h2⟩ := List.nodup_cons.1 hn; have ih := ih h2; by_cases ha : a = i
      . subst ha; rw [if_neg h1] at ih; rw [List.filter_cons_of_pos (by rw [blt_iff]; simp), List.filter_cons_of_neg (by rw [blt_iff]; simp), List.length_cons, ih, if_pos (by simp)]
      . have e3 : (i ∈ a :: l) ↔ i ∈ l := by
          rw [List.mem_cons]; exact ⟨fun h => h.resolve_left (fun h => ha h.symm), .inr⟩
        simp only [e3]; by_cases hb : a < i
        . rw [List.filter_cons_of_pos (by rw [blt_iff]; simp; omega), List.filter_cons_of_pos (by rw [blt_iff]; simpa using hb), List.length_cons, List.length_cons, ih]
          omega
        . rw [List.filter_cons_of_neg (by rw [blt_iff]; simp; omega), List.filter_cons_of_neg (by rw [blt_iff]; simpa using hb), ih]
  rw [key _ ((effIx_sorted ops).imp (fun h e => by omega))]
  congr 1; by_cases he : isEff (kind o.op) = true
  . rw [if_pos (mem_effIx.2 ⟨o, h, he⟩), if_pos he]
  . rw [if_neg (fun hm => he (by obtain ⟨o', h1, h2⟩ := mem_effIx.1 hm; rw [h] at h1; cases h1; exact h2)), if_neg he]
theorem Trace.hist (tr : Trace E cf yf ops D) (h0 : (D 0).hist = [(D 0).s.M]) : ∀ i, i <= ops.length -> (D i).hist.length = cnt ops i + 1 /\ ∀ j, j <= i -> (D i).hist.reverse[cnt ops j]? = some (D j).s.M
  | 0, _ => by
    have c0 : cnt ops 0 = 0 := by
      unfold cnt; have : (effIx ops).filter (fun e => Nat.blt e 0) = [] := List.filter_eq_nil_iff.2 fun a _ => by rw [blt_iff]; simp
      rw [this]; rfl
    refine ⟨by rw [h0, c0]; rfl, fun j hj => ?_⟩
    rw [show j = 0 by omega, c0, h0]
    rfl
  | i + 1, h => by
    obtain ⟨o, ho⟩ := Trace.get (show i < ops.length by omega)
    obtain ⟨h1, h2⟩ := tr.hist h0 i (by omega)
    have hc := cnt_succ ho
    have step : ((D (i + 1)).hist = (D i).hist /\ (D (i + 1)).s.M = (D i).s.M /\ isEff (kind o.op) = false) \/ ((D (i + 1)).hist = (D (i + 1)).s.M :: (D i).hist /\ isEff (kind o.op) = true) := by
      have knew : isNew (kind o.op) = true -> isEff (kind o.op) = false := by cases kind o.op <;> simp [isNew, isEff]
      have klook : isPure (kind o.op) = true \/ isRead (kind o.op) = true -> isEff (kind o.op) = false := by cases kind o.op <;> simp [isPure, isRead, isEff]
      cases tr i o ho with
      | eff M1 c g1 g2 g3 g4 g5 g6 g7 g8 => exact .inr ⟨by rw [g8, g5], g2⟩
      | new v M1 n1 ob g1 g2 g3 g4 g5 g6 g7 g8 g9 => exact .inl ⟨g9, by rw [g5], knew g2⟩
      | look v M1 n1 g1 g2 g3 g4 g5 g6 g7 g8 => exact .inl ⟨g8, by rw [g4], klook g2⟩
      | skip g1 g2 g3 g4 g5 g6 =>
        by_cases he : isEff (kind o.op) = true
        . rw [if_pos he] at g6; exact .inr ⟨by rw [g6, g2], he⟩
        . rw [if_neg he] at g6; exact .inl ⟨g6, by rw [g2], by simpa using he⟩
    rcases step with ⟨s1, s2, s3⟩ | ⟨s1, s2⟩
    . rw [s3] at hc; simp only [Bool.false_eq_true, if_false, Nat.add_zero] at hc; refine ⟨by rw [s1, hc, h1], fun j hj => ?_⟩
      rw [s1]; by_cases e : j = i + 1
      . rw [e, hc, s2]; exact h2 i (Nat.le_refl _)
      . exact h2 j (by omega)
    . rw [if_pos s2] at hc; refine ⟨by rw [s1, hc, List.length_cons, h1], fun j hj => ?_⟩
      rw [s1, List.reverse_cons]; by_cases e : j = i + 1
      . rw [e, hc, List.getElem?_append_right (by rw [List.length_reverse, h1]; omega), List.length_reverse, h1]
        simp
      . have := h2 j (by omega)
        have hlt : cnt ops j < (D i).hist.reverse.length := (List.getElem?_eq_some_iff.1 this).1; rw [List.getElem?_append_left hlt]; exact this
end
end Go.Z
namespace Go.Z
open Go.Eng (TI TD DV DRep DRows DCells Snap nth upd slice' splice TabOk tiOk tdOk TFacts FW)
section
variable {E : Env} {cf yf : CF} {ops : List Oper} {D : Nat -> ZD}
theorem DStep.nk {o : Oper} {i : Nat} {A B : ZD} (h : DStep E cf yf ops o i A B) : B.nk = A.nk + (if isNew (kind o.op) = true then 1 else 0) := by
  have keff : isEff (kind o.op) = true -> isNew (kind o.op) = false := by cases kind o.op <;> simp [isNew, isEff]
  have klook : isPure (kind o.op) = true \/ isRead (kind o.op) = true -> isNew (kind o.op) = false := by cases kind o.op <;> simp [isPure, isRead, isNew]
  cases h with
  | eff M1 c h1 h2 h3 h4 h5 h6 h7 h8 => rw [h7, keff h2]; simp
  | new v M1 n1 ob h1 h2 h3 h4 h5 h6 h7 h8 h9 => rw [h8, h2]; simp
  | look v M1 n1 h1 h2 h3 h4 h5 h6 h7 h8 => rw [h7, klook h2]; simp
  | skip h1 h2 h3 h4 h5 h6 => rw [h5]; split <;> simp
theorem Trace.nk_mono (tr : Trace E cf yf ops D) {i : Nat} : ∀ j, i <= j -> j <= ops.length -> (D i).nk <= (D j).nk
  | 0, h, _ => by rw [show i = 0 by omega]; exact Nat.le_refl _
  | j + 1, h, hl => by
    by_cases e : i = j + 1
    . rw [e]; exact Nat.le_refl _
    . obtain ⟨o, ho⟩ := Trace.get (show j < ops.length by omega)
      have h1 := (tr j o ho).nk; have hij : i <= j := by omega
      have h2 := tr.nk_mono j hij (by omega)
      rw [h1]; exact Nat.le_trans h2 (Nat.le_add_right _ _)
theorem Trace.nk_lt (tr : Trace E cf yf ops D) {i j : Nat} {o : Oper} (ho : ops[i]? = some o) (hn : isNew (kind o.op) = true) (hij : i < j) (hj : j <= ops.length) : (D i).nk < (D j).nk := by
  have h1 := (tr i o ho).nk; rw [if_pos hn] at h1; have := tr.nk_mono (i := i + 1) j (by omega) hj
  omega
theorem Trace.nk_count (tr : Trace E cf yf ops D) : ∀ i, i <= ops.length -> (D i).nk = (D 0).nk + ((ops.take i).filter fun o => isNew (kind o.op)).length
  | 0, _ => by simp
  | i + 1, h => by
    obtain ⟨o, ho⟩ := Trace.get (show i < ops.length by omega)
    have h1 := (tr i o ho).nk; have ih := tr.nk_count i (by omega)
    rw [h1, ih, List.take_succ, ho]; simp only [Option.toList_some, List.filter_append, List.length_append]; by_cases hn : isNew (kind o.op) = true
    . rw [if_pos hn, List.filter_cons_of_pos (p := fun o : Oper => isNew (kind o.op)) hn, List.filter_nil, List.length_singleton, Nat.add_assoc]
    . rw [if_neg hn, List.filter_cons_of_neg (p := fun o : Oper => isNew (kind o.op)) hn, List.filter_nil, List.length_nil, Nat.add_zero, Nat.add_zero]
def NewAt (E : Env) (ops : List Oper) (D : Nat -> ZD) (p κ : Nat) (ob : ZO) : Prop :=
  ∃ o v M1 n1, ops[p]? = some o /\ isNew (kind o.op) = true /\ zwanted ops o (D p).s.t = some true /\ κ = (D p).nk /\ zop E o.op o.type (D p).s.t .e κ = .ok v M1 n1 /\ M1.get κ = some ob
def Unfl (ops : List Oper) (D : Nat -> ZD) (j p : Nat) : Prop := ∀ e o, e < j -> ops[e]? = some o -> isEff (kind o.op) = true -> zwanted ops o (D e).s.t = some true -> p ∉ Rof ops e
theorem flush_sub {ps : List Nat} : ∀ {l : List (Nat × Nat × ZO)} {M M' : Tri ZO} {r : List (Nat × Nat × ZO)}, flush ps l M = (M', r) -> ∀ x ∈ r, x ∈ l /\ x.1 ∉ ps
  | [], M, M', r, h, x, hx => by cases h; cases hx
  | p :: l, M, M', r, h, x, hx => by
    rw [flush] at h; split at h
    . obtain ⟨h1, h2⟩ := flush_sub h x hx; exact ⟨by simp [h1], h2⟩
    . rename_i hn
      split at h
      rename_i M2 l2 hf
      cases h; rcases List.mem_cons.1 hx with rfl | hx
      . exact ⟨by simp, fun hm => by rw [inN_true.2 hm] at hn; cases hn⟩
      . obtain ⟨h1, h2⟩ := flush_sub hf x hx; exact ⟨by simp [h1], h2⟩
theorem Trace.pend (tr : Trace E cf yf ops D) (fa : DrawFacts ops) (h0 : (D 0).pend = []) : ∀ i, i <= ops.length -> ∀ p κ ob, (p, κ, ob) ∈ (D i).pend -> p < i /\ NewAt E ops D p κ ob /\ Unfl ops D i p
  | 0, _, p, κ, ob, hm => by rw [h0] at hm; cases hm
  | i + 1, h, p, κ, ob, hm => by
    obtain ⟨o, ho⟩ := Trace.get (show i < ops.length by omega)
    have ih := tr.pend fa h0 i (by omega)
    have more : ∀ p, Unfl ops D i p -> (isEff (kind o.op) = true -> zwanted ops o (D i).s.t = some true -> p ∉ Rof ops i) -> Unfl ops D (i + 1) p := by
      intro p hu hi e oe he hoe hee hw; by_cases hei : e = i
      . subst hei; rw [ho] at hoe; cases hoe; exact hi hee hw
      . exact hu e oe (by omega) hoe hee hw
    have knew : isNew (kind o.op) = true -> isEff (kind o.op) = false := by cases kind o.op <;> simp [isNew, isEff]
    have klook : isPure (kind o.op) = true \/ isRead (kind o.op) = true -> isEff (kind o.op) = false := by cases kind o.op <;> simp [isPure, isRead, isEff]
    cases tr i o ho with
    | eff M1 c h1 h2 h3 h4 h5 h6 h7 h8 =>
      obtain ⟨g1, g2⟩ := flush_sub h3 _ hm; obtain ⟨k1, k2, k3⟩ := ih p κ ob g1; exact ⟨by omega, k2, more p k3 fun _ _ => g2⟩
    | new v M1 n1 ob' h1 h2 h3 h4 h5 h6 h7 h8 h9 =>
      rw [h7] at hm; rcases List.mem_append.1 hm with hm | hm
      . obtain ⟨k1, k2, k3⟩ := ih p κ ob hm; exact ⟨by omega, k2, more p k3 fun he => by rw [knew h2] at he; cases he⟩
      . simp only [List.mem_singleton, Prod.mk.injEq] at hm; obtain ⟨rfl, rfl, rfl⟩ := hm; refine ⟨by omega, ⟨o, v, M1, n1, ho, h2, h1, rfl, h3, h4⟩, fun e oe he hoe hee hw hmem => ?_⟩
        have := fa.below e p hmem; omega
    | look v M1 n1 h1 h2 h3 h4 h5 h6 h7 h8 =>
      rw [h6] at hm; obtain ⟨k1, k2, k3⟩ := ih p κ ob hm; exact ⟨by omega, k2, more p k3 fun he => by rw [klook h2] at he; cases he⟩
    | skip h1 h2 h3 h4 h5 h6 =>
      rw [h4] at hm; obtain ⟨k1, k2, k3⟩ := ih p κ ob hm; exact ⟨by omega, k2, more p k3 fun _ hw => by rw [h1] at hw; cases hw⟩
theorem closed_Rof (fa : DrawFacts ops) {L : Nat -> Prop} (hL : ∀ k o, ops[k]? = some o -> L k -> ∀ x ∈ binds o, L x) : ∀ i o, ops[i]? = some o -> (∀ x ∈ binds o, L x) -> ∀ x ∈ Rof ops i, L x := by
  intro i
  induction i using Nat.strongRecOn with
  | _ i ih =>
    intro o ho hb x hx; obtain ⟨r1, r2⟩ := Rof_spec ho; rcases r2 x hx with h | ⟨q, hq, h⟩
    . exact hb x h
    . have hqi := fa.below i q (r1 q hq); have hi : i < ops.length := (List.getElem?_eq_some_iff.1 ho).1; obtain ⟨oq, hoq⟩ := Trace.get (show q < ops.length by omega)
      exact ih q hqi oq hoq (hL q oq hoq (hb q hq)) x h
end
end Go.Z
namespace Go.Z
open Go.Eng (TI TD DV DRep DRows DCells Snap nth upd slice' splice TabOk tiOk tdOk TFacts FW)
section
variable {S : Snap} {w0 wE w w' : World} {β0 β β' : Nat -> Loc} {n0 N N' : Nat} {M0 H H' : Tri ZO}
structure Pd (S : Snap) (wE : World) (β : Nat -> Loc) (N : Nat) (H : Tri ZO) (w : World) (κ : Nat) (ob : ZO) : Prop where
  key : Key β N κ
  lt : (β κ).b < w.heap.size
  o0 : (β κ).o = 0
  ge : wE.heap.size <= (β κ).b
  apart : ∀ k o, H.get k = some o -> (β k).b ≠ (β κ).b
  rel : ORel S β N w (β κ) ob
  own : isW ob = true
theorem Pd.post {κ : Nat} {ob : ZO} (d : Pd S wE β N H w κ ob) (m : ZMem S w0 β N H w) (p : ZPost S w0 β N H w β' N' H' w') : Pd S wE β' N' H' w' κ ob := by
  have hb : β' κ = β κ := p.keep κ d.key; refine ⟨d.key.mono p.keep p.nn, by rw [hb]; exact Nat.lt_of_lt_of_le d.lt p.size, by rw [hb]; exact d.o0, by rw [hb]; exact d.ge, ?_, ?_, d.own⟩
  . intro k o hk e; rw [hb] at e; by_cases hw : isW o = true
    . rcases p.wr k o hk hw with ⟨i, oi, g1, _, g3⟩ | g
      . exact d.apart i oi g1 (g3.trans e)
      . have := d.lt; omega
    . have hm := p.rd k o hk (by simpa using hw)
      rw [p.keep k (m.key k o hm).1] at e; exact d.apart k o hm e
  . rw [hb]; exact d.rel.mono p.keep p.nn (p.frame _ d.lt fun j o h1 _ e => d.apart j o h1 e)
theorem flush_post (hge : w0.heap.size <= wE.heap.size) {ps : List Nat} : ∀ {l : List (Nat × Nat × ZO)} {M M' : Tri ZO} {r : List (Nat × Nat × ZO)}, flush ps l M = (M', r) -> ZPost S w0 β0 n0 M0 wE β N M w ->
    (∀ x ∈ l, x.1 ∈ ps -> Pd S wE β N M w x.2.1 x.2.2) -> (l.Pairwise fun x y => x.1 ∈ ps -> y.1 ∈ ps -> (β x.2.1).b ≠ (β y.2.1).b) ->
    ZPost S w0 β0 n0 M0 wE β N M' w /\ ∀ k o, M'.get k = some o -> M.get k = some o \/ ∃ x ∈ l, x.1 ∈ ps /\ x.2.1 = k
  | [], M, M', r, h, p, hd, hp => by cases h; exact ⟨p, fun k o h => .inl h⟩
  | x :: l, M, M', r, h, p, hd, hp => by
    obtain ⟨hp1, hp2⟩ := List.pairwise_cons.1 hp; rw [flush] at h; split at h
    . rename_i hx
      have hx := inN_true.1 hx; have d := hd x (by simp) hx
      have p1 := p.add d.key d.lt d.rel (Nat.le_trans hge d.ge) d.apart (fun _ _ _ _ => d.o0) d.ge d.own
      have split : ∀ i oi, (M.set x.2.1 (some x.2.2)).get i = some oi -> (i = x.2.1 /\ oi = x.2.2) \/ M.get i = some oi := by
        intro i oi h; rw [Tri.get_set] at h; split at h
        . rename_i e; cases h; exact .inl ⟨e.symm, rfl⟩
        . exact .inr h
      obtain ⟨q1, q2⟩ := flush_post hge h p1 (fun y hy hys => by
        have dy := hd y (by simp [hy]) hys
        refine ⟨dy.key, dy.lt, dy.o0, dy.ge, fun k o hk => ?_, dy.rel, dy.own⟩
        rcases split k o hk with ⟨e, _⟩ | hk
        . rw [e]; exact hp1 y hy hx hys
        . exact dy.apart k o hk) hp2
      refine ⟨q1, fun k o hk => ?_⟩
      rcases q2 k o hk with h | ⟨y, hy, hys, e⟩
      . rcases split k o h with ⟨e, _⟩ | h
        . exact .inr ⟨x, by simp, hx, e.symm⟩
        . exact .inl h
      . exact .inr ⟨y, by simp [hy], hys, e⟩
    . rename_i hx
      split at h
      rename_i M2 l2 hf
      cases h; obtain ⟨q1, q2⟩ := flush_post hge hf p (fun y hy hys => hd y (by simp [hy]) hys) hp2
      refine ⟨q1, fun k o hk => ?_⟩
      rcases q2 k o hk with h | ⟨y, hy, hys, e⟩
      . exact .inl h
      . exact .inr ⟨y, by simp [hy], hys, e⟩
theorem flushAll_eq {ps : List Nat} : ∀ {l : List (Nat × Nat × ZO)} {M : Tri ZO}, (∀ x ∈ l, x.1 ∈ ps) -> flush ps l M = (flushAll l M, [])
  | [], M, _ => rfl
  | x :: l, M, h => by
    rw [flush, flushAll, inN_true.2 (h x (by simp))]
    exact flushAll_eq fun y hy => h y (by simp [hy])
end
end Go.Z
namespace Go.Z
open Go.Eng (TI TD DV DRep DRows DCells Snap nth upd slice' splice TabOk tiOk tdOk TFacts FW)
section
variable {E : Env} {cf yf : CF} {ops : List Oper} {D : Nat -> ZD} {S : Snap} {w0 wE w w' : World} {β0 β β' : Nat -> Loc} {n0 : Nat} {M0 : Tri ZO} {a0 a : Act} {L : Nat -> Prop} {j : Nat} {tL : Tri ZV}
structure DI (E : Env) (ops : List Oper) (D : Nat -> ZD) (S : Snap) (w0 wE : World) (β0 : Nat -> Loc) (n0 : Nat) (M0 : Tri ZO) (a0 : Act) (L : Nat -> Prop) (a : Act) (w : World) (j : Nat) (β : Nat -> Loc) (tL : Tri ZV) : Prop where
  le : j <= ops.length
  stage : ∀ (e : Nat) (o : Oper), ops[e]? = some o -> isEff (kind o.op) = true -> (L e ↔ e < j)
  post : ZPost S w0 β0 n0 M0 wE β (D j).s.n (D j).s.M w
  nn : (D 0).s.n <= (D j).s.n
  df : a.defers = a0.defers
  nt : a.tmps.size = (D 0).s.nt
  tm : TRel S β (D j).s.n tL a.tmps
  done : ∀ (d q : Nat) (o : Oper), ops[q]? = some o -> L q -> o.dst = some d -> tL.get d = (D ops.length).s.t.get d
  old : ∀ d : Nat, (∀ (q : Nat) (o : Oper), ops[q]? = some o -> L q -> o.dst ≠ some d) -> tL.get d = (D 0).s.t.get d
  free : ∀ (p : Nat) (o : Oper), ops[p]? = some o -> isNew (kind o.op) = true -> ¬ L p -> (β (D p).nk).k = false
  pend : ∀ (p κ : Nat) (ob : ZO), L p -> NewAt E ops D p κ ob -> Unfl ops D j p -> Pd S wE β (D j).s.n (D j).s.M w κ ob
  two : ∀ (p κ : Nat) (ob : ZO) (p' κ' : Nat) (ob' : ZO), L p -> NewAt E ops D p κ ob -> Unfl ops D j p -> L p' -> NewAt E ops D p' κ' ob' -> Unfl ops D j p' -> p ≠ p' -> (β κ).b ≠ (β κ').b
theorem zwanted_congr {o : Oper} {t t' : Tri ZV} (h : ∀ (k : Nat) (b : Bool) (g : Oper) (d : Nat), o.guard = some (k, b) -> ops[k]? = some g -> g.dst = some d -> t.get d = t'.get d) : zwanted ops o t = zwanted ops o t' := by
  unfold zwanted
  cases hg : o.guard with
  | none => rfl
  | some p =>
    obtain ⟨k, b⟩ := p; dsimp only
    cases hk : ops[k]? with
    | none => rfl
    | some g =>
      dsimp only
      cases hd : g.dst with
      | none => rfl
      | some d =>
        dsimp only
        rw [h k b g d hg hk hd]
theorem DI.sees (di : DI E ops D S w0 wE β0 n0 M0 a0 L a w j β tL) (tr : Trace E cf yf ops D) (fa : DrawFacts ops) {i : Nat} {o : Oper} (ho : ops[i]? = some o) (hni : ¬ L i) (hcl : ∀ k, L k -> ∀ x ∈ Rof ops k, L x) (hR : ∀ x ∈ Rof ops i, L x) :
    (∀ x ∈ o.op.operands.toList, zrd tL x = zrd (D i).s.t x) /\ zwanted ops o tL = zwanted ops o (D i).s.t := by
  have hi : i <= ops.length := Nat.le_of_lt (List.getElem?_eq_some_iff.1 ho).1
  have slot : ∀ d : Nat, (∀ (q : Nat) (oq : Oper), ops[q]? = some oq -> oq.dst = some d -> q ∈ Rof ops i \/ i ∈ Rof ops q) -> tL.get d = (D i).s.t.get d := by
    intro d hq; obtain ⟨s1, s2⟩ := tr.slot fa hi d; by_cases hex : ∃ (q : Nat) (oq : Oper), ops[q]? = some oq /\ oq.dst = some d
    . obtain ⟨q, oq, h1, h2⟩ := hex; rcases hq q oq h1 h2 with h | h
      . rw [di.done d q oq h1 (hR q h) h2, s1 q oq (fa.below i q h) h1 h2]
      . have hnq : ¬ L q := fun hl => hni (hcl q hl i h)
        have hlt := fa.below q i h; rw [di.old d fun q' o' h3 h4 h5 => hnq (by rw [fa.one q q' oq o' d h1 h3 h2 h5]; exact h4), s2 fun q' o' h3 h4 h5 => by have := fa.one q q' oq o' d h1 h4 h2 h5; omega]
    . rw [di.old d fun q o' h3 _ h5 => hex ⟨q, o', h3, h5⟩, s2 fun q o' _ h4 h5 => hex ⟨q, o', h4, h5⟩]
  constructor
  . intro x hx
    cases x with
    | tmp d =>
      have hd : d ∈ tmpsOf o := by
        unfold tmpsOf; exact List.mem_filterMap.2 ⟨.tmp d, hx, rfl⟩
      simp only [zrd]; rw [slot d fun q oq h1 h2 => fa.reads i q o oq d ho h1 h2 hd]
    | _ => rfl
  . refine zwanted_congr fun k b g d hg hk hd => slot d fun q oq h1 h2 => ?_
    have := fa.one k q g oq d hk h1 hd h2; subst this; exact .inl (fa.guards i o k b ho hg)
theorem DI.slots (di : DI E ops D S w0 wE β0 n0 M0 a0 L a w j β tL) (tr : Trace E cf yf ops D) (fa : DrawFacts ops) {i : Nat} {o : Oper} (ho : ops[i]? = some o) {v : ZV} (hv : (D (i + 1)).s.t = setD (D i).s.t o.dst v) :
    (∀ (d q : Nat) (oq : Oper), ops[q]? = some oq -> (L q \/ q = i) -> oq.dst = some d -> (setD tL o.dst v).get d = (D ops.length).s.t.get d) /\
    (∀ d : Nat, (∀ (q : Nat) (oq : Oper), ops[q]? = some oq -> (L q \/ q = i) -> oq.dst ≠ some d) -> (setD tL o.dst v).get d = (D 0).s.t.get d) := by
  have hi : i < ops.length := (List.getElem?_eq_some_iff.1 ho).1; constructor
  . intro d q oq h1 h2 h3; rw [setD_get]; by_cases e : o.dst = some d
    . rw [if_pos e, <- (tr.slot fa (show i + 1 <= ops.length by omega) d).1 i o (by omega) ho e, hv, setD_get, if_pos e]
    . rw [if_neg e]; rcases h2 with h2 | h2
      . exact di.done d q oq h1 h2 h3
      . subst h2; rw [ho] at h1; cases h1; exact absurd h3 e
  . intro d h; rw [setD_get, if_neg (h i o ho (.inr rfl))]; exact di.old d fun q oq h1 h2 => h q oq h1 (.inl h2)
theorem put_TRel {N : Nat} {t : Tri ZV} (r : TRel S β N t a.tmps) {d : Option Nat} {z : ZV} {v : Value} (hv : VRel S β N z v) (hd : ∀ e, d = some e -> e < a.tmps.size) : TRel S β N (setD t d z) (a.put d v).tmps /\ (a.put d v).tmps.size = a.tmps.size /\ (a.put d v).defers = a.defers := by
  cases d with
  | none => exact ⟨r, rfl, rfl⟩
  | some d => exact ⟨r.put (hd d rfl) hv, Array.size_setIfInBounds .., rfl⟩
end
end Go.Z
namespace Go.Z
open Go.Eng (TI TD DV DRep DRows DCells Snap nth upd slice' splice TabOk tiOk tdOk TFacts FW)
section
variable {E : Env} {cf yf : CF} {ops : List Oper} {D : Nat -> ZD} {S : Snap} {w0 wE w w' : World} {β0 β β' : Nat -> Loc} {n0 : Nat} {M0 : Tri ZO} {a0 a : Act} {L : Nat -> Prop} {j : Nat} {tL : Tri ZV}
theorem Trace.reserved (tr : Trace E cf yf ops D) (h0 : (D 0).s.n = (D 0).nk + (ops.filter fun o => isNew (kind o.op)).length) {q : Nat} {o : Oper} (ho : ops[q]? = some o) (hn : isNew (kind o.op) = true) : (D 0).nk <= (D q).nk /\ (D q).nk < (D 0).s.n := by
  have hq : q < ops.length := (List.getElem?_eq_some_iff.1 ho).1; have h1 := tr.nk_lt ho hn hq (Nat.le_refl _); have h2 := tr.nk_count ops.length (Nat.le_refl _); rw [List.take_length] at h2; have h3 := tr.nk_mono (i := 0) q (Nat.zero_le _) (by omega)
  exact ⟨h3, by omega⟩
theorem DI.keepStep (di : DI E ops D S w0 wE β0 n0 M0 a0 L a w j β tL) (tr : Trace E cf yf ops D) (fa : DrawFacts ops) (h0 : (D 0).s.n = (D 0).nk + (ops.filter fun o => isNew (kind o.op)).length) {i : Nat} {o : Oper} (ho : ops[i]? = some o) (he : isEff (kind o.op) = false) (hn : ∀ κ ob, ¬ NewAt E ops D i κ ob) {z : ZV} {v : Value}
    (hz : (D (i + 1)).s.t = setD (D i).s.t o.dst z) (hd : ∀ e, o.dst = some e -> e < (D i).s.nt) (p : ZPost S w0 β (D j).s.n (D j).s.M w β' (D j).s.n (D j).s.M w') (hv : VRel S β' (D j).s.n z v) :
    DI E ops D S w0 wE β0 n0 M0 a0 (fun k => L k \/ k = i) (a.put o.dst v) w' j β' (setD tL o.dst z) := by
  have hi : i < ops.length := (List.getElem?_eq_some_iff.1 ho).1; have hnt : (D i).s.nt = (D 0).s.nt := (tr.fix i (by omega)).1
  obtain ⟨s1, s2⟩ := di.slots tr fa ho hz; obtain ⟨t1, t2, t3⟩ := put_TRel (di.tm.mono p.keep p.nn) (d := o.dst) hv (fun e h => by rw [di.nt, <- hnt]; exact hd e h)
  have inL : ∀ q κ ob, (L q \/ q = i) -> NewAt E ops D q κ ob -> L q := fun q κ ob h hq => h.resolve_right fun e => by subst e; exact hn κ ob hq
  refine ⟨di.le, fun e oe h1 h2 => ?_, di.post.trans p, di.nn, t3.trans di.df, t2.trans di.nt, t1, s1, s2, fun q oq h1 h2 h3 => ?_, fun q κ ob h1 h2 h3 => ?_, fun q κ ob q' κ' ob' h1 h2 h3 h4 h5 h6 h7 => ?_⟩
  . rw [<- di.stage e oe h1 h2]; refine ⟨fun h => h.resolve_right fun h => ?_, .inl⟩
    subst h; rw [ho] at h1; cases h1; rw [he] at h2; cases h2
  . have hq : q < ops.length := (List.getElem?_eq_some_iff.1 h1).1; have f := di.free q oq h1 h2 fun h => h3 (.inl h)
    rw [p.keep0 _ (Nat.lt_of_lt_of_le (tr.reserved h0 h1 h2).2 di.nn)]; exact f
  . exact (di.pend q κ ob (inL q κ ob h1 h2) h2 h3).post di.post.mem p
  . have d1 := di.pend q κ ob (inL q κ ob h1 h2) h2 h3; have d2 := di.pend q' κ' ob' (inL q' κ' ob' h4 h5) h5 h6; rw [p.keep κ d1.key, p.keep κ' d2.key]; exact di.two q κ ob q' κ' ob' (inL q κ ob h1 h2) h2 h3 (inL q' κ' ob' h4 h5) h5 h6 h7
end
end Go.Z
namespace Go.Z
open Go.Eng (TI TD DV DRep DRows DCells Snap nth upd slice' splice TabOk tiOk tdOk TFacts FW)
section
variable {P : Program} {E : Env} {cf yf : CF} {ops : List Oper} {D : Nat -> ZD} {S : Snap} {w0 wE w w' : World} {β0 β β' : Nat -> Loc} {n0 N : Nat} {M0 H : Tri ZO} {a0 a : Act} {L : Nat -> Prop} {j : Nat} {tL : Tri ZV}
theorem ZPost.rekey (p : ZPost S w0 β0 n0 M0 wE β N H w) (hβ : ∀ k, Key β N k -> β' k = β k) (h0 : ∀ k, k < n0 -> β' k = β k) (x : Obj) : ZPost S w0 β0 n0 M0 wE β' N H (w.alloc x) := by
  have q : ZPost S w0 β N H w β N H (w.alloc x) := ZPost.quiet p.mem rfl rfl rfl (by simp) (fun b hb => Go.RowKit.Below.heap_alloc w x b hb)
  have r := p.trans q; have hk : ∀ k o, H.get k = some o -> β' k = β k := fun k o h => hβ k (p.mem.key k o h).1
  refine ⟨⟨r.mem.os, r.mem.tape, r.mem.output, r.mem.size, r.mem.old, r.mem.sub, ?_, ?_, ?_, ?_⟩, r.nn, fun k hk => (h0 k hk).trans (r.keep0 k hk), r.size, r.frame, r.rd, ?_⟩
  . intro k o h; obtain ⟨g1, g2, g3⟩ := r.mem.key k o h; rw [hk k o h]; exact ⟨g1.mono hβ (Nat.le_refl _), g2, g3.mono hβ (Nat.le_refl _) rfl⟩
  . intro k o h hw; rw [hk k o h]; exact r.mem.own k o h hw
  . intro i k oi ok hi hk' hw e; rw [hk i oi hi, hk k ok hk'] at e; exact r.mem.inj i k oi ok hi hk' hw e
  . intro k T h d hh; rw [hk k _ hh]; exact r.mem.low k T h d hh
  . intro k o h hw; rw [hk k o h]; exact r.wr k o h hw
theorem Pd.rekey {κ : Nat} {ob : ZO} (d : Pd S wE β N H w κ ob) (m : ZMem S w0 β N H w) (hβ : ∀ k, Key β N k -> β' k = β k) (x : Obj) : Pd S wE β' N H (w.alloc x) κ ob := by
  have hb : β' κ = β κ := hβ κ d.key; refine ⟨d.key.mono hβ (Nat.le_refl _), by rw [hb]; have := d.lt; simp; omega, by rw [hb]; exact d.o0, by rw [hb]; exact d.ge, fun k o hk => ?_, ?_, d.own⟩
  . rw [hb, hβ k (m.key k o hk).1]; exact d.apart k o hk
  . rw [hb]; exact d.rel.mono hβ (Nat.le_refl _) (Go.RowKit.Below.heap_alloc w x _ d.lt)
theorem NewAt.uniq {p κ κ' : Nat} {ob ob' : ZO} (h : NewAt E ops D p κ ob) (h' : NewAt E ops D p κ' ob') : κ = κ' /\ ob = ob' := by
  obtain ⟨o, v, M1, n1, h1, _, _, h4, h5, h6⟩ := h; obtain ⟨o', v', M1', n1', g1, _, _, g4, g5, g6⟩ := h'; rw [h1] at g1; cases g1; subst h4 g4; rw [h5] at g5; cases g5; rw [h6] at g6; cases g6; exact ⟨rfl, rfl⟩
theorem DI.newStep (di : DI E ops D S w0 wE β0 n0 M0 a0 L a w j β tL) (tr : Trace E cf yf ops D) (fa : DrawFacts ops) (h0 : (D 0).s.n = (D 0).nk + (ops.filter fun o => isNew (kind o.op)).length) (hn0 : n0 <= (D 0).nk) {i : Nat} {o : Oper} (ho : ops[i]? = some o) (hni : ¬ L i) (hnw : isNew (kind o.op) = true)
    {ob : ZO} (hat : NewAt E ops D i (D i).nk ob) (hw : isW ob = true) {z : ZV} {v : Value} {x : Obj} {len : Nat}
    (hz : (D (i + 1)).s.t = setD (D i).s.t o.dst z) (hd : ∀ e, o.dst = some e -> e < (D i).s.nt)
    (hout : ∀ (β'' : Nat -> Loc) (N : Nat), (∀ k, Key β (D j).s.n k -> β'' k = β k) -> (D j).s.n <= N -> (D i).nk < N -> β'' (D i).nk = ⟨w.heap.size, 0, len, true⟩ -> VRel S β'' N z v /\ ORel S β'' N (w.alloc x) (β'' (D i).nk) ob) :
    ∃ β', DI E ops D S w0 wE β0 n0 M0 a0 (fun k => L k \/ k = i) (a.put o.dst v) (w.alloc x) j β' (setD tL o.dst z) := by
  have hi : i < ops.length := (List.getElem?_eq_some_iff.1 ho).1; obtain ⟨k0, k1⟩ := tr.reserved h0 ho hnw; have kN : (D i).nk < (D j).s.n := Nat.lt_of_lt_of_le k1 di.nn; have hfree := di.free i o ho hnw hni; obtain ⟨β', hβ'⟩ : ∃ β' : Nat -> Loc, β' = fun k => if k = (D i).nk then ⟨w.heap.size, 0, len, true⟩ else β k := ⟨_, rfl⟩
  have hκ : β' (D i).nk = ⟨w.heap.size, 0, len, true⟩ := by rw [hβ']; simp
  have hne : ∀ k, k ≠ (D i).nk -> β' k = β k := fun k hk => by rw [hβ']; simp [hk]
  have hkey : ∀ k, Key β (D j).s.n k -> β' k = β k := fun k hk => hne k fun e => by
    have := hk.2; rw [e, hfree] at this; cases this
  obtain ⟨hv, hob⟩ := hout β' _ hkey (Nat.le_refl _) kN hκ; have hpost := di.post.rekey hkey (fun k hk => hne k (by omega)) x
  have hnt : (D i).s.nt = (D 0).s.nt := (tr.fix i (by omega)).1
  obtain ⟨s1, s2⟩ := di.slots tr fa ho hz; obtain ⟨t1, t2, t3⟩ := put_TRel (di.tm.mono hkey (Nat.le_refl _)) (d := o.dst) hv (fun e h => by rw [di.nt, <- hnt]; exact hd e h)
  have pi : Pd S wE β' (D j).s.n (D j).s.M (w.alloc x) (D i).nk ob := by
    refine ⟨⟨kN, by rw [hκ]⟩, by rw [hκ]; simp, by rw [hκ], by rw [hκ]; exact di.post.size, fun k ok hk e => ?_, hob, hw⟩
    obtain ⟨g1, g2, _⟩ := di.post.mem.key k ok hk; rw [hkey k g1, hκ] at e; simp only at e; omega
  have pd : ∀ (q κ : Nat) (ob' : ZO), (L q \/ q = i) -> NewAt E ops D q κ ob' -> Unfl ops D j q -> Pd S wE β' (D j).s.n (D j).s.M (w.alloc x) κ ob' := by
    intro q κ ob' h1 h2 h3; rcases h1 with h1 | h1
    . exact (di.pend q κ ob' h1 h2 h3).rekey di.post.mem hkey x
    . subst h1; obtain ⟨e1, e2⟩ := h2.uniq hat; rw [e1, e2]; exact pi
  have far : ∀ (q κ : Nat) (ob' : ZO), L q -> NewAt E ops D q κ ob' -> Unfl ops D j q -> (β' κ).b ≠ (β' (D i).nk).b := by
    intro q κ ob' h1 h2 h3; have d := di.pend q κ ob' h1 h2 h3; rw [hkey κ d.key, hκ]; have := d.lt; simp only; omega
  have knew : isEff (kind o.op) = false := by
    revert hnw
    cases kind o.op <;> simp [isNew, isEff]
  refine ⟨β', di.le, fun e oe h1 h2 => ?_, hpost, di.nn, t3.trans di.df, t2.trans di.nt, t1, s1, s2, fun q oq h1 h2 h3 => ?_, pd, fun q κ ob' q' κ' ob'' h1 h2 h3 h4 h5 h6 h7 => ?_⟩
  . rw [<- di.stage e oe h1 h2]; refine ⟨fun h => h.resolve_right fun h => ?_, .inl⟩
    subst h; rw [ho] at h1; cases h1; rw [knew] at h2; cases h2
  . have hqi : q ≠ i := fun e => h3 (.inr e)
    have hq : q < ops.length := (List.getElem?_eq_some_iff.1 h1).1
    have : (D q).nk ≠ (D i).nk := by
      rcases Nat.lt_or_gt_of_ne hqi with h | h
      . have := tr.nk_lt h1 h2 h (by omega); omega
      . have := tr.nk_lt ho hnw h (by omega); omega
    rw [hne _ this]; exact di.free q oq h1 h2 fun h => h3 (.inl h)
  . rcases h1 with h1 | h1
    . rcases h4 with h4 | h4
      . have d1 := di.pend q κ ob' h1 h2 h3; have d2 := di.pend q' κ' ob'' h4 h5 h6; rw [hkey κ d1.key, hkey κ' d2.key]; exact di.two q κ ob' q' κ' ob'' h1 h2 h3 h4 h5 h6 h7
      . subst h4; obtain ⟨e1, _⟩ := h5.uniq hat; rw [e1]; exact far q κ ob' h1 h2 h3
    . subst h1; obtain ⟨e1, _⟩ := h2.uniq hat; rcases h4 with h4 | h4
      . rw [e1]; exact fun e => far q' κ' ob'' h4 h5 h6 e.symm
      . exact absurd h4.symm h7
end
end Go.Z
