/- The engine, part 7e: what a loop over a function wants. The engine, part 7f: pure pieces of code, whose ways are joined. -/
import Derived.Test.YtkgiopdkhhinoaaGreatDoorXba
import Derived.RangeFuncNested
import Derived.RangeFuncLeaves
set_option linter.all false
namespace Go.Eng
open Go.RowKit
theorem SReps_iff {β : Nat -> Value} {S : Snap} : ∀ {s : List SV} {v : List Value}, SReps β S s v ↔ v.length = s.length /\ ∀ i, i < s.length -> SRep β S (nth .any s i) (v.getD i undef)
  | [], v => by rw [SReps]; exact ⟨fun h => by subst h; exact ⟨rfl, fun i hi => by cases hi⟩, fun h => List.eq_nil_of_length_eq_zero h.1⟩
  | a :: s, [] => by rw [SReps]; exact ⟨fun ⟨v, vs, h, _⟩ => (by cases h), fun h => (by cases h.1)⟩
  | a :: s, x :: v => by
    rw [SReps]; constructor
    . rintro ⟨y, ys, e, h1, h2⟩; cases e; obtain ⟨g1, g2⟩ := SReps_iff.1 h2; refine ⟨by simp [g1], fun i hi => ?_⟩
      cases i with
      | zero => exact h1
      | succ i => exact g2 i (by simpa using hi)
    . rintro ⟨h1, h2⟩; exact ⟨x, v, rfl, h2 0 (by simp), SReps_iff.2 ⟨by simpa using h1, fun i hi => h2 (i + 1) (by simpa using hi)⟩⟩
theorem upd_length {α : Type} (v : α) : ∀ (l : List α) (i : Nat), (upd v l i).length = l.length
  | [], i => rfl
  | a :: l, 0 => rfl
  | a :: l, i + 1 => by simp [upd, upd_length v l i]
theorem nth_upd_same {α : Type} {d v : α} : ∀ (l : List α) (i : Nat), i < l.length -> nth d (upd v l i) i = v
  | [], i, h => by cases h
  | a :: l, 0, h => rfl
  | a :: l, i + 1, h => nth_upd_same l i (by simpa using h)
theorem nth_any {l : List SV} {i : Nat} (h : l.length <= i) : nth .any l i = .any := by
  induction l generalizing i with
  | nil => rfl
  | cons a l ih => cases i with
    | zero => cases h
    | succ i => exact ih (by simpa using h)
theorem forget_length : ∀ (is : List Nat) (t : List SV), (forget t is).length = t.length
  | [], t => rfl
  | i :: is, t => by rw [forget, forget_length is, upd_length]
theorem nth_forget : ∀ (is : List Nat) (t : List SV) (i : Nat), nth .any (forget t is) i = if i ∈ is then .any else nth .any t i
  | [], t, i => by simp [forget]
  | j :: is, t, i => by
    rw [forget, nth_forget is]; by_cases h : i ∈ is
    . simp [h]
    . by_cases e : j = i
      . subst e; simp only [h, if_false, List.mem_cons, true_or, if_true]; rcases Nat.lt_or_ge j t.length with hl | hl
        . exact nth_upd_same t j hl
        . exact nth_any (by rw [upd_length]; exact hl)
      . have : ¬ i = j := fun h => e h.symm
        simp [h, this, nth_upd_ne t e]
theorem SReps_forget {β : Nat -> Value} {S : Snap} {t : List SV} {v v' : List Value} (h : SReps β S t v) (is : List Nat) (hl : v'.length = v.length) (hv : ∀ i, i ∉ is -> v'[i]? = v[i]?) : SReps β S (forget t is) v' := by
  obtain ⟨h1, h2⟩ := SReps_iff.1 h; refine SReps_iff.2 ⟨by rw [forget_length, hl, h1], fun i hi => ?_⟩
  rw [forget_length] at hi; rw [nth_forget]; split
  . simp [SRep]
  . rename_i hn
    have := h2 i hi; rw [List.getD, hv i hn]; exact this
theorem KBs_forget {n : Nat} : ∀ (is : List Nat) {t : List SV}, KBs n t -> KBs n (forget t is)
  | [], t, h => h
  | i :: is, t, h => KBs_forget is (KBs_upd (by simp [KB]) i h)
theorem SReps_setTs {β : Nat -> Value} {S : Snap} : ∀ (ps : List Nat) (item : List SV) (vals : List Value) (t : List SV) (v : List Value), SReps β S item vals -> SReps β S t v ->
    SReps β S (setTs t (ps.zip item)) ((ps.zip vals).foldl (fun l (i, x) => l.set i x) v)
  | [], item, vals, t, v, _, h => by simpa [setTs] using h
  | p :: ps, [], vals, t, v, hi, h => by rw [SReps] at hi; subst hi; simpa [setTs] using h
  | p :: ps, s :: item, vals, t, v, hi, h => by
    rw [SReps] at hi; obtain ⟨x, vals, rfl, h1, h2⟩ := hi; simp only [List.zip_cons_cons, setTs, List.foldl_cons]; exact SReps_setTs ps item vals _ _ h2 (SReps_upd h1 p h)
theorem KBs_setTs {n : Nat} : ∀ (ps : List Nat) (item : List SV) (t : List SV), KBs n item -> KBs n t -> KBs n (setTs t (ps.zip item))
  | [], item, t, _, h => by simpa [setTs] using h
  | p :: ps, [], t, _, h => by simpa [setTs] using h
  | p :: ps, s :: item, t, hi, h => by
    rw [KBs] at hi; simp only [List.zip_cons_cons, setTs]; exact KBs_setTs ps item _ hi.2 (KBs_upd hi.1 p h)
theorem foldl_set : ∀ (l : List (Nat × Value)) (v : List Value), (l.foldl (fun l (i, x) => l.set i x) v).length = v.length /\ ∀ i, i ∉ l.map (·.1) -> (l.foldl (fun l (i, x) => l.set i x) v)[i]? = v[i]?
  | [], v => ⟨rfl, fun _ _ => rfl⟩
  | (p, x) :: l, v => by
    obtain ⟨h1, h2⟩ := foldl_set l (v.set p x); refine ⟨by rw [List.foldl_cons, h1]; simp, fun i hi => ?_⟩
    rw [List.map_cons, List.mem_cons] at hi; rw [List.foldl_cons, h2 i (fun h => hi (.inr h)), List.getElem?_set_ne (fun e => hi (.inl e.symm))]
theorem params_list (ps : Array Tmp) (vals : List Value) (tmps : Array Value) :
    ((ps.zip vals.toArray).foldl (fun tmps (t, a) => tmps.setIfInBounds t a) tmps).toList = (ps.toList.zip vals).foldl (fun l (i, x) => l.set i x) tmps.toList := by
  rw [<- Array.foldl_toList, Array.toList_zip]; generalize ps.toList.zip vals.toArray.toList = l; show _ = List.foldl _ tmps.toList l
  induction l generalizing tmps with
  | nil => rfl
  | cons p l ih => rw [List.foldl_cons, List.foldl_cons, ih, Array.toList_setIfInBounds]
section
variable {P : Program} {tab : Nat -> TI} {Q : QT} {E : Env} {st : St} {a : Act} {w w' : World} {β : Nat -> Value} {S : Snap}
theorem Grow.refl (w : World) : Grow w w := ⟨rfl, rfl, rfl, Nat.le_refl _, fun _ _ => rfl⟩
theorem Grow.trans {A B C : World} (h : Grow A B) (k : Grow B C) : Grow A C :=
  ⟨k.os.trans h.os, k.tape.trans h.tape, k.output.trans h.output, Nat.le_trans h.size k.size, fun b hb => (k.same b (Nat.lt_of_lt_of_le hb h.size)).trans (h.same b hb)⟩
theorem Grow.alloc (w : World) (o : Obj) : Grow w (w.alloc o) :=
  ⟨rfl, rfl, rfl, by simp, fun b hb => Below.heap_alloc w o b hb⟩
theorem RelB.grow (r : RelB E st a w β S) (h : Grow w w') : RelB E st a w' β S := by
  have m := r.mem; refine ⟨r.tm, r.df, r.kt, r.ko, r.ge, r.old, h.os.trans m.os, h.tape.trans m.tape, h.output.trans m.output, Nat.le_trans m.size h.size, ?_, m.sub, m.new, ?_, ?_, m.inj, m.out, m.mine⟩
  . intro b hb hx; rw [h.same b (Nat.lt_of_lt_of_le hb m.size)]; exact m.frame b hb hx
  . intro b o hb; have := m.sat b o hb; rw [h.same b (Array.getElem?_eq_some_iff.1 this).1]; exact this
  . intro j b hj; exact BRep_congr (Sub.refl S) (n := st.next) (fun _ _ => rfl) (r.ko j b hj).1 (r.ko j b hj).2 (fun x hx => h.same x (BRep_lt (m.blk j b hj) x hx)) (m.blk j b hj)
theorem RelB.poke {l : Nat} (o : Obj) (r : RelB E st a w β S) (hS : S l = none) (ho : ∀ j b, lookB st.own j = some b -> blkOf (β j) ≠ some l) (hl : E.w0.heap.size <= l) : RelB E st a (w.putObj l o) β S := by
  have m := r.mem; refine ⟨r.tm, r.df, r.kt, r.ko, r.ge, r.old, m.os, m.tape, m.output, by simpa using m.size, ?_, m.sub, m.new, ?_, ?_, m.inj, m.out, m.mine⟩
  . intro b hb hx; rw [World.putObj_heap_other (by omega)]
    exact m.frame b hb hx
  . intro b o' hb; rw [World.putObj_heap_other (fun e => by rw [e, hS] at hb; cases hb)]
    exact m.sat b o' hb
  . intro j b hj; exact BRep_congr (Sub.refl S) (n := st.next) (fun _ _ => rfl) (r.ko j b hj).1 (r.ko j b hj).2 (fun x hx => World.putObj_heap_other (fun e => ho j b hj (e ▸ hx))) (m.blk j b hj)
theorem RelB.free {l : Nat} (r : RelB E st a w β S) (h0 : E.S0 l = none) (hX : ¬ E.X l) (hl : l < E.w0.heap.size) : S l = none /\ (∀ j b, lookB st.own j = some b -> blkOf (β j) ≠ some l) /\ w.heap[l]? = E.w0.heap[l]? := by
  refine ⟨?_, ?_, r.mem.frame l hl hX⟩
  . cases h : S l with
    | none => rfl
    | some o => rcases r.mem.new l o h h0 with h | h
                . exact absurd h hX
                . omega
  . intro j b hj hx; rcases r.mem.mine j b l hj hx with h | h
    . exact hX h
    . omega
theorem RelB.poke0 {l : Nat} (o : Obj) (r : RelB E st a w β S) (h0 : E.S0 l = none) (hX : ¬ E.X l) (hl : l < E.w0.heap.size) : RelB { E with w0 := E.w0.putObj l o } st a (w.putObj l o) β S := by
  obtain ⟨f1, f2, f3⟩ := r.free h0 hX hl; have m := r.mem; refine ⟨r.tm, r.df, r.kt, r.ko, r.ge, r.old, m.os, m.tape, m.output, by simpa using m.size, ?_, m.sub, (fun b o h1 h2 => by simpa using m.new b o h1 h2), ?_, ?_, m.inj, m.out, (fun j b x h1 h2 => by simpa using m.mine j b x h1 h2)⟩
  . intro b hb hx; have hb : b < E.w0.heap.size := by simpa using hb
    show (w.putObj l o).heap[b]? = (E.w0.putObj l o).heap[b]?; by_cases e : b = l
    . subst e; rw [World.putObj_heap_same hl, World.putObj_heap_same (Nat.lt_of_lt_of_le hl m.size)]
    . rw [World.putObj_heap_other e, World.putObj_heap_other e]; exact m.frame b hb hx
  . intro b o' hb; rw [World.putObj_heap_other (fun e => by rw [e, f1] at hb; cases hb)]
    exact m.sat b o' hb
  . intro j b hj; exact BRep_congr (Sub.refl S) (n := st.next) (fun _ _ => rfl) (r.ko j b hj).1 (r.ko j b hj).2 (fun x hx => World.putObj_heap_other (fun e => f2 j b hj (e ▸ hx))) (m.blk j b hj)
def baseE (E : Env) (w : World) (own : Own) (β : Nat -> Value) (S : Snap) : Env := ⟨w, blocksOf own β, S, β, E.nx⟩
theorem RelB.base (r : RelB E st a w β S) : RelB (baseE E w st.own β S) st { tmps := a.tmps, defers := [] } w β S :=
  ⟨r.tm, trivial, r.kt, r.ko, r.ge, fun _ _ => rfl, r.mem.sub' (fun _ _ h => h)⟩
theorem RelB.back {t1 t2 : List SV} {own1 own2 : Own} {n1 n2 : Nat} {a2 : Act} {w1 w1' w2 : World} {β1 β2 : Nat -> Value} {S1 S2 : Snap} (r1 : RelB E ⟨t1, own1, n1⟩ a w1 β1 S1) (r2 : RelB (baseE E w1' own1 β1 S1) ⟨t2, own2, n2⟩ a2 w2 β2 S2)
    (hs : w1'.heap.size = w1.heap.size) (hos : w1'.os = w1.os) (htp : w1'.tape = w1.tape) (hou : w1'.output = w1.output) (hb : ∀ b, b < E.w0.heap.size -> w1'.heap[b]? = w1.heap[b]?)
    {t3 : List SV} (ht : SReps β2 S2 t3 a.tmps.toList) (hk : KBs n2 t3) : RelB E ⟨t3, own2, n2⟩ a w2 β2 S2 := by
  have m1 := r1.mem; have m2 := r2.mem; have hX : ∀ {b}, blocksOf own1 β1 b -> E.X b \/ E.w0.heap.size <= b := fun ⟨j, bk, h1, h2⟩ => m1.mine j bk _ h1 h2
  refine ⟨ht, r1.df.mono m2.sub, hk, r2.ko, r2.ge, fun j hj => (r2.old j hj).trans (r1.old j hj), ?_⟩
  refine ⟨m2.os.trans (hos.trans m1.os), m2.tape.trans (htp.trans m1.tape), m2.output.trans (hou.trans m1.output), ?_, ?_, m1.sub.trans m2.sub, ?_, m2.sat, m2.blk, m2.inj, m2.out, ?_⟩
  . have h2 : w1'.heap.size <= w2.heap.size := m2.size; have := m1.size; omega
  . intro b hlt hx; have hlt1 : b < w1'.heap.size := by have := m1.size; omega
    refine ((m2.frame b hlt1 (fun h => (hX h).elim hx (fun h => by omega))).trans (hb b hlt)).trans ?_
    exact m1.frame b hlt hx
  . intro b o h1 h2
    cases h : S1 b with
    | some o' => exact m1.new b o' h h2
    | none =>
      rcases m2.new b o h1 h with h | h
      . exact hX h
      . have h : w1'.heap.size <= b := h; right
        have := m1.size; omega
  . intro j b x h1 h2; rcases m2.mine j b x h1 h2 with h | h
    . exact hX h
    . have h : w1'.heap.size <= x := h; right
      have := m1.size; omega
theorem RelB.more {S' : Snap} (r : RelB E st a w β S) (hs : Sub S S') (hsat : ∀ b o, S' b = some o -> w.heap[b]? = some o) (hn : ∀ b o, S' b = some o -> S b = none -> E.w0.heap.size <= b /\ ∀ j bk, lookB st.own j = some bk -> blkOf (β j) ≠ some b) : RelB E st a w β S' := by
  have m := r.mem; refine ⟨SReps_congr hs (n := st.next) (fun _ _ => rfl) _ _ r.kt r.tm, r.df.mono hs, r.kt, r.ko, r.ge, r.old, m.os, m.tape, m.output, m.size, m.frame, m.sub.trans hs, ?_, hsat, ?_, m.inj, ?_, m.mine⟩
  . intro b o h1 h2
    cases h : S b with
    | some o' => exact m.new b o' h h2
    | none => exact .inr (hn b o h1 h).1
  . intro j b hj; exact BRep_congr hs (n := st.next) (fun _ _ => rfl) (r.ko j b hj).1 (r.ko j b hj).2 (fun _ _ => rfl) (m.blk j b hj)
  . intro j b x hj hx
    cases h : S' x with
    | none => rfl
    | some o => exact absurd hx ((hn x o h (m.out j b x hj hx)).2 j b hj)
def orS (S S' : Snap) : Snap := fun b => match S b with
  | some o => some o
  | none => S' b
theorem orS_left {S S' : Snap} : Sub S (orS S S') := fun b o h => by simp [orS, h]
theorem orS_right {S S' : Snap} {w : World} (h : ∀ b o, S b = some o -> w.heap[b]? = some o) (h' : ∀ b o, S' b = some o -> w.heap[b]? = some o) : Sub S' (orS S S') := fun b o hb => by
  unfold orS
  cases hS : S b with
  | none => exact hb
  | some o' => have := h b o' hS; rw [h' b o hb] at this; exact this.symm
theorem orS_inv {S S' : Snap} {b : Nat} {o : Obj} (h : orS S S' b = some o) : S b = some o \/ S b = none /\ S' b = some o := by
  unfold orS at h
  cases hS : S b with
  | none => rw [hS] at h; exact .inr ⟨rfl, h⟩
  | some o' => rw [hS] at h; exact .inl h
theorem RelB.mark {r0 : Nat} (r : RelB E st a w β S) (hr : w.heap[r0]? = some (.deferred (some []))) (hS : S r0 = none) (ho : ∀ j b, lookB st.own j = some b -> blkOf (β j) ≠ some r0) (hl : E.w0.heap.size <= r0) (h0 : E.S0 r0 = none) :
    ∃ S', Sub S S' /\ (∀ b, b ≠ r0 -> S' b = S b) /\ RelB E st { a with defers := [{ target := .collected r0, args := #[] }] ++ a.defers } w β S' := by
  let S' : Snap := fun b => if b = r0 then some (.deferred (some [])) else S b
  have hs : Sub S S' := by
    intro b o hb; by_cases e : b = r0
    . rw [e, hS] at hb; cases hb
    . simp [S', e, hb]
  have hne : ∀ b, b ≠ r0 -> S' b = S b := fun b e => by simp [S', e]
  refine ⟨S', hs, hne, SReps_congr hs (n := st.next) (fun _ _ => rfl) _ _ r.kt r.tm, ?_, r.kt, r.ko, r.ge, r.old, ?_⟩
  . refine ⟨⟨r0, rfl, by simp [S'], h0, fun d' hd' e => ?_⟩, r.df.mono hs⟩
    obtain ⟨x, g1, g2⟩ := r.df.get d' hd'; rw [g1] at e; cases e; rw [hS] at g2; cases g2
  . have m := r.mem; refine ⟨m.os, m.tape, m.output, m.size, m.frame, m.sub.trans hs, ?_, ?_, ?_, m.inj, ?_, m.mine⟩
    . intro b o h1 h2; by_cases e : b = r0
      . rw [e]; exact .inr hl
      . rw [hne b e] at h1; exact m.new b o h1 h2
    . intro b o h1; by_cases e : b = r0
      . rw [e] at h1 ⊢; simp [S'] at h1; rw [<- h1]; exact hr
      . rw [hne b e] at h1; exact m.sat b o h1
    . intro j b hj; exact BRep_congr hs (n := st.next) (fun _ _ => rfl) (r.ko j b hj).1 (r.ko j b hj).2 (fun _ _ => rfl) (m.blk j b hj)
    . intro j b x hj hx; rw [hne x (fun e => ho j b hj (e ▸ hx))]
      exact m.out j b x hj hx
theorem RelB.take {d : Deferred} {ds : List Deferred} {tmps : Array Value} (r : RelB E st { tmps := tmps, defers := d :: ds } w β S) :
    ∃ x S', d.target = .collected x /\ w.heap[x]? = some (.deferred (some [])) /\ RelB E st { tmps := tmps, defers := ds } (w.putObj x (.deferred none)) β S' := by
  obtain ⟨⟨x, h1, h2, h3, h4⟩, hm⟩ := r.df; have hx := r.mem.sat x _ h2; let S' : Snap := fun b => if b = x then none else S b
  have hc : SubC S S' := by
    intro b c T fr hb; by_cases e : b = x
    . rw [e, h2] at hb; cases hb
    . simp [S', e, hb]
  have hne : ∀ b, b ≠ x -> S' b = S b := fun b e => by simp [S', e]
  have hxo : ∀ j b, lookB st.own j = some b -> blkOf (β j) ≠ some x := fun j b hj hx => by rw [r.mem.out j b x hj hx] at h2; cases h2
  have m := r.mem; refine ⟨x, S', h1, hx, SReps_congrC hc (n := st.next) (fun _ _ => rfl) _ _ r.kt r.tm, ?_, r.kt, r.ko, r.ge, r.old, m.os, m.tape, m.output, by simpa using m.size, ?_, ?_, ?_, ?_, ?_, m.inj, ?_, m.mine⟩
  . clear r h1
    induction ds with
    | nil => trivial
    | cons d' ds ih =>
      obtain ⟨⟨y, g1, g2, g3, g4⟩, hm⟩ := hm; have hy : y ≠ x := fun e => h4 d' (by simp) (by rw [g1, e])
      exact ⟨⟨y, g1, by rw [hne y hy]; exact g2, g3, g4⟩, ih hm (fun d hd => h4 d (by simp [hd]))⟩
  . intro b hb hX; by_cases e : b = x
    . subst e; rcases m.new b _ h2 h3 with h | h
      . exact absurd h hX
      . omega
    . rw [World.putObj_heap_other e]; exact m.frame b hb hX
  . intro b o hb; have : b ≠ x := fun e => by rw [e, h3] at hb; cases hb
    rw [hne b this]; exact m.sub b o hb
  . intro b o hb; by_cases e : b = x
    . simp [S', e] at hb
    . rw [hne b e] at hb; exact m.new b o hb
  . intro b o hb; by_cases e : b = x
    . simp [S', e] at hb
    . rw [hne b e] at hb; rw [World.putObj_heap_other e]; exact m.sat b o hb
  . intro j b hj; exact BRep_congrC hc (n := st.next) (fun _ _ => rfl) (r.ko j b hj).1 (r.ko j b hj).2 (fun y hy => World.putObj_heap_other (fun e => hxo j b hj (e ▸ hy))) (m.blk j b hj)
  . intro j b y hj hy; rw [hne y (fun e => hxo j b hj (e ▸ hy))]
    exact m.out j b y hj hy
theorem RelB.lt (r : RelB E st a w β S) : (∀ b o, S b = some o -> b < w.heap.size) /\ ∀ j b x, lookB st.own j = some b -> blkOf (β j) = some x -> x < w.heap.size :=
  ⟨fun b o h => (Array.getElem?_eq_some_iff.1 (r.mem.sat b o h)).1, fun j b x h1 h2 => BRep_lt (r.mem.blk j b h1) x h2⟩
end
end Go.Eng
namespace Go.Eng
section
variable {P : Program} {tab : Nat -> TI} {Q : QT}
def PT.All (p : List SV -> Prop) : PT -> Prop
  | .leaf t => p t
  | .node b x y => (b () = true -> PT.All p x) /\ (b () = false -> PT.All p y)
  | .bad => False
theorem PT.All.mono {p q : List SV -> Prop} (h : ∀ t, p t -> q t) : ∀ {T : PT}, PT.All p T -> PT.All q T
  | .leaf t, ht => h t ht
  | .node b x y, ⟨h1, h2⟩ => ⟨fun e => (h1 e).mono h, fun e => (h2 e).mono h⟩
  | .bad, hb => hb.elim
def VLe (v w : SV) : Prop := (∀ (β : Nat -> Value) (S : Snap) x, SRep β S v x -> SRep β S w x) /\ ∀ n, KB n v -> KB n w
theorem VLe.refl (v : SV) : VLe v v := ⟨fun _ _ _ h => h, fun _ h => h⟩
theorem VLe.trans {u v w : SV} (h : VLe u v) (k : VLe v w) : VLe u w := ⟨fun β S x e => k.1 β S x (h.1 β S x e), fun n e => k.2 n (h.2 n e)⟩
theorem nth_upd {v : SV} : ∀ (l : List SV) (i j : Nat), nth .any (upd v l i) j = if i = j /\ j < l.length then v else nth .any l j
  | [], i, j => by cases i <;> cases j <;> simp [upd, nth]
  | a :: l, 0, 0 => by simp [upd, nth]
  | a :: l, 0, j + 1 => by simp [upd, nth]
  | a :: l, i + 1, 0 => by simp [upd, nth]
  | a :: l, i + 1, j + 1 => by simp [upd, nth, nth_upd l i j]
theorem mem_inN : ∀ {l : List Nat} {i : Nat}, inN l i = true ↔ i ∈ l
  | [], i => by simp [inN]
  | k :: l, i => by
    rw [inN]
    cases h : Nat.beq k i with
    | true => simp [beq_true h]
    | false =>
      have := beq_false h; simp only [mem_inN, List.mem_cons]; exact ⟨.inr, fun h => h.elim (fun e => absurd e.symm this) id⟩
structure Ref (W : List Nat) (t t' : List SV) : Prop where
  len : t'.length = t.length
  un : ∀ i, inN W i = false -> VLe (nth .any t' i) (nth .any t i)
theorem Ref.refl (W : List Nat) (t : List SV) : Ref W t t := ⟨rfl, fun _ _ => VLe.refl _⟩
theorem Ref.setT {W : List Nat} {t t' : List SV} (r : Ref W t t') {d : Option Nat} {v : SV} (h : ∀ i, d = some i -> inN W i = true) : Ref W t (setT t' d v) := by
  cases d with
  | none => exact r
  | some d =>
    refine ⟨by show (upd v t' d).length = _; rw [upd_length]; exact r.len, fun i hi => ?_⟩
    show VLe (nth .any (upd v t' d) i) _; rw [nth_upd]; split
    . rename_i e
      have := h d rfl; rw [e.1, hi] at this; cases this
    . exact r.un i hi
theorem Ref.know {W : List Nat} {t t' : List SV} (r : Ref W t t') {d : Nat} {f : Unit -> Bool} {b : Bool} (hd : nth .any t' d = .bs f) (h : f () = b) : Ref W t (upd (.bool b) t' d) := by
  refine ⟨by rw [upd_length]; exact r.len, fun i hi => ?_⟩
  rw [nth_upd]; split
  . rename_i e
    refine VLe.trans ?_ (r.un i hi); rw [<- e.1, hd]; exact ⟨fun β S x hx => by simp only [SRep] at hx ⊢; rw [hx, h], fun n _ => by simp [KB]⟩
  . exact r.un i hi
theorem runP_holds {p : List SV -> Prop} : ∀ (ap : AP) {t : List SV} {own : Own} {n : Nat} {K : SV -> Own -> Nat -> R} {k : SV -> PT}, PT.All p (runP ap t own k) -> (∀ v, PT.All p (k v) -> Holds P tab Q (K v own n)) -> Holds P tab Q (runAP ap t own n K)
  | .ret v, t, own, n, K, k, h, hk => by rw [runAP]; exact hk v h
  | .rdT i f, t, own, n, K, k, h, hk => by rw [runAP]; exact runP_holds (f (nth .any t i)) h hk
  | .rdB j f, t, own, n, K, k, h, hk => by
    rw [runAP]; rw [runP] at h
    cases hb : lookB own j with
    | none => rw [hb] at h; exact h.elim
    | some b => rw [hb] at h; exact runP_holds (f b) h hk
  | .split b x y, t, own, n, K, k, h, hk => by
    rw [runAP]; exact .split (fun e => runP_holds x (h.1 e) hk) (fun e => runP_holds y (h.2 e) hk)
  | .wrB _ _ _, t, own, n, K, k, h, hk => h.elim
  | .sealB _ _, t, own, n, K, k, h, hk => h.elim
  | .newB _ _, t, own, n, K, k, h, hk => h.elim
  | .movB _ _ _, t, own, n, K, k, h, hk => h.elim
  | @AP.need _ _ _, t, own, n, K, k, h, hk => h.elim
  | .row _ _ _, t, own, n, K, k, h, hk => h.elim
  | .call _ _ _, t, own, n, K, k, h, hk => h.elim
  | .stuck _, t, own, n, K, k, h, hk => h.elim
theorem pSplit_holds {p : List SV -> Prop} {W : List Nat} {t0 t : List SV} {o : Operand} {k : Bool -> List SV -> PT} {K : Bool -> List SV -> R} (h : PT.All p (pSplit t o k)) (r : Ref W t0 t)
    (hk : ∀ b t', Ref W t0 t' -> PT.All p (k b t') -> Holds P tab Q (K b t')) : Holds P tab Q (splitT t o K) := by
  cases o with
  | tmp i =>
    simp only [pSplit] at h; simp only [splitT]; generalize hv : nth .any t i = v at h
    cases v with
    | bool b => exact hk b t r h
    | bs f => exact .split (fun e => hk true _ (r.know hv e) (h.1 e)) (fun e => hk false _ (r.know hv e) (h.2 e))
    | _ => exact h.elim
  | const v =>
    cases v with
    | bool b => exact hk b t r h
    | _ => exact h.elim
  | global g => exact h.elim
  | func f => exact h.elim
theorem pGuard_holds {p : List SV -> Prop} {W : List Nat} {t0 t : List SV} {d : Nat} {want : Bool} {k : Bool -> List SV -> PT} {K : Bool -> List SV -> R} (h : PT.All p (pGuard t d want k)) (r : Ref W t0 t)
    (hk : ∀ b t', Ref W t0 t' -> PT.All p (k b t') -> Holds P tab Q (K b t')) : Holds P tab Q (guardT t d want K) := by
  cases hv : nth .any t d with
  | raw v =>
    simp only [pGuard, hv] at h; simp only [guardT, hv]
    cases v with
    | bool b => exact h.elim
    | _ => exact hk false t r h
  | _ =>
    have e1 : pGuard t d want k = pSplit t (.tmp d) fun b t => k (b == want) t := by simp only [pGuard, hv]
    have e2 : guardT t d want K = splitT t (.tmp d) fun b t => K (b == want) t := by simp only [guardT, hv]
    rw [e1] at h; rw [e2]; exact pSplit_holds h r fun b t' r' h' => hk (b == want) t' r' h'
theorem pOps_holds {p : List SV -> Prop} {W : List Nat} {t0 : List SV} {all : List Oper} {own : Own} {n : Nat} {K : St -> R} {k : List SV -> PT} (hk : ∀ t, Ref W t0 t -> PT.All p (k t) -> Holds P tab Q (K ⟨t, own, n⟩)) :
    ∀ (os : List Oper) (t : List SV), (∀ i, i ∈ writesOps os -> inN W i = true) -> Ref W t0 t -> PT.All p (pOps tab all os t own k) -> Holds P tab Q (execOps tab all os ⟨t, own, n⟩ K)
  | [], t, hW, r, h => by rw [execOps]; exact hk t r h
  | o :: os, t, hW, r, h => by
    have hd : ∀ i, o.dst = some i -> inN W i = true := fun i hi => hW i (by rw [writesOps, hi]; simp)
    have hW' : ∀ i, i ∈ writesOps os -> inN W i = true := fun i hi => hW i (by rw [writesOps]; split <;> simp [hi])
    have go : ∀ t', Ref W t0 t' -> PT.All p (runP (opProg tab o) t' own fun v => pOps tab all os (setT t' o.dst v) own k) -> Holds P tab Q (runAP (opProg tab o) t' own n fun v own n => execOps tab all os ⟨setT t' o.dst v, own, n⟩ K) := fun t' r' h' =>
      runP_holds _ h' fun v hv => pOps_holds hk os _ hW' (r'.setT hd) hv
    rw [execOps]; rw [pOps] at h
    cases hg : o.guard with
    | none => rw [hg] at h; exact go t r h
    | some jw =>
      obtain ⟨j, want⟩ := jw; rw [hg] at h; simp only at h ⊢
      cases hj : all[j]? with
      | none => rw [hj] at h; exact h.elim
      | some g =>
        rw [hj] at h; simp only at h ⊢
        cases hd2 : g.dst with
        | none => rw [hd2] at h; exact h.elim
        | some d =>
          rw [hd2] at h; simp only at h ⊢; refine pGuard_holds h r fun b t' r' h' => ?_
          cases b with
          | true => exact go t' r' h'
          | false => exact pOps_holds hk os _ hW' (r'.setT hd) h'
theorem mergeV_sound (b : Unit -> Bool) (v w : SV) : (b () = true -> VLe v (mergeV b v w)) /\ (b () = false -> VLe w (mergeV b v w)) := by
  have key : ∀ v w : SV, (∀ (β : Nat -> Value) (S : Snap) x, SRep β S v x -> SRep β S w x) -> (∀ n, KB n v -> KB n w) -> VLe v w := fun v w h1 h2 => ⟨h1, h2⟩
  unfold mergeV; split
  all_goals try
    (constructor <;> intro hb <;> refine key _ _ (fun β S x hx => ?_) (fun n _ => by simp [KB]) <;> simp only [SRep] at hx ⊢ <;> simp [hx, hb]
     done)
  . split
    . rename_i hk
      have hk := of_decide_eq_true hk; subst hk; constructor <;> intro hb <;> refine key _ _ (fun β S x hx => ?_) (fun n _ => by simp [KB]) <;> simp only [SRep] at hx ⊢ <;> simp [hx, hb]
    . constructor <;> intro hb <;> exact key _ _ (fun β S x hx => by simp [SRep]) (fun n _ => by simp [KB])
  . split
    . rename_i hk
      have hk := beq_true hk; subst hk; constructor <;> intro hb <;> refine key _ _ (fun β S x hx => ?_) (fun n _ => by simp [KB]) <;> simp only [SRep] at hx ⊢ <;> simpa [hb] using hx
    . constructor <;> intro hb <;> exact key _ _ (fun β S x hx => by simp [SRep]) (fun n _ => by simp [KB])
  . split
    . rename_i h1 h2
      have h1 := beq_true h1; have h2 := beq_true h2; subst h1 h2; exact ⟨fun _ => VLe.refl _, fun _ => VLe.refl _⟩
    . constructor <;> intro hb <;> exact key _ _ (fun β S x hx => by simp [SRep]) (fun n _ => by simp [KB])
  . split
    . rename_i h1
      have h1 := beq_true h1; subst h1; exact ⟨fun _ => VLe.refl _, fun _ => VLe.refl _⟩
    . constructor <;> intro hb <;> exact key _ _ (fun β S x hx => by simp [SRep]) (fun n _ => by simp [KB])
  all_goals constructor <;> intro hb <;> exact key _ _ (fun β S x hx => by simp [SRep]) (fun n _ => by simp [KB])
theorem mergeL_length (b : Unit -> Bool) (W : List Nat) : ∀ (j : Nat) (x y : List SV), (mergeL b W j x y).length = x.length
  | j, [], y => by simp [mergeL]
  | j, a :: x, [] => by simp [mergeL]
  | j, a :: x, c :: y => by simp [mergeL, mergeL_length b W (j + 1) x y]
theorem mergeL_nth (b : Unit -> Bool) (W : List Nat) : ∀ (j : Nat) (x y : List SV) (i : Nat), x.length = y.length -> nth .any (mergeL b W j x y) i = if inN W (j + i) /\ i < x.length then mergeV b (nth .any x i) (nth .any y i) else nth .any x i
  | j, [], [], i, h => by cases i <;> simp [mergeL, nth]
  | j, a :: x, c :: y, 0, h => by
    simp only [mergeL, nth, Nat.add_zero]; cases inN W j <;> simp
  | j, a :: x, c :: y, i + 1, h => by
    simp only [mergeL, nth]; rw [mergeL_nth b W (j + 1) x y i (by simpa using h)]
    have : j + 1 + i = j + (i + 1) := by omega
    rw [this]; simp
theorem restrL_length (W : List Nat) : ∀ (j : Nat) (x y : List SV), (restrL W j x y).length = x.length
  | j, [], y => by simp [restrL]
  | j, a :: x, [] => by simp [restrL]
  | j, a :: x, c :: y => by simp [restrL, restrL_length W (j + 1) x y]
theorem restrL_nth (W : List Nat) : ∀ (j : Nat) (x y : List SV) (i : Nat), x.length = y.length -> nth .any (restrL W j x y) i = if inN W (j + i) then nth .any y i else nth .any x i
  | j, [], [], i, h => by cases i <;> simp [restrL, nth]
  | j, a :: x, c :: y, 0, h => by
    simp only [restrL, nth, Nat.add_zero]; cases inN W j <;> simp
  | j, a :: x, c :: y, i + 1, h => by
    simp only [restrL, nth]; rw [restrL_nth W (j + 1) x y i (by simpa using h)]
    have : j + 1 + i = j + (i + 1) := by omega
    rw [this]
def Cov (W : List Nat) (t' m : List SV) : Prop := ∀ i, inN W i = true -> VLe (nth .any t' i) (nth .any m i)
theorem merge_sound {W : List Nat} {t0 : List SV} : ∀ (T : PT) (m : List SV), mergePT W t0 T = some m -> PT.All (fun t' => t'.length = t0.length -> Cov W t' m) T /\ m.length = t0.length /\ ∀ i, inN W i = false -> nth .any m i = nth .any t0 i
  | .leaf t, m, h => by
    rw [mergePT] at h; cases h; refine ⟨fun hl i hi => ?_, restrL_length W 0 t0 t, fun i hi => ?_⟩
    . rw [restrL_nth W 0 t0 t i hl.symm, Nat.zero_add, hi]; exact VLe.refl _
    . by_cases hl : t0.length = t.length
      . rw [restrL_nth W 0 t0 t i hl, Nat.zero_add, hi]; simp
      . have : ∀ (j : Nat) (x y : List SV) (i : Nat), inN W (j + i) = false -> nth .any (restrL W j x y) i = nth .any x i := by
          intro j x
          induction x generalizing j with
          | nil => intro y i _; cases i <;> simp [restrL, nth]
          | cons a x ih =>
            intro y i hi
            cases y with
            | nil => simp [restrL]
            | cons c y =>
              cases i with
              | zero => simp only [Nat.add_zero] at hi; simp [restrL, nth, hi]
              | succ i =>
                simp only [restrL, nth]; exact ih (j + 1) y i (by rw [<- hi]; congr 1; omega)
        exact this 0 t0 t i (by rw [Nat.zero_add]; exact hi)
  | .node b x y, m, h => by
    rw [mergePT] at h; split at h
    . rename_i p q hp hq
      cases h; obtain ⟨a1, a2, a3⟩ := merge_sound x p hp; obtain ⟨b1, b2, b3⟩ := merge_sound y q hq; have hl : p.length = q.length := a2.trans b2.symm
      have out : ∀ i, ¬ i < p.length -> nth SV.any p i = .any /\ nth SV.any q i = .any := by
        have : ∀ (l : List SV) i, ¬ i < l.length -> nth SV.any l i = .any := by
          intro l
          induction l with
          | nil => intro i _; cases i <;> rfl
          | cons a l ih =>
            intro i hi
            cases i with
            | zero => simp at hi
            | succ i => exact ih i (by simpa using hi)
        exact fun i hi => ⟨this p i hi, this q i (by omega)⟩
      refine ⟨⟨fun e => a1.mono fun t' h1 hlen i hi => ?_, fun e => b1.mono fun t' h1 hlen i hi => ?_⟩, by rw [mergeL_length]; exact a2, fun i hi => ?_⟩
      . refine (h1 hlen i hi).trans ?_; rw [mergeL_nth b W 0 p q i hl, Nat.zero_add]; split
        . exact (mergeV_sound b _ _).1 e
        . exact VLe.refl _
      . refine (h1 hlen i hi).trans ?_; rw [mergeL_nth b W 0 p q i hl, Nat.zero_add]; split
        . exact (mergeV_sound b _ _).2 e
        . rename_i hn
          obtain ⟨o1, o2⟩ := out i (fun hi2 => hn ⟨hi, hi2⟩)
          rw [o1, o2]; exact VLe.refl _
      . rw [mergeL_nth b W 0 p q i hl, Nat.zero_add, hi]; simpa using a3 i hi
    . cases h
  | .bad, m, h => by rw [mergePT] at h; cases h
theorem join_rel {E : Env} {W : List Nat} {t0 t' m : List SV} {own : Own} {n : Nat} {a : Act} {w : World} {β : Nat -> Value} {S : Snap} (r : RelB E ⟨t', own, n⟩ a w β S) (hc : Cov W t' m) (hr : Ref W t0 t') (hl : m.length = t0.length) (hu : ∀ i, inN W i = false -> nth .any m i = nth .any t0 i) :
    RelB E ⟨m, own, n⟩ a w β S := by
  have hv : ∀ i, VLe (nth .any t' i) (nth .any m i) := fun i => by
    cases h : inN W i with
    | true => exact hc i h
    | false => rw [hu i h]; exact hr.un i h
  have htm := SReps_iff.1 r.tm; have hlen : t'.length = m.length := hr.len.trans hl.symm; refine ⟨SReps_iff.2 ⟨htm.1.trans hlen, fun i hi => (hv i).1 _ _ _ (htm.2 i (by show i < t'.length; rw [hlen]; exact hi))⟩, r.df, ?_, r.ko, r.ge, r.old, r.mem⟩
  have hk := r.kt
  have all : ∀ (l : List SV) n, KBs n l ↔ ∀ i, i < l.length -> KB n (nth .any l i) := by
    intro l n
    induction l with
    | nil => simp [KBs]
    | cons a l ih =>
      rw [KBs, ih]; constructor
      . rintro ⟨h1, h2⟩ i hi
        cases i with
        | zero => exact h1
        | succ i => exact h2 i (by simpa using hi)
      . intro h; exact ⟨h 0 (by simp), fun i hi => h (i + 1) (by simpa using hi)⟩
  exact (all m n).2 fun i hi => (hv i).2 n (KBs_nth i hk)
def exec0 (tab : Nat -> TI) : Code -> St -> (St -> R) -> R
  | .skip, st, k => k st
  | .region _ ops d, st, k => match d with
    | true => .stuck 160
    | false => execOps tab ops.toList ops.toList st k
  | .seq a b, st, k => exec0 tab a st fun st => exec0 tab b st k
  | .cond c x y, st, k => splitT st.t c fun b t => match b with
    | true => exec0 tab x ⟨t, st.own, st.next⟩ k
    | false => exec0 tab y ⟨t, st.own, st.next⟩ k
  | _, _, _ => .stuck 161
theorem pCode_holds {p : List SV -> Prop} {W : List Nat} {t0 : List SV} {own : Own} {n : Nat} : ∀ (c : Code) (t : List SV) (k : List SV -> PT) (K : St -> R), (∀ i, i ∈ writes c -> inN W i = true) -> Ref W t0 t -> PT.All p (pCode tab c t own k) -> (∀ t, Ref W t0 t -> PT.All p (k t) -> Holds P tab Q (K ⟨t, own, n⟩)) -> Holds P tab Q (exec0 tab c ⟨t, own, n⟩ K)
  | .skip, t, k, K, hW, r, h, hk => by rw [exec0]; rw [pCode] at h; exact hk t r h
  | .region id ops true, t, k, K, hW, r, h, hk => h.elim
  | .region id ops false, t, k, K, hW, r, h, hk => by
    have h' : PT.All p (pOps tab ops.toList ops.toList t own k) := h; show Holds P tab Q (execOps tab ops.toList ops.toList ⟨t, own, n⟩ K); rw [writes] at hW; exact pOps_holds hk ops.toList t hW r h'
  | .seq x y, t, k, K, hW, r, h, hk => by
    rw [exec0]; rw [pCode] at h; rw [writes] at hW; exact pCode_holds x t _ _ (fun i hi => hW i (by simp [hi])) r h fun t' r' h' => pCode_holds y t' k K (fun i hi => hW i (by simp [hi])) r' h' hk
  | .cond c x y, t, k, K, hW, r, h, hk => by
    rw [exec0]; rw [pCode] at h; rw [writes] at hW; refine pSplit_holds h r fun b t' r' h' => ?_
    cases b with
    | true => exact pCode_holds x t' k K (fun i hi => hW i (by simp [hi])) r' h' hk
    | false => exact pCode_holds y t' k K (fun i hi => hW i (by simp [hi])) r' h' hk
  | .block _ _, t, k, K, hW, r, h, hk => h.elim
  | .loop _, t, k, K, hW, r, h, hk => h.elim
  | .rangeFunc _ _ _ _, t, k, K, hW, r, h, hk => h.elim
  | .exit _, t, k, K, hW, r, h, hk => h.elim
  | .scope _, t, k, K, hW, r, h, hk => h.elim
  | .label _, t, k, K, hW, r, h, hk => h.elim
  | .goto _, t, k, K, hW, r, h, hk => h.elim
  | .ret, t, k, K, hW, r, h, hk => h.elim
  | .refuse _, t, k, K, hW, r, h, hk => h.elim
end
end Go.Eng
