/- The engine, part 7c: regions whose order is drawn, whatever order comes out. The engine, part 7d: the steps of a region whose order is drawn. -/
import Derived.Test.YtkgiopdkhhinoaaGreatDoorXb
import Derived.OrdersIn
import Derived.TacticsIn
set_option linter.all false
namespace Go.Eng
structure AS where
  t : List SV
  lk : Nat -> Option Blk
  n : Nat
structure Sm where
  tr : Tr
  v : SV
  t : List SV
  lk : Nat -> Option Blk
  n : Nat
  lk' : Nat -> Option Blk
structure Mt (x : Sm) (s : AS) : Prop where
  t : ∀ i ∈ x.tr.rt, nth .any s.t i = nth .any x.t i
  b : ∀ j ∈ x.tr.rb, s.lk j = x.lk j
  n : x.tr.da = true -> s.n = x.n
def Ap (x : Sm) (s : AS) : AS :=
  ⟨setT s.t x.tr.dst x.v, fun j => if j ∈ x.tr.wb then x.lk' j else s.lk j, if x.tr.da then s.n + 1 else s.n⟩
theorem upd_comm {x y : SV} : ∀ (l : List SV) {i j : Nat}, i ≠ j -> upd y (upd x l i) j = upd x (upd y l j) i
  | [], i, j, h => by simp [upd]
  | a :: l, 0, 0, h => absurd rfl h
  | a :: l, 0, j + 1, h => by simp [upd]
  | a :: l, i + 1, 0, h => by simp [upd]
  | a :: l, i + 1, j + 1, h => by simp only [upd]; rw [upd_comm l (fun e => h (by omega))]
theorem nth_upd_ne {x d : SV} : ∀ (l : List SV) {i j : Nat}, i ≠ j -> nth d (upd x l i) j = nth d l j
  | [], i, j, h => by simp [upd]
  | a :: l, 0, 0, h => absurd rfl h
  | a :: l, 0, j + 1, h => by simp [upd, nth]
  | a :: l, i + 1, 0, h => by simp [upd, nth]
  | a :: l, i + 1, j + 1, h => by simp only [upd, nth]; exact nth_upd_ne l (fun e => h (by omega))
theorem disj_iff {a b : List Nat} (h : disj a b = true) : ∀ j, j ∈ a -> j ∉ b := by
  intro j hj; have := List.all_eq_true.1 h j hj; exact inN_false (by simpa using this)
structure Apart (x y : Tr) : Prop where
  d1 : ∀ d, x.dst = some d -> d ∉ y.rt /\ y.dst ≠ some d
  d2 : ∀ d, y.dst = some d -> d ∉ x.rt
  b1 : ∀ j, j ∈ x.wb -> j ∉ y.rb
  b2 : ∀ j, j ∈ x.wb -> j ∉ y.wb
  b3 : ∀ j, j ∈ y.wb -> j ∉ x.rb
  a : x.da = true -> y.da = true -> False
theorem apart_spec {x y : Tr} (h : apart x y = true) : Apart x y := by
  unfold apart at h; simp only [Bool.and_eq_true] at h; obtain ⟨⟨⟨⟨⟨h1, h2⟩, h3⟩, h4⟩, h5⟩, h6⟩ := h; refine ⟨?_, ?_, disj_iff h3, disj_iff h4, disj_iff h5, ?_⟩
  . intro d hd; rw [hd] at h1; simp only [Bool.and_eq_true] at h1; refine ⟨inN_false (by simpa using h1.1), ?_⟩
    intro e; have h1 := h1.2; rw [e] at h1; simp at h1
  . intro d hd; rw [hd] at h2; exact inN_false (by simpa using h2)
  . intro e1 e2; rw [e1, e2] at h6; cases h6
theorem Ap_comm {x y : Sm} {s : AS} (hx : Mt x s) (hy : Mt y (Ap x s)) (h : Apart x.tr y.tr) : Mt y s /\ Mt x (Ap y s) /\ Ap x (Ap y s) = Ap y (Ap x s) := by
  have hn : ∀ d i, x.tr.dst = some d -> i ∈ y.tr.rt -> nth .any (upd x.v s.t d) i = nth .any s.t i := fun d i hd hi => nth_upd_ne _ (fun e => (h.d1 d hd).1 (e ▸ hi))
  refine ⟨⟨?_, ?_, ?_⟩, ⟨?_, ?_, ?_⟩, ?_⟩
  . intro i hi; rw [<- hy.t i hi]; show _ = nth .any (setT s.t x.tr.dst x.v) i
    cases hd : x.tr.dst with
    | none => rfl
    | some d => exact (hn d i hd hi).symm
  . intro j hj; rw [<- hy.b j hj]; show _ = if j ∈ x.tr.wb then x.lk' j else s.lk j
    rw [if_neg (fun e => h.b1 j e hj)]
  . intro e; rw [<- hy.n e]; show _ = if x.tr.da then s.n + 1 else s.n
    rw [if_neg (fun e2 => h.a e2 e)]
  . intro i hi; rw [<- hx.t i hi]; show nth .any (setT s.t y.tr.dst y.v) i = _
    cases hd : y.tr.dst with
    | none => rfl
    | some d => exact nth_upd_ne _ (fun e => h.d2 d hd (e ▸ hi))
  . intro j hj; rw [<- hx.b j hj]; show (if j ∈ y.tr.wb then y.lk' j else s.lk j) = _
    rw [if_neg (fun e => h.b3 j e hj)]
  . intro e; rw [<- hx.n e]; show (if y.tr.da then s.n + 1 else s.n) = _
    rw [if_neg (fun e2 => h.a e e2)]
  . show AS.mk _ _ _ = AS.mk _ _ _; congr 1
    . show setT (setT s.t y.tr.dst y.v) x.tr.dst x.v = setT (setT s.t x.tr.dst x.v) y.tr.dst y.v
      cases hx : x.tr.dst with
      | none => rfl
      | some d =>
        cases hy : y.tr.dst with
        | none => rfl
        | some e => exact upd_comm _ (fun e2 => (h.d1 d hx).2 (by rw [hy, e2]))
    . funext j
      show (if j ∈ x.tr.wb then x.lk' j else if j ∈ y.tr.wb then y.lk' j else s.lk j) = if j ∈ y.tr.wb then y.lk' j else if j ∈ x.tr.wb then x.lk' j else s.lk j
      by_cases e1 : j ∈ x.tr.wb
      . rw [if_pos e1, if_pos e1, if_neg (h.b2 j e1)]
      . rw [if_neg e1, if_neg e1]
    . show (if x.tr.da then (if y.tr.da then s.n + 1 else s.n) + 1 else if y.tr.da then s.n + 1 else s.n) = if y.tr.da then (if x.tr.da then s.n + 1 else s.n) + 1 else if x.tr.da then s.n + 1 else s.n
      cases x.tr.da <;> cases y.tr.da <;> rfl
def Chain (X : Nat -> Sm) : AS -> List Nat -> AS -> Prop
  | s, [], s' => s = s'
  | s, i :: l, s' => Mt (X i) s /\ Chain X (Ap (X i) s) l s'
theorem Chain.front {X : Nat -> Sm} {i : Nat} {s' : AS} {l2 : List Nat} : ∀ (l1 : List Nat) (s : AS), Chain X s (l1 ++ i :: l2) s' -> (∀ k ∈ l1, Apart (X k).tr (X i).tr) -> Mt (X i) s /\ Chain X (Ap (X i) s) (l1 ++ l2) s'
  | [], s, h, _ => h
  | k :: l1, s, h, ha => by
    obtain ⟨h1, h2⟩ := h; obtain ⟨h3, h4⟩ := Chain.front l1 _ h2 (fun k hk => ha k (List.mem_cons_of_mem _ hk))
    obtain ⟨c1, c2, c3⟩ := Ap_comm h1 h3 (ha k (by simp))
    refine ⟨c1, c2, ?_⟩; rw [c3]; exact h4
structure Same (W : List Nat) (a a' : Act) : Prop where
  sz : a'.tmps.size = a.tmps.size
  df : 999999 ∉ W -> a'.defers = a.defers
  tm : ∀ i, i ∉ W -> a'.tmps[i]? = a.tmps[i]?
theorem Same.refl (W : List Nat) (a : Act) : Same W a a := ⟨rfl, fun _ => rfl, fun _ _ => rfl⟩
theorem Same.trans {W : List Nat} {a b c : Act} (h : Same W a b) (k : Same W b c) : Same W a c := ⟨k.sz.trans h.sz, fun n => (k.df n).trans (h.df n), fun i hi => (k.tm i hi).trans (h.tm i hi)⟩
theorem Same.put {W : List Nat} {a b : Act} (h : Same W a b) (d : Option Tmp) (v : Value) (hd : ∀ i, d = some i -> i ∈ W) : Same W a (b.put d v) := by
  cases d with
  | none => exact h
  | some d =>
    refine ⟨(Array.size_setIfInBounds ..).trans h.sz, h.df, fun i hi => ?_⟩
    show (b.tmps.setIfInBounds d v)[i]? = _; rw [Array.getElem?_setIfInBounds_ne (fun e : d = i => hi (e ▸ hd d rfl))]
    exact h.tm i hi
def RelA (E : Env) (W : List Nat) (a0 : Act) (s : AS) (a : Act) (w : World) : Prop := (∃ own β S, (∀ j, lookB own j = s.lk j) /\ RelB E ⟨s.t, own, s.n⟩ a w β S) /\ Same W a0 a
def FW (ro : Option Nat) : Fence := { Fence.wide with round := ro }
theorem FW_none : FW none = Fence.wide := rfl
theorem FW_some (l : Nat) : FW (some l) = Fence.wide.inRound l := rfl
theorem callsIn_FW {ro : Option Nat} {n : Nat} {P : Program} {f : FuncId} {args : Array Value} {w : World} {R : Ending -> World -> Prop} (h : Calls P f args w R) : CallsIn (FW ro) n P f args w R :=
  (callsIn_wide (n := n)).2 h
theorem rowsIn_FW {ro : Option Nat} {n : Nat} {P : Program} {row : String} {args : Array Value} {w : World} {R : Value -> World -> Prop} (h : Rows P row args w R) : RowsIn (FW ro) n P row args w R :=
  fun c cs _ => let ⟨v, w', r, s⟩ := h c cs; ⟨v, w', r, (stepsIn_wide (P := P)).2 s⟩
theorem oper_in {ro : Option Nat} {n : Nat} {P : Program} {o : Oper} {a : Act} {w : World} {K : Act -> World -> Prop} {QQ : Exit -> Act -> World -> Prop} (hd : ∀ c, o.op ≠ .defer c) (h : o.wp P a w K QQ) : o.wpIn (FW ro) n P a w K QQ := by
  refine ⟨fun _ _ => trivial, ?_⟩
  rw [Oper.semAt_eq _ _ _ hd]; unfold Oper.wp at h; generalize (execOp a.eval o).run P w = r at *
  cases r with
  | ok x w' =>
    cases x <;> simp only [Oper.upon] at h <;> simp only [Oper.uponIn] <;> first
      | exact h
      | exact h.elim
      | exact ⟨fun h => (by cases h), callsIn_FW h⟩
      | exact ⟨fun h => (by cases h), rowsIn_FW h⟩
  | halt x w' => cases x <;> simp only [Oper.upon] at h <;> first | exact h | exact h.elim
section
variable {P : Program} {tab : Nat -> TI} {Q : QT} {E : Env} {QQ : Exit -> Act -> World -> Prop} {W : List Nat} {a0 : Act} {ro : Option Nat} {nn : Nat}
def Beh (P : Program) (ro : Option Nat) (nn : Nat) (W : List Nat) (a0 : Act) (ops : Array Oper) (E : Env) (QQ : Exit -> Act -> World -> Prop) (i : Nat) (x : Sm) : Prop :=
  ∀ (s : AS) (a : Act) (w : World) (K : Act -> World -> Prop), Mt x s -> RelA E W a0 s a w -> (∀ a' w', RelA E W a0 (Ap x s) a' w' -> K a' w') -> wpOpIn (FW ro) nn P ops QQ i K a w
theorem mem_ready' {ops : Array Oper} {listed : Array Bool} {i : Nat} : i ∈ Region.ready .any ops listed ↔ i < ops.size /\ listed.getD i true = false /\ ∃ o, ops[i]? = some o /\ ∀ e ∈ o.after, Region.binds .any e = true -> listed.getD e.on false = true := by
  unfold Region.ready; rw [List.mem_filter, List.mem_range]; constructor
  . rintro ⟨h1, h2⟩; simp only [Bool.and_eq_true] at h2; obtain ⟨h2, h3⟩ := h2
    cases ho : ops[i]? with
    | none => rw [ho] at h3; cases h3
    | some o =>
      rw [ho] at h3; refine ⟨h1, by simpa using h2, o, rfl, ?_⟩
      intro e he hb; have h3 : (o.after.all fun e => !Region.binds .any e || listed.getD e.on false) = true := h3
      have := Array.all_eq_true_iff_forall_mem.1 h3 e he; rw [hb] at this; simpa using this
  . rintro ⟨h1, h2, o, ho, h3⟩; refine ⟨h1, ?_⟩; rw [h2, ho]; simp only [Bool.not_false, Bool.true_and, Option.map_some, Option.getD_some]; refine Array.all_eq_true_iff_forall_mem.2 fun e he => ?_
    cases hb : Region.binds .any e with
    | false => rfl
    | true => rw [h3 e he hb]; rfl
theorem anyOrder {ops : Array Oper} (X : Nat -> Sm) (rs : Nat -> List Nat) (hX : ∀ i, i < ops.size -> Beh P ro nn W a0 ops E QQ i (X i))
    (hp : ∀ i o, ops[i]? = some o -> ∀ e ∈ o.after, Region.binds .any e = true -> e.on < i)
    (hr : ∀ i o, ops[i]? = some o -> ∀ p ∈ rs i, ∃ e ∈ o.after, Region.binds .any e = true /\ (p = e.on \/ p ∈ rs e.on))
    (ha : ∀ k i, k < i -> i < ops.size -> k ∈ rs i \/ Apart (X k).tr (X i).tr) (sN : AS) (hN : ∀ a w, RelA E W a0 sN a w -> QQ .normal a w) :
    ∀ (fuel : Nat) (L : List Nat) (listed : Array Bool) (s : AS) (a : Act) (w : World), listed.size = ops.size -> L.length = fuel -> L.Pairwise (· < ·) ->
      (∀ k, k ∈ L ↔ k < ops.size /\ listed.getD k true = false) -> (∀ k, k < ops.size -> k ∉ L -> ∀ p ∈ rs k, p ∉ L) -> Chain X s L sN -> RelA E W a0 s a w -> wpAnyIn (FW ro) nn P .any ops QQ fuel listed a w
  | 0, L, listed, s, a, w, hsz, hl, hs, hm, hc, ch, r => by
    have : L = [] := by cases L <;> first | rfl | cases hl
    subst this; refine ⟨?_, hN a w (by rw [show s = sN from ch] at r; exact r)⟩
    refine List.eq_nil_iff_forall_not_mem.2 fun i hi => ?_
    obtain ⟨h1, h2, _⟩ := mem_ready'.1 hi; exact absurd ((hm i).2 ⟨h1, h2⟩) (by simp)
  | fuel + 1, L, listed, s, a, w, hsz, hl, hs, hm, hc, ch, r => by
    refine ⟨?_, ?_⟩
    . intro hnil
      cases L with
      | nil => cases hl
      | cons i L =>
        have hi := (hm i).1 (by simp)
        obtain ⟨o, ho⟩ : ∃ o, ops[i]? = some o := ⟨_, Array.getElem?_eq_getElem hi.1⟩
        have : i ∈ Region.ready .any ops listed := by
          refine mem_ready'.2 ⟨hi.1, hi.2, o, ho, ?_⟩; intro e he hb; have hlt := hp i o ho e he hb
          have hnm : e.on ∉ i :: L := by
            intro hmem; rcases List.mem_cons.1 hmem with h | h
            . omega
            . have := (List.pairwise_cons.1 hs).1 _ h; omega
          have hb2 : ¬ (listed.getD e.on true = false) := fun h => hnm ((hm _).2 ⟨by omega, h⟩)
          have hlt2 : e.on < listed.size := by omega
          simpa [Array.getD, hlt2] using hb2
        rw [hnil] at this; cases this
    . intro i hi; obtain ⟨h1, h2, o, ho, h3⟩ := mem_ready'.1 hi; have hiL := (hm i).2 ⟨h1, h2⟩; obtain ⟨l1, l2, rfl⟩ := List.append_of_mem hiL
      have hnd : ∀ k, k ∈ l1 ++ l2 ↔ k ∈ l1 ++ i :: l2 /\ k ≠ i := by
        have hp1 := List.pairwise_append.1 hs; have hp2 := List.pairwise_cons.1 hp1.2.1; intro k; constructor
        . intro hk; rcases List.mem_append.1 hk with hk | hk
          . exact ⟨by simp [hk], by have := hp1.2.2 k hk i (by simp); omega⟩
          . exact ⟨by simp [hk], by have := hp2.1 k hk; omega⟩
        . rintro ⟨hk, hne⟩; simp only [List.mem_append, List.mem_cons] at hk ⊢; rcases hk with hk | hk | hk
          . exact .inl hk
          . exact absurd hk hne
          . exact .inr hk
      have hpre : ∀ p ∈ rs i, p ∉ l1 ++ i :: l2 := by
        intro p hpi; obtain ⟨e, he, hb, hpe⟩ := hr i o ho p hpi; have hlisted := h3 e he hb; have hlt := hp i o ho e he hb
        have hnm : e.on ∉ l1 ++ i :: l2 := by
          intro hmem; have := ((hm _).1 hmem).2; have hlt2 : e.on < listed.size := by omega
          simp [Array.getD, hlt2] at this hlisted; rw [this] at hlisted; cases hlisted
        rcases hpe with rfl | hpe
        . exact hnm
        . exact hc e.on (by omega) hnm p hpe
      obtain ⟨m1, ch'⟩ := Chain.front l1 s ch (fun k hk => by
        have hki : k < i := (List.pairwise_append.1 hs).2.2 k hk i (by simp)
        exact (ha k i hki h1).resolve_left (fun h => hpre k h (by simp [hk])))
      refine hX i h1 s a w _ m1 r ?_; intro a' w' r'; refine anyOrder X rs hX hp hr ha sN hN fuel (l1 ++ l2) _ _ a' w' (by simpa using hsz) (by simp at hl ⊢; omega) ?_ ?_ ?_ ch' r'
      . exact hs.sublist (List.Sublist.append (List.Sublist.refl _) (List.sublist_cons_self _ _))
      . intro k; rw [hnd, hm]; constructor
        . rintro ⟨⟨g1, g2⟩, hne⟩; refine ⟨g1, ?_⟩; have hk : k < listed.size := by omega
          simp [Array.getD, hk] at g2 ⊢; rw [Array.getElem_setIfInBounds_ne (by omega) (fun e => hne e.symm)]
          exact g2
        . rintro ⟨g1, g2⟩; have hk : k < listed.size := by omega
          by_cases hne : k = i
          . subst hne; simp [Array.getD, hk] at g2
          . refine ⟨⟨g1, ?_⟩, hne⟩; simp [Array.getD, hk] at g2 ⊢; rw [Array.getElem_setIfInBounds_ne (by omega) (fun e => hne e.symm)] at g2
            exact g2
      . intro k hk hkn p hpk; by_cases hne : k = i
        . subst hne; intro hmem; exact hpre p hpk ((hnd p).1 hmem).1
        . intro hmem; exact hc k hk (fun h => hkn ((hnd k).2 ⟨h, hne⟩)) p hpk ((hnd p).1 hmem).1
end
end Go.Eng
namespace Go.Eng
section
variable {P : Program} {tab : Nat -> TI} {Q : QT} {E : Env} {a : Act} {w : World} {β : Nat -> Value} {S : Snap} {QQ : Exit -> Act -> World -> Prop} {W : List Nat} {a0 : Act} {ro : Option Nat} {nn : Nat}
theorem RelB.put {t : List SV} {own : Own} {n : Nat} {v : SV} {u : Value} (r : RelB E ⟨t, own, n⟩ a w β S) (h : SRep β S v u) (hk : KB n v) (d : Option Tmp) : RelB E ⟨setT t d v, own, n⟩ (a.put d u) w β S := by
  cases d with
  | none => exact r
  | some d =>
    refine ⟨?_, r.df, KBs_upd hk d r.kt, r.ko, r.ge, r.old, r.mem⟩; show SReps β S (upd v t d) (a.tmps.setIfInBounds d u).toList; rw [Array.toList_setIfInBounds]; exact SReps_upd h d r.tm
theorem SReps_upd_same {x : SV} : ∀ {s : List SV} {v : List Value} (i : Nat), SReps β S s v -> SRep β S x (v.getD i undef) -> SReps β S (upd x s i) v
  | [], v, i, h, _ => by cases i <;> simpa [upd] using h
  | s :: ss, v, 0, h, hx => by
    rw [SReps] at h; obtain ⟨a, b, rfl, h2, h3⟩ := h; rw [upd, SReps]; exact ⟨a, b, rfl, by simpa using hx, h3⟩
  | s :: ss, v, i + 1, h, hx => by
    rw [SReps] at h; obtain ⟨a, b, rfl, h2, h3⟩ := h; rw [upd, SReps]; exact ⟨a, b, rfl, h2, SReps_upd_same i h3 (by simpa using hx)⟩
theorem yielded_of {ops : Array Oper} {tmps : Array Value} {j d : Nat} {g : Oper} {b : Bool} (hj : ops.toList[j]? = some g) (hd : g.dst = some d) (hv : tmps.toList.getD d undef = .bool b) : yielded ops tmps j = some b := by
  have hj' : ops[j]? = some g := by simpa using hj
  have hlt : d < tmps.size := by
    rcases Nat.lt_or_ge d tmps.size with h | h
    . exact h
    . simp [List.getD, List.getElem?_eq_none (show tmps.toList.length <= d by simpa using h), undef] at hv
  have : tmps[d]? = some (.bool b) := by
    simp [List.getD, hlt] at hv; simp [hlt, hv]
  simp [yielded, hj', hd, this]
theorem yielded_none {ops : Array Oper} {tmps : Array Value} {j d : Nat} {g : Oper} (hj : ops.toList[j]? = some g) (hd : g.dst = some d) (hv : ∀ b, tmps.toList.getD d undef ≠ .bool b) : yielded ops tmps j = none := by
  have hj' : ops[j]? = some g := by simpa using hj
  unfold yielded; rw [hj']; simp only [Option.bind_some, hd]
  cases ht : tmps[d]? with
  | none => rfl
  | some v =>
    have : tmps.toList.getD d undef = v := by simp [List.getD, ht]
    cases v with
    | bool b => exact absurd this (hv b)
    | _ => rfl
def AS.of (st : St) : AS := ⟨st.t, lookB st.own, st.next⟩
def ChainX : AS -> List Sm -> AS -> Prop
  | s, [], s' => s = s'
  | s, x :: l, s' => Mt x s /\ ChainX (Ap x s) l s'
theorem RelB.drawn {st : St} (r : RelB E st a w β S) (k : Nat) : RelB E st a { w with drawn := k } β S :=
  ⟨r.tm, r.df, r.kt, r.ko, r.ge, r.old, ⟨r.mem.os, r.mem.tape, r.mem.output, r.mem.size, r.mem.frame, r.mem.sub, r.mem.new, r.mem.sat, r.mem.blk, r.mem.inj, r.mem.out, r.mem.mine⟩⟩
theorem RelB.own' {t : List SV} {own own' : Own} {n : Nat} (r : RelB E ⟨t, own, n⟩ a w β S) (h : ∀ j, lookB own' j = lookB own j) : RelB E ⟨t, own', n⟩ a w β S :=
  ⟨r.tm, r.df, r.kt, fun j b hj => r.ko j b (by rw [<- h j]; exact hj), r.ge, r.old, r.mem.less fun j b hj => by rw [<- h j]; exact hj⟩
theorem opProg_defer {o : Oper} {c : Call} (h : o.op = .defer c) : opProg tab o = .stuck 63 := by unfold opProg; rw [h]
theorem beh_of_step (ht : TabOk P tab) {ops : Array Oper} {i : Nat} {o : Oper} (ho : ops[i]? = some o) (hdW : ∀ i, o.dst = some i -> i ∈ W) (hnd : ∀ c, o.op ≠ .defer c) {t : List SV} {own own' : Own} {n n' : Nat} {tr tr' : Tr} {v v2 : SV}
    (hs : Step P tab (opProg tab o) t own n tr tr' v own' n') (hd : tr.dst = o.dst) (hwb : tr.wb = []) (hda : tr.da = false) (hv : ∀ (β : Nat -> Value) (S : Snap) u, SRep β S v u -> SRep β S v2 u) (hk : ∀ n, KB n v -> KB n v2)
    (hw : ∀ (s : AS) (a : Act) (w : World), Mt ⟨tr', v2, t, lookB own, n, lookB own'⟩ s -> RelA E W a0 s a w -> Region.wanted o (yielded ops a.tmps) = true) : Beh P ro nn W a0 ops E QQ i ⟨tr', v2, t, lookB own, n, lookB own'⟩ := by
  intro s a w K hm hr hK; have hw := hw s a w hm hr; obtain ⟨⟨own2, β, S, hl, r⟩, hsm⟩ := hr; unfold wpOpIn; rw [ho]; simp only; rw [if_pos hw]; refine oper_in hnd ?_
  have hn : n' = n + 1 -> s.n = n := by
    intro e; refine hm.n ?_; rcases hs.da with ⟨_, h2⟩ | ⟨_, h2, _⟩
    . omega
    . exact h2
  have key := op_sound (P := P) (tab := tab) (Q := ⟨0, fun _ _ => False⟩) (E := E) (t := s.t) (own := own2) (n := s.n) (K := fun u o2 m => .prop fun _ => u = v /\ m = s.n + (n' - n) /\ ∀ j, lookB o2 j = if j ∈ tr'.wb then lookB own' j else lookB own2 j) (a := a) (w := w) (QQ := QQ) ht o β S
    (hs.go _ s.t own2 s.n _ hm.t (fun j hj => by
      rw [hwb] at hj; rw [hl j]; exact hm.b j (hj.resolve_right (by simp))) hn (fun o2 h2 => .prop ⟨rfl, rfl, h2⟩)) r
  refine Oper.wp_mono ?_ key; rintro a' w' ⟨u, rfl, v3, own3, n3, β3, S3, e1, e2, e3, e4⟩
  cases e1 with
  | prop hp =>
    obtain ⟨rfl, rfl, h3⟩ := hp; refine hK _ _ ⟨⟨own3, β3, S3, ?_, ?_⟩, hsm.put _ _ hdW⟩
    . intro j; rw [h3 j]; show _ = if j ∈ tr'.wb then lookB own' j else s.lk j
      rw [hl j]
    . have hn3 : s.n + (n' - n) = if tr'.da then s.n + 1 else s.n := by
        rcases hs.da with ⟨h1, h2⟩ | ⟨h1, h2, h3⟩
        . rw [h1, hda, h2]; simp
        . rw [h2, h3]; simp
      show RelB E ⟨setT s.t tr'.dst v2, own3, if tr'.da then s.n + 1 else s.n⟩ _ w' β3 S3
      rw [hs.dst, hd, <- hn3]; exact e4.put (hv _ _ _ e2) (hk _ e3) o.dst
theorem yielded_rel {ops : Array Oper} {s : AS} {j d : Nat} {g : Oper} {b : Bool} (hr : RelA E W a0 s a w) (hj : ops.toList[j]? = some g) (hd : g.dst = some d) (hv : nth .any s.t d = .bool b) : yielded ops a.tmps j = some b := by
  obtain ⟨⟨own2, β, S, hl, r⟩, _⟩ := hr; have := SReps_nth d r.tm; rw [hv, SRep] at this; exact yielded_of hj hd this
theorem of_Ap {o : Oper} {t : List SV} {own own' : Own} {n n' : Nat} {tr tr' : Tr} {v v2 : SV} (hs : Step P tab (opProg tab o) t own n tr tr' v own' n') (hd : tr.dst = o.dst) (hda : tr.da = false) :
    Ap ⟨tr', v2, t, lookB own, n, lookB own'⟩ (AS.of ⟨t, own, n⟩) = AS.of ⟨setT t o.dst v2, own', n'⟩ := by
  show AS.mk _ _ _ = AS.mk _ _ _; congr 1
  . show setT t tr'.dst v2 = _; rw [hs.dst, hd]
  . funext j
    show (if j ∈ tr'.wb then lookB own' j else lookB own j) = lookB own' j
    split
    . rfl
    . rename_i h; exact (hs.same j h).symm
  . show (if tr'.da then n + 1 else n) = n'
    rcases hs.da with ⟨h1, h2⟩ | ⟨h1, h2, h3⟩
    . rw [h1, hda, h2]; rfl
    . rw [h2, h3]; rfl
theorem execD_chain (ht : TabOk P tab) {ops : Array Oper} {gs : List Nat} : ∀ (os : List Oper) (i : Nat) (st : St) (trs : List Tr) (k : St -> R), (∀ m, os[m]? = ops.toList[i + m]?) -> (∀ o ∈ os, ∀ d, o.dst = some d -> d ∈ W) -> Holds P tab Q (execD tab ops.toList gs os i st trs k) ->
    ∃ (xs : List Sm) (st' : St), xs.length = os.length /\ Holds P tab Q (k st') /\ indepAll ops.toList (trs ++ xs.map (·.tr)) = true /\ ChainX (AS.of st) xs (AS.of st') /\ ∀ m x, xs[m]? = some x -> Beh P ro nn W a0 ops E QQ (i + m) x
  | [], i, st, trs, k, hos, hW, h => by
    rw [execD] at h
    cases h with
    | need h1 h2 => exact ⟨[], st, rfl, h2, by simpa using h1, rfl, fun m x hx => by simp at hx⟩
  | o :: os, i, st, trs, k, hos, hW, h => by
    have hdW : ∀ d, o.dst = some d -> d ∈ W := fun d hd => hW o (by simp) d hd
    have hW' : ∀ o ∈ os, ∀ d, o.dst = some d -> d ∈ W := fun o ho d hd => hW o (by simp [ho]) d hd
    have ho : ops[i]? = some o := by have := hos 0; simpa using this.symm
    have hos' : ∀ m, os[m]? = ops.toList[i + 1 + m]? := fun m => by have := hos (m + 1); rw [List.getElem?_cons_succ] at this; rw [this]; congr 1; omega
    have step : ∀ (tr tr' : Tr) (v v2 : SV) (own' : Own) (n' : Nat), Holds P tab Q (execD tab ops.toList gs os (i + 1) ⟨setT st.t o.dst v2, own', n'⟩ (trs ++ [tr']) k) ->
        Step P tab (opProg tab o) st.t st.own st.next tr tr' v own' n' -> (∀ c, o.op ≠ .defer c) -> tr.dst = o.dst -> tr.wb = [] -> tr.da = false -> (∀ (β : Nat -> Value) (S : Snap) u, SRep β S v u -> SRep β S v2 u) -> (∀ n, KB n v -> KB n v2) ->
        (∀ (s : AS) (a : Act) (w : World), Mt ⟨tr', v2, st.t, lookB st.own, st.next, lookB own'⟩ s -> RelA E W a0 s a w -> Region.wanted o (yielded ops a.tmps) = true) ->
        ∃ (xs : List Sm) (st' : St), xs.length = (o :: os).length /\ Holds P tab Q (k st') /\ indepAll ops.toList (trs ++ xs.map (·.tr)) = true /\ ChainX (AS.of st) xs (AS.of st') /\ ∀ m x, xs[m]? = some x -> Beh P ro nn W a0 ops E QQ (i + m) x := by
      intro tr tr' v v2 own' n' h1 hs hnd hd hwb hda hv hk hw; obtain ⟨xs, st', e1, e2, e3, e4, e5⟩ := execD_chain ht os (i + 1) _ _ k hos' hW' h1; refine ⟨⟨tr', v2, st.t, lookB st.own, st.next, lookB own'⟩ :: xs, st', by simp [e1], e2, by simpa using e3, ⟨⟨fun _ _ => rfl, fun _ _ => rfl, fun _ => rfl⟩, ?_⟩, ?_⟩
      . rw [of_Ap (v2 := v2) hs hd hda]; exact e4
      . intro m x hx
        cases m with
        | zero =>
          rw [List.getElem?_cons_zero] at hx; cases hx; exact beh_of_step ht ho hdW hnd hs hd hwb hda hv hk hw
        | succ m =>
          rw [List.getElem?_cons_succ] at hx; have := e5 m x hx; rw [show i + (m + 1) = i + 1 + m by omega]
          exact this
    have go : ∀ (tr : Tr), tr.dst = o.dst -> tr.wb = [] -> tr.da = false ->
        (∀ (tr' : Tr) (x : Sm), (∀ r ∈ tr.rt, r ∈ tr'.rt) -> x.tr = tr' -> x.t = st.t -> ∀ (s : AS) (a : Act) (w : World), Mt x s -> RelA E W a0 s a w -> Region.wanted o (yielded ops a.tmps) = true) ->
        Holds P tab Q (runD (opProg tab o) st.t st.own st.next tr fun v own n tr => match inN gs i, v with
        | true, .bs f => .split f (execD tab ops.toList gs os (i + 1) ⟨setT st.t o.dst (.bool true), own, n⟩ (trs ++ [tr]) k) (execD tab ops.toList gs os (i + 1) ⟨setT st.t o.dst (.bool false), own, n⟩ (trs ++ [tr]) k)
        | _, v => execD tab ops.toList gs os (i + 1) ⟨setT st.t o.dst v, own, n⟩ (trs ++ [tr]) k) ->
        ∃ (xs : List Sm) (st' : St), xs.length = (o :: os).length /\ Holds P tab Q (k st') /\ indepAll ops.toList (trs ++ xs.map (·.tr)) = true /\ ChainX (AS.of st) xs (AS.of st') /\ ∀ m x, xs[m]? = some x -> Beh P ro nn W a0 ops E QQ (i + m) x := by
      intro tr hd hwb hda hw h; have hnd : ∀ c, o.op ≠ .defer c := fun c hc => by rw [opProg_defer hc, runD] at h; exact not_stuck h
      obtain ⟨v, own', n', tr', h1, hs⟩ := runD_sound _ _ _ _ _ _ h; have hw' : ∀ v2 (s : AS) (a : Act) (w : World), Mt ⟨tr', v2, st.t, lookB st.own, st.next, lookB own'⟩ s -> RelA E W a0 s a w -> Region.wanted o (yielded ops a.tmps) = true := fun v2 => hw tr' _ hs.rt rfl rfl
      split at h1
      . rename_i f _
        cases h1 with
        | split ha hb =>
          cases hf : f () with
          | true =>
            have hv : ∀ (β : Nat -> Value) (S : Snap) u, SRep β S (.bs f) u -> SRep β S (.bool true) u := fun β S u hu => by simp only [SRep] at hu ⊢; rw [hu, hf]
            exact step tr tr' (.bs f) (.bool true) own' n' (ha hf) hs hnd hd hwb hda hv (fun n _ => by simp [KB]) (hw' _)
          | false =>
            have hv : ∀ (β : Nat -> Value) (S : Snap) u, SRep β S (.bs f) u -> SRep β S (.bool false) u := fun β S u hu => by simp only [SRep] at hu ⊢; rw [hu, hf]
            exact step tr tr' (.bs f) (.bool false) own' n' (hb hf) hs hnd hd hwb hda hv (fun n _ => by simp [KB]) (hw' _)
      . exact step tr tr' _ _ own' n' h1 hs hnd hd hwb hda (fun _ _ _ h => h) (fun _ h => h) (hw' _)
    rw [execD] at h
    cases hg : o.guard with
    | none =>
      rw [hg] at h; exact go (emptyTr o.dst) rfl rfl rfl (fun tr' x _ _ _ s a w _ _ => by simp [Region.wanted, hg]) h
    | some jw =>
      obtain ⟨j, want⟩ := jw; rw [hg] at h; simp only at h
      cases hj : ops.toList[j]? with
      | none => rw [hj] at h; exact (not_stuck h).elim
      | some g =>
        rw [hj] at h; simp only at h
        cases hd : g.dst with
        | none => rw [hd] at h; exact (not_stuck h).elim
        | some d =>
          rw [hd] at h; simp only at h
          have skip : (∀ (s : AS) (a : Act) (w : World), nth .any s.t d = nth .any st.t d -> RelA E W a0 s a w -> Region.wanted o (yielded ops a.tmps) = false) ->
              Holds P tab Q (execD tab ops.toList gs os (i + 1) ⟨setT st.t o.dst (.raw undef), st.own, st.next⟩ (trs ++ [{ emptyTr o.dst with rt := [d] }]) k) ->
              ∃ (xs : List Sm) (st' : St), xs.length = (o :: os).length /\ Holds P tab Q (k st') /\ indepAll ops.toList (trs ++ xs.map (·.tr)) = true /\ ChainX (AS.of st) xs (AS.of st') /\ ∀ m x, xs[m]? = some x -> Beh P ro nn W a0 ops E QQ (i + m) x := by
            intro hn h; obtain ⟨xs, st', e1, e2, e3, e4, e5⟩ := execD_chain ht os (i + 1) _ _ k hos' hW' h; refine ⟨⟨{ emptyTr o.dst with rt := [d] }, .raw undef, st.t, lookB st.own, st.next, lookB st.own⟩ :: xs, st', by simp [e1], e2, by simpa using e3, ⟨⟨fun _ _ => rfl, fun _ _ => rfl, fun _ => rfl⟩, ?_⟩, ?_⟩
            . have : Ap ⟨{ emptyTr o.dst with rt := [d] }, .raw undef, st.t, lookB st.own, st.next, lookB st.own⟩ (AS.of st) = AS.of ⟨setT st.t o.dst (.raw undef), st.own, st.next⟩ := by
                show AS.mk _ _ _ = AS.mk _ _ _; congr 1
              rw [this]; exact e4
            . intro m x hx
              cases m with
              | zero =>
                rw [List.getElem?_cons_zero] at hx; cases hx; intro s a w K hm hr hK; have hw := hn s a w (hm.t d (by simp)) hr
                show wpOpIn (FW ro) nn P ops QQ (i + 0) K a w; unfold wpOpIn; rw [Nat.add_zero, ho]; simp only; rw [if_neg (by simp [hw])]
                obtain ⟨⟨own2, β, S, hl, r⟩, hsm⟩ := hr; refine ⟨fun _ _ => trivial, hK _ _ ⟨⟨own2, β, S, fun j => ?_, ?_⟩, hsm.put _ _ hdW⟩⟩
                . show _ = if j ∈ ([] : List Nat) then lookB st.own j else s.lk j
                  rw [if_neg (by simp), hl j]
                . exact r.put (by simp [SRep]) (by simp [KB]) o.dst
              | succ m =>
                rw [List.getElem?_cons_succ] at hx; have := e5 m x hx; rw [show i + (m + 1) = i + 1 + m by omega]
                exact this
          cases hv : nth .any st.t d with
          | bool b =>
            rw [hv] at h; simp only at h
            cases hb : b == want with
            | true =>
              rw [hb] at h; refine go _ rfl rfl rfl (fun tr' x hrt hx hxt s a w hm hr => ?_) h
              have : nth .any s.t d = .bool b := by rw [hm.t d (by rw [hx]; exact hrt d (by simp)), hxt, hv]
              have hy := yielded_rel hr hj hd this; simp [Region.wanted, hg, hy]; simpa using hb
            | false =>
              rw [hb] at h; refine skip (fun s a w hm hr => ?_) h
              have hy := yielded_rel hr hj hd (hm.trans hv); simp [Region.wanted, hg, hy]; simpa using hb
          | raw v =>
            rw [hv] at h; simp only at h; split at h
            . exact (not_stuck h).elim
            . rename_i hnb
              refine skip (fun s a w hm hr => ?_) h
              obtain ⟨⟨own2, β, S, hl, r⟩, _⟩ := hr; have hx := SReps_nth d r.tm; rw [hm, hv, SRep] at hx; have hy : yielded ops a.tmps j = none := yielded_none hj hd (fun b e => hnb b (by rw [<- hx]; exact e))
              simp [Region.wanted, hg, hy]
          | _ => rw [hv] at h; exact (not_stuck h).elim
theorem ChainX.chain {X : Nat -> Sm} : ∀ (xs : List Sm) (i : Nat) (s s' : AS), ChainX s xs s' -> (∀ m x, xs[m]? = some x -> X (i + m) = x) -> Chain X s (List.range' i xs.length) s'
  | [], i, s, s', h, hx => h
  | x :: xs, i, s, s', h, hx => by
    rw [List.length_cons, List.range'_succ]; have h0 : X i = x := hx 0 x (by simp)
    refine ⟨by rw [h0]; exact h.1, ?_⟩
    rw [h0]; exact ChainX.chain xs (i + 1) _ _ h.2 (fun m x hm => by rw [show i + 1 + m = i + (m + 1) by omega]; exact hx (m + 1) x (by simpa using hm))
theorem predsOf_get {ops : List Oper} {i : Nat} {o : Oper} (h : ops[i]? = some o) : (predsOf ops)[i]? = some ((o.after.toList.filter (Region.binds .any)).map (·.on)) := by
  induction ops generalizing i with
  | nil => simp at h
  | cons p ops ih =>
    cases i with
    | zero => simp at h; subst h; simp [predsOf]
    | succ i => rw [predsOf, List.getElem?_cons_succ]; exact ih (by simpa using h)
theorem below_get : ∀ (ps : List (List Nat)) (i m : Nat) (p : List Nat), below i ps = true -> ps[m]? = some p -> ∀ q ∈ p, q < i + m
  | [], i, m, p, h, hp => by simp at hp
  | q :: ps, i, m, p, h, hp => by
    rw [below, Bool.and_eq_true] at h
    cases m with
    | zero =>
      simp at hp; subst hp; intro x hx; have := List.all_eq_true.1 h.1 x hx; simpa [Nat.blt_eq] using this
    | succ m =>
      intro x hx; have := below_get ps (i + 1) m p h.2 (by simpa using hp) x hx
      omega
theorem reach_get : ∀ (ps acc : List (List Nat)), (∀ i, i < acc.length -> (reach ps acc)[i]? = acc[i]?) /\
    ∀ m p, ps[m]? = some p -> ∃ l, (reach ps acc)[acc.length + m]? = some l /\ ∀ x ∈ l, x ∈ p \/ ∃ q ∈ p, x ∈ ((reach ps acc)[q]?).getD []
  | [], acc => ⟨fun i _ => rfl, fun m p h => by simp at h⟩
  | p :: ps, acc => by
    rw [reach]; obtain ⟨h1, h2⟩ := reach_get ps (acc ++ [p ++ (p.flatMap fun q => (acc[q]?).getD [])])
    have hold : ∀ i, i < acc.length -> (reach ps (acc ++ [p ++ (p.flatMap fun q => (acc[q]?).getD [])]))[i]? = acc[i]? := by
      intro i hi; rw [h1 i (by simp; omega), List.getElem?_append_left hi]
    refine ⟨hold, ?_⟩; intro m p' hm
    cases m with
    | zero =>
      simp at hm; subst hm; refine ⟨p ++ (p.flatMap fun q => (acc[q]?).getD []), ?_, ?_⟩
      . rw [Nat.add_zero, h1 acc.length (by simp)]; simp
      . intro x hx; rcases List.mem_append.1 hx with hx | hx
        . exact .inl hx
        . obtain ⟨q, hq, hx⟩ := List.mem_flatMap.1 hx; refine .inr ⟨q, hq, ?_⟩
          have hlt : q < acc.length := by
            rcases Nat.lt_or_ge q acc.length with h | h
            . exact h
            . rw [List.getElem?_eq_none h] at hx; simp at hx
          rw [hold q hlt]; exact hx
    | succ m =>
      obtain ⟨l, e1, e2⟩ := h2 m p' (by simpa using hm)
      exact ⟨l, by rw [<- e1]; congr 1; simp; omega, e2⟩
theorem indep_pair {rs : List (List Nat)} : ∀ (l : List (Nat × Tr)), indep rs l = true -> l.Pairwise fun x y => inN ((rs[y.1]?).getD []) x.1 = true \/ apart x.2 y.2 = true
  | [], _ => .nil
  | (i, x) :: l, h => by
    rw [indep, Bool.and_eq_true] at h; refine .cons (fun q hq => ?_) (indep_pair l h.2)
    have := List.all_eq_true.1 h.1 q hq; simpa using this
theorem writesOps_mem {l : List Oper} {o : Oper} {d : Nat} (ho : o ∈ l) (hd : o.dst = some d) : d ∈ writesOps l := by
  induction l with
  | nil => cases ho
  | cons p l ih =>
    rw [writesOps]; rcases List.mem_cons.1 ho with rfl | ho
    . rw [hd]; exact List.mem_cons_self ..
    . have := ih ho; split
      . exact List.mem_cons_of_mem _ this
      . exact this
theorem execD_sound (ht : TabOk P tab) {id : Nat} (ops : Array Oper) (st : St) (k : St -> R) (hW : ∀ d ∈ writesOps ops.toList, d ∈ W) (h : Holds P tab Q (execD tab ops.toList (guardsOf ops.toList) ops.toList 0 st [] k)) (r : RelB E st a w β S) (hsm : Same W a0 a)
    (hq : ∀ st' a' w' β' S', Holds P tab Q (k st') -> RelB E st' a' w' β' S' -> Same W a0 a' -> QQ .normal a' w') : (Code.region id ops true).wpIn (FW ro) nn P QQ a w := by
  obtain ⟨xs, st', e1, e2, e3, e4, e5⟩ := execD_chain (E := E) (QQ := QQ) (W := W) (a0 := a0) (ro := ro) (nn := nn) ht ops.toList 0 st [] k (fun m => by simp) (fun o ho d hd => hW d (writesOps_mem ho hd)) h
  rw [List.nil_append, indepAll, Bool.and_eq_true] at e3; obtain ⟨hbel, hind⟩ := e3; let X : Nat -> Sm := fun i => xs.getD i ⟨emptyTr none, .any, [], fun _ => none, 0, fun _ => none⟩
  have hXm : ∀ m x, xs[m]? = some x -> X m = x := fun m x hx => by simp [X, List.getD, hx]
  have hsz : xs.length = ops.size := by simpa using e1
  have hXget : ∀ i, i < ops.size -> xs[i]? = some (X i) := fun i hi => by
    have : xs[i]? = some (xs[i]'(by omega)) := List.getElem?_eq_getElem (by omega)
    rw [this, hXm i _ this]
  let rs : Nat -> List Nat := fun i => ((reach (predsOf ops.toList) [])[i]?).getD []
  have hbelow : ∀ i o, ops[i]? = some o -> ∀ e ∈ o.after, Region.binds .any e = true -> e.on < i := by
    intro i o ho e he hb; have := below_get _ 0 i _ hbel (predsOf_get (by simpa using ho)) e.on (List.mem_map.2 ⟨e, List.mem_filter.2 ⟨by simpa using he, hb⟩, rfl⟩)
    omega
  refine wpIn_region_any ht.mix (anyOrder (E := E) (W := W) (a0 := a0) X rs ?_ hbelow ?_ ?_ (AS.of st') ?_ ops.size (List.range' 0 ops.size) _ (AS.of st) a _ (by simp) (by simp) (List.pairwise_lt_range' ..) ?_ ?_ ?_ ⟨⟨st.own, β, S, fun _ => rfl, r.drawn _⟩, hsm⟩)
  . intro i hi; have := e5 i (X i) (hXget i hi); simpa using this
  . intro i o ho p hp; obtain ⟨l, g1, g2⟩ := (reach_get (predsOf ops.toList) []).2 i _ (predsOf_get (by simpa using ho))
    have hl : rs i = l := by
      have : (reach (predsOf ops.toList) [])[i]? = some l := by simpa using g1
      simp [rs, this]
    rw [hl] at hp; rcases g2 p hp with h | ⟨q, hq, h⟩
    . obtain ⟨e, he, rfl⟩ := List.mem_map.1 h; obtain ⟨he, hb⟩ := List.mem_filter.1 he; exact ⟨e, by simpa using he, hb, .inl rfl⟩
    . obtain ⟨e, he, rfl⟩ := List.mem_map.1 hq; obtain ⟨he, hb⟩ := List.mem_filter.1 he; exact ⟨e, by simpa using he, hb, .inr h⟩
  . intro k i hki hi; have hp := indep_pair _ hind; have hlen : ((List.range (xs.map (·.tr)).length).zip (xs.map (·.tr))).length = ops.size := by simp [hsz]
    have := List.pairwise_iff_getElem.1 hp k i (by rw [hlen]; omega) (by rw [hlen]; exact hi) hki
    simp only [List.getElem_zip, List.getElem_range, List.getElem_map] at this; have hXk : xs[k]'(by omega) = X k := (hXm k _ (List.getElem?_eq_getElem (by omega))).symm
    have hXi : xs[i]'(by omega) = X i := (hXm i _ (List.getElem?_eq_getElem (by omega))).symm
    rw [hXk, hXi] at this; rcases this with h | h
    . exact .inl (inN_iff.1 h)
    . exact .inr (apart_spec h)
  . rintro a' w' ⟨⟨own2, β2, S2, hl, r2⟩, hs2⟩; refine hq st' a' w' β2 S2 e2 ?_ hs2; exact RelB.own' (own' := st'.own) r2 (fun j => (hl j).symm)
  . intro k; simp only [List.mem_range', Array.getD]; constructor
    . rintro ⟨i, hi, rfl⟩; refine ⟨by omega, ?_⟩
      simp; omega
    . rintro ⟨h1, _⟩; exact ⟨k, h1, by omega⟩
  . intro k hk hkn; exact absurd (by simp [List.mem_range']; exact hk) hkn
  . rw [<- hsz]; exact ChainX.chain xs 0 _ _ e4 (fun m x hx => by rw [Nat.zero_add]; exact hXm m x hx)
end
end Go.Eng
