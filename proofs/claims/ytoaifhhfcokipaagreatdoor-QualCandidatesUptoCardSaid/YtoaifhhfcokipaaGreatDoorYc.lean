/- The plain law, part 1: the orders. The plain law, part 2: sorted lists; both Uniforms. The plain law, part 3: both Candidates; the sanity check's value. -/
import Derived.Test.YtoaifhhfcokipaaGreatDoorXn
import Derived.Test.YtoaifhhfcokipaaGreatDoorXr
import Derived.Test.YtoaifhhfcokipaaGreatDoorYb
namespace Go.Qu
open Go.Eng Go.Proofs
/-- three comparisons that fit -/
def Tr (a b c : Int) : Prop := (a ≤ 0 → b ≤ 0 → c ≤ 0) ∧ (a < 0 → b ≤ 0 → c < 0) ∧ (a ≤ 0 → b < 0 → c < 0) ∧ (a = 0 → b = 0 → c = 0)
theorem Tr.thenC {a1 b1 c1 a2 b2 c2 : Int} (h : Tr a1 b1 c1) (k : a1 = 0 → b1 = 0 → Tr a2 b2 c2) : Tr (thenC a1 a2) (thenC b1 b2) (thenC c1 c2) := by
  obtain ⟨h1, h2, h3, h4⟩ := h
  unfold Go.Qu.thenC
  by_cases ha : a1 = 0
  · by_cases hb : b1 = 0
    · rw [if_pos ha, if_pos hb, if_pos (h4 ha hb)]
      exact k ha hb
    · rw [if_pos ha, if_neg hb]
      refine ⟨fun _ q => ?_, fun _ q => ?_, fun _ q => ?_, fun _ q => absurd q hb⟩
      all_goals
        have := h3 (by omega) (by omega)
        rw [if_neg (by omega)]
        omega
  · rw [if_neg ha]
    have hc : a1 < 0 → (if b1 = 0 then b2 else b1) ≤ 0 → c1 < 0 := by
      intro p q
      by_cases hb : b1 = 0
      · exact h2 p (by omega)
      · rw [if_neg hb] at q; exact h2 p q
    refine ⟨fun p q => ?_, fun p q => ?_, fun p q => ?_, fun p _ => absurd p ha⟩
    all_goals
      have := hc (by omega) (by omega)
      rw [if_neg (by omega)]
      omega
theorem sgn_tr (a b c : Int) : Tr (sgn a b) (sgn b c) (sgn a c) := by
  unfold Tr sgn
  refine ⟨?_, ?_, ?_, ?_⟩ <;> (repeat' split) <;> omega
theorem sgn_neg (a b : Int) : sgn b a = - sgn a b := by
  unfold sgn
  (repeat' split) <;> omega
theorem thenC_neg (a b : Int) : thenC (-a) (-b) = - thenC a b := by
  unfold thenC
  (repeat' split) <;> omega
theorem cmpB_trans : ∀ (a b c : List UInt8), Lib.compareBytes a b < 0 → Lib.compareBytes b c < 0 → Lib.compareBytes a c < 0
  | [], [], _, h, _ => by simp [Lib.compareBytes] at h
  | [], _ :: _, [], _, h => by simp [Lib.compareBytes] at h
  | [], _ :: _, _ :: _, _, _ => by simp [Lib.compareBytes]
  | _ :: _, [], _, h, _ => by simp [Lib.compareBytes] at h
  | _ :: _, _ :: _, [], _, h => by simp [Lib.compareBytes] at h
  | a :: x, b :: y, c :: z, h1, h2 => by
    simp only [Lib.compareBytes] at h1 h2 ⊢
    have ih := cmpB_trans x y z
    rcases Nat.lt_trichotomy a.toNat b.toNat with p | p | p
    · rcases Nat.lt_trichotomy b.toNat c.toNat with q | q | q
      · rw [if_pos (show a < c from Nat.lt_trans p q)]; decide
      · have : b = c := UInt8.toNat_inj.1 q
        subst this
        rw [if_pos (show a < b from p)]; decide
      · rw [if_neg (show ¬ b < c from fun h => Nat.lt_asymm h q), if_pos (show c < b from q)] at h2
        omega
    · have : a = b := UInt8.toNat_inj.1 p
      subst this
      rw [if_neg (UInt8.lt_irrefl a), if_neg (UInt8.lt_irrefl a)] at h1
      rcases Nat.lt_trichotomy a.toNat c.toNat with q | q | q
      · rw [if_pos (show a < c from q)]; decide
      · have : a = c := UInt8.toNat_inj.1 q
        subst this
        rw [if_neg (UInt8.lt_irrefl a), if_neg (UInt8.lt_irrefl a)] at h2 ⊢
        exact ih h1 h2
      · rw [if_neg (show ¬ a < c from fun h => Nat.lt_asymm h q), if_pos (show c < a from q)] at h2
        omega
    · rw [if_neg (show ¬ a < b from fun h => Nat.lt_asymm h p), if_pos (show b < a from p)] at h1
      omega
theorem cmpS_tr (a b c : ByteArray) : Tr (cmpS a b) (cmpS b c) (cmpS a c) := by
  have h1 : cmpS a b = 0 → cmpS a c = cmpS b c := fun h => by rw [cmpS_0.1 h]
  have h2 : cmpS b c = 0 → cmpS a c = cmpS a b := fun h => by rw [cmpS_0.1 h]
  have h3 : cmpS a b < 0 → cmpS b c < 0 → cmpS a c < 0 := cmpB_trans _ _ _
  unfold Tr
  rcases cmpS_tri a b with p | p | p <;> rcases cmpS_tri b c with q | q | q
  all_goals
    refine ⟨fun _ _ => ?_, fun _ _ => ?_, fun _ _ => ?_, fun _ _ => ?_⟩
  all_goals first
    | omega
    | (have := h3 (by omega) (by omega); omega)
    | (have := h1 (by omega); omega)
    | (have := h2 (by omega); omega)
theorem Decl.cmp_tr (a b c : Decl) : Tr (a.cmp b) (b.cmp c) (a.cmp c) := (cmpS_tr _ _ _).thenC fun _ _ => sgn_tr _ _ _
theorem Decl.cmp_neg (a b : Decl) : b.cmp a = - a.cmp b := by
  unfold Decl.cmp
  rw [cmpS_neg a.name b.name, sgn_neg a.sort b.sort, thenC_neg]
theorem Node.cmpL_neg : ∀ (l m : List Node), (∀ x ∈ l, ∀ y, Node.cmp y x = - Node.cmp x y) → Node.cmpL m l = - Node.cmpL l m
  | [], [], _ => rfl
  | [], _ :: _, _ => rfl
  | _ :: _, [], _ => rfl
  | x :: l, y :: m, h => by
    rw [Node.cmpL, Node.cmpL, h x List.mem_cons_self y, Node.cmpL_neg l m fun z hz => h z (List.mem_cons_of_mem _ hz), thenC_neg]
theorem Node.cmp_neg (x : Node) : ∀ y, y.cmp x = - x.cmp y := by
  induction x using Node.ind2 with
  | h x ih =>
  intro y
  rw [Node.cmp_eq x y, Node.cmp_eq y x, sgn_neg x.op y.op, sgn_neg x.sort y.sort, cmpS_neg x.name y.name, sgn_neg x.num y.num, sgn_neg x.kids.length y.kids.length, Node.cmpL_neg x.kids y.kids ih]
  simp only [thenC_neg]
theorem Node.cmpL_tr : ∀ (l m n : List Node), (∀ x ∈ l, ∀ y z, Tr (Node.cmp x y) (Node.cmp y z) (Node.cmp x z)) → l.length = m.length → m.length = n.length → Tr (Node.cmpL l m) (Node.cmpL m n) (Node.cmpL l n)
  | [], [], [], _, _, _ => by simp [Node.cmpL, Tr]
  | [], [], _ :: _, _, _, h => by simp at h
  | [], _ :: _, _, _, h, _ => by simp at h
  | _ :: _, [], _, _, h, _ => by simp at h
  | _ :: _, _ :: _, [], _, _, h => by simp at h
  | x :: l, y :: m, z :: n, h, h1, h2 => by
    rw [Node.cmpL, Node.cmpL, Node.cmpL]
    exact (h x List.mem_cons_self y z).thenC fun _ _ => Node.cmpL_tr l m n (fun w hw => h w (List.mem_cons_of_mem _ hw)) (by simpa using h1) (by simpa using h2)
theorem Node.cmp_tr (x : Node) : ∀ y z, Tr (x.cmp y) (y.cmp z) (x.cmp z) := by
  induction x using Node.ind2 with
  | h x ih =>
  intro y z
  rw [Node.cmp_eq x y, Node.cmp_eq y z, Node.cmp_eq x z]
  exact (sgn_tr _ _ _).thenC fun _ _ => (sgn_tr _ _ _).thenC fun _ _ => (cmpS_tr _ _ _).thenC fun _ _ => (sgn_tr _ _ _).thenC fun _ _ => (sgn_tr _ _ _).thenC fun h1 h2 => Node.cmpL_tr _ _ _ ih (Int.ofNat.inj (sgn_0.1 h1)) (Int.ofNat.inj (sgn_0.1 h2))
theorem Node.cmpL_0 : ∀ (l m : List Node), (∀ x ∈ l, ∀ y, Node.cmp x y = 0 → x = y) → l.length = m.length → Node.cmpL l m = 0 → l = m
  | [], [], _, _, _ => rfl
  | [], _ :: _, _, h, _ => by simp at h
  | _ :: _, [], _, h, _ => by simp at h
  | x :: l, y :: m, h, h1, h2 => by
    rw [Node.cmpL] at h2
    by_cases e : Node.cmp x y = 0
    · rw [thenC_of e] at h2
      rw [h x List.mem_cons_self y e, Node.cmpL_0 l m (fun w hw => h w (List.mem_cons_of_mem _ hw)) (by simpa using h1) h2]
    · rw [thenC_n e] at h2; exact absurd h2 e
theorem thenC_zero {a b : Int} (h : thenC a b = 0) : a = 0 ∧ b = 0 := by
  by_cases e : a = 0
  · rw [thenC_of e] at h; exact ⟨e, h⟩
  · rw [thenC_n e] at h; exact absurd h e
theorem Node.cmp_0 (x : Node) : ∀ y, x.cmp y = 0 → x = y := by
  induction x using Node.ind2 with
  | h x ih =>
  intro y h
  rw [Node.cmp_eq] at h
  obtain ⟨h1, h⟩ := thenC_zero h
  obtain ⟨h2, h⟩ := thenC_zero h
  obtain ⟨h3, h⟩ := thenC_zero h
  obtain ⟨h4, h⟩ := thenC_zero h
  obtain ⟨h5, h⟩ := thenC_zero h
  have h6 := Node.cmpL_0 _ _ ih (Int.ofNat.inj (sgn_0.1 h5)) h
  cases x; cases y
  have q1 := sgn_0.1 h1
  have q2 := sgn_0.1 h2
  have q3 := cmpS_0.1 h3
  have q4 := sgn_0.1 h4
  simp only [Node.op, Node.sort, Node.name, Node.num, Node.kids] at q1 q2 q3 q4 h6
  rw [q1, q2, q3, q4, h6]
theorem Node.cmp_self (x : Node) : x.cmp x = 0 := by
  have := Node.cmp_neg x x
  omega
end Go.Qu
namespace Go.Qu
open Go.Eng Go.Proofs
structure Ord {α : Type} (cmp : α → α → Int) : Prop where
  neg : ∀ a b, cmp b a = - cmp a b
  tr : ∀ a b c, Tr (cmp a b) (cmp b c) (cmp a c)
  eq : ∀ a b, cmp a b = 0 → a = b
theorem Ord.self {α : Type} {cmp : α → α → Int} (h : Ord cmp) (a : α) : cmp a a = 0 := by have := h.neg a a; omega
theorem Node.ord : Ord Node.cmp := ⟨Node.cmp_neg, Node.cmp_tr, Node.cmp_0⟩
theorem Decl.ord : Ord Decl.cmp := ⟨Decl.cmp_neg, Decl.cmp_tr, fun _ _ h => Decl.cmp_0.1 h⟩
section
variable {α : Type} {cmp : α → α → Int}
abbrev Srt (cmp : α → α → Int) (l : List α) : Prop := l.Pairwise fun a b => cmp a b < 0
def insM (cmp : α → α → Int) (d : α) : List α → List α
  | [] => [d]
  | y :: l => if cmp d y < 0 then d :: y :: l else if cmp d y = 0 then y :: l else y :: insM cmp d l
theorem putStep_done (d : α) : ∀ (l acc : List α), l.foldl (putStep cmp d) (acc, true) = (acc ++ l, true)
  | [], acc => by simp
  | y :: l, acc => by
    have e : putStep cmp d (acc, true) y = (acc ++ [y], true) := by simp [putStep]
    rw [List.foldl_cons, e, putStep_done d l]
    simp
theorem putStep_go (d : α) : ∀ (l acc : List α), (bif (l.foldl (putStep cmp d) (acc, false)).2 then (l.foldl (putStep cmp d) (acc, false)).1 else (l.foldl (putStep cmp d) (acc, false)).1 ++ [d]) = acc ++ insM cmp d l
  | [], acc => rfl
  | y :: l, acc => by
    rw [List.foldl_cons, insM]
    by_cases h : cmp d y < 0
    · have e : putStep cmp d (acc, false) y = (acc ++ [d, y], true) := by
        have : (cmp d y == 0) = false := by simp; omega
        simp [putStep, h, this]
      rw [e, putStep_done, if_pos h]
      simp
    · rw [if_neg h]
      by_cases h2 : cmp d y = 0
      · have e : putStep cmp d (acc, false) y = (acc ++ [y], true) := by simp [putStep, h2]
        rw [e, putStep_done, if_pos h2]
        simp
      · have e : putStep cmp d (acc, false) y = (acc ++ [y], false) := by
          have : (cmp d y == 0) = false := by simpa using h2
          simp [putStep, h, this]
        rw [e, putStep_go d l, if_neg h2]
        simp
theorem putAll_insM (d : α) (l : List α) : putAll cmp d l = insM cmp d l := by
  have := putStep_go (cmp := cmp) d l []
  simpa [putAll] using this
theorem bsR_val (p : α → Bool) (l : List α) (n : Nat) (hn : ∀ (k : Nat) (x : α), l[k]? = some x → (p x = true ↔ k < n)) : ∀ (m i j : Nat), j - i ≤ m → i ≤ n → n ≤ j → j ≤ l.length → bsR p l i j = n
  | 0, i, j, h0, h1, h2, h3 => by
    rw [bsR, dif_neg (by omega)]; omega
  | m + 1, i, j, h0, h1, h2, h3 => by
    rw [bsR]
    by_cases h : i < j
    · rw [dif_pos h]
      have hk : (i + j) / 2 < l.length := by omega
      have hx := hn _ _ (List.getElem?_eq_getElem hk)
      rw [List.getElem?_eq_getElem hk, Option.any_some]
      by_cases hp : p l[(i + j) / 2] = true
      · rw [if_pos hp]
        exact bsR_val p l n hn m _ _ (by omega) (by have := hx.1 hp; omega) h2 h3
      · rw [if_neg hp]
        exact bsR_val p l n hn m _ _ (by omega) h1 (by have : ¬ (i + j) / 2 < n := fun q => hp (hx.2 q); omega) (by omega)
    · rw [dif_neg h]; omega
theorem sorted_split (hc : Ord cmp) (d : α) : ∀ (l : List α), Srt cmp l → ∃ n, n ≤ l.length ∧ ∀ (k : Nat) (x : α), l[k]? = some x → (decide (cmp x d < 0) = true ↔ k < n)
  | [], _ => ⟨0, Nat.le_refl _, fun k x h => by simp at h⟩
  | y :: l, hs => by
    obtain ⟨h1, h2⟩ := List.pairwise_cons.1 hs
    obtain ⟨n, hn, hk⟩ := sorted_split hc d l h2
    by_cases hy : cmp y d < 0
    · refine ⟨n + 1, by simpa using hn, fun k x h => ?_⟩
      cases k with
      | zero => simp at h; subst h; simp [hy]
      | succ k => have := hk k x (by simpa using h); rw [this]; omega
    · refine ⟨0, Nat.zero_le _, fun k x h => ?_⟩
      have hx : ¬ cmp x d < 0 := by
        cases k with
        | zero => simp at h; subst h; exact hy
        | succ k =>
          have hm := h1 x (List.mem_of_getElem? (by simpa using h))
          intro hx
          exact hy ((hc.tr y x d).2.1 hm (by omega))
      simp [hx]
theorem insS_insM (hc : Ord cmp) (d : α) : ∀ (l : List α), Srt cmp l → insS cmp d l = insM cmp d l := by
  intro l hs
  obtain ⟨n, hn, hk⟩ := sorted_split hc d l hs
  have hb : bsI cmp d l = n := bsR_val _ l n hk _ 0 l.length (Nat.le_refl _) (Nat.zero_le _) hn (Nat.le_refl _)
  unfold insS bsF
  rw [hb]
  clear hb hs
  induction l generalizing n with
  | nil =>
    have : n = 0 := by simpa using hn
    subst this
    rfl
  | cons y l ih =>
    rw [insM]
    cases n with
    | zero =>
      have hy : ¬ cmp y d < 0 := by have := hk 0 y rfl; simpa using this
      have hn := hc.neg y d
      by_cases h0 : cmp y d = 0
      · rw [if_neg (by omega), if_pos (by omega)]
        simp [h0]
      · rw [if_pos (by omega)]
        have : (cmp y d == 0) = false := by simpa using h0
        simp [this, insAt]
    | succ n =>
      have hy : cmp y d < 0 := by have := hk 0 y rfl; simpa using this
      have hn2 := hc.neg y d
      rw [if_neg (by omega), if_neg (by omega), ← ih n (by simpa using hn) (fun k x h => by have := hk (k + 1) x (by simpa using h); rw [this]; omega)]
      simp only [List.length_cons, List.getElem?_cons_succ]
      have e : decide (n + 1 < l.length + 1) = decide (n < l.length) := by simp
      rw [e]
      cases decide (n < l.length) && (l[n]?).any fun x => cmp x d == 0
      · simp [insAt]
      · rfl
theorem insM_mem (hc : Ord cmp) (d : α) : ∀ (l : List α) (x : α), x ∈ insM cmp d l ↔ x = d ∨ x ∈ l
  | [], x => by simp [insM]
  | y :: l, x => by
    rw [insM]
    split
    · simp
    · split
      · rename_i h
        have := hc.eq d y h
        subst this
        simp
      · have := insM_mem hc d l x
        simp only [List.mem_cons, this]
        constructor
        · rintro (h | h | h) <;> simp [h]
        · rintro (h | h | h) <;> simp [h]
theorem insM_sorted (hc : Ord cmp) (d : α) : ∀ (l : List α), Srt cmp l → Srt cmp (insM cmp d l)
  | [], _ => by simp [insM]
  | y :: l, hs => by
    obtain ⟨h1, h2⟩ := List.pairwise_cons.1 hs
    rw [insM]
    split
    · rename_i h
      refine List.pairwise_cons.2 ⟨fun x hx => ?_, hs⟩
      rcases List.mem_cons.1 hx with rfl | hx
      · exact h
      · have := h1 x hx
        exact (hc.tr d y x).2.1 h (by omega)
    · split
      · exact hs
      · refine List.pairwise_cons.2 ⟨fun x hx => ?_, insM_sorted hc d l h2⟩
        rcases (insM_mem hc d l x).1 hx with rfl | hx
        · have := hc.neg y x
          omega
        · exact h1 x hx
end
/-! ### variables -/
theorem gather_fold : ∀ x : Node, ∀ l, gatherN l x = x.pre.foldl put1 l := by
  intro x
  induction x using Node.ind2 with
  | h x ih =>
  intro l
  rw [gatherN_eq, Node.pre_eq, List.foldl_cons]
  have go : ∀ (ks : List Node) (l : List Decl), (∀ k ∈ ks, ∀ l, gatherN l k = k.pre.foldl put1 l) → gatherL l ks = (Node.pres ks).foldl put1 l := by
    intro ks
    induction ks with
    | nil => intro l _; rfl
    | cons k ks ih2 =>
      intro l h
      rw [gatherL, Node.pres, List.foldl_append, h k List.mem_cons_self, ih2 _ fun y hy => h y (List.mem_cons_of_mem _ hy)]
  exact go x.kids _ ih
theorem put_same (y : Node) (l : List Decl) (h : Srt Decl.cmp l) : put2 l y = put1 l y ∧ Srt Decl.cmp (put1 l y) := by
  unfold put2 put1
  split
  · rw [putAll_insM, insS_insM Decl.ord _ _ h]
    exact ⟨rfl, insM_sorted Decl.ord _ _ h⟩
  · exact ⟨rfl, h⟩
theorem fold_same : ∀ (m : List Node) (l : List Decl), Srt Decl.cmp l → m.foldl put2 l = m.foldl put1 l ∧ Srt Decl.cmp (m.foldl put1 l)
  | [], l, h => ⟨rfl, h⟩
  | y :: m, l, h => by
    obtain ⟨h1, h2⟩ := put_same y l h
    rw [List.foldl_cons, List.foldl_cons, h1]
    exact fold_same m _ h2
theorem vars_same (x : Node) : varsB x = gatherN [] x := by rw [gather_fold]; exact (fold_same x.pre [] List.Pairwise.nil).1
theorem vars_sorted (x : Node) : Srt Decl.cmp (gatherN [] x) := by rw [gather_fold]; exact (fold_same x.pre [] List.Pairwise.nil).2
theorem put1_mem (l : List Decl) (y : Node) (d : Decl) : d ∈ put1 l y ↔ d ∈ l ∨ (y.op = 1 ∧ d = ⟨y.name, y.sort⟩) := by
  unfold put1
  by_cases h : (y.op == 1) = true
  · rw [if_pos h, putAll_insM, insM_mem Decl.ord]
    have h : y.op = 1 := by simpa using h
    simp [h, Or.comm]
  · rw [if_neg h]
    have h : ¬ y.op = 1 := by simpa using h
    simp [h]
theorem fold_mem (d : Decl) : ∀ (m : List Node) (l : List Decl), d ∈ m.foldl put1 l ↔ d ∈ l ∨ ∃ y ∈ m, y.op = 1 ∧ d = ⟨y.name, y.sort⟩
  | [], l => by simp
  | y :: m, l => by
    rw [List.foldl_cons, fold_mem d m, put1_mem]
    simp [or_assoc]
theorem vars_mem (x : Node) (d : Decl) : d ∈ gatherN [] x ↔ ∃ y ∈ x.pre, y.op = 1 ∧ d = ⟨y.name, y.sort⟩ := by
  rw [gather_fold, fold_mem]
  simp
/-! ### uniform -/
/-- no two variables of one name differ, none has the name of a constant -/
def Uni (l : List Node) : Prop := (∀ y ∈ l, ∀ z ∈ l, y.op = 1 → z.op = 1 → y.name = z.name → y.sort = z.sort) ∧ ∀ y ∈ l, ∀ z ∈ l, y.op = 1 → isConst z = true → y.name ≠ z.name
theorem getM_putM : ∀ (m : List (ByteArray × Int)) (s : ByteArray) (v : Int) (t : ByteArray), getM (putM m s v) t = if s = t then some v else getM m t
  | [], s, v, t => rfl
  | e :: m, s, v, t => by
    rw [putM]
    by_cases h : e.1 = s
    · rw [if_pos h, getM, getM]
      by_cases h2 : s = t
      · rw [if_pos h2, if_pos h2]
      · rw [if_neg h2, if_neg h2, if_neg (by rw [h]; exact h2)]
    · rw [if_neg h, getM, getM, getM_putM m s v t]
      by_cases h2 : e.1 = t
      · rw [if_pos h2, if_pos h2, if_neg (by rw [← h2]; exact fun e => h e.symm)]
      · rw [if_neg h2, if_neg h2]
/-- the map after the nodes of a list -/
def Kn (m : List (ByteArray × Int)) (l : List Node) : Prop :=
  (∀ s v, getM m s = some v → (v = mark ∧ ∃ z ∈ l, isConst z = true ∧ z.name = s) ∨ (v ≠ mark ∧ ∃ y ∈ l, y.op = 1 ∧ y.name = s ∧ y.sort = v)) ∧
  (∀ z ∈ l, isConst z = true → getM m z.name = some mark) ∧ ∀ y ∈ l, y.op = 1 → getM m y.name = some y.sort
theorem uniFold_spec : ∀ (b a : List Node) (m : List (ByteArray × Int)), (∀ y ∈ a ++ b, y.op = 1 → y.sort ≠ mark) → Kn m a → Uni a → ((uniFold m b).isSome = true ↔ Uni (a ++ b))
  | [], a, m, _, _, hu => by simp [uniFold, hu]
  | y :: b, a, m, hs, hk, hu => by
    obtain ⟨k1, k2, k3⟩ := hk
    have hsy : y.op = 1 → y.sort ≠ mark := hs y (by simp)
    have hcv : isConst y = true → y.op = 1 → False := fun h1 h2 => by have := isConst_op h1; omega
    have step : ∀ m', uniStep m y = some m' → (Kn m' (a ++ [y]) ∧ Uni (a ++ [y])) → ((uniFold m (y :: b)).isSome = true ↔ Uni (a ++ y :: b)) := by
      intro m' e h
      rw [uniFold, e, Option.bind_some]
      have := uniFold_spec b (a ++ [y]) m' (by rw [List.append_assoc]; exact hs) h.1 h.2
      rw [List.append_assoc] at this
      exact this
    have fail : uniStep m y = none → ¬ Uni (a ++ y :: b) → ((uniFold m (y :: b)).isSome = true ↔ Uni (a ++ y :: b)) := by
      intro e h
      rw [uniFold, e]
      simp [h]
    have hya : y ∈ a ++ y :: b := by simp
    have ha : ∀ z ∈ a, z ∈ a ++ y :: b := fun z hz => List.mem_append_left _ hz
    unfold uniStep at step fail
    by_cases hv : y.op = 1
    · have hc : isConst y = false := by
        cases h : isConst y
        · rfl
        · exact (hcv h hv).elim
      have hv' : (y.op == 1) = true := by simpa using hv
      have hv'' : (y.op != 1) = false := by simp [hv]
      cases hg : getM m y.name with
      | none =>
        refine step (putM m y.name y.sort) (by simp [hg, hc, hv]) ⟨⟨?_, ?_, ?_⟩, ?_, ?_⟩
        · intro s v h
          skip
          rw [getM_putM] at h
          split at h
          · rename_i e
            injection h with h
            exact .inr ⟨by rw [← h]; exact hsy hv, y, by simp, hv, e, h⟩
          · rcases k1 s v h with ⟨e, z, hz, q⟩ | ⟨e, z, hz, q⟩
            · exact .inl ⟨e, z, List.mem_append_left _ hz, q⟩
            · exact .inr ⟨e, z, List.mem_append_left _ hz, q⟩
        · intro z hz hcz
          skip
          rcases List.mem_append.1 hz with hz | hz
          · have := k2 z hz hcz
            rw [getM_putM, if_neg (fun e => by rw [e, this] at hg; cases hg)]
            exact this
          · rw [List.mem_singleton] at hz
            subst hz
            rw [hc] at hcz; cases hcz
        · intro z hz hvz
          skip
          rcases List.mem_append.1 hz with hz | hz
          · have := k3 z hz hvz
            rw [getM_putM, if_neg (fun e => by rw [e, this] at hg; cases hg)]
            exact this
          · rw [List.mem_singleton] at hz
            subst hz
            rw [getM_putM, if_pos rfl]
        · intro p hp0 q hq0 h1 h2 h3
          rcases List.mem_append.1 hp0 with hp | hp <;> rcases List.mem_append.1 hq0 with hq | hq
          · exact hu.1 p hp q hq h1 h2 h3
          · rw [List.mem_singleton] at hq; subst hq
            have := k3 p hp h1; rw [h3, hg] at this; cases this
          · rw [List.mem_singleton] at hp; subst hp
            have := k3 q hq h2; rw [← h3, hg] at this; cases this
          · rw [List.mem_singleton] at hp hq; rw [hp, hq]
        · intro p hp0 q hq0 h1 h2 h3
          rcases List.mem_append.1 hp0 with hp | hp <;> rcases List.mem_append.1 hq0 with hq | hq
          · exact hu.2 p hp q hq h1 h2 h3
          · rw [List.mem_singleton] at hq; subst hq; rw [hc] at h2; cases h2
          · rw [List.mem_singleton] at hp; subst hp
            have := k2 q hq h2; rw [← h3, hg] at this; cases this
          · rw [List.mem_singleton] at hq; subst hq; rw [hc] at h2; cases h2
      | some v =>
        by_cases hm : v = mark
        · refine fail (by simp [hg, hv, hm]) fun hU => ?_
          rcases k1 _ v hg with ⟨_, z, hz, q1, q2⟩ | ⟨e, _⟩
          · exact hU.2 y hya z (ha z hz) hv q1 q2.symm
          · exact e hm
        · rcases k1 _ v hg with ⟨e, _⟩ | ⟨_, z, hz, q1, q2, q3⟩
          · exact absurd e hm
          by_cases hs2 : v = y.sort
          · refine step (putM m y.name y.sort) (by rw [hs2] at hg hm; simp [hg, hc, hv]; exact hm) ⟨⟨?_, ?_, ?_⟩, ?_, ?_⟩
            · intro s v h
              skip
              rw [getM_putM] at h
              split at h
              · rename_i e
                injection h with h
                exact .inr ⟨by rw [← h]; exact hsy hv, y, by simp, hv, e, h⟩
              · rcases k1 s v h with ⟨e, z, hz, q⟩ | ⟨e, z, hz, q⟩
                · exact .inl ⟨e, z, List.mem_append_left _ hz, q⟩
                · exact .inr ⟨e, z, List.mem_append_left _ hz, q⟩
            · intro z hz hcz
              skip
              rcases List.mem_append.1 hz with hz | hz
              · have := k2 z hz hcz
                rw [getM_putM, if_neg (fun e => by rw [← e, hg] at this; injection this with this; exact hm this)]
                exact this
              · rw [List.mem_singleton] at hz
                subst hz
                rw [hc] at hcz; cases hcz
            · intro p hp0 hvp
              skip
              rcases List.mem_append.1 hp0 with hp | hp
              · have := k3 p hp hvp
                rw [getM_putM]
                split
                · rename_i e
                  rw [← e, hg] at this
                  rw [← hs2]
                  exact this
                · exact this
              · rw [List.mem_singleton] at hp
                subst hp
                rw [getM_putM, if_pos rfl]
            · intro p hp0 q hq0 h1 h2 h3
              rcases List.mem_append.1 hp0 with hp | hp <;> rcases List.mem_append.1 hq0 with hq | hq
              · exact hu.1 p hp q hq h1 h2 h3
              · rw [List.mem_singleton] at hq; subst hq
                have := k3 p hp h1; rw [h3, hg] at this; injection this with this; rw [← this, hs2]
              · rw [List.mem_singleton] at hp; subst hp
                have := k3 q hq h2; rw [← h3, hg] at this; injection this with this; rw [← this, hs2]
              · rw [List.mem_singleton] at hp hq; rw [hp, hq]
            · intro p hp0 q hq0 h1 h2 h3
              rcases List.mem_append.1 hp0 with hp | hp <;> rcases List.mem_append.1 hq0 with hq | hq
              · exact hu.2 p hp q hq h1 h2 h3
              · rw [List.mem_singleton] at hq; subst hq; rw [hc] at h2; cases h2
              · rw [List.mem_singleton] at hp; subst hp
                have := k2 q hq h2; rw [← h3, hg] at this; injection this with this; exact hm this
              · rw [List.mem_singleton] at hq; subst hq; rw [hc] at h2; cases h2
          · refine fail (by simp [hg, hc, hv, hm]; exact hs2) fun hU => ?_
            have := hU.1 y hya z (ha z hz) hv q1 q2.symm
            rw [q3] at this
            exact hs2 this.symm
    · have hv' : (y.op == 1) = false := by simpa using hv
      cases hc : isConst y
      · refine step m (by
          cases getM m y.name <;> simp [hv, hc]) ⟨⟨?_, ?_, ?_⟩, ?_, ?_⟩
        · intro s v h
          rcases k1 s v h with ⟨e, z, hz, q⟩ | ⟨e, z, hz, q⟩
          · exact .inl ⟨e, z, List.mem_append_left _ hz, q⟩
          · exact .inr ⟨e, z, List.mem_append_left _ hz, q⟩
        · intro z hz hcz
          rcases List.mem_append.1 hz with hz | hz
          · exact k2 z hz hcz
          · rw [List.mem_singleton] at hz; subst hz; rw [hc] at hcz; cases hcz
        · intro z hz hvz
          rcases List.mem_append.1 hz with hz | hz
          · exact k3 z hz hvz
          · rw [List.mem_singleton] at hz; subst hz; exact absurd hvz hv
        · intro p hp0 q hq0 h1 h2 h3
          rcases List.mem_append.1 hp0 with hp | hp <;> rcases List.mem_append.1 hq0 with hq | hq
          · exact hu.1 p hp q hq h1 h2 h3
          · rw [List.mem_singleton] at hq; subst hq; exact absurd h2 hv
          · rw [List.mem_singleton] at hp; subst hp; exact absurd h1 hv
          · rw [List.mem_singleton] at hp hq; rw [hp, hq]
        · intro p hp0 q hq0 h1 h2 h3
          rcases List.mem_append.1 hp0 with hp | hp <;> rcases List.mem_append.1 hq0 with hq | hq
          · exact hu.2 p hp q hq h1 h2 h3
          · rw [List.mem_singleton] at hq; subst hq; rw [hc] at h2; cases h2
          · rw [List.mem_singleton] at hp; subst hp; exact absurd h1 hv
          · rw [List.mem_singleton] at hq; subst hq; rw [hc] at h2; cases h2
      · have ok : (∀ v, getM m y.name = some v → v = mark) → ((uniFold m (y :: b)).isSome = true ↔ Uni (a ++ y :: b)) := by
          intro hg
          have hnv : ∀ p ∈ a, p.op = 1 → p.name ≠ y.name := by
            intro p hp h1 h2
            have := k3 p hp h1
            rw [h2] at this
            exact hs p (ha p hp) h1 (hg _ this)
          refine step (putM m y.name mark) (by
            cases hgg : getM m y.name with
            | none => simp [hv, hc]
            | some v => simp [hv, hc, hg v hgg]) ⟨⟨?_, ?_, ?_⟩, ?_, ?_⟩
          · intro s v h
            rw [getM_putM] at h
            split at h
            · rename_i e
              injection h with h
              exact .inl ⟨h.symm, y, by simp, hc, e⟩
            · rcases k1 s v h with ⟨e, z, hz, q⟩ | ⟨e, z, hz, q⟩
              · exact .inl ⟨e, z, List.mem_append_left _ hz, q⟩
              · exact .inr ⟨e, z, List.mem_append_left _ hz, q⟩
          · intro z hz hcz
            rw [getM_putM]
            split
            · rfl
            · rename_i e
              rcases List.mem_append.1 hz with hz | hz
              · exact k2 z hz hcz
              · rw [List.mem_singleton] at hz; exact absurd (by rw [hz]) e
          · intro z hz hvz
            rcases List.mem_append.1 hz with hz | hz
            · rw [getM_putM, if_neg fun e => hnv z hz hvz e.symm]
              exact k3 z hz hvz
            · rw [List.mem_singleton] at hz; subst hz; exact absurd hvz hv
          · intro p hp0 q hq0 h1 h2 h3
            rcases List.mem_append.1 hp0 with hp | hp <;> rcases List.mem_append.1 hq0 with hq | hq
            · exact hu.1 p hp q hq h1 h2 h3
            · rw [List.mem_singleton] at hq; subst hq; exact absurd h2 hv
            · rw [List.mem_singleton] at hp; subst hp; exact absurd h1 hv
            · rw [List.mem_singleton] at hp hq; rw [hp, hq]
          · intro p hp0 q hq0 h1 h2 h3
            rcases List.mem_append.1 hp0 with hp | hp
            · rcases List.mem_append.1 hq0 with hq | hq
              · exact hu.2 p hp q hq h1 h2 h3
              · rw [List.mem_singleton] at hq; subst hq; exact hnv p hp h1 h3
            · rw [List.mem_singleton] at hp; subst hp; exact absurd h1 hv
        cases hg : getM m y.name with
        | none => exact ok fun v h => by rw [hg] at h; cases h
        | some v =>
          by_cases hm : v = mark
          · exact ok fun w h => by rw [hg] at h; injection h with h; rw [← h]; exact hm
          · refine fail (by simp [hg, hc, hm]) fun hU => ?_
            rcases k1 _ v hg with ⟨e, _⟩ | ⟨_, z, hz, q1, q2, q3⟩
            · exact absurd e hm
            · exact hU.2 z (ha z hz) y hya q1 hc q2
theorem uniB_spec (x : Node) (hs : ∀ y ∈ x.pre, y.op = 1 → y.sort ≠ mark) : uniB x = true ↔ Uni x.pre :=
  uniFold_spec x.pre [] [] hs ⟨fun s v h => by simp [getM] at h, by simp, by simp⟩ ⟨by simp, by simp⟩
theorem adj_spec : ∀ (l : List Decl), Srt Decl.cmp l → ((List.range (l.length - 1)).all (adjB l) = true ↔ ∀ d : Decl, d ∈ l → ∀ e : Decl, e ∈ l → d.name = e.name → d.sort = e.sort) := by
  intro l hs
  constructor
  · intro h
    have hadj : ∀ i, i + 1 < l.length → ∀ d e, l[i]? = some d → l[i + 1]? = some e → d.name ≠ e.name := by
      intro i hi d e h1 h2 h3
      have := List.all_eq_true.1 h i (List.mem_range.2 (by omega))
      unfold adjB at this
      rw [h1, h2] at this
      simp [h3] at this
    have hlt : ∀ (j i : Nat) (d e : Decl), i < j → l[i]? = some d → l[j]? = some e → cmpS d.name e.name < 0 := by
      intro j
      induction j with
      | zero => intro i d e h; omega
      | succ j ih =>
        intro i d e hij h1 h2
        have hjl : j + 1 < l.length := (List.getElem?_eq_some_iff.1 h2).1
        obtain ⟨f, hf⟩ : ∃ f, l[j]? = some f := ⟨_, List.getElem?_eq_getElem (show j < l.length by omega)⟩
        have hfe : cmpS f.name e.name < 0 := by
          have h3 := hadj j hjl f e hf h2
          have h4 : f.cmp e < 0 := by
            obtain ⟨a1, a2⟩ := List.getElem?_eq_some_iff.1 hf
            obtain ⟨b1, b2⟩ := List.getElem?_eq_some_iff.1 h2
            rw [← a2, ← b2]
            exact List.pairwise_iff_getElem.1 hs j (j + 1) a1 b1 (by omega)
          unfold Decl.cmp at h4
          rw [thenC_n (fun h => h3 (cmpS_0.1 h))] at h4
          exact h4
        by_cases hij2 : i = j
        · subst hij2
          rw [hf] at h1; injection h1 with h1; subst h1
          exact hfe
        · have := ih i d f (by omega) h1 hf
          exact (cmpS_tr d.name f.name e.name).2.1 this (by omega)
    intro d hd e he hn
    obtain ⟨i, hi, rfl⟩ := List.getElem_of_mem hd
    obtain ⟨j, hj, rfl⟩ := List.getElem_of_mem he
    rcases Nat.lt_trichotomy i j with h1 | h1 | h1
    · have := hlt j i _ _ h1 (List.getElem?_eq_getElem hi) (List.getElem?_eq_getElem hj)
      rw [hn, cmpS_0.2 rfl] at this; omega
    · subst h1; rfl
    · have := hlt i j _ _ h1 (List.getElem?_eq_getElem hj) (List.getElem?_eq_getElem hi)
      rw [hn, cmpS_0.2 rfl] at this; omega
  · intro h
    refine List.all_eq_true.2 fun i hi => ?_
    have hi := List.mem_range.1 hi
    have h1 := List.getElem?_eq_getElem (show i < l.length by omega)
    have h2 := List.getElem?_eq_getElem (show i + 1 < l.length by omega)
    unfold adjB
    rw [h1, h2]
    simp only [Option.map_some, Option.some.injEq]
    have h3 := List.pairwise_iff_getElem.1 hs i (i + 1) (by omega) (by omega) (by omega)
    have : ¬ l[i].name = l[i + 1].name := by
      intro e
      have := h _ (List.getElem_mem (show i < l.length by omega)) _ (List.getElem_mem (show i + 1 < l.length by omega)) e
      have h4 : l[i] = l[i + 1] := by
        cases hx : l[i]; cases hy : l[i + 1]
        rw [hx, hy] at e this
        simp only at e this
        rw [e, this]
      rw [h4, Decl.ord.self] at h3
      omega
    simp [this]
theorem constB_spec (n : ByteArray) (x : Node) : constB n x = true ↔ ∃ z ∈ x.pre, isConst z = true ∧ z.name = n := by
  unfold constB isConst
  rw [List.any_eq_true]
  constructor
  · rintro ⟨z, hz, h⟩
    simp only [Bool.and_eq_true, decide_eq_true_eq, beq_iff_eq] at h
    exact ⟨z, hz, by simp [h.1.1, h.2], h.1.2⟩
  · rintro ⟨z, hz, h1, h2⟩
    simp only [Bool.and_eq_true, decide_eq_true_eq, beq_iff_eq] at h1
    exact ⟨z, hz, by simp [h1.1, h1.2, h2]⟩
theorem uni1B_spec (x : Node) : uni1B x = true ↔ Uni x.pre := by
  unfold uni1B
  rw [Bool.and_eq_true, adj_spec _ (vars_sorted x), List.all_eq_true]
  constructor
  · rintro ⟨h1, h2⟩
    refine ⟨fun y hy z hz e1 e2 e3 => ?_, fun y hy z hz e1 e2 e3 => ?_⟩
    · exact h1 _ ((vars_mem x _).2 ⟨y, hy, e1, rfl⟩) _ ((vars_mem x _).2 ⟨z, hz, e2, rfl⟩) e3
    · have := h2 _ ((vars_mem x _).2 ⟨y, hy, e1, rfl⟩)
      rw [show constB y.name x = true from (constB_spec _ x).2 ⟨z, hz, e2, e3.symm⟩] at this
      cases this
  · rintro ⟨h1, h2⟩
    refine ⟨fun (d : Decl) hd (e : Decl) he hn => ?_, fun d hd => ?_⟩
    · obtain ⟨y, hy, e1, rfl⟩ := (vars_mem x _).1 hd
      obtain ⟨z, hz, e2, rfl⟩ := (vars_mem x _).1 he
      exact h1 y hy z hz e1 e2 hn
    · obtain ⟨y, hy, e1, rfl⟩ := (vars_mem x _).1 hd
      cases hcb : constB y.name x
      · rfl
      · obtain ⟨z, hz, e2, e3⟩ := (constB_spec _ x).1 hcb
        exact absurd e3.symm (h2 y hy z hz e1 e2)
theorem uni_same (x : Node) (h : sortedB x = true) : uniB x = uni1B x := by
  have hs : ∀ y ∈ x.pre, y.op = 1 → y.sort ≠ mark := by
    intro y hy ho
    have := List.all_eq_true.1 h y hy
    have h1 : ownB y = true := (Bool.and_eq_true_iff.1 this).1
    have h2 : labB y = true := (Bool.and_eq_true_iff.1 h1).1
    unfold labB at h2
    rw [if_pos (by unfold namedB; simp [ho])] at h2
    have h3 := (Bool.and_eq_true_iff.1 h2).2
    simp only [Bool.and_eq_true, decide_eq_true_eq] at h3
    unfold mark
    omega
  rw [Bool.eq_iff_iff, uniB_spec x hs, uni1B_spec]
theorem checkV_same (x : Node) (s : Int) : checkV uniB x s = checkV uni1B x s := by
  unfold checkV
  cases h : sortedB x
  · rfl
  · rw [uni_same x h]
theorem qualB_same (q : Qual) : qualB uniB varsB q = qualB uni1B (gatherN []) q := by
  unfold qualB
  rw [checkV_same, vars_same]
end Go.Qu
namespace Go.Qu
open Go.Eng Go.Proofs
theorem foldl_same : ∀ (ns l : List Node), Srt Node.cmp l → ns.foldl insF l = ns.foldl putF l ∧ Srt Node.cmp (ns.foldl putF l)
  | [], l, h => ⟨rfl, h⟩
  | n :: ns, l, h => by
    have e : insF l n = putF l n := by
      unfold insF putF
      rw [putAll_insM, insS_insM Node.ord _ _ h]
    have h2 : Srt Node.cmp (putF l n) := by
      unfold putF
      rw [putAll_insM]
      exact insM_sorted Node.ord _ _ h
    rw [List.foldl_cons, List.foldl_cons, e]
    exact foldl_same ns _ h2
theorem candGo_same (ins : Qual → List Node × Int) : ∀ (qs : List Qual) (acc : List Node), Srt Node.cmp acc → candGo ins insF acc qs = candGo ins putF acc qs
  | [], acc, _ => rfl
  | q :: qs, acc, h => by
    obtain ⟨h1, h2⟩ := foldl_same (ins q).1 acc h
    rw [candGo, candGo, h1, candGo_same ins qs _ h2]
theorem candV_same (qs : List Qual) (u : List Int) : candV (qualB uniB varsB) (fun q => instV (qualB uniB varsB q) q u) insF qs u = candV (qualB uni1B (gatherN [])) (fun q => instV (qualB uni1B (gatherN []) q) q u) putF qs u := by
  have e : qualB uniB varsB = qualB uni1B (gatherN []) := funext qualB_same
  rw [e]
  unfold candV
  rw [candGo_same _ qs [] List.Pairwise.nil]
theorem cmpL_self : ∀ l : List Node, Node.cmpL l l = 0
  | [] => rfl
  | x :: l => by rw [Node.cmpL, Node.cmp_self, thenC_0]; exact cmpL_self l
theorem cmpL_eq {l m : List Node} (h : l.length = m.length) (h2 : Node.cmpL l m = 0) : l = m := Node.cmpL_0 l m (fun x _ y => Node.cmp_0 x y) h h2
def awV : Node := .mk 1 1 ⟨#[118]⟩ 0 []
def awZ : Node := .mk 1 1 ⟨#[122, 46, 48]⟩ 0 []
def awI : Node := .mk 2 0 ⟨#[]⟩ 0 []
def awN (x : Node) : Node := .mk 38 0 ⟨#[]⟩ 0 [awI, x]
def awQ : Qual := ⟨⟨#[80, 111, 115]⟩, [⟨⟨#[118]⟩, 1⟩], awN awV⟩
theorem aw_val : candV (qualB uniB varsB) (fun q => instV (qualB uniB varsB q) q [1]) insF [awQ] [1] = ([awN awZ], 0) := by
  rw [candV_same]
  have h : ((decide ((candV (qualB uni1B (gatherN [])) (fun q => instV (qualB uni1B (gatherN []) q) q [1]) putF [awQ] [1]).1.length = [awN awZ].length) && Node.cmpL (candV (qualB uni1B (gatherN [])) (fun q => instV (qualB uni1B (gatherN []) q) q [1]) putF [awQ] [1]).1 [awN awZ] == 0) && (candV (qualB uni1B (gatherN [])) (fun q => instV (qualB uni1B (gatherN []) q) q [1]) putF [awQ] [1]).2 == 0) = true := by decide +kernel
  generalize candV (qualB uni1B (gatherN [])) (fun q => instV (qualB uni1B (gatherN []) q) q [1]) putF [awQ] [1] = V at h
  simp only [Bool.and_eq_true, decide_eq_true_eq, beq_iff_eq] at h
  have := cmpL_eq h.1.1 h.1.2
  cases V
  simp only at this h
  rw [this, h.2]
end Go.Qu
