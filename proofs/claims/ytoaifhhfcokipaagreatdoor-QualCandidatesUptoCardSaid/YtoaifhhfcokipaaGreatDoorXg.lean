/- Levels, words, names. Names; what a node holds by itself. -/
import Derived.Test.YtoaifhhfcokipaaGreatDoorXf
namespace Go.Qu
open Go.Eng Go.Proofs
namespace Node
mutual
def levels : Node → Nat
  | .mk _ _ _ _ ks => maxL ks + 1
def maxL : List Node → Nat
  | [] => 0
  | x :: l => max (levels x) (maxL l)
end
theorem levels_eq (x : Node) : x.levels = maxL x.kids + 1 := by cases x; rw [levels]; rfl
theorem maxL_append : ∀ (a b : List Node), maxL (a ++ b) = max (maxL a) (maxL b)
  | [], b => by simp [maxL]
  | x :: a, b => by simp [maxL, maxL_append a b, Nat.max_assoc]
theorem maxL_take_succ {l : List Node} {k : Nat} {y : Node} (h : l[k]? = some y) : maxL (l.take (k + 1)) = max (maxL (l.take k)) y.levels := by
  rw [List.take_add_one, maxL_append, h]
  simp [maxL]
mutual
theorem levels_le : ∀ (x : Node), x.levels ≤ x.size
  | .mk _ _ _ _ ks => by rw [levels, size]; have := maxL_le ks; omega
theorem maxL_le : ∀ (l : List Node), maxL l ≤ sizes l
  | [] => by simp [maxL, sizes]
  | x :: l => by rw [maxL, sizes]; have := levels_le x; have := maxL_le l; omega
end
end Node
theorem maxI {a b c : Nat} (h : c = max a b) : (c : Int) = (if (b : Int) > (a : Int) then (b : Int) else (a : Int)) := by
  subst h
  split <;> omega
set_option maxRecDepth 100000 in
theorem levels1_ok (x : Node) : Sm x → Pure Tryz.prog 59 [.agg x.svs] (.int .i64 fun _ => (x.levels : Int)) := by
  induction x using Node.ind2 with
  | h x ih =>
  intro hsz
  have hl := Sm.len hsz
  have hlv := Node.levels_le x
  have hlv2 := x.levels_eq
  refine pure_of (P := fun _ => Tryz.prog) tabOk Tryz.func59 rfl rfl ?_
  cbv
  refine .loop Nat (fun k => k ≤ x.kids.length) (fun k => [(3, .int .i64 fun _ => (Node.maxL (x.kids.take k) : Int)), (7, .ds 5 fun _ => Node.rows x.kids), (8, .int .i64 fun _ => (x.kids.length : Int)), (9, .int .i64 fun _ => (k : Int))]) (fun _ => [(0, .cells 31 x.svs)]) 1 (fun k => x.kids.length - k) 0 (Nat.zero_le _) ?_ ?_
  · (refine le_of ?_; cbv; refine .mk ?_; repeat' (first | exact AllP.nil | refine AllP.cons (by with_reducible rfl) ?_ | refine AllP.cons ?_ ?_))
    all_goals first | rfl | (simp [Node.rows_length, lenL]; done)
  rintro k hk
  cbv
  refine .split (fun h1 => ?_) (fun h1 => ?_)
  · have hkl : k < x.kids.length := ltT h1
    obtain ⟨y, hy⟩ := getI hkl
    refine .need ⟨by simp, by simpa [Node.rows_length] using hkl⟩ ?_
    refine .row _ _ (Node.rows_get hy) (Node.row_toSV _) ?_
    cbv
    refine .call (ih y (List.mem_of_getElem? hy) (Sm.kid hsz (List.mem_of_getElem? hy))) ?_ rfl rfl ?_
    · (cbv; refine .mk ?_; repeat' (first | exact AllP.nil | refine AllP.cons (by with_reducible rfl) ?_ | refine AllP.cons ?_ ?_))
      all_goals rfl
    cbv
    refine .prop ⟨k + 1, hkl, by omega, ?_⟩
    (refine le_of ?_; cbv; refine .mk ?_; repeat' (first | exact AllP.nil | refine AllP.cons (by with_reducible rfl) ?_ | refine AllP.cons ?_ ?_))
    all_goals first | rfl | exact maxI (Node.maxL_take_succ hy) | (refine wrap64_of ?_ ?_ ?_ <;> simp only [natCast_eq] <;> omega)
  · have hkl : k = x.kids.length := Nat.le_antisymm hk (geF h1)
    (refine .fin () 99 trivial (le_of ?_); cbv; refine .mk ?_; repeat' (first | exact AllP.nil | refine AllP.cons (by with_reducible rfl) ?_ | refine AllP.cons ?_ ?_))
    all_goals try rfl
    rw [hkl, List.take_length]
    have := hsz
    refine wrap64_of ?_ ?_ ?_ <;> simp only [natCast_eq] <;> omega
set_option maxRecDepth 100000 in
theorem levels2_ok (x : Node) : Sm x → Pure Tryz.prog 86 [.agg x.svs] (.int .i64 fun _ => (x.levels : Int)) := by
  induction x using Node.ind2 with
  | h x ih =>
  intro hsz
  have hl := Sm.len hsz
  have hlv := Node.levels_le x
  have hlv2 := x.levels_eq
  refine pure_of (P := fun _ => Tryz.prog) tabOk Tryz.func86 rfl rfl ?_
  cbv
  refine .loop Nat (fun k => k ≤ x.kids.length) (fun k => [(3, .int .i64 fun _ => (Node.maxL (x.kids.take k) : Int)), (7, .ds 5 fun _ => Node.rows x.kids), (8, .int .i64 fun _ => (x.kids.length : Int)), (9, .int .i64 fun _ => (k : Int))]) (fun _ => [(0, .cells 31 x.svs)]) 1 (fun k => x.kids.length - k) 0 (Nat.zero_le _) ?_ ?_
  · (refine le_of ?_; cbv; refine .mk ?_; repeat' (first | exact AllP.nil | refine AllP.cons (by with_reducible rfl) ?_ | refine AllP.cons ?_ ?_))
    all_goals first | rfl | (simp [Node.rows_length, lenL]; done)
  rintro k hk
  cbv
  refine .split (fun h1 => ?_) (fun h1 => ?_)
  · have hkl : k < x.kids.length := ltT h1
    obtain ⟨y, hy⟩ := getI hkl
    refine .need ⟨by simp, by simpa [Node.rows_length] using hkl⟩ ?_
    refine .row _ _ (Node.rows_get hy) (Node.row_toSV _) ?_
    cbv
    refine .call (ih y (List.mem_of_getElem? hy) (Sm.kid hsz (List.mem_of_getElem? hy))) ?_ rfl rfl ?_
    · (cbv; refine .mk ?_; repeat' (first | exact AllP.nil | refine AllP.cons (by with_reducible rfl) ?_ | refine AllP.cons ?_ ?_))
      all_goals rfl
    cbv
    refine .prop ⟨k + 1, hkl, by omega, ?_⟩
    (refine le_of ?_; cbv; refine .mk ?_; repeat' (first | exact AllP.nil | refine AllP.cons (by with_reducible rfl) ?_ | refine AllP.cons ?_ ?_))
    all_goals first | rfl | exact maxI (Node.maxL_take_succ hy) | (refine wrap64_of ?_ ?_ ?_ <;> simp only [natCast_eq] <;> omega)
  · have hkl : k = x.kids.length := Nat.le_antisymm hk (geF h1)
    (refine .fin () 99 trivial (le_of ?_); cbv; refine .mk ?_; repeat' (first | exact AllP.nil | refine AllP.cons (by with_reducible rfl) ?_ | refine AllP.cons ?_ ?_))
    all_goals try rfl
    rw [hkl, List.take_length]
    have := hsz
    refine wrap64_of ?_ ?_ ?_ <;> simp only [natCast_eq] <;> omega
def constB (n : ByteArray) (x : Node) : Bool := x.pre.any fun y => y.op == 3 && decide (y.name = n) && decide (y.kids.length = 0)
theorem constB_eq (n : ByteArray) (x : Node) : constB n x = ((x.op == 3 && decide (x.name = n) && decide (x.kids.length = 0)) || x.kids.any (constB n)) := pre_any _ x
theorem len0F {a : Nat} (h : ((a : Int) == 0) = false) : ¬ a = 0 := by simpa using h
theorem len0T {a : Nat} (h : ((a : Int) == 0) = true) : a = 0 := by simpa using h
set_option maxRecDepth 100000 in
theorem const_ok (n : ByteArray) (x : Node) : Sm x → Pure Tryz.prog 97 [.agg x.svs, .str fun _ => n] (.bs fun _ => constB n x) := by
  induction x using Node.ind2 with
  | h x ih =>
  intro hsz
  have hl := Sm.len hsz
  refine pure_of (P := fun _ => Tryz.prog) tabOk Tryz.func97 rfl rfl ?_
  cbv
  repeat' (first | refine HU.split (fun _ => ?_) (fun _ => ?_))
  all_goals try
    ((refine .fin () 99 trivial (le_of ?_); cbv; refine .mk ?_; repeat' (first | exact AllP.nil | refine AllP.cons (by with_reducible rfl) ?_ | refine AllP.cons ?_ ?_))
     all_goals try rfl
     show constB n x = true
     rw [constB_eq]
     simp_all [lenL, Node.rows_length]
     done)
  all_goals
    have h0 : constB n x = x.kids.any (constB n) := by
      rw [constB_eq]
      simp_all [lenL, Node.rows_length]
    refine .loop Nat (fun k => k ≤ x.kids.length ∧ (x.kids.take k).any (constB n) = false) (fun k => [(23, .ds 5 fun _ => Node.rows x.kids), (24, .int .i64 fun _ => (x.kids.length : Int)), (25, .int .i64 fun _ => (k : Int))]) (fun _ => [(0, .cells 31 x.svs)]) 1 (fun k => x.kids.length - k) 0 ⟨Nat.zero_le _, by simp⟩ ?_ ?_
    · (refine le_of ?_; cbv; refine .mk ?_; repeat' (first | exact AllP.nil | refine AllP.cons (by with_reducible rfl) ?_ | refine AllP.cons ?_ ?_))
      all_goals first | rfl | (simp [Node.rows_length, lenL]; done)
    rintro k ⟨hk, hn⟩
    cbv
    refine .split (fun h1 => ?_) (fun h1 => ?_)
    · have hkl : k < x.kids.length := ltT h1
      obtain ⟨y, hy⟩ := getI hkl
      refine .need ⟨by simp, by simpa [Node.rows_length] using hkl⟩ ?_
      refine .row _ _ (Node.rows_get hy) (Node.row_toSV _) ?_
      cbv
      refine .call (ih y (List.mem_of_getElem? hy) (Sm.kid hsz (List.mem_of_getElem? hy))) ?_ rfl rfl ?_
      · (cbv; refine .mk ?_; repeat' (first | exact AllP.nil | refine AllP.cons (by with_reducible rfl) ?_ | refine AllP.cons ?_ ?_))
        all_goals rfl
      cbv
      refine .split (fun h2 => ?_) (fun h2 => ?_)
      · (refine .fin () 99 trivial (le_of ?_); cbv; refine .mk ?_; repeat' (first | exact AllP.nil | refine AllP.cons (by with_reducible rfl) ?_ | refine AllP.cons ?_ ?_))
        all_goals try rfl
        rw [h0, any_hit hy h2]
      · refine .prop ⟨k + 1, ⟨hkl, any_take_succ hy hn h2⟩, by omega, ?_⟩
        (refine le_of ?_; cbv; refine .mk ?_; repeat' (first | exact AllP.nil | refine AllP.cons (by with_reducible rfl) ?_ | refine AllP.cons ?_ ?_))
        all_goals (first | rfl | exact ⟨rfl, rfl⟩ | (refine wrap64_of ?_ ?_ ?_ <;> simp only [natCast_eq] <;> omega))
    · have hkl : k = x.kids.length := Nat.le_antisymm hk (geF h1)
      (refine .fin () 99 trivial (le_of ?_); cbv; refine .mk ?_; repeat' (first | exact AllP.nil | refine AllP.cons (by with_reducible rfl) ?_ | refine AllP.cons ?_ ?_))
      all_goals try rfl
      rw [hkl, List.take_length] at hn
      show constB n x = false
      rw [h0, hn]
def wordsL : List ByteArray := [⟨#[116, 114, 117, 101]⟩, ⟨#[102, 97, 108, 115, 101]⟩, ⟨#[105, 110]⟩, ⟨#[115, 117, 98]⟩, ⟨#[101, 109, 112, 116, 121]⟩, ⟨#[115, 105, 110, 103]⟩, ⟨#[99, 117, 112]⟩, ⟨#[99, 97, 112]⟩, ⟨#[100, 105, 102, 102]⟩, ⟨#[115, 101, 108]⟩, ⟨#[115, 116, 111]⟩, ⟨#[118, 108, 101, 110]⟩, ⟨#[105, 116, 101]⟩]
def isWord (s : ByteArray) : Bool := wordsL.any fun w => decide (w = s)
theorem isWord_eq (s : ByteArray) : isWord s = wordsL.any fun w => decide (s = w) := by
  unfold isWord
  congr 1
  funext w
  rw [decide_eq_decide]
  exact ⟨Eq.symm, Eq.symm⟩
set_option maxRecDepth 100000 in
theorem words_ok : Pure Tryz.prog 98 [] (.ds 1 fun _ => wordsL.map fun w => [.str w]) := by
  refine pure_of (P := fun _ => Tryz.prog) tabOk Tryz.func98 rfl rfl ?_
  cbv
  (refine .fin () 99 trivial (le_of ?_); cbv; refine .mk ?_; repeat' (first | exact AllP.nil | refine AllP.cons (by with_reducible rfl) ?_ | refine AllP.cons ?_ ?_))
  all_goals rfl
set_option maxRecDepth 100000 in
theorem word1_ok (s : ByteArray) : Pure Tryz.prog 64 [.str fun _ => s] (.bs fun _ => isWord s) := by
  refine pure_of (P := fun _ => Tryz.prog) tabOk Tryz.func64 rfl rfl ?_
  cbv
  refine .call words_ok ?_ rfl rfl ?_
  · (cbv; refine .mk ?_; repeat' (first | exact AllP.nil | refine AllP.cons (by with_reducible rfl) ?_ | refine AllP.cons ?_ ?_))
  cbv
  obtain ⟨W, hW⟩ : ∃ W, W = wordsL := ⟨_, rfl⟩
  refine .loop Nat (fun k => k ≤ W.length ∧ (W.take k).any (fun w => decide (w = s)) = false) (fun k => [(5, .ds 1 fun _ => W.map fun w => [.str w]), (6, .int .i64 fun _ => (W.length : Int)), (7, .int .i64 fun _ => (k : Int))]) (fun _ => []) 0 (fun k => W.length - k) 0 ⟨Nat.zero_le _, by simp⟩ ?_ ?_
  · (refine le_of ?_; cbv; refine .mk ?_; repeat' (first | exact AllP.nil | refine AllP.cons (by with_reducible rfl) ?_ | refine AllP.cons ?_ ?_))
    all_goals subst hW
    all_goals rfl
  rintro k ⟨hk, hn⟩
  cbv
  have hW13 : W.length = 13 := by rw [hW]; rfl
  refine .split (fun h1 => ?_) (fun h1 => ?_)
  · have hkl : k < W.length := ltT h1
    obtain ⟨y, hy⟩ := getI hkl
    refine .need ⟨by simp, by simpa using hkl⟩ ?_
    refine .row [.str y] [.str fun _ => y] (by simp [hy]) rfl ?_
    cbv
    refine .split (fun h2 => ?_) (fun h2 => ?_)
    · (refine .fin () 99 trivial (le_of ?_); cbv; refine .mk ?_; repeat' (first | exact AllP.nil | refine AllP.cons (by with_reducible rfl) ?_ | refine AllP.cons ?_ ?_))
      all_goals try rfl
      show isWord s = true
      rw [isWord, ← hW, any_hit hy h2]
    · refine .prop ⟨k + 1, ⟨hkl, any_take_succ hy hn h2⟩, by omega, ?_⟩
      (refine le_of ?_; cbv; refine .mk ?_; repeat' (first | exact AllP.nil | refine AllP.cons (by with_reducible rfl) ?_ | refine AllP.cons ?_ ?_))
      all_goals (first | rfl | exact ⟨rfl, rfl⟩ | (refine wrap64_of ?_ ?_ ?_ <;> simp only [natCast_eq] <;> omega))
  · have hkl : k = W.length := Nat.le_antisymm hk (geF h1)
    (refine .fin () 99 trivial (le_of ?_); cbv; refine .mk ?_; repeat' (first | exact AllP.nil | refine AllP.cons (by with_reducible rfl) ?_ | refine AllP.cons ?_ ?_))
    all_goals try rfl
    rw [hkl, List.take_length] at hn
    show isWord s = false
    rw [isWord, ← hW, hn]
set_option maxRecDepth 100000 in
theorem word2_ok (s : ByteArray) : Pure Tryz.prog 47 [.str fun _ => s] (.bs fun _ => isWord s) := by
  refine pure_of (P := fun _ => Tryz.prog) tabOk Tryz.func47 rfl rfl ?_
  cbv
  repeat' (refine HU.split (fun _ => ?_) (fun _ => ?_))
  all_goals
    (refine .fin () 99 trivial (le_of ?_); cbv; refine .mk ?_; repeat' (first | exact AllP.nil | refine AllP.cons (by with_reducible rfl) ?_ | refine AllP.cons ?_ ?_))
    all_goals try rfl
    show isWord s = _
    rw [isWord_eq, wordsL]
    simp only [List.any_cons, List.any_nil, *, Bool.or_false, Bool.or_true, Bool.true_or, Bool.false_or]
end Go.Qu
namespace Go.Qu
open Go.Eng Go.Proofs
def ch (s : ByteArray) (i : Nat) : Int := ((s.data.toList.getD i 0).toNat : Int)
def okCh (c : Int) : Bool := letterB c || digitB c || c == 46
def nameB (s : ByteArray) : Bool := decide (1 ≤ s.size) && decide (s.size ≤ 24) && letterB (ch s 0) && !isWord s && (List.range s.size).all fun i => okCh (ch s i)
theorem of_bne {a b : Int} (h : (a != b) = true) : ¬ a = b := by simpa using h
theorem of_nbne {a b : Int} (h : (a != b) = false) : a = b := by simpa using h
theorem range_all_succ {k : Nat} {p : Nat → Bool} (h : (List.range k).all p = true) (hp : p k = true) : (List.range (k + 1)).all p = true := by
  rw [List.range_succ, List.all_append, h]
  simpa using hp
theorem range_all_hit {k n : Nat} {p : Nat → Bool} (hk : k < n) (hp : p k = false) : (List.range n).all p = false := by
  rw [Bool.eq_false_iff]
  intro h
  have := List.all_eq_true.1 h k (List.mem_range.2 hk)
  rw [hp] at this
  cases this
theorem nameB_short {s : ByteArray} (h : s.size = 0) : nameB s = false := by simp [nameB, h]
theorem nameB_long {s : ByteArray} (h : 24 < s.size) : nameB s = false := by
  have : ¬ s.size ≤ 24 := by omega
  simp [nameB, this]
theorem nameB_letter {s : ByteArray} (h : letterB (ch s 0) = false) : nameB s = false := by simp [nameB, h]
theorem nameB_word {s : ByteArray} (h : isWord s = true) : nameB s = false := by simp [nameB, h]
theorem nameB_rest {s : ByteArray} (h1 : ¬ s.size = 0) (h2 : ¬ 24 < s.size) (h3 : letterB (ch s 0) = true) (h4 : isWord s = false) : nameB s = (List.range s.size).all fun i => okCh (ch s i) := by
  have h1 : 1 ≤ s.size := by omega
  have h2 : s.size ≤ 24 := by omega
  simp [nameB, h1, h2, h3, h4]
set_option maxRecDepth 100000 in
theorem name1_ok (s : ByteArray) : Pure Tryz.prog 32 [.str fun _ => s] (.bs fun _ => nameB s) := by
  refine pure_of (P := fun _ => Tryz.prog) tabOk Tryz.func32 rfl rfl ?_
  cbv
  refine .split (fun h0 => ?_) (fun h0 => ?_)
  · (refine .fin () 99 trivial (le_of ?_); cbv; refine .mk ?_; repeat' (first | exact AllP.nil | refine AllP.cons (by with_reducible rfl) ?_ | refine AllP.cons ?_ ?_))
    all_goals try rfl
    exact nameB_short (len0T h0)
  have h0 := len0F h0
  refine .split (fun h1 => ?_) (fun h1 => ?_)
  · (refine .fin () 99 trivial (le_of ?_); cbv; refine .mk ?_; repeat' (first | exact AllP.nil | refine AllP.cons (by with_reducible rfl) ?_ | refine AllP.cons ?_ ?_))
    all_goals try rfl
    exact nameB_long (ltT h1)
  have h1 : s.size ≤ 24 := geF (a := 24) (b := s.size) h1
  have h1 : ¬ 24 < s.size := by omega
  refine .need ⟨by simp, by simp only [natCast_eq]; omega⟩ ?_
  refine .call (letter1_ok (ch s 0)) ?_ rfl rfl ?_
  · (cbv; refine .mk ?_; repeat' (first | exact AllP.nil | refine AllP.cons (by with_reducible rfl) ?_ | refine AllP.cons ?_ ?_))
    all_goals rfl
  cbv
  refine .split (fun h2 => ?_) (fun h2 => ?_)
  · (refine .fin () 99 trivial (le_of ?_); cbv; refine .mk ?_; repeat' (first | exact AllP.nil | refine AllP.cons (by with_reducible rfl) ?_ | refine AllP.cons ?_ ?_))
    all_goals try rfl
    exact nameB_letter (by simpa using h2)
  have h2 : letterB (ch s 0) = true := by simpa using h2
  refine .call (word1_ok s) ?_ rfl rfl ?_
  · (cbv; refine .mk ?_; repeat' (first | exact AllP.nil | refine AllP.cons (by with_reducible rfl) ?_ | refine AllP.cons ?_ ?_))
    all_goals rfl
  cbv
  refine .split (fun h3 => ?_) (fun h3 => ?_)
  · (refine .fin () 99 trivial (le_of ?_); cbv; refine .mk ?_; repeat' (first | exact AllP.nil | refine AllP.cons (by with_reducible rfl) ?_ | refine AllP.cons ?_ ?_))
    all_goals try rfl
    exact nameB_word h3
  have hr := nameB_rest h0 h1 h2 h3
  refine .loop Nat (fun k => k ≤ s.size ∧ (List.range k).all (fun i => okCh (ch s i)) = true) (fun k => [(3, .int .i64 fun _ => (k : Int))]) (fun _ => []) 0 (fun k => s.size - k) 1 ⟨by omega, by simp [okCh, h2]⟩ ?_ ?_
  · (refine le_of ?_; cbv; refine .mk ?_; repeat' (first | exact AllP.nil | refine AllP.cons (by with_reducible rfl) ?_ | refine AllP.cons ?_ ?_))
    all_goals rfl
  rintro k ⟨hk, hn⟩
  cbv
  refine .split (fun h4 => ?_) (fun h4 => ?_)
  · have hkl : k < s.size := ltT h4
    have hb : ∀ {e : Bool}, okCh (ch s k) = false → nameB s = false := fun hh => by rw [hr]; exact range_all_hit hkl hh
    refine .need ⟨by simp, by simp only [natCast_eq]; omega⟩ ?_
    refine .call (letter1_ok (ch s k)) ?_ rfl rfl ?_
    · (cbv; refine .mk ?_; repeat' (first | exact AllP.nil | refine AllP.cons (by with_reducible rfl) ?_ | refine AllP.cons ?_ ?_))
      all_goals rfl
    cbv
    refine .split (fun h5 => ?_) (fun h5 => ?_)
    · refine .need ⟨by simp, by simp only [natCast_eq]; omega⟩ ?_
      refine .call (digit1_ok (ch s k)) ?_ rfl rfl ?_
      · (cbv; refine .mk ?_; repeat' (first | exact AllP.nil | refine AllP.cons (by with_reducible rfl) ?_ | refine AllP.cons ?_ ?_))
        all_goals rfl
      cbv
      refine .split (fun h6 => ?_) (fun h6 => ?_)
      · refine .need ⟨by simp, by simp only [natCast_eq]; omega⟩ ?_
        refine .split (fun h7 => ?_) (fun h7 => ?_)
        · (refine .fin () 99 trivial (le_of ?_); cbv; refine .mk ?_; repeat' (first | exact AllP.nil | refine AllP.cons (by with_reducible rfl) ?_ | refine AllP.cons ?_ ?_))
          all_goals try rfl
          have h7 : ¬ ch s k = 46 := by simpa [ch] using h7
          exact hb (e := true) (by simp_all [okCh])
        · have h7 : ch s k = 46 := by simpa [ch] using h7
          refine .prop ⟨k + 1, ⟨hkl, range_all_succ hn (by simp [okCh, h7])⟩, by omega, ?_⟩
          (refine le_of ?_; cbv; refine .mk ?_; repeat' (first | exact AllP.nil | refine AllP.cons (by with_reducible rfl) ?_ | refine AllP.cons ?_ ?_))
          all_goals (first | rfl | exact ⟨rfl, rfl⟩ | (refine wrap64_of ?_ ?_ ?_ <;> simp only [natCast_eq] <;> omega))
      · refine .prop ⟨k + 1, ⟨hkl, range_all_succ hn (by simp_all [okCh])⟩, by omega, ?_⟩
        (refine le_of ?_; cbv; refine .mk ?_; repeat' (first | exact AllP.nil | refine AllP.cons (by with_reducible rfl) ?_ | refine AllP.cons ?_ ?_))
        all_goals (first | rfl | exact ⟨rfl, rfl⟩ | (refine wrap64_of ?_ ?_ ?_ <;> simp only [natCast_eq] <;> omega))
    · refine .prop ⟨k + 1, ⟨hkl, range_all_succ hn (by simp_all [okCh])⟩, by omega, ?_⟩
      (refine le_of ?_; cbv; refine .mk ?_; repeat' (first | exact AllP.nil | refine AllP.cons (by with_reducible rfl) ?_ | refine AllP.cons ?_ ?_))
      all_goals (first | rfl | exact ⟨rfl, rfl⟩ | (refine wrap64_of ?_ ?_ ?_ <;> simp only [natCast_eq] <;> omega))
  · have hkl : k = s.size := Nat.le_antisymm hk (geF h4)
    (refine .fin () 99 trivial (le_of ?_); cbv; refine .mk ?_; repeat' (first | exact AllP.nil | refine AllP.cons (by with_reducible rfl) ?_ | refine AllP.cons ?_ ?_))
    all_goals try rfl
    rw [hkl] at hn
    show nameB s = true
    rw [hr, hn]
set_option maxRecDepth 100000 in
theorem name2_ok (s : ByteArray) : Pure Tryz.prog 23 [.str fun _ => s] (.bs fun _ => nameB s) := by
  refine pure_of (P := fun _ => Tryz.prog) tabOk Tryz.func23 rfl rfl ?_
  cbv
  refine .split (fun h0 => ?_) (fun h0 => ?_)
  · (refine .fin () 99 trivial (le_of ?_); cbv; refine .mk ?_; repeat' (first | exact AllP.nil | refine AllP.cons (by with_reducible rfl) ?_ | refine AllP.cons ?_ ?_))
    all_goals try rfl
    have h0 : s.size < 1 := ltT (b := 1) h0
    exact nameB_short (by omega)
  have h0 : 1 ≤ s.size := geF (b := 1) h0
  have h0 : ¬ s.size = 0 := by omega
  refine .split (fun h1 => ?_) (fun h1 => ?_)
  · (refine .fin () 99 trivial (le_of ?_); cbv; refine .mk ?_; repeat' (first | exact AllP.nil | refine AllP.cons (by with_reducible rfl) ?_ | refine AllP.cons ?_ ?_))
    all_goals try rfl
    exact nameB_long (ltT h1)
  have h1 : s.size ≤ 24 := geF (a := 24) (b := s.size) h1
  have h1 : ¬ 24 < s.size := by omega
  refine .need ⟨by simp, by simp only [natCast_eq]; omega⟩ ?_
  refine .call (letter_ok (ch s 0)) ?_ rfl rfl ?_
  · (cbv; refine .mk ?_; repeat' (first | exact AllP.nil | refine AllP.cons (by with_reducible rfl) ?_ | refine AllP.cons ?_ ?_))
    all_goals rfl
  cbv
  refine .split (fun h2 => ?_) (fun h2 => ?_)
  · (refine .fin () 99 trivial (le_of ?_); cbv; refine .mk ?_; repeat' (first | exact AllP.nil | refine AllP.cons (by with_reducible rfl) ?_ | refine AllP.cons ?_ ?_))
    all_goals try rfl
    exact nameB_letter (by simpa using h2)
  have h2 : letterB (ch s 0) = true := by simpa using h2
  refine .call (word2_ok s) ?_ rfl rfl ?_
  · (cbv; refine .mk ?_; repeat' (first | exact AllP.nil | refine AllP.cons (by with_reducible rfl) ?_ | refine AllP.cons ?_ ?_))
    all_goals rfl
  cbv
  refine .split (fun h3 => ?_) (fun h3 => ?_)
  · (refine .fin () 99 trivial (le_of ?_); cbv; refine .mk ?_; repeat' (first | exact AllP.nil | refine AllP.cons (by with_reducible rfl) ?_ | refine AllP.cons ?_ ?_))
    all_goals try rfl
    exact nameB_word h3
  have hr := nameB_rest h0 h1 h2 h3
  refine .loop Nat (fun k => k ≤ s.size ∧ (List.range k).all (fun i => okCh (ch s i)) = true) (fun k => [(24, .int .i64 fun _ => (s.size : Int)), (25, .int .i64 fun _ => (k : Int))]) (fun _ => []) 0 (fun k => s.size - k) 0 ⟨by omega, by simp⟩ ?_ ?_
  · (refine le_of ?_; cbv; refine .mk ?_; repeat' (first | exact AllP.nil | refine AllP.cons (by with_reducible rfl) ?_ | refine AllP.cons ?_ ?_))
    all_goals rfl
  rintro k ⟨hk, hn⟩
  cbv
  refine .split (fun h4 => ?_) (fun h4 => ?_)
  · have hkl : k < s.size := ltT h4
    refine .need ⟨by simp, by simp only [natCast_eq]; omega⟩ ?_
    refine .call (letter_ok (ch s k)) ?_ rfl rfl ?_
    · (cbv; refine .mk ?_; repeat' (first | exact AllP.nil | refine AllP.cons (by with_reducible rfl) ?_ | refine AllP.cons ?_ ?_))
      all_goals rfl
    cbv
    have hc : ∀ c : Int, (letterB c = false ∧ (if c < 48 then ¬ c = 46 else 57 < c ∧ ¬ c = 46)) ↔ okCh c = false := fun c => by
      simp [okCh, digitB, and_assoc]
      intro _
      split <;> omega
    have hb : okCh (ch s k) = false → nameB s = false := fun hh => by rw [hr]; exact range_all_hit hkl hh
    refine .split (fun h5 => ?_) (fun h5 => ?_)
    · (refine .fin () 99 trivial (le_of ?_); cbv; refine .mk ?_; repeat' (first | exact AllP.nil | refine AllP.cons (by with_reducible rfl) ?_ | refine AllP.cons ?_ ?_))
      all_goals try rfl
      refine hb ((hc _).1 ?_)
      simpa [ch] using h5
    · refine .prop ⟨k + 1, ⟨hkl, range_all_succ hn ?_⟩, by omega, ?_⟩
      · rw [← Bool.not_eq_false]
        intro hf
        have := (hc _).2 hf
        simp [ch] at h5 this
        rw [show ∀ a b : Prop, (a ∧ b) = (a ∧ b) from fun _ _ => rfl] at this
        have h6 := h5 this.1
        split at h6
        · rename_i g
          rw [if_pos g] at this
          exact this.2 h6
        · rename_i g
          rw [if_neg g] at this
          exact this.2.2 (h6 this.2.1)
      · (refine le_of ?_; cbv; refine .mk ?_; repeat' (first | exact AllP.nil | refine AllP.cons (by with_reducible rfl) ?_ | refine AllP.cons ?_ ?_))
        all_goals (first | rfl | exact ⟨rfl, rfl⟩ | (refine wrap64_of ?_ ?_ ?_ <;> simp only [natCast_eq] <;> omega))
  · have hkl : k = s.size := Nat.le_antisymm hk (geF h4)
    (refine .fin () 99 trivial (le_of ?_); cbv; refine .mk ?_; repeat' (first | exact AllP.nil | refine AllP.cons (by with_reducible rfl) ?_ | refine AllP.cons ?_ ?_))
    all_goals try rfl
    rw [hkl] at hn
    show nameB s = true
    rw [hr, hn]
end Go.Qu
