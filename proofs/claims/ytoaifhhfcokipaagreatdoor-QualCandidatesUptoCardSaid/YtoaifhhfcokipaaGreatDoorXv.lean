/- Unknowns; the calls of IndexFunc and ContainsFunc. -/
import Derived.Test.YtoaifhhfcokipaaGreatDoorXu
namespace Go.Qu
open Go.Eng Go.Proofs
def unks (l : List (List Int)) : List (List DV) := l.map fun u => [.sl 1 (ints u)]
theorem unks_length (l : List (List Int)) : (unks l).length = l.length := by simp [unks]
theorem unks_get {l : List (List Int)} {k : Nat} {x : List Int} (h : l[k]? = some x) : (unks l)[k]? = some [.sl 1 (ints x)] := by simp [unks, h]
set_option maxRecDepth 100000 in
theorem indexInt_ok (l : List Int) (p : Int → Bool) (g : Nat) (hl : l.length < 4611686018427387904) (h : ∀ x ∈ l, Pure Tryz.prog g [.int .i64 fun _ => x] (.bs fun _ => p x)) :
    Pure Tryz.prog 121 [.ds 1 fun _ => ints l, .fno g []] (.int .i64 fun _ => idxOf p l) := by
  refine pure_of (P := fun _ => Tryz.prog) tabOk Tryz.func121 rfl rfl ?_
  cbv
  refine .loop Nat (fun k => k ≤ l.length ∧ (l.take k).any p = false) (fun k => [(8, .int .i64 fun _ => (k : Int))]) (fun _ => []) 0 (fun k => l.length - k) 0 ⟨Nat.zero_le _, by simp⟩ ?_ ?_
  · (refine le_of ?_; cbv; refine .mk ?_; repeat' (first | exact AllP.nil | refine AllP.cons (by with_reducible rfl) ?_ | refine AllP.cons ?_ ?_))
    all_goals first | rfl | exact ⟨rfl, rfl⟩
  rintro k ⟨hk, hn⟩
  cbv
  refine .split (fun h1 => ?_) (fun h1 => ?_)
  · have hkl : k < l.length := by simpa [lenL, ints_length] using h1
    obtain ⟨x, hx⟩ := getI hkl
    refine .need ⟨by simp, by rw [ints_length]; exact Int.ofNat_lt.2 hkl⟩ ?_
    refine .row [.int .i64 x] [.int .i64 fun _ => x] (ints_get hx) rfl ?_
    cbv
    refine .call0 (h x (List.mem_of_getElem? hx)) (kbVs_sound _ rfl) rfl ?_
    cbv
    refine .split (fun hp => ?_) (fun hp => ?_)
    · (refine .fin () 99 trivial (le_of ?_); cbv; refine .mk ?_; repeat' (first | exact AllP.nil | refine AllP.cons (by with_reducible rfl) ?_ | refine AllP.cons ?_ ?_))
      all_goals try rfl
      exact idxOf_hit hx hp hn
    · refine .prop ⟨k + 1, ⟨hkl, any_take_succ hx hn hp⟩, by omega, ?_⟩
      (refine le_of ?_; cbv; refine .mk ?_; repeat' (first | exact AllP.nil | refine AllP.cons (by with_reducible rfl) ?_ | refine AllP.cons ?_ ?_))
      all_goals first | (first | rfl | exact ⟨rfl, rfl⟩ | (refine wrap64_of ?_ ?_ ?_ <;> simp only [natCast_eq] <;> omega)) | exact ⟨rfl, rfl⟩
  · have hkl : k = l.length := by simp [lenL, ints_length] at h1; omega
    (refine .fin () 99 trivial (le_of ?_); cbv; refine .mk ?_; repeat' (first | exact AllP.nil | refine AllP.cons (by with_reducible rfl) ?_ | refine AllP.cons ?_ ?_))
    all_goals try rfl
    rw [hkl, List.take_length] at hn
    exact idxOf_none hn
set_option maxRecDepth 100000 in
theorem containsInt_ok (l : List Int) (p : Int → Bool) (g : Nat) (hl : l.length < 4611686018427387904) (h : ∀ x ∈ l, Pure Tryz.prog g [.int .i64 fun _ => x] (.bs fun _ => p x)) :
    Pure Tryz.prog 102 [.ds 1 fun _ => ints l, .fno g []] (.bs fun _ => l.any p) := by
  refine pure_of (P := fun _ => Tryz.prog) tabOk Tryz.func102 rfl rfl ?_
  cbv
  refine .call0 (indexInt_ok l p g hl h) (kbVs_sound _ rfl) rfl ?_
  cbv
  (refine .fin () 99 trivial (le_of ?_); cbv; refine .mk ?_; repeat' (first | exact AllP.nil | refine AllP.cons (by with_reducible rfl) ?_ | refine AllP.cons ?_ ?_))
  all_goals try rfl
  exact (idxOf_nonneg p l).symm
set_option maxRecDepth 100000 in
theorem indexUnk_ok (l : List (List Int)) (p : (List Int) → Bool) (g : Nat) (hl : l.length < 4611686018427387904) (h : ∀ x ∈ l, Pure Tryz.prog g [.agg [.ds 1 fun _ => ints x]] (.bs fun _ => p x)) :
    Pure Tryz.prog 101 [.ds 1 fun _ => unks l, .fno g []] (.int .i64 fun _ => idxOf p l) := by
  refine pure_of (P := fun _ => Tryz.prog) tabOk Tryz.func101 rfl rfl ?_
  cbv
  refine .loop Nat (fun k => k ≤ l.length ∧ (l.take k).any p = false) (fun k => [(8, .int .i64 fun _ => (k : Int))]) (fun _ => []) 0 (fun k => l.length - k) 0 ⟨Nat.zero_le _, by simp⟩ ?_ ?_
  · (refine le_of ?_; cbv; refine .mk ?_; repeat' (first | exact AllP.nil | refine AllP.cons (by with_reducible rfl) ?_ | refine AllP.cons ?_ ?_))
    all_goals first | rfl | exact ⟨rfl, rfl⟩
  rintro k ⟨hk, hn⟩
  cbv
  refine .split (fun h1 => ?_) (fun h1 => ?_)
  · have hkl : k < l.length := by simpa [lenL, unks_length] using h1
    obtain ⟨x, hx⟩ := getI hkl
    refine .need ⟨by simp, by rw [unks_length]; exact Int.ofNat_lt.2 hkl⟩ ?_
    refine .row [.sl 1 (ints x)] [.ds 1 fun _ => ints x] (unks_get hx) rfl ?_
    cbv
    refine .call0 (h x (List.mem_of_getElem? hx)) (kbVs_sound _ rfl) rfl ?_
    cbv
    refine .split (fun hp => ?_) (fun hp => ?_)
    · (refine .fin () 99 trivial (le_of ?_); cbv; refine .mk ?_; repeat' (first | exact AllP.nil | refine AllP.cons (by with_reducible rfl) ?_ | refine AllP.cons ?_ ?_))
      all_goals try rfl
      exact idxOf_hit hx hp hn
    · refine .prop ⟨k + 1, ⟨hkl, any_take_succ hx hn hp⟩, by omega, ?_⟩
      (refine le_of ?_; cbv; refine .mk ?_; repeat' (first | exact AllP.nil | refine AllP.cons (by with_reducible rfl) ?_ | refine AllP.cons ?_ ?_))
      all_goals first | (first | rfl | exact ⟨rfl, rfl⟩ | (refine wrap64_of ?_ ?_ ?_ <;> simp only [natCast_eq] <;> omega)) | exact ⟨rfl, rfl⟩
  · have hkl : k = l.length := by simp [lenL, unks_length] at h1; omega
    (refine .fin () 99 trivial (le_of ?_); cbv; refine .mk ?_; repeat' (first | exact AllP.nil | refine AllP.cons (by with_reducible rfl) ?_ | refine AllP.cons ?_ ?_))
    all_goals try rfl
    rw [hkl, List.take_length] at hn
    exact idxOf_none hn
set_option maxRecDepth 100000 in
theorem containsUnk_ok (l : List (List Int)) (p : (List Int) → Bool) (g : Nat) (hl : l.length < 4611686018427387904) (h : ∀ x ∈ l, Pure Tryz.prog g [.agg [.ds 1 fun _ => ints x]] (.bs fun _ => p x)) :
    Pure Tryz.prog 72 [.ds 1 fun _ => unks l, .fno g []] (.bs fun _ => l.any p) := by
  refine pure_of (P := fun _ => Tryz.prog) tabOk Tryz.func72 rfl rfl ?_
  cbv
  refine .call0 (indexUnk_ok l p g hl h) (kbVs_sound _ rfl) rfl ?_
  cbv
  (refine .fin () 99 trivial (le_of ?_); cbv; refine .mk ?_; repeat' (first | exact AllP.nil | refine AllP.cons (by with_reducible rfl) ?_ | refine AllP.cons ?_ ?_))
  all_goals try rfl
  exact (idxOf_nonneg p l).symm
set_option maxRecDepth 100000 in
theorem indexQual_ok (l : List Qual) (p : Qual → Bool) (g : Nat) (hl : l.length < 4611686018427387904) (h : ∀ x ∈ l, Pure Tryz.prog g [.agg x.svs] (.bs fun _ => p x)) :
    Pure Tryz.prog 67 [.ds 7 fun _ => Qual.rows l, .fno g []] (.int .i64 fun _ => idxOf p l) := by
  refine pure_of (P := fun _ => Tryz.prog) tabOk Tryz.func67 rfl rfl ?_
  cbv
  refine .loop Nat (fun k => k ≤ l.length ∧ (l.take k).any p = false) (fun k => [(8, .int .i64 fun _ => (k : Int))]) (fun _ => []) 0 (fun k => l.length - k) 0 ⟨Nat.zero_le _, by simp⟩ ?_ ?_
  · (refine le_of ?_; cbv; refine .mk ?_; repeat' (first | exact AllP.nil | refine AllP.cons (by with_reducible rfl) ?_ | refine AllP.cons ?_ ?_))
    all_goals first | rfl | exact ⟨rfl, rfl⟩
  rintro k ⟨hk, hn⟩
  cbv
  refine .split (fun h1 => ?_) (fun h1 => ?_)
  · have hkl : k < l.length := by simpa [lenL, Qual.rows_length] using h1
    obtain ⟨x, hx⟩ := getI hkl
    refine .need ⟨by simp, by rw [Qual.rows_length]; exact Int.ofNat_lt.2 hkl⟩ ?_
    refine .row _ _ (Qual.rows_get hx) (Qual.dvs_toSV _) ?_
    cbv
    refine .call0 (h x (List.mem_of_getElem? hx)) (kbVs_sound _ rfl) rfl ?_
    cbv
    refine .split (fun hp => ?_) (fun hp => ?_)
    · (refine .fin () 99 trivial (le_of ?_); cbv; refine .mk ?_; repeat' (first | exact AllP.nil | refine AllP.cons (by with_reducible rfl) ?_ | refine AllP.cons ?_ ?_))
      all_goals try rfl
      exact idxOf_hit hx hp hn
    · refine .prop ⟨k + 1, ⟨hkl, any_take_succ hx hn hp⟩, by omega, ?_⟩
      (refine le_of ?_; cbv; refine .mk ?_; repeat' (first | exact AllP.nil | refine AllP.cons (by with_reducible rfl) ?_ | refine AllP.cons ?_ ?_))
      all_goals first | (first | rfl | exact ⟨rfl, rfl⟩ | (refine wrap64_of ?_ ?_ ?_ <;> simp only [natCast_eq] <;> omega)) | exact ⟨rfl, rfl⟩
  · have hkl : k = l.length := by simp [lenL, Qual.rows_length] at h1; omega
    (refine .fin () 99 trivial (le_of ?_); cbv; refine .mk ?_; repeat' (first | exact AllP.nil | refine AllP.cons (by with_reducible rfl) ?_ | refine AllP.cons ?_ ?_))
    all_goals try rfl
    rw [hkl, List.take_length] at hn
    exact idxOf_none hn
set_option maxRecDepth 100000 in
theorem containsQual_ok (l : List Qual) (p : Qual → Bool) (g : Nat) (hl : l.length < 4611686018427387904) (h : ∀ x ∈ l, Pure Tryz.prog g [.agg x.svs] (.bs fun _ => p x)) :
    Pure Tryz.prog 34 [.ds 7 fun _ => Qual.rows l, .fno g []] (.bs fun _ => l.any p) := by
  refine pure_of (P := fun _ => Tryz.prog) tabOk Tryz.func34 rfl rfl ?_
  cbv
  refine .call0 (indexQual_ok l p g hl h) (kbVs_sound _ rfl) rfl ?_
  cbv
  (refine .fin () 99 trivial (le_of ?_); cbv; refine .mk ?_; repeat' (first | exact AllP.nil | refine AllP.cons (by with_reducible rfl) ?_ | refine AllP.cons ?_ ?_))
  all_goals try rfl
  exact (idxOf_nonneg p l).symm
def sortBad (s : Int) : Bool := decide (s < 1) || decide (5 < s)
def unkB (l : List Int) : Bool := (decide (1 ≤ l.length) && decide (l.length ≤ 40)) && !l.any sortBad
set_option maxRecDepth 100000 in
theorem bad_ok (s : Int) : Pure Tryz.prog 103 [.int .i64 fun _ => s] (.bs fun _ => sortBad s) := by
  refine pure_of (P := fun _ => Tryz.prog) tabOk Tryz.func103 rfl rfl ?_
  cbv
  (refine .fin () 99 trivial (le_of ?_); cbv; refine .mk ?_; repeat' (first | exact AllP.nil | refine AllP.cons (by with_reducible rfl) ?_ | refine AllP.cons ?_ ?_))
  all_goals rfl
set_option maxRecDepth 100000 in
theorem unk1_ok (l : List Int) (hl : l.length < 1073741824) : Pure Tryz.prog 74 [.agg [.ds 1 fun _ => ints l]] (.bs fun _ => unkB l) := by
  refine pure_of (P := fun _ => Tryz.prog) tabOk Tryz.func74 rfl rfl ?_
  cbv
  refine .split (fun h1 => ?_) (fun h1 => ?_)
  · have h1 : decide (1 ≤ ((ints l).length : Int)) = true := h1
    rw [ints_length] at h1
    have h1 : 1 ≤ l.length := Int.ofNat_le.1 (of_decide_eq_true h1)
    refine .split (fun h2 => ?_) (fun h2 => ?_)
    · have h2 : decide (((ints l).length : Int) ≤ 40) = true := h2
      rw [ints_length] at h2
      have h2 : l.length ≤ 40 := Int.ofNat_le.1 (of_decide_eq_true h2)
      refine .call (containsInt_ok l sortBad 103 (by omega) (fun x _ => bad_ok x)) ?_ rfl rfl ?_
      · (cbv; refine .mk ?_; repeat' (first | exact AllP.nil | refine AllP.cons (by with_reducible rfl) ?_ | refine AllP.cons ?_ ?_))
        all_goals first | rfl | exact ⟨rfl, rfl⟩
      cbv
      (refine .fin () 99 trivial (le_of ?_); cbv; refine .mk ?_; repeat' (first | exact AllP.nil | refine AllP.cons (by with_reducible rfl) ?_ | refine AllP.cons ?_ ?_))
      all_goals try rfl
      show unkB l = !l.any sortBad
      unfold unkB
      rw [decide_eq_true h1, decide_eq_true h2]
      rfl
    · have h2 : decide (((ints l).length : Int) ≤ 40) = false := h2
      rw [ints_length] at h2
      have h2 : ¬ l.length ≤ 40 := fun h => of_decide_eq_false h2 (Int.ofNat_le.2 h)
      (refine .fin () 99 trivial (le_of ?_); cbv; refine .mk ?_; repeat' (first | exact AllP.nil | refine AllP.cons (by with_reducible rfl) ?_ | refine AllP.cons ?_ ?_))
      all_goals try rfl
      show unkB l = false
      unfold unkB
      rw [decide_eq_false h2, Bool.and_false, Bool.false_and]
  · have h1 : decide (1 ≤ ((ints l).length : Int)) = false := h1
    rw [ints_length] at h1
    have h1 : ¬ 1 ≤ l.length := fun h => of_decide_eq_false h1 (Int.ofNat_le.2 h)
    (refine .fin () 99 trivial (le_of ?_); cbv; refine .mk ?_; repeat' (first | exact AllP.nil | refine AllP.cons (by with_reducible rfl) ?_ | refine AllP.cons ?_ ?_))
    all_goals try rfl
    show unkB l = false
    unfold unkB
    rw [decide_eq_false h1, Bool.false_and, Bool.false_and]
set_option maxRecDepth 100000 in
theorem unk2_ok (l : List Int) (hl : l.length < 1073741824) : Pure Tryz.prog 73 [.agg [.ds 1 fun _ => ints l]] (.bs fun _ => !unkB l) := by
  refine pure_of (P := fun _ => Tryz.prog) tabOk Tryz.func73 rfl rfl ?_
  cbv
  refine .call (unk1_ok l hl) ?_ rfl rfl ?_
  · (cbv; refine .mk ?_; repeat' (first | exact AllP.nil | refine AllP.cons (by with_reducible rfl) ?_ | refine AllP.cons ?_ ?_))
    all_goals rfl
  cbv
  (refine .fin () 99 trivial (le_of ?_); cbv; refine .mk ?_; repeat' (first | exact AllP.nil | refine AllP.cons (by with_reducible rfl) ?_ | refine AllP.cons ?_ ?_))
  all_goals rfl
set_option maxRecDepth 100000 in
theorem horn_ok (l : List Int) (hl : l.length < 1073741824) : Pure Tryz.prog 41 [.agg [.ds 1 fun _ => unks [l], .ds 0 fun _ => [], .ds 0 fun _ => []]] (.tup [.int .i64 fun _ => -1, .int .i64 fun _ => bif unkB l then 0 else 3]) := by
  refine pure_of (P := fun _ => Tryz.prog) tabOk Tryz.func41 rfl rfl ?_
  cbv
  refine .split (fun h1 => ?_) (fun h1 => ?_)
  · exact absurd h1 (by show ¬ (decide (200 < (((unks [l]).length : Nat) : Int)) || decide ((1000 : Int) < 0)) = true; rw [unks_length]; simp)
  refine .call (containsUnk_ok [l] (fun u => !unkB u) 73 (by simp) (fun x hx => by rw [List.mem_singleton] at hx; rw [hx]; exact unk2_ok l hl)) ?_ rfl rfl ?_
  · (cbv; refine .mk ?_; repeat' (first | exact AllP.nil | refine AllP.cons (by with_reducible rfl) ?_ | refine AllP.cons ?_ ?_))
    all_goals first | rfl | exact ⟨rfl, rfl⟩
  cbv
  refine .split (fun h2 => ?_) (fun h2 => ?_)
  · have h2 : unkB l = false := by have h2 : ((!unkB l) || false) = true := h2; simpa using h2
    (refine .fin () 99 trivial (le_of ?_); cbv; refine .mk ?_; repeat' (first | exact AllP.nil | refine AllP.cons (by with_reducible rfl) ?_ | refine AllP.cons ?_ ?_))
    all_goals try rfl
    show (bif unkB l then (0 : Int) else 3) = 3
    rw [h2]
    rfl
  · have h2 : unkB l = true := by have h2 : ((!unkB l) || false) = false := h2; simpa using h2
    refine .loop Nat (fun k => k = 0) (fun _ => [(24, .int .i64 fun _ => 0), (25, .int .i64 fun _ => 0)]) (fun _ => [(0, .cells 74 [.ds 1 fun _ => unks [l], .ds 0 fun _ => [], .ds 0 fun _ => []])]) 1 (fun _ => 0) 0 rfl ?_ ?_
    · (refine le_of ?_; cbv; refine .mk ?_; repeat' (first | exact AllP.nil | refine AllP.cons (by with_reducible rfl) ?_ | refine AllP.cons ?_ ?_))
      all_goals rfl
    rintro _ _
    cbv
    refine .split (fun h3 => absurd h3 (by decide)) (fun _ => ?_)
    refine .split (fun _ => ?_) (fun h3 => absurd h3 (by decide))
    (refine .fin () 99 trivial (le_of ?_); cbv; refine .mk ?_; repeat' (first | exact AllP.nil | refine AllP.cons (by with_reducible rfl) ?_ | refine AllP.cons ?_ ?_))
    all_goals try rfl
    show (bif unkB l then (0 : Int) else 3) = 0
    rw [h2]
    rfl
set_option maxRecDepth 100000 in
theorem unk16_ok (l : List Int) (hl : l.length < 1073741824) : Pure Tryz.prog 16 [.agg [.ds 1 fun _ => ints l]] (.bs fun _ => unkB l) := by
  refine pure_of (P := fun _ => Tryz.prog) tabOk Tryz.func16 rfl rfl ?_
  cbv
  refine .call (horn_ok l hl) ?_ rfl rfl ?_
  · (cbv; refine .mk ?_; repeat' (first | exact AllP.nil | refine AllP.cons (by with_reducible rfl) ?_ | refine AllP.cons ?_ ?_))
    all_goals first | rfl | exact ⟨rfl, rfl⟩
  cbv
  (refine .fin () 99 trivial (le_of ?_); cbv; refine .mk ?_; repeat' (first | exact AllP.nil | refine AllP.cons (by with_reducible rfl) ?_ | refine AllP.cons ?_ ?_))
  all_goals try rfl
  show unkB l = ((bif unkB l then (0 : Int) else 3) == 0)
  cases unkB l <;> rfl
set_option maxRecDepth 100000 in
theorem unk19_ok (l : List Int) (hl : l.length < 1073741824) : Pure Tryz.prog 19 [.agg [.ds 1 fun _ => ints l]] (.bs fun _ => unkB l) := by
  refine pure_of (P := fun _ => Tryz.prog) tabOk Tryz.func19 rfl rfl ?_
  cbv
  refine .loop Nat (fun k => k ≤ l.length ∧ (l.take k).any sortBad = false) (fun k => [(6, .ds 1 fun _ => ints l), (7, .int .i64 fun _ => (l.length : Int)), (8, .int .i64 fun _ => (k : Int))]) (fun _ => [(0, .cells 25 [.ds 1 fun _ => ints l])]) 1 (fun k => l.length - k) 0 ⟨Nat.zero_le _, by simp⟩ ?_ ?_
  · (refine le_of ?_; cbv; refine .mk ?_; repeat' (first | exact AllP.nil | refine AllP.cons (by with_reducible rfl) ?_ | refine AllP.cons ?_ ?_))
    all_goals first | rfl | (simp [lenL, ints_length]; done)
  rintro k ⟨hk, hn⟩
  cbv
  refine .split (fun h1 => ?_) (fun h1 => ?_)
  · have hkl : k < l.length := by simpa [lenL, ints_length] using h1
    obtain ⟨x, hx⟩ := getI hkl
    refine .need ⟨by simp, by rw [ints_length]; exact Int.ofNat_lt.2 hkl⟩ ?_
    refine .row [.int .i64 x] [.int .i64 fun _ => x] (ints_get hx) rfl ?_
    cbv
    refine .split (fun h2 => ?_) (fun h2 => ?_)
    · have h2 : sortBad x = true := h2
      (refine .fin () 99 trivial (le_of ?_); cbv; refine .mk ?_; repeat' (first | exact AllP.nil | refine AllP.cons (by with_reducible rfl) ?_ | refine AllP.cons ?_ ?_))
      all_goals try rfl
      show unkB l = false
      unfold unkB
      rw [any_hit hx h2, Bool.not_true, Bool.and_false]
    · have h2 : sortBad x = false := h2
      refine .prop ⟨k + 1, ⟨hkl, any_take_succ hx hn h2⟩, by omega, ?_⟩
      (refine le_of ?_; cbv; refine .mk ?_; repeat' (first | exact AllP.nil | refine AllP.cons (by with_reducible rfl) ?_ | refine AllP.cons ?_ ?_))
      all_goals (first | rfl | exact ⟨rfl, rfl⟩ | (refine wrap64_of ?_ ?_ ?_ <;> simp only [natCast_eq] <;> omega))
  · have hkl : k = l.length := by simp [lenL, ints_length] at h1; omega
    rw [hkl, List.take_length] at hn
    (refine .fin () 99 trivial (le_of ?_); cbv; refine .mk ?_; repeat' (first | exact AllP.nil | refine AllP.cons (by with_reducible rfl) ?_ | refine AllP.cons ?_ ?_))
    all_goals try rfl
    show unkB l = (decide (1 ≤ ((ints l).length : Int)) && decide (((ints l).length : Int) ≤ 40))
    unfold unkB
    rw [hn, ints_length, Bool.not_false, Bool.and_true]
    congr 1
    · exact decide_eq_decide.2 Int.ofNat_le.symm
    · exact decide_eq_decide.2 Int.ofNat_le.symm
set_option maxRecDepth 100000 in
theorem bad35_ok (q : Qual) (hsz : Sm q.node) : Pure Tryz.prog 35 [.agg q.svs] (.bs fun _ => !qualB uniB varsB q) := by
  refine pure_of (P := fun _ => Tryz.prog) tabOk Tryz.func35 rfl rfl ?_
  cbv
  refine .call (qual2_ok q hsz) ?_ rfl rfl ?_
  · (cbv; refine .mk ?_; repeat' (first | exact AllP.nil | refine AllP.cons (by with_reducible rfl) ?_ | refine AllP.cons ?_ ?_))
    all_goals rfl
  cbv
  (refine .fin () 99 trivial (le_of ?_); cbv; refine .mk ?_; repeat' (first | exact AllP.nil | refine AllP.cons (by with_reducible rfl) ?_ | refine AllP.cons ?_ ?_))
  all_goals try rfl
  show (!qualB uniB varsB q) = ((bif qualB uniB varsB q then (0 : Int) else 3) != 0)
  cases qualB uniB varsB q <;> rfl
end Go.Qu
