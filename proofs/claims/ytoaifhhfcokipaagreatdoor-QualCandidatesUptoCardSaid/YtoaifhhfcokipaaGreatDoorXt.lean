/- Names of parameters. Copies and substitution. -/
import Derived.Test.YtoaifhhfcokipaaGreatDoorXs
namespace Go.Qu
open Go.Eng Go.Proofs
def dig (i : Nat) : ByteArray := if i < 10 then ⟨#[UInt8.ofNat (48 + i)]⟩ else ⟨#[UInt8.ofNat (48 + i / 10), UInt8.ofNat (48 + i % 10)]⟩
theorem dig_size (i : Nat) : (dig i).size ≤ 2 := by
  unfold dig
  split
  · exact Nat.le_succ 1
  · exact Nat.le_refl 2
def zname (i : Nat) : ByteArray := ⟨#[122, 46]⟩ ++ dig i
def smallC : ByteArray := ⟨⟨[48, 49, 50, 51, 52, 53, 54, 55, 56, 57, 97, 98, 99, 100, 101, 102, 103, 104, 105, 106, 107, 108, 109, 110, 111, 112, 113, 114, 115, 116, 117, 118, 119, 120, 121, 122]⟩⟩
def pairC : ByteArray := ⟨⟨[48, 48, 48, 49, 48, 50, 48, 51, 48, 52, 48, 53, 48, 54, 48, 55, 48, 56, 48, 57, 49, 48, 49, 49, 49, 50, 49, 51, 49, 52, 49, 53, 49, 54, 49, 55, 49, 56, 49, 57, 50, 48, 50, 49, 50, 50, 50, 51, 50, 52, 50, 53, 50, 54, 50, 55, 50, 56, 50, 57, 51, 48, 51, 49, 51, 50, 51, 51, 51, 52, 51, 53, 51, 54, 51, 55, 51, 56, 51, 57, 52, 48, 52, 49, 52, 50, 52, 51, 52, 52, 52, 53, 52, 54, 52, 55, 52, 56, 52, 57, 53, 48, 53, 49, 53, 50, 53, 51, 53, 52, 53, 53, 53, 54, 53, 55, 53, 56, 53, 57, 54, 48, 54, 49, 54, 50, 54, 51, 54, 52, 54, 53, 54, 54, 54, 55, 54, 56, 54, 57, 55, 48, 55, 49, 55, 50, 55, 51, 55, 52, 55, 53, 55, 54, 55, 55, 55, 56, 55, 57, 56, 48, 56, 49, 56, 50, 56, 51, 56, 52, 56, 53, 56, 54, 56, 55, 56, 56, 56, 57, 57, 48, 57, 49, 57, 50, 57, 51, 57, 52, 57, 53, 57, 54, 57, 55, 57, 56, 57, 57]⟩⟩
theorem smallC_ok : ∀ i : Fin 10, smallC.extract i.1 (i.1 + 1) = dig i.1 := by decide +kernel
theorem pairC_ok : ∀ i : Fin 100, 10 ≤ i.1 → pairC.extract (i.1 * 2) (i.1 * 2 + 2) = dig i.1 := by decide +kernel
set_option maxRecDepth 100000 in
theorem small_ok (i : Nat) (hi : i < 100) : Pure Tryz.prog 128 [.int .i64 fun _ => (i : Int)] (.str fun _ => dig i) := by
  have e1 : IntKind.i64.wrap ((i : Int) + 1) = ((i + 1 : Nat) : Int) := by rw [IntKind.wrap_i64]; omega
  have e2 : IntKind.i64.wrap ((i : Int) * 2) = ((i * 2 : Nat) : Int) := by rw [IntKind.wrap_i64]; omega
  have e3 : IntKind.i64.wrap (((i * 2 : Nat) : Int) + 2) = ((i * 2 + 2 : Nat) : Int) := by rw [IntKind.wrap_i64]; omega
  refine pure_of (P := fun _ => Tryz.prog) tabOk Tryz.func128 rfl rfl ?_
  cbv
  refine .split (fun h => ?_) (fun h => ?_)
  · have h : (i : Int) < 10 := of_decide_eq_true h
    have h : i < 10 := by omega
    refine .need ⟨by simp, by rw [e1]; exact Int.ofNat_le.2 (by omega), ?_⟩ ?_
    · rw [e1]
      show ((i + 1 : Nat) : Int) ≤ ((36 : Nat) : Int)
      exact Int.ofNat_le.2 (by omega)
    (refine .fin () 99 trivial (le_of ?_); cbv; refine .mk ?_; repeat' (first | exact AllP.nil | refine AllP.cons (by with_reducible rfl) ?_ | refine AllP.cons ?_ ?_))
    all_goals try rfl
    show dig i = smallC.extract ((i : Int)).toNat (IntKind.i64.wrap ((i : Int) + 1)).toNat
    rw [e1, Int.toNat_natCast, Int.toNat_natCast]
    exact (smallC_ok ⟨i, h⟩).symm
  · have h : ¬ (i : Int) < 10 := of_decide_eq_false h
    have h : 10 ≤ i := by omega
    refine .need ⟨by rw [e2]; exact Int.natCast_nonneg _, by rw [e2, e3]; exact Int.ofNat_le.2 (by omega), ?_⟩ ?_
    · rw [e2, e3]
      show ((i * 2 + 2 : Nat) : Int) ≤ ((200 : Nat) : Int)
      exact Int.ofNat_le.2 (by omega)
    (refine .fin () 99 trivial (le_of ?_); cbv; refine .mk ?_; repeat' (first | exact AllP.nil | refine AllP.cons (by with_reducible rfl) ?_ | refine AllP.cons ?_ ?_))
    all_goals try rfl
    show dig i = pairC.extract (IntKind.i64.wrap ((i : Int) * 2)).toNat (IntKind.i64.wrap (IntKind.i64.wrap ((i : Int) * 2) + 2)).toNat
    rw [e2, e3, Int.toNat_natCast, Int.toNat_natCast]
    exact (pairC_ok ⟨i, hi⟩ h).symm
set_option maxRecDepth 100000 in
theorem format_ok (i : Nat) (hi : i < 100) : Pure Tryz.prog 112 [.int .i64 fun _ => (i : Int), .int .i64 fun _ => 10] (.str fun _ => dig i) := by
  refine pure_of (P := fun _ => Tryz.prog) tabOk Tryz.func112 rfl rfl ?_
  cbv
  refine .split (fun _ => ?_) (fun h => absurd h (by decide))
  refine .split (fun _ => ?_) (fun h => ?_)
  · refine .call (small_ok i hi) ?_ rfl rfl ?_
    · (cbv; refine .mk ?_; repeat' (first | exact AllP.nil | refine AllP.cons (by with_reducible rfl) ?_ | refine AllP.cons ?_ ?_))
      all_goals rfl
    cbv
    (refine .fin () 99 trivial (le_of ?_); cbv; refine .mk ?_; repeat' (first | exact AllP.nil | refine AllP.cons (by with_reducible rfl) ?_ | refine AllP.cons ?_ ?_))
    all_goals rfl
  · have h : (decide (0 ≤ (i : Int)) && decide ((i : Int) < 100)) = false := h
    have h2 : decide ((i : Int) < 100) = true := decide_eq_true (by omega)
    have h3 : decide (0 ≤ (i : Int)) = true := decide_eq_true (by omega)
    rw [h2, h3] at h
    exact absurd h (by decide)
set_option maxRecDepth 100000 in
theorem itoa1_ok (i : Nat) (hi : i < 100) : Pure Tryz.prog 81 [.int .i64 fun _ => (i : Int)] (.str fun _ => dig i) := by
  refine pure_of (P := fun _ => Tryz.prog) tabOk Tryz.func81 rfl rfl ?_
  cbv
  refine .call (format_ok i hi) ?_ rfl rfl ?_
  · (cbv; refine .mk ?_; repeat' (first | exact AllP.nil | refine AllP.cons (by with_reducible rfl) ?_ | refine AllP.cons ?_ ?_))
    all_goals rfl
  cbv
  (refine .fin () 99 trivial (le_of ?_); cbv; refine .mk ?_; repeat' (first | exact AllP.nil | refine AllP.cons (by with_reducible rfl) ?_ | refine AllP.cons ?_ ?_))
  all_goals rfl
set_option maxRecDepth 100000 in
theorem itoa_ok (i : Nat) (hi : i < 100) : Pure Tryz.prog 42 [.int .i64 fun _ => (i : Int)] (.str fun _ => dig i) := by
  refine pure_of (P := fun _ => Tryz.prog) tabOk Tryz.func42 rfl rfl ?_
  cbv
  refine .call (itoa1_ok i hi) ?_ rfl rfl ?_
  · (cbv; refine .mk ?_; repeat' (first | exact AllP.nil | refine AllP.cons (by with_reducible rfl) ?_ | refine AllP.cons ?_ ?_))
    all_goals rfl
  cbv
  (refine .fin () 99 trivial (le_of ?_); cbv; refine .mk ?_; repeat' (first | exact AllP.nil | refine AllP.cons (by with_reducible rfl) ?_ | refine AllP.cons ?_ ?_))
  all_goals rfl
set_option maxRecDepth 100000 in
theorem param2_ok (i : Nat) (hi : i < 100) : Pure Tryz.prog 17 [.int .i64 fun _ => (i : Int)] (.str fun _ => zname i) := by
  refine pure_of (P := fun _ => Tryz.prog) tabOk Tryz.func17 rfl rfl ?_
  cbv
  refine .call (itoa_ok i hi) ?_ rfl rfl ?_
  · (cbv; refine .mk ?_; repeat' (first | exact AllP.nil | refine AllP.cons (by with_reducible rfl) ?_ | refine AllP.cons ?_ ?_))
    all_goals rfl
  cbv
  refine .need ?_ ?_
  · have h2 := dig_size i
    show (((2 + (dig i).size : Nat)) : Int) ≤ 9223372036854775807
    omega
  (refine .fin () 99 trivial (le_of ?_); cbv; refine .mk ?_; repeat' (first | exact AllP.nil | refine AllP.cons (by with_reducible rfl) ?_ | refine AllP.cons ?_ ?_))
  all_goals rfl
theorem digO_ok : ∀ i : Fin 10, IntKind.u8.wrap (IntKind.i64.wrap (48 + (i.1 : Int))) = ((UInt8.ofNat (48 + i.1)).toNat : Int) := by decide +kernel
theorem digB_ok : ∀ i : Fin 10, bytesOf [[.int .u8 (IntKind.u8.wrap (IntKind.i64.wrap (48 + (i.1 : Int))))]] = dig i.1 := by decide +kernel
set_option maxRecDepth 100000 in
theorem digits1_ok (i : Nat) (hi : i < 10) : Pure Tryz.prog 83 [.int .i64 fun _ => (i : Int)] (.str fun _ => dig i) := by
  refine pure_of (P := fun _ => Tryz.prog) tabOk Tryz.func83 rfl rfl ?_
  cbv
  refine .split (fun h => ?_) (fun h => ?_)
  · refine .need ?_ ?_
    · intro r hr
      have hr : r ∈ [[DV.int .u8 (IntKind.u8.wrap (IntKind.i64.wrap (48 + (i : Int))))]] := hr
      rw [List.mem_singleton] at hr
      exact ⟨UInt8.ofNat (48 + i), by rw [hr, digO_ok ⟨i, hi⟩]⟩
    · (refine .fin () 99 trivial (le_of ?_); cbv; refine .mk ?_; repeat' (first | exact AllP.nil | refine AllP.cons (by with_reducible rfl) ?_ | refine AllP.cons ?_ ?_))
      all_goals try rfl
      exact (digB_ok ⟨i, hi⟩).symm
  · have h : ¬ (i : Int) < 10 := of_decide_eq_false h
    omega
theorem dig2_ok : ∀ i : Fin 100, 10 ≤ i.1 → dig (i.1 / 10) ++ dig (i.1 % 10) = dig i.1 := by decide +kernel
set_option maxRecDepth 100000 in
theorem digits_ok (i : Nat) (hi : i < 100) : Pure Tryz.prog 83 [.int .i64 fun _ => (i : Int)] (.str fun _ => dig i) := by
  by_cases h10 : i < 10
  · exact digits1_ok i h10
  have e1 : IntKind.i64.wrap (((i : Int)).tdiv 10) = ((i / 10 : Nat) : Int) := by
    rw [Int.tdiv_eq_ediv_of_nonneg (by omega), IntKind.wrap_i64]; omega
  have e2 : ((i : Int)).tmod 10 = ((i % 10 : Nat) : Int) := by
    rw [Int.tmod_eq_emod_of_nonneg (by omega)]; omega
  refine pure_of (P := fun _ => Tryz.prog) tabOk Tryz.func83 rfl rfl ?_
  cbv
  refine .split (fun h => ?_) (fun h => ?_)
  · have h : (i : Int) < 10 := of_decide_eq_true h
    omega
  refine .need (by decide) ?_
  refine .call (digits1_ok (i / 10) (by omega)) ?_ rfl rfl ?_
  · (cbv; refine .mk ?_; repeat' (first | exact AllP.nil | refine AllP.cons (by with_reducible rfl) ?_ | refine AllP.cons ?_ ?_))
    all_goals first | exact e1.symm | exact e1
  cbv
  refine .need (by decide) ?_
  refine .call (digits1_ok (i % 10) (by omega)) ?_ rfl rfl ?_
  · (cbv; refine .mk ?_; repeat' (first | exact AllP.nil | refine AllP.cons (by with_reducible rfl) ?_ | refine AllP.cons ?_ ?_))
    all_goals first | exact e2.symm | exact e2
  cbv
  refine .need ?_ ?_
  · have h2 := dig_size (i / 10)
    have h3 := dig_size (i % 10)
    show ((((dig (i / 10)).size + (dig (i % 10)).size : Nat)) : Int) ≤ 9223372036854775807
    omega
  (refine .fin () 99 trivial (le_of ?_); cbv; refine .mk ?_; repeat' (first | exact AllP.nil | refine AllP.cons (by with_reducible rfl) ?_ | refine AllP.cons ?_ ?_))
  all_goals try rfl
  exact (dig2_ok ⟨i, hi⟩ (Nat.le_of_not_lt h10)).symm
set_option maxRecDepth 100000 in
theorem param1_ok (i : Nat) (hi : i < 100) : Pure Tryz.prog 44 [.int .i64 fun _ => (i : Int)] (.str fun _ => zname i) := by
  refine pure_of (P := fun _ => Tryz.prog) tabOk Tryz.func44 rfl rfl ?_
  cbv
  refine .split (fun h => ?_) (fun h => ?_)
  · have h : (i : Int) < 0 := of_decide_eq_true h
    omega
  refine .call (digits_ok i hi) ?_ rfl rfl ?_
  · (cbv; refine .mk ?_; repeat' (first | exact AllP.nil | refine AllP.cons (by with_reducible rfl) ?_ | refine AllP.cons ?_ ?_))
    all_goals rfl
  cbv
  refine .need ?_ ?_
  · have h2 := dig_size i
    show (((2 + (dig i).size : Nat)) : Int) ≤ 9223372036854775807
    omega
  (refine .fin () 99 trivial (le_of ?_); cbv; refine .mk ?_; repeat' (first | exact AllP.nil | refine AllP.cons (by with_reducible rfl) ?_ | refine AllP.cons ?_ ?_))
  all_goals rfl
end Go.Qu
namespace Go.Qu
open Go.Eng Go.Proofs
set_option maxRecDepth 100000 in
theorem clone_ok (l : List Node) (hl : l.length < 1073741824) : Eng.Spec Tryz.prog 82 [.ds 5 fun _ => Node.rows l] [] 0 (fun _ : Unit => True) (fun _ => .os 0) (fun _ => [(0, .arr 31 5 fun _ => Node.rows l)]) := by
  refine made_of (P := fun _ => Tryz.prog) tabOk Tryz.func82 rfl rfl ?_
  cbv
  refine .fork (fun h => ?_) ?_
  · (refine .fin () 99 trivial (le_of ?_); cbv; refine .mk ?_; repeat' (first | exact AllP.nil | refine AllP.cons (by with_reducible rfl) ?_ | refine AllP.cons ?_ ?_))
    all_goals first | rfl | exact h
  · refine .need (by simp only [List.length_nil, Node.rows_length]; omega) ?_
    (refine .fin () 99 trivial (le_of ?_); cbv; refine .mk ?_; repeat' (first | exact AllP.nil | refine AllP.cons (by with_reducible rfl) ?_ | refine AllP.cons ?_ ?_))
    all_goals rfl
theorem setRow_row {l : List Node} {k : Nat} {y : Node} (h : l[k]? = some y) : setRow (Node.rows l) k 0 y.dvs = Node.rows l := by
  have hk : k < l.length := (List.getElem?_eq_some_iff.1 h).1
  unfold setRow
  rw [Node.rows_get h]
  have : splice ((some y.row).getD []) 0 y.dvs = y.row := by rw [Node.row_dvs]; rfl
  rw [this]
  apply List.ext_getElem?
  intro n
  by_cases hn : n = k
  · subst hn
    rw [Node.rows_get h]
    simp [Node.rows_length, hk]
  · rw [List.getElem?_set_ne (fun e => hn e.symm)]
set_option maxRecDepth 100000 in
theorem copied_ok (x : Node) : Sm x → Pure Tryz.prog 43 [.agg x.svs] (.agg x.svs) := by
  induction x using Node.ind2 with
  | h x ih =>
  intro hsz
  have hl := Sm.len hsz
  refine pure_of (P := fun _ => Tryz.prog) tabOk Tryz.func43 rfl rfl ?_
  cbv
  refine .callN (clone_ok x.kids hl) 5 ?_ rfl rfl (fun _ => ⟨rfl, rfl⟩) (fun _ _ => ?_)
  · (cbv; refine .mk ?_; repeat' (first | exact AllP.nil | refine AllP.cons (by with_reducible rfl) ?_ | refine AllP.cons ?_ ?_))
    all_goals rfl
  cbv
  refine .loop Nat (fun k => k ≤ x.kids.length) (fun k => [(10, .os 2), (11, .int .i64 fun _ => (x.kids.length : Int)), (12, .int .i64 fun _ => (k : Int))]) (fun _ => [(0, .cells 31 [.int .i64 fun _ => x.op, .int .i64 fun _ => x.sort, .str fun _ => x.name, .int .i64 fun _ => x.num, .os 2]), (1, .cells 31 [.int .i64 fun _ => 0, .int .i64 fun _ => 0, .str fun _ => ⟨#[]⟩, .int .i64 fun _ => 0, .nils]), (2, .arr 31 5 fun _ => Node.rows x.kids)]) 6 (fun k => x.kids.length - k) 0 (Nat.zero_le _) ?_ ?_
  · (refine le_of ?_; cbv; refine .mk ?_; repeat' (first | exact AllP.nil | refine AllP.cons (by with_reducible rfl) ?_ | refine AllP.cons ?_ ?_))
    all_goals first | rfl | (simp [lenL, Node.rows_length]; done)
  rintro k hk
  cbv
  refine .split (fun h1 => ?_) (fun h1 => ?_)
  · have hkl : k < x.kids.length := ltT h1
    obtain ⟨y, hy⟩ := getI hkl
    refine .need ⟨by simp, by simpa [Node.rows_length] using hkl⟩ ?_
    refine .row _ _ (Node.rows_get hy) (Node.row_toSV _) ?_
    cbv
    refine .callD (ih y (List.mem_of_getElem? hy) (Sm.kid hsz (List.mem_of_getElem? hy))) ?_ rfl rfl (fun h => nomatch h) ?_ rfl
    · (cbv; refine .mk ?_; repeat' (first | exact AllP.nil | refine AllP.cons (by with_reducible rfl) ?_ | refine AllP.cons ?_ ?_))
      all_goals rfl
    cbv
    refine .need ⟨by simp, by show (k : Int) < ((Node.rows x.kids).length : Int); rw [Node.rows_length]; exact Int.ofNat_lt.2 hkl⟩ ?_
    refine .need rfl ?_
    refine .prop ⟨k + 1, hkl, by omega, ?_⟩
    (refine le_of ?_; cbv; refine .mk ?_; repeat' (first | exact AllP.nil | refine AllP.cons (by with_reducible rfl) ?_ | refine AllP.cons ?_ ?_))
    all_goals first | (first | rfl | exact ⟨rfl, rfl⟩ | (refine wrap64_of ?_ ?_ ?_ <;> simp only [natCast_eq] <;> omega)) | exact setRow_row hy | exact (setRow_row hy).symm
  · have hkl : k = x.kids.length := Nat.le_antisymm hk (geF h1)
    subst hkl
    (refine .fin () 99 trivial (le_of ?_); cbv; refine .mk ?_; repeat' (first | exact AllP.nil | refine AllP.cons (by with_reducible rfl) ?_ | refine AllP.cons ?_ ?_))
    all_goals rfl
set_option maxRecDepth 100000 in
theorem same_ok (x : Node) : Sm x → Pure Tryz.prog 84 [.agg x.svs] (.agg x.svs) := by
  induction x using Node.ind2 with
  | h x ih =>
  intro hsz
  have hl := Sm.len hsz
  refine pure_of (P := fun _ => Tryz.prog) tabOk Tryz.func84 rfl rfl ?_
  cbv
  refine .loop Nat (fun k => k ≤ x.kids.length) (fun k => [(17, .ds 5 fun _ => Node.rows x.kids), (18, .int .i64 fun _ => (x.kids.length : Int)), (19, .int .i64 fun _ => (k : Int))]) (fun k => [(0, .cells 31 x.svs), (1, .cells 31 [.int .i64 fun _ => 0, .int .i64 fun _ => 0, .str fun _ => ⟨#[]⟩, .int .i64 fun _ => 0, .nils]), (2, .cells 31 [.int .i64 fun _ => x.op, .int .i64 fun _ => x.sort, .str fun _ => x.name, .int .i64 fun _ => x.num, .os 3]), (3, .arr 31 5 fun _ => Node.rows (x.kids.take k))]) 6 (fun k => x.kids.length - k) 0 (Nat.zero_le _) ?_ ?_
  · (refine le_of ?_; cbv; refine .mk ?_; repeat' (first | exact AllP.nil | refine AllP.cons (by with_reducible rfl) ?_ | refine AllP.cons ?_ ?_))
    all_goals first | rfl | exact ⟨rfl, rfl⟩ | (simp [lenL, Node.rows_length]; done)
  rintro k hk
  cbv
  refine .split (fun h1 => ?_) (fun h1 => ?_)
  · have hkl : k < x.kids.length := ltT h1
    obtain ⟨y, hy⟩ := getI hkl
    refine .need ⟨by simp, by simpa [Node.rows_length] using hkl⟩ ?_
    refine .row _ _ (Node.rows_get hy) (Node.row_toSV _) ?_
    cbv
    refine .call (ih y (List.mem_of_getElem? hy) (Sm.kid hsz (List.mem_of_getElem? hy))) ?_ rfl rfl ?_
    · (cbv; refine .mk ?_; repeat' (first | exact AllP.nil | refine AllP.cons (by with_reducible rfl) ?_ | refine AllP.cons ?_ ?_))
      all_goals rfl
    cbv
    refine .need (by simp [Node.rows_length]; omega) ?_
    refine .prop ⟨k + 1, hkl, by omega, ?_⟩
    (refine le_of ?_; cbv; refine .mk ?_; repeat' (first | exact AllP.nil | refine AllP.cons (by with_reducible rfl) ?_ | refine AllP.cons ?_ ?_))
    all_goals first | (first | rfl | exact ⟨rfl, rfl⟩ | (refine wrap64_of ?_ ?_ ?_ <;> simp only [natCast_eq] <;> omega)) | (rw [List.take_add_one, hy, Node.rows_append]; simp only [Option.toList, Node.rows_one, Node.row_dvs]; rfl)
  · have hkl : k = x.kids.length := Nat.le_antisymm hk (geF h1)
    subst hkl
    (refine .fin () 99 trivial (le_of ?_); cbv; refine .mk ?_; repeat' (first | exact AllP.nil | refine AllP.cons (by with_reducible rfl) ?_ | refine AllP.cons ?_ ?_))
    all_goals first | rfl | (rw [List.take_length]; done)
end Go.Qu
