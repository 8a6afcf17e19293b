/- slices.BinarySearchFunc; insertion into a sorted slice. logic.Vars; Put. -/
import Derived.Test.YtoaifhhfcokipaaGreatDoorXn
import Derived.Test.YtoaifhhfcokipaaGreatDoorXk
import Derived.Test.YtoaifhhfcokipaaGreatDoorXi
namespace Go.Qu
open Go.Eng Go.Proofs
set_option maxRecDepth 100000 in
theorem cmpDecl_ok (x y : Decl) : Pure Tryz.prog 55 [.agg x.svs, .agg y.svs] (.int .i64 fun _ => x.cmp y) := by
  refine pure_of (P := fun _ => Tryz.prog) tabOk Tryz.func55 rfl rfl ?_
  cbv
  refine .call (cmpS2_ok x.name y.name) ?_ rfl rfl ?_
  · (cbv; refine .mk ?_; repeat' (first | exact AllP.nil | refine AllP.cons (by with_reducible rfl) ?_ | refine AllP.cons ?_ ?_))
    all_goals rfl
  cbv
  refine .split (fun h => ?_) (fun h => ?_)
  · (refine .fin () 99 trivial (le_of ?_); cbv; refine .mk ?_; repeat' (first | exact AllP.nil | refine AllP.cons (by with_reducible rfl) ?_ | refine AllP.cons ?_ ?_))
    all_goals try rfl
    exact thenC_n (of_bne h)
  · refine .call (order_ok x.sort y.sort) ?_ rfl rfl ?_
    · (cbv; refine .mk ?_; repeat' (first | exact AllP.nil | refine AllP.cons (by with_reducible rfl) ?_ | refine AllP.cons ?_ ?_))
      all_goals rfl
    cbv
    (refine .fin () 99 trivial (le_of ?_); cbv; refine .mk ?_; repeat' (first | exact AllP.nil | refine AllP.cons (by with_reducible rfl) ?_ | refine AllP.cons ?_ ?_))
    all_goals try rfl
    exact thenC_of (of_nbne h)
/-- binary search, step by step -/
def bsR {α : Type} (p : α → Bool) (l : List α) (i j : Nat) : Nat :=
  if h : i < j then (if (l[(i + j) / 2]?).any p then bsR p l ((i + j) / 2 + 1) j else bsR p l i ((i + j) / 2)) else i
  termination_by j - i
  decreasing_by all_goals omega
def bsI {α : Type} (cmp : α → α → Int) (d : α) (l : List α) : Nat := bsR (fun x => decide (cmp x d < 0)) l 0 l.length
def bsF {α : Type} (cmp : α → α → Int) (d : α) (l : List α) : Bool := decide (bsI cmp d l < l.length) && (l[bsI cmp d l]?).any fun x => cmp x d == 0
theorem halve (i j : Nat) (h : i + j < 4611686018427387904) : IntKind.i64.wrap ((IntKind.u64.wrap (IntKind.i64.wrap ((i : Int) + (j : Int)))).fdiv (2 ^ min (Int.toNat 1) IntKind.u64.bits)) = (((i + j) / 2 : Nat) : Int) := by
  have e1 : IntKind.i64.wrap ((i : Int) + (j : Int)) = (i : Int) + (j : Int) := by rw [IntKind.wrap_i64]; omega
  have e2 : IntKind.u64.wrap ((i : Int) + (j : Int)) = (i : Int) + (j : Int) := by
    have : IntKind.u64.wrap ((i : Int) + (j : Int)) = ((i : Int) + (j : Int)) % 18446744073709551616 := rfl
    rw [this]; omega
  have e3 : ((2 : Int) ^ min (Int.toNat 1) IntKind.u64.bits) = 2 := rfl
  rw [e1, e2, e3, Int.fdiv_eq_ediv_of_nonneg _ (by decide), IntKind.wrap_i64]
  omega
set_option maxRecDepth 100000 in
theorem searchDecl_ok (l : List Decl) (d : Decl) (hl : l.length < 1073741824) (g : Nat) (hg : ∀ x ∈ l, Pure Tryz.prog g [.agg x.svs, .agg d.svs] (.int .i64 fun _ => x.cmp d)) :
    Pure Tryz.prog 91 [.ds 2 fun _ => Decl.rows l, .agg d.svs, .fno g []] (.tup [.int .i64 fun _ => (bsI Decl.cmp d l : Int), .bs fun _ => bsF Decl.cmp d l]) := by
  refine pure_of (P := fun _ => Tryz.prog) tabOk Tryz.func91 rfl rfl ?_
  cbv
  refine .loop (Nat × Nat) (fun s => s.1 ≤ s.2 ∧ s.2 ≤ l.length ∧ bsI Decl.cmp d l = bsR (fun x => decide (x.cmp d < 0)) l s.1 s.2) (fun s => [(9, .int .i64 fun _ => (s.1 : Int)), (10, .int .i64 fun _ => (s.2 : Int)), (8, .int .i64 fun _ => (l.length : Int))]) (fun _ => [(0, .cells 42 d.svs)]) 1 (fun s => s.2 - s.1) (0, l.length) ⟨Nat.zero_le _, Nat.le_refl _, rfl⟩ ?_ ?_
  · (refine le_of ?_; cbv; refine .mk ?_; repeat' (first | exact AllP.nil | refine AllP.cons (by with_reducible rfl) ?_ | refine AllP.cons ?_ ?_))
    all_goals first | rfl | (simp [lenL, Decl.rows_length]; done)
  rintro ⟨i, j⟩ ⟨h1, h2, h3⟩
  dsimp only at h1 h2 h3
  cbv
  refine .split (fun h4 => ?_) (fun h4 => ?_)
  · have h4 : i < j := by have h4 : decide ((i : Int) < (j : Int)) = true := h4; have := of_decide_eq_true h4; omega
    have eh := halve i j (by omega)
    have hm : (i + j) / 2 < l.length := by omega
    obtain ⟨x, hx⟩ := getI hm
    rw [bsR, dif_pos h4, hx, Option.any_some] at h3
    refine .need (by decide) ?_
    refine .need ⟨by rw [eh]; exact Int.natCast_nonneg _, by rw [eh, Decl.rows_length]; exact Int.ofNat_lt.2 hm⟩ ?_
    refine .row _ _ (by rw [eh, Int.toNat_natCast]; exact Decl.rows_get hx) (Decl.dvs_toSV _) ?_
    cbv
    refine .callD (hg x (List.mem_of_getElem? hx)) ?_ rfl rfl (fun _ => rfl) ?_ rfl
    · (cbv; refine .mk ?_; repeat' (first | exact AllP.nil | refine AllP.cons (by with_reducible rfl) ?_ | refine AllP.cons ?_ ?_))
      all_goals rfl
    cbv
    refine .need rfl ?_
    by_cases h5 : decide (x.cmp d < 0) = true
    · rw [if_pos h5] at h3
      refine .prop ⟨((i + j) / 2 + 1, j), ⟨by dsimp only; omega, h2, h3⟩, by dsimp only; omega, ?_⟩
      (refine le_of ?_; cbv; refine .mk ?_; repeat' (first | exact AllP.nil | refine AllP.cons (by with_reducible rfl) ?_ | refine AllP.cons ?_ ?_))
      all_goals first | (first | rfl | exact ⟨rfl, rfl⟩ | (refine wrap64_of ?_ ?_ ?_ <;> simp only [natCast_eq] <;> omega)) | (simp only [h5, cond_true]; done) | (simp only [h5, cond_true]; rfl) | (simp only [h5, cond_true]; rw [eh]; done) | (simp only [h5, cond_true]; rw [eh]; rfl) | (simp only [h5, cond_true]; rw [eh]; (first | rfl | exact ⟨rfl, rfl⟩ | (refine wrap64_of ?_ ?_ ?_ <;> simp only [natCast_eq] <;> omega)))
    · rw [if_neg h5] at h3
      have h5 : decide (x.cmp d < 0) = false := by simpa using h5
      refine .prop ⟨(i, (i + j) / 2), ⟨by dsimp only; omega, by dsimp only; omega, h3⟩, by dsimp only; omega, ?_⟩
      (refine le_of ?_; cbv; refine .mk ?_; repeat' (first | exact AllP.nil | refine AllP.cons (by with_reducible rfl) ?_ | refine AllP.cons ?_ ?_))
      all_goals first | (first | rfl | exact ⟨rfl, rfl⟩ | (refine wrap64_of ?_ ?_ ?_ <;> simp only [natCast_eq] <;> omega)) | (simp only [h5, cond_false]; done) | (simp only [h5, cond_false]; rfl) | (simp only [h5, cond_false]; rw [eh]; done) | (simp only [h5, cond_false]; rw [eh]; rfl) | (simp only [h5, cond_false]; rw [eh]; (first | rfl | exact ⟨rfl, rfl⟩ | (refine wrap64_of ?_ ?_ ?_ <;> simp only [natCast_eq] <;> omega)))
  · have h4 : ¬ i < j := by have h4 : decide ((i : Int) < (j : Int)) = false := h4; have := of_decide_eq_false h4; omega
    rw [bsR, dif_neg h4] at h3
    refine .split (fun h5 => ?_) (fun h5 => ?_)
    · have h5 : i < l.length := by have h5 : decide ((i : Int) < (l.length : Int)) = true := h5; have := of_decide_eq_true h5; omega
      obtain ⟨x, hx⟩ := getI h5
      refine .need ⟨by simp, by rw [Decl.rows_length]; exact Int.ofNat_lt.2 h5⟩ ?_
      refine .row _ _ (Decl.rows_get hx) (Decl.dvs_toSV _) ?_
      cbv
      refine .callD (hg x (List.mem_of_getElem? hx)) ?_ rfl rfl (fun _ => rfl) ?_ rfl
      · (cbv; refine .mk ?_; repeat' (first | exact AllP.nil | refine AllP.cons (by with_reducible rfl) ?_ | refine AllP.cons ?_ ?_))
        all_goals rfl
      cbv
      refine .need rfl ?_
      (refine .fin () 99 trivial (le_of ?_); cbv; refine .mk ?_; repeat' (first | exact AllP.nil | refine AllP.cons (by with_reducible rfl) ?_ | refine AllP.cons ?_ ?_))
      all_goals first | rfl | (show ((bsI Decl.cmp d l : Nat) : Int) = _; rw [h3]; done) | skip
      show bsF Decl.cmp d l = _
      rw [bsF, h3, hx]
      simp [h5]
    · have h5 : ¬ i < l.length := by have h5 : decide ((i : Int) < (l.length : Int)) = false := h5; have := of_decide_eq_false h5; omega
      refine .need rfl ?_
      (refine .fin () 99 trivial (le_of ?_); cbv; refine .mk ?_; repeat' (first | exact AllP.nil | refine AllP.cons (by with_reducible rfl) ?_ | refine AllP.cons ?_ ?_))
      all_goals first | rfl | (show ((bsI Decl.cmp d l : Nat) : Int) = _; rw [h3]; done) | skip
      show bsF Decl.cmp d l = _
      rw [bsF, h3]
      simp [h5]
set_option maxRecDepth 100000 in
theorem searchNode_ok (l : List Node) (d : Node) (hl : l.length < 1073741824) (g : Nat) (hg : ∀ x ∈ l, Pure Tryz.prog g [.agg x.svs, .agg d.svs] (.int .i64 fun _ => x.cmp d)) :
    Pure Tryz.prog 36 [.ds 5 fun _ => Node.rows l, .agg d.svs, .fno g []] (.tup [.int .i64 fun _ => (bsI Node.cmp d l : Int), .bs fun _ => bsF Node.cmp d l]) := by
  refine pure_of (P := fun _ => Tryz.prog) tabOk Tryz.func36 rfl rfl ?_
  cbv
  refine .loop (Nat × Nat) (fun s => s.1 ≤ s.2 ∧ s.2 ≤ l.length ∧ bsI Node.cmp d l = bsR (fun x => decide (x.cmp d < 0)) l s.1 s.2) (fun s => [(9, .int .i64 fun _ => (s.1 : Int)), (10, .int .i64 fun _ => (s.2 : Int)), (8, .int .i64 fun _ => (l.length : Int))]) (fun _ => [(0, .cells 31 d.svs)]) 1 (fun s => s.2 - s.1) (0, l.length) ⟨Nat.zero_le _, Nat.le_refl _, rfl⟩ ?_ ?_
  · (refine le_of ?_; cbv; refine .mk ?_; repeat' (first | exact AllP.nil | refine AllP.cons (by with_reducible rfl) ?_ | refine AllP.cons ?_ ?_))
    all_goals first | rfl | (simp [lenL, Node.rows_length]; done)
  rintro ⟨i, j⟩ ⟨h1, h2, h3⟩
  dsimp only at h1 h2 h3
  cbv
  refine .split (fun h4 => ?_) (fun h4 => ?_)
  · have h4 : i < j := by have h4 : decide ((i : Int) < (j : Int)) = true := h4; have := of_decide_eq_true h4; omega
    have eh := halve i j (by omega)
    have hm : (i + j) / 2 < l.length := by omega
    obtain ⟨x, hx⟩ := getI hm
    rw [bsR, dif_pos h4, hx, Option.any_some] at h3
    refine .need (by decide) ?_
    refine .need ⟨by rw [eh]; exact Int.natCast_nonneg _, by rw [eh, Node.rows_length]; exact Int.ofNat_lt.2 hm⟩ ?_
    refine .row _ _ (by rw [eh, Int.toNat_natCast]; exact Node.rows_get hx) (Node.row_toSV _) ?_
    cbv
    refine .callD (hg x (List.mem_of_getElem? hx)) ?_ rfl rfl (fun _ => rfl) ?_ rfl
    · (cbv; refine .mk ?_; repeat' (first | exact AllP.nil | refine AllP.cons (by with_reducible rfl) ?_ | refine AllP.cons ?_ ?_))
      all_goals rfl
    cbv
    refine .need rfl ?_
    by_cases h5 : decide (x.cmp d < 0) = true
    · rw [if_pos h5] at h3
      refine .prop ⟨((i + j) / 2 + 1, j), ⟨by dsimp only; omega, h2, h3⟩, by dsimp only; omega, ?_⟩
      (refine le_of ?_; cbv; refine .mk ?_; repeat' (first | exact AllP.nil | refine AllP.cons (by with_reducible rfl) ?_ | refine AllP.cons ?_ ?_))
      all_goals first | (first | rfl | exact ⟨rfl, rfl⟩ | (refine wrap64_of ?_ ?_ ?_ <;> simp only [natCast_eq] <;> omega)) | (simp only [h5, cond_true]; done) | (simp only [h5, cond_true]; rfl) | (simp only [h5, cond_true]; rw [eh]; done) | (simp only [h5, cond_true]; rw [eh]; rfl) | (simp only [h5, cond_true]; rw [eh]; (first | rfl | exact ⟨rfl, rfl⟩ | (refine wrap64_of ?_ ?_ ?_ <;> simp only [natCast_eq] <;> omega)))
    · rw [if_neg h5] at h3
      have h5 : decide (x.cmp d < 0) = false := by simpa using h5
      refine .prop ⟨(i, (i + j) / 2), ⟨by dsimp only; omega, by dsimp only; omega, h3⟩, by dsimp only; omega, ?_⟩
      (refine le_of ?_; cbv; refine .mk ?_; repeat' (first | exact AllP.nil | refine AllP.cons (by with_reducible rfl) ?_ | refine AllP.cons ?_ ?_))
      all_goals first | (first | rfl | exact ⟨rfl, rfl⟩ | (refine wrap64_of ?_ ?_ ?_ <;> simp only [natCast_eq] <;> omega)) | (simp only [h5, cond_false]; done) | (simp only [h5, cond_false]; rfl) | (simp only [h5, cond_false]; rw [eh]; done) | (simp only [h5, cond_false]; rw [eh]; rfl) | (simp only [h5, cond_false]; rw [eh]; (first | rfl | exact ⟨rfl, rfl⟩ | (refine wrap64_of ?_ ?_ ?_ <;> simp only [natCast_eq] <;> omega)))
  · have h4 : ¬ i < j := by have h4 : decide ((i : Int) < (j : Int)) = false := h4; have := of_decide_eq_false h4; omega
    rw [bsR, dif_neg h4] at h3
    refine .split (fun h5 => ?_) (fun h5 => ?_)
    · have h5 : i < l.length := by have h5 : decide ((i : Int) < (l.length : Int)) = true := h5; have := of_decide_eq_true h5; omega
      obtain ⟨x, hx⟩ := getI h5
      refine .need ⟨by simp, by rw [Node.rows_length]; exact Int.ofNat_lt.2 h5⟩ ?_
      refine .row _ _ (Node.rows_get hx) (Node.row_toSV _) ?_
      cbv
      refine .callD (hg x (List.mem_of_getElem? hx)) ?_ rfl rfl (fun _ => rfl) ?_ rfl
      · (cbv; refine .mk ?_; repeat' (first | exact AllP.nil | refine AllP.cons (by with_reducible rfl) ?_ | refine AllP.cons ?_ ?_))
        all_goals rfl
      cbv
      refine .need rfl ?_
      (refine .fin () 99 trivial (le_of ?_); cbv; refine .mk ?_; repeat' (first | exact AllP.nil | refine AllP.cons (by with_reducible rfl) ?_ | refine AllP.cons ?_ ?_))
      all_goals first | rfl | (show ((bsI Node.cmp d l : Nat) : Int) = _; rw [h3]; done) | skip
      show bsF Node.cmp d l = _
      rw [bsF, h3, hx]
      simp [h5]
    · have h5 : ¬ i < l.length := by have h5 : decide ((i : Int) < (l.length : Int)) = false := h5; have := of_decide_eq_false h5; omega
      refine .need rfl ?_
      (refine .fin () 99 trivial (le_of ?_); cbv; refine .mk ?_; repeat' (first | exact AllP.nil | refine AllP.cons (by with_reducible rfl) ?_ | refine AllP.cons ?_ ?_))
      all_goals first | rfl | (show ((bsI Node.cmp d l : Nat) : Int) = _; rw [h3]; done) | skip
      show bsF Node.cmp d l = _
      rw [bsF, h3]
      simp [h5]
/-- into its place, if it is not there -/
def insS {α : Type} (cmp : α → α → Int) (d : α) (l : List α) : List α := bif bsF cmp d l then l else insAt l (bsI cmp d l) d
theorem bsR_le {α : Type} (p : α → Bool) (l : List α) : ∀ (n i j : Nat), j - i ≤ n → i ≤ j → bsR p l i j ≤ j := by
  intro n
  induction n with
  | zero => intro i j h1 h2; rw [bsR, dif_neg (by omega)]; omega
  | succ n ih =>
    intro i j h1 h2
    rw [bsR]
    split
    · split
      · exact ih _ _ (by omega) (by omega)
      · exact Nat.le_trans (ih _ _ (by omega) (by omega)) (by omega)
    · omega
theorem bsI_le {α : Type} (cmp : α → α → Int) (d : α) (l : List α) : bsI cmp d l ≤ l.length := bsR_le _ l _ 0 l.length (Nat.le_refl _) (Nat.zero_le _)
theorem insS_len {α : Type} (cmp : α → α → Int) (d : α) (l : List α) : (insS cmp d l).length ≤ l.length + 1 := by
  unfold insS
  cases bsF cmp d l
  · simp [insAt]
    have := bsI_le cmp d l
    omega
  · simp
set_option maxRecDepth 100000 in
theorem insert_ok (l : List Decl) (d : Decl) (hl : l.length < 1073741824) (g : Nat) (hg : ∀ x ∈ l, Pure Tryz.prog g [.agg x.svs, .agg d.svs] (.int .i64 fun _ => x.cmp d)) :
    Eng.Spec Tryz.prog 54 [.os 0, .agg d.svs, .fno g []] [(0, .arr 42 2 fun _ => Decl.rows l)] 1 (fun _ : Unit => True) (fun _ => .os 1) (fun _ => [(1, .arr 42 2 fun _ => Decl.rows (insS Decl.cmp d l))]) := by
  refine spec_of' (P := fun _ => Tryz.prog) tabOk Tryz.func54 rfl rfl ?_
  cbv
  refine .lend (searchDecl_ok l d hl g hg) ?_ rfl rfl ?_
  · (cbv; refine .mk ?_; repeat' (first | exact AllP.nil | refine AllP.cons (by with_reducible rfl) ?_ | refine AllP.cons ?_ ?_))
    all_goals first | rfl | exact ⟨rfl, rfl⟩
  cbv
  have hv : insS Decl.cmp d l = bif bsF Decl.cmp d l then l else insAt l (bsI Decl.cmp d l) d := rfl
  have hb := bsI_le Decl.cmp d l
  refine .split (fun h => ?_) (fun h => ?_)
  · have h : bsF Decl.cmp d l = true := h
    (refine .fin () 99 trivial (le_of ?_); cbv; refine .mk ?_; repeat' (first | exact AllP.nil | refine AllP.cons (by with_reducible rfl) ?_ | refine AllP.cons ?_ ?_))
    all_goals try rfl
    show Decl.rows (insS Decl.cmp d l) = Decl.rows l
    rw [hv, h, cond_true]
  · have h : bsF Decl.cmp d l = false := h
    refine .callR [0, 2] 10 (insDecl_ok (Decl.rows l) d.dvs (bsI Decl.cmp d l) (by rw [Decl.rows_length]; exact hb) (by rw [Decl.rows_length]; exact hl)) rfl rfl rfl rfl rfl ?_ rfl rfl (fun _ => ⟨rfl, rfl⟩) fun _ _ => ?_
    · (cbv; refine .mk ?_; repeat' (first | exact AllP.nil | refine AllP.cons (by with_reducible rfl) ?_ | refine AllP.cons ?_ ?_))
      all_goals rfl
    cbv
    (refine .fin () 99 trivial (le_of ?_); cbv; refine .mk ?_; repeat' (first | exact AllP.nil | refine AllP.cons (by with_reducible rfl) ?_ | refine AllP.cons ?_ ?_))
    all_goals try rfl
    show Decl.rows (insS Decl.cmp d l) = insAt (Decl.rows l) (bsI Decl.cmp d l) d.dvs
    rw [hv, h, cond_false]
    simp [insAt, Decl.rows]
end Go.Qu
namespace Go.Qu
open Go.Eng Go.Proofs
def put2 (l : List Decl) (y : Node) : List Decl := if y.op == 1 then insS Decl.cmp ⟨y.name, y.sort⟩ l else l
def varsB (x : Node) : List Decl := x.pre.foldl put2 []
theorem put2_len (l : List Decl) (y : Node) : (put2 l y).length ≤ l.length + 1 := by
  unfold put2; split
  · exact insS_len _ _ _
  · omega
theorem put2s_len : ∀ (m : List Node) (l : List Decl), (m.foldl put2 l).length ≤ l.length + m.length
  | [], l => by simp
  | y :: m, l => by
    have h1 := put2s_len m (put2 l y)
    have h2 := put2_len l y
    simp only [List.foldl_cons, List.length_cons]
    omega
set_option maxRecDepth 100000 in
theorem vars2_ok (x : Node) (hsz : Sm x) : Pure Tryz.prog 28 [.agg x.svs] (.ds 2 fun _ => Decl.rows (varsB x)) := by
  have hpl := pre_length x
  refine pure_of (P := fun _ => Tryz.prog) tabOk Tryz.func28 rfl rfl ?_
  cbv
  refine .callN (walk_ok x) 4 ?_ rfl rfl (fun _ => ⟨rfl, rfl⟩) (fun _ _ => ?_)
  · (cbv; refine .mk ?_; repeat' (first | exact AllP.nil | refine AllP.cons (by with_reducible rfl) ?_ | refine AllP.cons ?_ ?_))
    all_goals rfl
  cbv
  refine .range [.dp 5 (fun _ => [x.dvs]) (fun _ => 0) 0] (Node.its x.pre) Nat (fun k => k ≤ x.pre.length) id (fun k => [(1, .cells 28 [.os 3]), (3, .arr 42 2 fun _ => Decl.rows ((x.pre.take k).foldl put2 []))]) 4 0 rfl (walk_it x (Sm.big hsz)) (Node.its_ok _) (Nat.zero_le _) rfl ?_ ?_ ?_
  · (refine le_of ?_; cbv; refine .mk ?_; repeat' (first | exact AllP.nil | refine AllP.cons (by with_reducible rfl) ?_ | refine AllP.cons ?_ ?_))
    all_goals first | rfl | exact ⟨rfl, rfl⟩
  · rintro k hk1 item hit
    obtain ⟨y, hy, rfl⟩ := Node.its_get hit
    have hy : x.pre[k]? = some y := hy
    have hlt : k < x.pre.length := (List.getElem?_eq_some_iff.1 hy).1
    have hys : Sm y := Sm.pre hsz (List.mem_of_getElem? hy)
    cbv
    have hS := fold_take_succ put2 [] hy
    have hln := put2s_len (x.pre.take k) []
    rw [List.length_take, List.length_nil] at hln
    have hx2 : x.size < 1073741824 := hsz
    refine .split (fun h => ?_) (fun h => ?_)
    · have h : (y.op == 1) = true := h
      rw [put2, if_pos h] at hS
      refine .callR [3] 12 (insert_ok ((x.pre.take k).foldl put2 []) ⟨y.name, y.sort⟩ (by omega) 55 (fun z _ => cmpDecl_ok z _)) rfl rfl rfl rfl rfl ?_ rfl rfl (fun _ => ⟨rfl, rfl⟩) fun _ _ => ?_
      · (cbv; refine .mk ?_; repeat' (first | exact AllP.nil | refine AllP.cons (by with_reducible rfl) ?_ | refine AllP.cons ?_ ?_))
        all_goals first | rfl | exact ⟨rfl, rfl⟩
      cbv
      refine .prop ⟨k + 1, hlt, rfl, ?_⟩
      (refine le_of ?_; cbv; refine .mk ?_; repeat' (first | exact AllP.nil | refine AllP.cons (by with_reducible rfl) ?_ | refine AllP.cons ?_ ?_))
      all_goals first | (first | rfl | exact ⟨rfl, rfl⟩ | (refine wrap64_of ?_ ?_ ?_ <;> simp only [natCast_eq] <;> omega)) | (rw [hS]; done)
    · have h : (y.op == 1) = false := h
      rw [put2, if_neg (by simp [h])] at hS
      refine .prop ⟨k + 1, hlt, rfl, ?_⟩
      (refine le_of ?_; cbv; refine .mk ?_; repeat' (first | exact AllP.nil | refine AllP.cons (by with_reducible rfl) ?_ | refine AllP.cons ?_ ?_))
      all_goals first | (first | rfl | exact ⟨rfl, rfl⟩ | (refine wrap64_of ?_ ?_ ?_ <;> simp only [natCast_eq] <;> omega)) | (rw [hS]; done)
  · rintro k hk1 hk
    have hk : k = x.pre.length := by simpa [Node.its_length] using hk
    cbv
    (refine .fin () 99 trivial (le_of ?_); cbv; refine .mk ?_; repeat' (first | exact AllP.nil | refine AllP.cons (by with_reducible rfl) ?_ | refine AllP.cons ?_ ?_))
    all_goals try rfl
    show Decl.rows (varsB x) = Decl.rows ((x.pre.take k).foldl put2 [])
    rw [hk, List.take_length]
    rfl
theorem Node.rows_append (l m : List Node) : Node.rows (l ++ m) = Node.rows l ++ Node.rows m := by simp [Node.rows_eq]
theorem Node.rows_one (x : Node) : Node.rows [x] = [x.row] := rfl
set_option maxRecDepth 100000 in
theorem put_ok (l : List Node) (d : Node) (hl : l.length < 1073741824) (hd : Sm d) (hsl : ∀ x ∈ l, Sm x) : Pure Tryz.prog 39 [.ds 5 fun _ => Node.rows l, .agg d.svs] (.ds 5 fun _ => Node.rows (putAll Node.cmp d l)) := by
  refine pure_of (P := fun _ => Tryz.prog) tabOk Tryz.func39 rfl rfl ?_
  cbv
  refine .loop Nat (fun k => k ≤ l.length) (fun k => [(5, .os 1), (6, .bs fun _ => ((l.take k).foldl (putStep Node.cmp d) ([], false)).2), (10, .ds 5 fun _ => Node.rows l), (11, .int .i64 fun _ => (l.length : Int)), (12, .int .i64 fun _ => (k : Int))]) (fun k => [(0, .cells 31 d.svs), (1, .arr 31 5 fun _ => Node.rows ((l.take k).foldl (putStep Node.cmp d) ([], false)).1)]) 2 (fun k => l.length - k) 0 (Nat.zero_le _) ?_ ?_
  · (refine le_of ?_; cbv; refine .mk ?_; repeat' (first | exact AllP.nil | refine AllP.cons (by with_reducible rfl) ?_ | refine AllP.cons ?_ ?_))
    all_goals first | rfl | (simp [lenL, Node.rows_length]; done)
  rintro k hk
  cbv
  refine .split (fun h1 => ?_) (fun h1 => ?_)
  · have hkl : k < l.length := ltT h1
    obtain ⟨y, hy⟩ := getI hkl
    refine .need ⟨by simp, by simpa [Node.rows_length] using hkl⟩ ?_
    refine .row _ _ (Node.rows_get hy) (Node.row_toSV _) ?_
    cbv
    have hS := fold_take_succ (putStep Node.cmp d) ([], false) hy
    have hln := putStep_len Node.cmp d (l.take k) ([], false)
    rw [List.length_take, List.length_nil] at hln
    generalize hs : List.foldl (putStep Node.cmp d) ([], false) (List.take k l) = s at *
    refine .call (cmp1_ok d y hd (hsl y (List.mem_of_getElem? hy))) ?_ rfl rfl ?_
    · (cbv; refine .mk ?_; repeat' (first | exact AllP.nil | refine AllP.cons (by with_reducible rfl) ?_ | refine AllP.cons ?_ ?_))
      all_goals rfl
    cbv
    have hE : putStep Node.cmp d s y = ((if !(d.cmp y == 0 || s.2) && decide (d.cmp y < 0) then s.1 ++ [d] else s.1) ++ [y], (d.cmp y == 0 || s.2) || decide (d.cmp y < 0)) := by
      rw [putStep, Bool.or_comm s.2]
    have hE2 : (!(d.cmp y == 0 || s.2) && decide (d.cmp y < 0)) = false → ((d.cmp y == 0 || s.2) || decide (d.cmp y < 0)) = (d.cmp y == 0 || s.2) := by
      cases (d.cmp y == 0 || s.2) <;> cases decide (d.cmp y < 0) <;> simp
    rw [hE] at hS
    refine .split (fun h2 => ?_) (fun h2 => ?_)
    · have h2 : (!(d.cmp y == 0 || s.2) && decide (d.cmp y < 0)) = true := h2
      have h3 := (Bool.and_eq_true_iff.1 h2).2
      refine .need (by simp [Node.rows_length]; omega) ?_
      refine .need (by simp [Node.rows_length]; omega) ?_
      refine .prop ⟨k + 1, hkl, by omega, ?_⟩
      rw [hS, if_pos h2, h3, Bool.or_true]
      (refine le_of ?_; cbv; refine .mk ?_; repeat' (first | exact AllP.nil | refine AllP.cons (by with_reducible rfl) ?_ | refine AllP.cons ?_ ?_))
      all_goals first | (first | rfl | exact ⟨rfl, rfl⟩ | (refine wrap64_of ?_ ?_ ?_ <;> simp only [natCast_eq] <;> omega)) | (simp only [Node.rows_append, Node.rows_one, Node.row_dvs]; rfl)
    · have h2 : (!(d.cmp y == 0 || s.2) && decide (d.cmp y < 0)) = false := h2
      refine .need (by simp [Node.rows_length]; omega) ?_
      refine .prop ⟨k + 1, hkl, by omega, ?_⟩
      rw [hS, hE2 h2, if_neg (by rw [h2]; decide)]
      (refine le_of ?_; cbv; refine .mk ?_; repeat' (first | exact AllP.nil | refine AllP.cons (by with_reducible rfl) ?_ | refine AllP.cons ?_ ?_))
      all_goals first | (first | rfl | exact ⟨rfl, rfl⟩ | (refine wrap64_of ?_ ?_ ?_ <;> simp only [natCast_eq] <;> omega)) | (simp only [Node.rows_append, Node.rows_one, Node.row_dvs]; rfl)
  · have hkl : k = l.length := Nat.le_antisymm hk (geF h1)
    subst hkl
    have hln := putStep_len Node.cmp d l ([], false)
    rw [List.length_nil] at hln
    have hA : putAll Node.cmp d l = bif (l.foldl (putStep Node.cmp d) ([], false)).2 then (l.foldl (putStep Node.cmp d) ([], false)).1 else (l.foldl (putStep Node.cmp d) ([], false)).1 ++ [d] := rfl
    rw [List.take_length]
    generalize List.foldl (putStep Node.cmp d) ([], false) l = s at *
    refine .split (fun h2 => ?_) (fun h2 => ?_)
    · have h2 : (!s.2) = true := h2
      refine .need (by simp [Node.rows_length]; omega) ?_
      (refine .fin () 99 trivial (le_of ?_); cbv; refine .mk ?_; repeat' (first | exact AllP.nil | refine AllP.cons (by with_reducible rfl) ?_ | refine AllP.cons ?_ ?_))
      all_goals try rfl
      show Node.rows (putAll Node.cmp d l) = _
      rw [hA]
      simp at h2
      rw [h2, cond_false, Node.rows_append, Node.rows_one, Node.row_dvs]
      rfl
    · have h2 : (!s.2) = false := h2
      (refine .fin () 99 trivial (le_of ?_); cbv; refine .mk ?_; repeat' (first | exact AllP.nil | refine AllP.cons (by with_reducible rfl) ?_ | refine AllP.cons ?_ ?_))
      all_goals try rfl
      show Node.rows (putAll Node.cmp d l) = _
      rw [hA]
      simp at h2
      simp [h2]
end Go.Qu
