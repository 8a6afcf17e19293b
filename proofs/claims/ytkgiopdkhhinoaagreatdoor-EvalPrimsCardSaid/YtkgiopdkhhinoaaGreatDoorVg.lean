/- Vectors as values: well formed, copied, equal. eval.vector, eval.operate at vectors; laid by mkc.py. -/
import Derived.Test.YtkgiopdkhhinoaaGreatDoorVd
import Derived.Test.YtkgiopdkhhinoaaGreatDoorXc
set_option linter.all false
namespace Go.Qu
open Go.Eng Go.Proofs
set_option maxRecDepth 100000 in
theorem wellc_ok (n : Int) (hn : inM n) : Pure Tryz.prog 23 [(num0 n).sv, .dp 4 (fun _ => [[.raw nilV, .raw nilV, .raw nilV, .raw nilV]]) (fun _ => 0) 0] (.bs fun _ => false) := by
  have hw := well1 n hn; refine pure_of (P := fun _ => Tryz.prog) tabOk Tryz.func23 rfl rfl ?_
  cbv
  (repeat' (first | refine .nd ?_ | refine .nq ?_ | (refine .rv rfl ?_; cbv) | (refine .rr rfl ?_; cbv) | refine .sT ?_ | refine .sF ?_ | refine .fk ?_ | refine .split (fun h => ?_) (fun h => ?_)))
  refine .cl hw ?_; cbv; exact .fn
set_option maxRecDepth 100000 in
theorem indexv_ok (l : List Int) (hl : l.length <= 1000) (hm : ∀ x ∈ l, inM x) : Pure Tryz.prog 37 [.ds 4 fun _ => kidsD l, .fno 23 [.dp 4 (fun _ => [[.raw nilV, .raw nilV, .raw nilV, .raw nilV]]) (fun _ => 0) 0]] (.int .i64 fun _ => -1) := by
  refine pure_of (P := fun _ => Tryz.prog) tabOk Tryz.func37 rfl rfl ?_
  cbv; refine .loop Nat (fun k => k <= l.length) (fun k => [(8, .int .i64 fun _ => (k : Int))]) (fun _ => []) 0 (fun k => l.length - k) 0 (Nat.zero_le _) ?_ ?_
  . (refine le_of ?_; cbv; refine .mk ?_; repeat' (first | exact AllP.nil | refine AllP.cons ?_ ?_))
    all_goals first | rfl | exact ⟨rfl, rfl⟩
  rintro k hk; cbv; refine .split (fun h1 => ?_) (fun h1 => ?_)
  . have h1 : decide ((k : Int) < ((kidsD l).length : Int)) = true := h1; have hkl := ltT h1; rw [kids_length] at hkl; refine Exists.elim (getI hkl) fun x hx => ?_
    have hc := wellc_ok x (hm x (List.mem_of_getElem? hx)); refine .need ⟨by simp, Int.ofNat_lt.2 (by rw [kids_length]; exact hkl)⟩ ?_
    refine .row _ _ (kids_get hx) rfl ?_; cbv; refine .cl hc ?_; cbv
    (repeat' (first | refine .nd ?_ | refine .nq ?_ | (refine .rv rfl ?_; cbv) | (refine .rr rfl ?_; cbv) | refine .sT ?_ | refine .sF ?_ | refine .fk ?_ | refine .split (fun h => ?_) (fun h => ?_)))
    refine .prop ⟨k + 1, hkl, by omega, le_of ?_⟩
    cbv; refine .mk ?_; repeat' (first | exact AllP.nil | refine AllP.cons (by with_reducible rfl) ?_ | refine AllP.cons ?_ ?_)
    all_goals first | rfl | exact ⟨rfl, rfl⟩ | (refine wrap64_of ?_ ?_ ?_ <;> simp only [natCast_eq] <;> omega)
  . exact .fn
set_option maxRecDepth 100000 in
theorem containsv_ok (l : List Int) (hl : l.length <= 1000) (hm : ∀ x ∈ l, inM x) : Pure Tryz.prog 22 [.ds 4 fun _ => kidsD l, .fno 23 [.dp 4 (fun _ => [[.raw nilV, .raw nilV, .raw nilV, .raw nilV]]) (fun _ => 0) 0]] (.bs fun _ => false) := by
  have hi := indexv_ok l hl hm; refine pure_of (P := fun _ => Tryz.prog) tabOk Tryz.func22 rfl rfl ?_
  cbv; refine .call hi ?_ rfl rfl ?_
  . (cbv; refine .mk ?_; repeat' (first | exact AllP.nil | refine AllP.cons ?_ ?_))
    all_goals first | rfl | exact ⟨rfl, rfl⟩
  cbv; exact .fn
set_option maxRecDepth 100000 in
theorem wellv_ok (l : List Int) (hl : l.length <= 1000) (hm : ∀ x ∈ l, inM x) : Pure Tryz.prog 17 [P0, .agg (vecV l)] (.bs fun _ => true) := by
  have hc := containsv_ok l hl hm; have hlen : decide (((kidsD l).length : Int) <= 1000) = true := by rw [kids_length]; exact decide_eq_true (by omega)
  refine pure_of (P := fun _ => Tryz.prog) tabOk Tryz.func17 rfl rfl ?_
  cbv
  (repeat' (first | refine .nd ?_ | refine .nq ?_ | (refine .rv rfl ?_; cbv) | (refine .rr rfl ?_; cbv) | refine .sT ?_ | refine .sF ?_ | refine .fk ?_))
  refine .split (fun _ => ?_) (fun h => absurd (hlen.symm.trans h) Bool.noConfusion)
  refine .call hc ?_ rfl rfl ?_
  . (cbv; refine .mk ?_; repeat' (first | exact AllP.nil | refine AllP.cons ?_ ?_))
    all_goals first | rfl | exact ⟨rfl, rfl⟩
  cbv; exact .fn
set_option maxRecDepth 100000 in
theorem clonev_ok (l : List Int) (hl : l.length <= 1000) : Eng.Spec Tryz.prog 32 [.ds 4 fun _ => kidsD l] [] 0 (fun _ : Unit => True) (fun _ => .os 0) (fun _ => [(0, .arr 27 4 fun _ => kidsD l)]) := by
  refine made_of (P := fun _ => Tryz.prog) tabOk Tryz.func32 rfl rfl ?_
  cbv; refine .fork (fun h => ?_) ?_
  . (refine .fin () 99 trivial (le_of ?_); cbv; refine .mk ?_; repeat' (first | exact AllP.nil | refine AllP.cons ?_ ?_))
    all_goals first | rfl | exact h
  . refine .need (by simp only [List.length_nil, kids_length]; omega) ?_
    exact .fn
theorem setRow_kids {l : List Int} {k : Nat} {y : Int} (h : l[k]? = some y) : setRow (kidsD l) k 0 (num0 y).dv = kidsD l := by
  have hk : k < l.length := (List.getElem?_eq_some_iff.1 h).1; unfold setRow; rw [kids_get h]; have : splice ((some (num0 y).dv).getD []) 0 (num0 y).dv = (num0 y).dv := rfl; rw [this]; apply List.ext_getElem?; intro n; by_cases hn : n = k
  . subst hn; rw [kids_get h]; simp [kids_length, hk]
  . rw [List.getElem?_set_ne (fun e => hn e.symm)]
set_option maxRecDepth 100000 in
theorem copiedv_ok (l : List Int) (hl : l.length <= 1000) : Pure Tryz.prog 19 [.agg (vecV l)] (.agg (vecV l)) := by
  refine pure_of (P := fun _ => Tryz.prog) tabOk Tryz.func19 rfl rfl ?_
  cbv; refine .callN (clonev_ok l hl) 5 ?_ rfl rfl (fun _ => ⟨rfl, rfl⟩) (fun _ _ => ?_)
  . (cbv; refine .mk ?_; repeat' (first | exact AllP.nil | refine AllP.cons ?_ ?_))
    all_goals rfl
  cbv; refine .loop Nat (fun k => k <= l.length) (fun k => [(10, .os 2), (11, .int .i64 fun _ => (l.length : Int)), (12, .int .i64 fun _ => (k : Int))]) (fun _ => [(0, .cells 27 [.int .i64 fun _ => 4, .str fun _ => ⟨#[]⟩, .int .i64 fun _ => 0, .os 2]), (1, .cells 27 [.int .i64 fun _ => 0, .str fun _ => ⟨#[]⟩, .int .i64 fun _ => 0, .nils]), (2, .arr 27 4 fun _ => kidsD l)]) 6 (fun k => l.length - k) 0 (Nat.zero_le _) ?_ ?_
  . (refine le_of ?_; cbv; refine .mk ?_; repeat' (first | exact AllP.nil | refine AllP.cons ?_ ?_))
    all_goals first | rfl | (simp [lenL, kids_length]; done)
  rintro k hk; cbv; refine .split (fun h1 => ?_) (fun h1 => ?_)
  . have hkl : k < l.length := ltT h1; refine Exists.elim (getI hkl) fun y hy => ?_
    have hcp := copied_sc (num0 y); refine .need ⟨by simp, by show (k : Int) < ((kidsD l).length : Int); rw [kids_length]; exact Int.ofNat_lt.2 hkl⟩ ?_
    refine .row _ _ (kids_get hy) rfl ?_; cbv; refine .callD hcp ?_ rfl rfl (fun h => nomatch h) ?_ rfl
    . (cbv; refine .mk ?_; repeat' (first | exact AllP.nil | refine AllP.cons ?_ ?_))
      all_goals rfl
    cbv; refine .need ⟨by simp, by show (k : Int) < ((kidsD l).length : Int); rw [kids_length]; exact Int.ofNat_lt.2 hkl⟩ ?_
    refine .need rfl ?_; refine .prop ⟨k + 1, hkl, by omega, ?_⟩
    (refine le_of ?_; cbv; refine .mk ?_; repeat' (first | exact AllP.nil | refine AllP.cons ?_ ?_))
    all_goals first | rfl | (refine wrap64_of ?_ ?_ ?_ <;> simp only [natCast_eq] <;> omega) | exact setRow_kids hy | exact (setRow_kids hy).symm
  . have hkl : k = l.length := Nat.le_antisymm hk (geF h1); subst hkl; exact .fn
set_option maxRecDepth 100000 in
theorem same_vec (l : List Int) (hl : l.length <= 1000) : Pure Tryz.prog 9 [.agg (vecV l), .agg (vecV l)] (.bs fun _ => true) := by
  have he : ((4 : Int) != 4 || (!decide ((⟨#[]⟩ : ByteArray) = ⟨#[]⟩) || ((0 : Int) != 0 || (((kidsD l).length : Int) != ((kidsD l).length : Int))))) = false := by
    rw [decide_eq_true rfl]; simp
  refine pure_of (P := fun _ => Tryz.prog) tabOk Tryz.func9 rfl rfl ?_
  cbv; refine .split (fun h => absurd (he.symm.trans h) Bool.noConfusion) (fun _ => ?_)
  refine .loop Nat (fun k => k <= l.length) (fun k => [(35, .ds 4 fun _ => kidsD l), (36, .int .i64 fun _ => (l.length : Int)), (37, .int .i64 fun _ => (k : Int))]) (fun _ => [(0, .cells 27 (vecV l)), (1, .cells 27 (vecV l))]) 2 (fun k => l.length - k) 0 (Nat.zero_le _) ?_ ?_
  . (refine le_of ?_; cbv; refine .mk ?_; repeat' (first | exact AllP.nil | refine AllP.cons ?_ ?_))
    all_goals first | rfl | (simp [lenL, kids_length]; done)
  rintro k hk; cbv; refine .split (fun h1 => ?_) (fun h1 => ?_)
  . have hkl : k < l.length := ltT h1; refine Exists.elim (getI hkl) fun y hy => ?_
    have hcp := same_sc (num0 y) (num0 y); have e2 : ((num0 y).k == (num0 y).k && (num0 y).n == (num0 y).n) = true := by simp
    rw [e2] at hcp; have hn : 0 <= (k : Int) /\ (k : Int) < ((kidsD l).length : Int) := ⟨by simp, by rw [kids_length]; exact Int.ofNat_lt.2 hkl⟩
    refine .need hn ?_; refine .row _ _ (kids_get hy) rfl ?_; cbv; refine .need hn ?_; refine .row _ _ (kids_get hy) rfl ?_; cbv; refine .callD hcp ?_ rfl rfl (fun h => nomatch h) ?_ rfl
    . (cbv; refine .mk ?_; repeat' (first | exact AllP.nil | refine AllP.cons ?_ ?_))
      all_goals rfl
    cbv
    (repeat' (first | refine .nd ?_ | refine .nq ?_ | (refine .rv rfl ?_; cbv) | (refine .rr rfl ?_; cbv) | refine .sT ?_ | refine .sF ?_ | refine .fk ?_))
    refine .prop ⟨k + 1, hkl, by omega, ?_⟩
    (refine le_of ?_; cbv; refine .mk ?_; repeat' (first | exact AllP.nil | refine AllP.cons ?_ ?_))
    all_goals first | rfl | (refine wrap64_of ?_ ?_ ?_ <;> simp only [natCast_eq] <;> omega)
  . exact .fn
end Go.Qu
namespace Go.Qu
open Go.Eng Go.Proofs
theorem setRow_set {l : List Int} {k : Nat} {x c : Int} (h : l[k]? = some x) : setRow (kidsD l) k 0 (num0 c).dv = kidsD (l.set k c) := by
  unfold setRow; rw [kids_get h]; have : splice ((some (num0 x).dv).getD []) 0 (num0 c).dv = (num0 c).dv := rfl; rw [this, kidsD, kidsD, List.map_set]
set_option maxHeartbeats 2000000 in
set_option maxRecDepth 100000 in
theorem vector15 (l : List Int) (hl : l.length <= 1000) : Pure Tryz.prog 31 [.raw (.string ⟨#[118, 108, 101, 110]⟩), .ds 4 fun _ => [vecD l]] (vk (num0 (l.length : Int), 0)) := by
  have hx := enumber_ok (l.length : Int); have hg : greatB (l.length : Int) = false := by simp only [greatB, Bool.or_eq_false_iff, decide_eq_false_iff_not]; omega
  have he : exactV (l.length : Int) = (num0 (l.length : Int), 0) := by rw [exactV, hg]; rfl
  rw [he] at hx; refine pure_of (P := fun _ => Tryz.prog) tabOk Tryz.func31 rfl rfl ?_
  cbv
  (repeat' (first | refine .nd ?_ | refine .nq ?_ | (refine .rv rfl ?_; cbv) | (refine .rr rfl ?_; cbv) | refine .sT ?_ | refine .sF ?_ | refine .fk ?_))
  refine .call hx ?_ rfl rfl ?_
  . (cbv; refine .mk ?_; repeat' (first | exact AllP.nil | refine AllP.cons ?_ ?_))
    all_goals exact (kids_len l).symm
  cbv; exact .fn
set_option maxHeartbeats 2000000 in
set_option maxRecDepth 100000 in
theorem oprim15 (l : List Int) (hl : l.length <= 1000) : Pure Tryz.prog 18 [.raw (.string ⟨#[118, 108, 101, 110]⟩), .ds 4 fun _ => [vecD l]] (vk (num0 (l.length : Int), 0)) := by
  have hv := vector15 l hl; refine pure_of (P := fun _ => Tryz.prog) tabOk Tryz.func18 rfl rfl ?_
  cbv
  (repeat' (first | refine .nd ?_ | refine .nq ?_ | (refine .rv rfl ?_; cbv) | (refine .rr rfl ?_; cbv) | refine .sT ?_ | refine .sF ?_ | refine .fk ?_))
  refine .cl hv ?_; cbv; exact .fn
set_option maxHeartbeats 2000000 in
set_option maxRecDepth 100000 in
theorem vector16e (l : List Int) (b : Int) (hb : ¬ (0 <= b /\ b < (l.length : Int))) : Pure Tryz.prog 31 [.raw (.string ⟨#[103, 101, 116]⟩), .ds 4 fun _ => [vecD l, (num0 b).dv]] (vk (zero0, 3)) := by
  refine pure_of (P := fun _ => Tryz.prog) tabOk Tryz.func31 rfl rfl ?_
  cbv
  (repeat' (first | refine .nd ?_ | refine .nq ?_ | (refine .rv rfl ?_; cbv) | (refine .rr rfl ?_; cbv) | refine .sT ?_ | refine .sF ?_ | refine .fk ?_))
  refine .split (fun h => ?_) (fun h1 => ?_)
  . exact .fn
  have h1 : decide (b < 0) = false := h1
  (repeat' (first | refine .nd ?_ | refine .nq ?_ | (refine .rv rfl ?_; cbv) | (refine .rr rfl ?_; cbv) | refine .sT ?_ | refine .sF ?_ | refine .fk ?_))
  refine .split (fun h => ?_) (fun h2 => ?_)
  . exact .fn
  have h2 : decide (b >= ((kidsD l).length : Int)) = false := h2; rw [kids_len] at h2; exact absurd ⟨Int.not_lt.1 (of_decide_eq_false h1), Int.not_le.1 (of_decide_eq_false h2)⟩ hb
set_option maxHeartbeats 2000000 in
set_option maxRecDepth 100000 in
theorem oprim16e (l : List Int) (b : Int) (hb : ¬ (0 <= b /\ b < (l.length : Int))) : Pure Tryz.prog 18 [.raw (.string ⟨#[103, 101, 116]⟩), .ds 4 fun _ => [vecD l, (num0 b).dv]] (vk (zero0, 3)) := by
  have hv := vector16e l b hb; refine pure_of (P := fun _ => Tryz.prog) tabOk Tryz.func18 rfl rfl ?_
  cbv
  (repeat' (first | refine .nd ?_ | refine .nq ?_ | (refine .rv rfl ?_; cbv) | (refine .rr rfl ?_; cbv) | refine .sT ?_ | refine .sF ?_ | refine .fk ?_))
  refine .cl hv ?_; cbv; exact .fn
set_option maxHeartbeats 2000000 in
set_option maxRecDepth 100000 in
theorem vector16v (l : List Int) (b x : Int) (h0 : 0 <= b) (hb : b < (l.length : Int)) (hx : l[b.toNat]? = some x) : Pure Tryz.prog 31 [.raw (.string ⟨#[103, 101, 116]⟩), .ds 4 fun _ => [vecD l, (num0 b).dv]] (vk (num0 x, 0)) := by
  refine pure_of (P := fun _ => Tryz.prog) tabOk Tryz.func31 rfl rfl ?_
  cbv
  (repeat' (first | refine .nd ?_ | refine .nq ?_ | (refine .rv rfl ?_; cbv) | (refine .rr rfl ?_; cbv) | refine .sT ?_ | refine .sF ?_ | refine .fk ?_))
  refine .split (fun h => absurd (of_decide_eq_true (show decide (b < 0) = true from h)) (Int.not_lt.2 h0)) (fun h1 => ?_)
  (repeat' (first | refine .nd ?_ | refine .nq ?_ | (refine .rv rfl ?_; cbv) | (refine .rr rfl ?_; cbv) | refine .sT ?_ | refine .sF ?_ | refine .fk ?_))
  refine .split (fun h => absurd (of_decide_eq_true (show decide (b >= ((kidsD l).length : Int)) = true from h)) (by rw [kids_len]; exact Int.not_le.2 hb)) (fun h2 => ?_)
  (repeat' (first | refine .nd ?_ | refine .nq ?_ | (refine .rv rfl ?_; cbv) | (refine .rr rfl ?_; cbv) | refine .sT ?_ | refine .sF ?_ | refine .fk ?_))
  refine .need ⟨h0, Int.lt_of_lt_of_le hb (Int.le_of_eq (kids_len l).symm)⟩ ?_; refine .row _ _ (kids_get hx) rfl ?_; cbv; exact .fn
set_option maxHeartbeats 2000000 in
set_option maxRecDepth 100000 in
theorem oprim16v (l : List Int) (b x : Int) (h0 : 0 <= b) (hb : b < (l.length : Int)) (hx : l[b.toNat]? = some x) : Pure Tryz.prog 18 [.raw (.string ⟨#[103, 101, 116]⟩), .ds 4 fun _ => [vecD l, (num0 b).dv]] (vk (num0 x, 0)) := by
  have hv := vector16v l b x h0 hb hx; refine pure_of (P := fun _ => Tryz.prog) tabOk Tryz.func18 rfl rfl ?_
  cbv
  (repeat' (first | refine .nd ?_ | refine .nq ?_ | (refine .rv rfl ?_; cbv) | (refine .rr rfl ?_; cbv) | refine .sT ?_ | refine .sF ?_ | refine .fk ?_))
  refine .cl hv ?_; cbv; exact .fn
set_option maxHeartbeats 2000000 in
set_option maxRecDepth 100000 in
theorem vector17e (l : List Int) (b c : Int) (hb : ¬ (0 <= b /\ b < (l.length : Int))) : Pure Tryz.prog 31 [.raw (.string ⟨#[112, 117, 116]⟩), .ds 4 fun _ => [vecD l, (num0 b).dv, (num0 c).dv]] (vk (zero0, 3)) := by
  refine pure_of (P := fun _ => Tryz.prog) tabOk Tryz.func31 rfl rfl ?_
  cbv
  (repeat' (first | refine .nd ?_ | refine .nq ?_ | (refine .rv rfl ?_; cbv) | (refine .rr rfl ?_; cbv) | refine .sT ?_ | refine .sF ?_ | refine .fk ?_))
  refine .split (fun h => ?_) (fun h1 => ?_)
  . exact .fn
  have h1 : decide (b < 0) = false := h1
  (repeat' (first | refine .nd ?_ | refine .nq ?_ | (refine .rv rfl ?_; cbv) | (refine .rr rfl ?_; cbv) | refine .sT ?_ | refine .sF ?_ | refine .fk ?_))
  refine .split (fun h => ?_) (fun h2 => ?_)
  . exact .fn
  have h2 : decide (b >= ((kidsD l).length : Int)) = false := h2; rw [kids_len] at h2; exact absurd ⟨Int.not_lt.1 (of_decide_eq_false h1), Int.not_le.1 (of_decide_eq_false h2)⟩ hb
set_option maxHeartbeats 2000000 in
set_option maxRecDepth 100000 in
theorem oprim17e (l : List Int) (b c : Int) (hb : ¬ (0 <= b /\ b < (l.length : Int))) : Pure Tryz.prog 18 [.raw (.string ⟨#[112, 117, 116]⟩), .ds 4 fun _ => [vecD l, (num0 b).dv, (num0 c).dv]] (vk (zero0, 3)) := by
  have hv := vector17e l b c hb; refine pure_of (P := fun _ => Tryz.prog) tabOk Tryz.func18 rfl rfl ?_
  cbv
  (repeat' (first | refine .nd ?_ | refine .nq ?_ | (refine .rv rfl ?_; cbv) | (refine .rr rfl ?_; cbv) | refine .sT ?_ | refine .sF ?_ | refine .fk ?_))
  refine .cl hv ?_; cbv; exact .fn
set_option maxHeartbeats 2000000 in
set_option maxRecDepth 100000 in
theorem vector17v (l : List Int) (hl : l.length <= 1000) (b c x : Int) (h0 : 0 <= b) (hb : b < (l.length : Int)) (hx : l[b.toNat]? = some x) : Eng.Spec Tryz.prog 31 [.raw (.string ⟨#[112, 117, 116]⟩), .os 0] [(0, .arr 27 4 fun _ => [vecD l, (num0 b).dv, (num0 c).dv])] 1 (fun _ : Unit => True) (fun _ => .tup [.agg (vecV (l.set b.toNat c)), .int .i64 fun _ => 0]) (fun _ => [(0, .arr 27 4 fun _ => [vecD l, (num0 b).dv, (num0 c).dv])]) := by
  have hz := setRow_set (c := c) hx; generalize l.set b.toNat c = z at *; refine spec_of' (P := fun _ => Tryz.prog) tabOk Tryz.func31 rfl rfl ?_
  cbv
  (repeat' (first | refine .nd ?_ | refine .nq ?_ | (refine .rv rfl ?_; cbv) | (refine .rr rfl ?_; cbv) | refine .sT ?_ | refine .sF ?_ | refine .fk ?_))
  refine .split (fun h => absurd (of_decide_eq_true (show decide (b < 0) = true from h)) (Int.not_lt.2 h0)) (fun h1 => ?_)
  (repeat' (first | refine .nd ?_ | refine .nq ?_ | (refine .rv rfl ?_; cbv) | (refine .rr rfl ?_; cbv) | refine .sT ?_ | refine .sF ?_ | refine .fk ?_))
  refine .split (fun h => absurd (of_decide_eq_true (show decide (b >= ((kidsD l).length : Int)) = true from h)) (by rw [kids_len]; exact Int.not_le.2 hb)) (fun h2 => ?_)
  (repeat' (first | refine .nd ?_ | refine .nq ?_ | (refine .rv rfl ?_; cbv) | (refine .rr rfl ?_; cbv) | refine .sT ?_ | refine .sF ?_ | refine .fk ?_))
  refine .callN (clonev_ok l hl) 9 ?_ rfl rfl (fun _ => ⟨rfl, rfl⟩) (fun _ _ => ?_)
  . (cbv; refine .mk ?_; repeat' (first | exact AllP.nil | refine AllP.cons ?_ ?_))
    all_goals rfl
  cbv
  (repeat' (first | refine .nd ?_ | refine .nq ?_ | (refine .rv rfl ?_; cbv) | (refine .rr rfl ?_; cbv) | refine .sT ?_ | refine .sF ?_ | refine .fk ?_))
  refine .need ⟨h0, Int.lt_of_lt_of_le hb (Int.le_of_eq (kids_len l).symm)⟩ ?_
  (repeat' (first | refine .nd ?_ | refine .nq ?_ | (refine .rv rfl ?_; cbv) | (refine .rr rfl ?_; cbv) | refine .sT ?_ | refine .sF ?_ | refine .fk ?_))
  (refine .fin () 99 trivial (le_of ?_); cbv; refine .mk ?_; repeat' (first | exact AllP.nil | refine AllP.cons ?_ ?_))
  all_goals first | rfl | exact hz.symm | exact hz
set_option maxHeartbeats 2000000 in
set_option maxRecDepth 100000 in
theorem oprim17v (l : List Int) (hl : l.length <= 1000) (b c x : Int) (h0 : 0 <= b) (hb : b < (l.length : Int)) (hx : l[b.toNat]? = some x) : Eng.Spec Tryz.prog 18 [.raw (.string ⟨#[112, 117, 116]⟩), .os 0] [(0, .arr 27 4 fun _ => [vecD l, (num0 b).dv, (num0 c).dv])] 1 (fun _ : Unit => True) (fun _ => .tup [.agg (vecV (l.set b.toNat c)), .int .i64 fun _ => 0]) (fun _ => [(0, .arr 27 4 fun _ => [vecD l, (num0 b).dv, (num0 c).dv])]) := by
  have hv := vector17v l hl b c x h0 hb hx; generalize l.set b.toNat c = z at *; refine spec_of' (P := fun _ => Tryz.prog) tabOk Tryz.func18 rfl rfl ?_
  cbv
  (repeat' (first | refine .nd ?_ | refine .nq ?_ | (refine .rv rfl ?_; cbv) | (refine .rr rfl ?_; cbv) | refine .sT ?_ | refine .sF ?_ | refine .fk ?_))
  refine .cs [0] 99 hv ?_; cbv; exact .fn
set_option maxHeartbeats 2000000 in
set_option maxRecDepth 100000 in
theorem vector18n (a b : Int) (ha : a < 0) : Pure Tryz.prog 31 [.raw (.string ⟨#[109, 97, 107, 101]⟩), .ds 4 fun _ => [(num0 a).dv, (num0 b).dv]] (vk (zero0, 3)) := by
  refine pure_of (P := fun _ => Tryz.prog) tabOk Tryz.func31 rfl rfl ?_
  cbv
  (repeat' (first | refine .nd ?_ | refine .nq ?_ | (refine .rv rfl ?_; cbv) | (refine .rr rfl ?_; cbv) | refine .sT ?_ | refine .sF ?_ | refine .fk ?_))
  refine .split (fun h => ?_) (fun h => absurd ha (of_decide_eq_false (show decide (a < 0) = false from h)))
  exact .fn
set_option maxHeartbeats 2000000 in
set_option maxRecDepth 100000 in
theorem oprim18n (a b : Int) (ha : a < 0) : Pure Tryz.prog 18 [.raw (.string ⟨#[109, 97, 107, 101]⟩), .ds 4 fun _ => [(num0 a).dv, (num0 b).dv]] (vk (zero0, 3)) := by
  have hv := vector18n a b ha; refine pure_of (P := fun _ => Tryz.prog) tabOk Tryz.func18 rfl rfl ?_
  cbv
  (repeat' (first | refine .nd ?_ | refine .nq ?_ | (refine .rv rfl ?_; cbv) | (refine .rr rfl ?_; cbv) | refine .sT ?_ | refine .sF ?_ | refine .fk ?_))
  refine .cl hv ?_; cbv; exact .fn
set_option maxHeartbeats 2000000 in
set_option maxRecDepth 100000 in
theorem vector18g (a b : Int) (ha : 1000 < a) : Pure Tryz.prog 31 [.raw (.string ⟨#[109, 97, 107, 101]⟩), .ds 4 fun _ => [(num0 a).dv, (num0 b).dv]] (vk (zero0, 2)) := by
  refine pure_of (P := fun _ => Tryz.prog) tabOk Tryz.func31 rfl rfl ?_
  cbv
  (repeat' (first | refine .nd ?_ | refine .nq ?_ | (refine .rv rfl ?_; cbv) | (refine .rr rfl ?_; cbv) | refine .sT ?_ | refine .sF ?_ | refine .fk ?_))
  refine .split (fun h => absurd (of_decide_eq_true (show decide (a < 0) = true from h)) (by omega)) (fun _ => ?_)
  refine .split (fun h => ?_) (fun h => absurd ha (of_decide_eq_false (show decide (a > 1000) = false from h)))
  exact .fn
set_option maxHeartbeats 2000000 in
set_option maxRecDepth 100000 in
theorem oprim18g (a b : Int) (ha : 1000 < a) : Pure Tryz.prog 18 [.raw (.string ⟨#[109, 97, 107, 101]⟩), .ds 4 fun _ => [(num0 a).dv, (num0 b).dv]] (vk (zero0, 2)) := by
  have hv := vector18g a b ha; refine pure_of (P := fun _ => Tryz.prog) tabOk Tryz.func18 rfl rfl ?_
  cbv
  (repeat' (first | refine .nd ?_ | refine .nq ?_ | (refine .rv rfl ?_; cbv) | (refine .rr rfl ?_; cbv) | refine .sT ?_ | refine .sF ?_ | refine .fk ?_))
  refine .cl hv ?_; cbv; exact .fn
set_option maxHeartbeats 2000000 in
set_option maxRecDepth 100000 in
theorem vector18v (n : Nat) (hn : n <= 1000) (b : Int) : Eng.Spec Tryz.prog 31 [.raw (.string ⟨#[109, 97, 107, 101]⟩), .os 0] [(0, .arr 27 4 fun _ => [(num0 (n : Int)).dv, (num0 b).dv])] 1 (fun _ : Unit => True) (fun _ => .tup [.agg (vecV (List.replicate n b)), .int .i64 fun _ => 0]) (fun _ => [(0, .arr 27 4 fun _ => [(num0 (n : Int)).dv, (num0 b).dv])]) := by
  have hrep := repeat_ok b n hn
  have hm0 : 0 <= (n : Int) := by omega
  have hm1 : (n : Int) <= 1000 := by omega
  generalize List.replicate n b = z at *; generalize (n : Int) = m at *; refine spec_of' (P := fun _ => Tryz.prog) tabOk Tryz.func31 rfl rfl ?_
  cbv
  (repeat' (first | refine .nd ?_ | refine .nq ?_ | (refine .rv rfl ?_; cbv) | (refine .rr rfl ?_; cbv) | refine .sT ?_ | refine .sF ?_ | refine .fk ?_))
  refine .split (fun h => absurd (of_decide_eq_true (show decide (m < 0) = true from h)) (by omega)) (fun _ => ?_)
  refine .split (fun h => absurd (of_decide_eq_true (show decide (m > 1000) = true from h)) (by omega)) (fun _ => ?_)
  (repeat' (first | refine .nd ?_ | refine .nq ?_ | (refine .rv rfl ?_; cbv) | (refine .rr rfl ?_; cbv) | refine .sT ?_ | refine .sF ?_ | refine .fk ?_))
  refine .cl hrep ?_; cbv; exact .fn
set_option maxHeartbeats 2000000 in
set_option maxRecDepth 100000 in
theorem oprim18v (n : Nat) (hn : n <= 1000) (b : Int) : Eng.Spec Tryz.prog 18 [.raw (.string ⟨#[109, 97, 107, 101]⟩), .os 0] [(0, .arr 27 4 fun _ => [(num0 (n : Int)).dv, (num0 b).dv])] 1 (fun _ : Unit => True) (fun _ => .tup [.agg (vecV (List.replicate n b)), .int .i64 fun _ => 0]) (fun _ => [(0, .arr 27 4 fun _ => [(num0 (n : Int)).dv, (num0 b).dv])]) := by
  have hv := vector18v n hn b; generalize List.replicate n b = z at *; generalize (n : Int) = m at *; refine spec_of' (P := fun _ => Tryz.prog) tabOk Tryz.func18 rfl rfl ?_
  cbv
  (repeat' (first | refine .nd ?_ | refine .nq ?_ | (refine .rv rfl ?_; cbv) | (refine .rr rfl ?_; cbv) | refine .sT ?_ | refine .sF ?_ | refine .fk ?_))
  refine .cs [0] 99 hv ?_; cbv; exact .fn
end Go.Qu
