/- Vectors of numbers, as values. slices.Repeat of one number. Names of the operations. -/
import Derived.Test.YtkgiopdkhhinoaaGreatDoorVc
import Derived.Test.YtkgiopdkhhinoaaGreatDoorXc
set_option linter.all false
namespace Go.Qu
open Go.Eng Go.Proofs
def kidsD (l : List Int) : List (List DV) := l.map fun x => (num0 x).dv
def vecD (l : List Int) : List DV := [.int .i64 4, .str ⟨#[]⟩, .int .i64 0, .sl 4 (kidsD l)]
def vecV (l : List Int) : List SV := [.int .i64 fun _ => 4, .str fun _ => ⟨#[]⟩, .int .i64 fun _ => 0, .ds 4 fun _ => kidsD l]
theorem vecD_toSV (l : List Int) : (vecD l).map DV.toSV = vecV l := rfl
theorem _root_.Go.Eng.HU.rv {P : Unit -> Program} {tab : Nat -> TI} {Q : Unit -> QT} {i : Unit -> Int} {l : Unit -> List (List DV)} {k : List SV -> R} {z : List Int} (h : (l ())[(i ()).toNat]? = some (vecD z)) (hk : HU P tab Q (k (vecV z))) : HU P tab Q (.row l i k) := .row _ _ h (vecD_toSV z) hk
theorem kids_length (l : List Int) : (kidsD l).length = l.length := List.length_map ..
theorem kids_len (l : List Int) : ((kidsD l).length : Int) = (l.length : Int) := by rw [kids_length]
theorem kids_get {l : List Int} {i : Nat} {x : Int} (h : l[i]? = some x) : (kidsD l)[i]? = some (num0 x).dv := by rw [kidsD, List.getElem?_map, h]; rfl
theorem ltT {k n : Nat} (h : decide ((k : Int) < (n : Int)) = true) : k < n := Int.ofNat_lt.1 (of_decide_eq_true h)
theorem geF {k n : Nat} (h : decide ((k : Int) < (n : Int)) = false) : n <= k := by have := of_decide_eq_false h; omega
theorem getI {α : Type} {l : List α} {k : Nat} (h : k < l.length) : ∃ x, l[k]? = some x := ⟨_, List.getElem?_eq_getElem h⟩
theorem natCast_eq (n : Nat) : @NatCast.natCast Int instNatCastInt n = (n : Int) := rfl
end Go.Qu
namespace Go.Qu
open Go.Eng Go.Proofs
def zeroD : List DV := [.int .i64 0, .str ⟨#[]⟩, .int .i64 0, .raw nilV]
def repD (x : Int) (n k : Nat) : List (List DV) := kidsD (List.replicate k x) ++ List.replicate (n - k) zeroD
theorem repD_length {x : Int} {n k : Nat} (h : k <= n) : (repD x n k).length = n := by simp [repD, kids_length]; omega
theorem kids_rep (x : Int) (k : Nat) : kidsD (List.replicate k x) = List.replicate k (num0 x).dv := by simp [kidsD]
theorem rep_gen {α : Type} (X Z : α) {n k m : Nat} (h : k <= n) (hm : m <= n - k) (hk : m <= k) : (List.replicate k X ++ List.replicate (n - k) Z).take k ++ ((List.replicate k X).take m ++ (List.replicate k X ++ List.replicate (n - k) Z).drop (k + m)) = List.replicate (k + m) X ++ List.replicate (n - (k + m)) Z := by
  have e1 : (List.replicate k X ++ List.replicate (n - k) Z).take k = List.replicate k X := by
    rw [List.take_append_of_le_length (by simp), List.take_of_length_le (by simp)]
  have e2 : (List.replicate k X ++ List.replicate (n - k) Z).drop (k + m) = List.replicate (n - (k + m)) Z := by
    rw [List.drop_append, List.drop_of_length_le (by simp), List.length_replicate, List.drop_replicate, List.nil_append]
    congr 1; omega
  rw [e1, e2, List.take_replicate, <- List.append_assoc, List.replicate_append_replicate, Nat.min_eq_left hk]
theorem rep_take {x : Int} {n k : Nat} : (repD x n k).take k = List.replicate k (num0 x).dv := by
  unfold repD; rw [kids_rep, List.take_append_of_le_length (by simp), List.take_of_length_le (by simp)]
theorem rep_cpy {x : Int} {n k : Nat} (h : k <= n) {a b ln : Unit -> Int} {xl l : Unit -> List (List DV)} (ha : a () = (k : Int)) (hb : b () = (n : Int)) (hn : ln () = (k : Int)) (hx : xl () = List.replicate k (num0 x).dv) (hl : l () = repD x n k) :
    cpyN a b ln = min k (n - k) /\ cpy a b ln xl l = repD x n (k + min k (n - k)) := by
  have e1 : cpyN a b ln = min k (n - k) := by
    unfold cpyN; rw [ha, hb, hn]; omega
  refine ⟨e1, ?_⟩; unfold cpy; rw [e1, ha, hl, hx, Int.toNat_natCast]; unfold repD; rw [kids_rep, kids_rep]; exact rep_gen _ _ h (Nat.min_le_right _ _) (Nat.min_le_left _ _)
theorem rep_first {x : Int} {n : Nat} {ln : Unit -> Int} {xl l : Unit -> List (List DV)} (hn : ln () = 1) (hx : xl () = [(num0 x).dv]) (hl : l () = List.replicate n zeroD) :
    cpyN (fun _ => 0) (lenL l) ln = min 1 n /\ cpy (fun _ => 0) (lenL l) ln xl l = repD x n (min 1 n) := by
  have e1 : cpyN (fun _ => 0) (lenL l) ln = min 1 n := by
    unfold cpyN lenL; rw [hn, hl, List.length_replicate]; show min (Int.toNat 1) ((n : Int) - 0).toNat = _; omega
  refine ⟨e1, ?_⟩; unfold cpy; rw [e1, hl, hx]; unfold repD; rw [kids_rep]
  cases n with
  | zero => rfl
  | succ n =>
    have : min 1 (n + 1) = 1 := by omega
    rw [this]; simp
set_option maxRecDepth 100000 in
theorem mul_ok (X Y : Int) (hi lo : Int) (h : Pure Tryz.prog 38 [.int .u64 fun _ => X, .int .u64 fun _ => Y] (.tup [.int .u64 fun _ => hi, .int .u64 fun _ => lo])) : Pure Tryz.prog 61 [.int .u64 fun _ => X, .int .u64 fun _ => Y] (.tup [.int .u64 fun _ => hi, .int .u64 fun _ => lo]) := by
  refine pure_of (P := fun _ => Tryz.prog) tabOk Tryz.func61 rfl rfl ?_
  cbv; refine .cl h ?_; cbv; exact .fn
set_option maxRecDepth 100000 in
theorem repeat_ok (x : Int) (n : Nat) (hn : n <= 1000) : Pure Tryz.prog 39 [.ds 4 fun _ => [(num0 x).dv], .int .i64 fun _ => (n : Int)] (.ds 4 fun _ => kidsD (List.replicate n x)) := by
  have hm := mul64_ok 1 n (by decide) (by omega)
  have e1 : (1 * n / 18446744073709551616 : Nat) = 0 := by omega
  have e2 : (1 * n % 18446744073709551616 : Nat) = n := by omega
  rw [e1, e2] at hm; have hm := mul_ok _ _ _ _ hm; have hw : IntKind.i64.wrap (n : Int) = (n : Int) := w64 (by omega) (by omega)
  have hle : IntKind.i64.wrap (n : Int) <= 1000 := by rw [hw]; omega
  have h00 : 0 <= IntKind.i64.wrap (n : Int) := by rw [hw]; omega
  refine pure_of (P := fun _ => Tryz.prog) tabOk Tryz.func39 rfl rfl ?_
  cbv; refine .split (fun h => absurd (of_decide_eq_true (show decide ((n : Int) < 0) = true from h)) (by omega)) (fun _ => ?_)
  refine .call hm ?_ rfl rfl ?_
  . (cbv; refine .mk ?_; repeat' (first | exact AllP.nil | refine AllP.cons ?_ ?_))
    all_goals first | rfl | (rw [wrapU]; omega)
  cbv
  (repeat' (first | refine .nd ?_ | refine .nq ?_ | (refine .rv rfl ?_; cbv) | (refine .rr rfl ?_; cbv) | refine .sT ?_ | refine .sF ?_ | refine .fk ?_))
  refine .split (fun h => absurd (of_decide_eq_true (show decide ((n : Int) > 9223372036854775807) = true from h)) (by omega)) (fun _ => ?_)
  refine .need ⟨h00, Int.le_refl _, Int.le_trans (Int.mul_le_mul_of_nonneg_right hle (by decide)) (by decide), Int.le_trans hle (by decide)⟩ ?_
  refine .need (Nat.min_le_left _ _) ?_; have hf := fun (ln : Unit -> Int) (xl l : Unit -> List (List DV)) (h1 : ln () = 1) (h2 : xl () = [(num0 x).dv]) (h3 : l () = List.replicate (IntKind.i64.wrap (n : Int)).toNat zeroD) => rep_first (x := x) (n := n) h1 h2 (h3.trans (by rw [hw, Int.toNat_natCast]))
  have hg := fun (ln : Unit -> Int) (l : Unit -> List (List DV)) (h1 : ln () = 1) (h3 : l () = List.replicate (IntKind.i64.wrap (n : Int)).toNat zeroD) => show ((min 1 n : Nat) : Int) = ((cpyN (fun _ => 0) (lenL l) ln : Nat) : Int) from by rw [(hf ln (fun _ => [(num0 x).dv]) l h1 rfl h3).1]
  refine .loop Nat (fun k => k <= n /\ (n = 0 \/ 0 < k)) (fun k => [(8, .int .i64 fun _ => (k : Int))]) (fun k => [(0, .arr 27 4 fun _ => repD x n k)]) 1 (fun k => n - k) (min 1 n) ⟨by omega, by omega⟩ ?_ ?_
  . (refine le_of ?_; cbv; refine .mk ?_; repeat' (first | exact AllP.nil | refine AllP.cons ?_ ?_))
    all_goals first | rfl | (refine hg _ _ ?_ ?_ <;> rfl) | (refine (hf _ _ _ ?_ ?_ ?_).2.symm <;> rfl)
  rintro k ⟨hk, hk0⟩; have hl := repD_length (x := x) hk; have hd := @rep_cpy x n k hk; cbv; refine .split (fun h1 => ?_) (fun h1 => ?_)
  . have h1 : decide ((k : Int) < ((repD x n k).length : Int)) = true := h1; have hkl := ltT h1; rw [hl] at hkl; have hb0 : 0 <= (k : Int) /\ (k : Int) <= ((repD x n k).length : Int) := ⟨Int.natCast_nonneg _, Int.ofNat_le.2 (by rw [hl]; exact hk)⟩
    have c1 := hd (a := fun _ => (k : Int)) (b := lenL fun _ => repD x n k) (ln := fun _ => (k : Int) - 0) (xl := fun _ => List.drop (Int.toNat 0) (List.take ((k : Int)).toNat (repD x n k))) (l := fun _ => repD x n k) rfl (by show ((repD x n k).length : Int) = n; rw [hl]) (by show (k : Int) - 0 = k; omega) (by show List.drop (Int.toNat 0) (List.take ((k : Int)).toNat (repD x n k)) = _; rw [Int.toNat_natCast, rep_take]; rfl) rfl
    refine .need hb0 (.need hb0 (.need hb0.2 (.need ⟨?_, Int.le_refl _⟩ ?_)))
    . refine Nat.le_trans (Nat.le_of_eq c1.1) ?_; show min k (n - k) <= (List.drop (Int.toNat 0) (List.take ((k : Int)).toNat (repD x n k))).length; rw [Int.toNat_natCast, rep_take]; show _ <= (List.replicate k (num0 x).dv).length; rw [List.length_replicate]; exact Nat.min_le_left _ _
    refine .need rfl ?_; refine .prop ⟨k + min k (n - k), ⟨by omega, by omega⟩, by omega, ?_⟩
    have c3 : ((k + min k (n - k) : Nat) : Int) = IntKind.i64.wrap ((k : Int) + ((cpyN (fun _ => (k : Int)) (lenL fun _ => repD x n k) (fun _ => (k : Int) - 0) : Nat) : Int)) := by
      rw [c1.1, w64 (by omega) (by omega)]
      omega
    (refine le_of ?_; cbv; refine .mk ?_; repeat' (first | exact AllP.nil | refine AllP.cons ?_ ?_))
    all_goals first | rfl | exact c3 | exact c1.2.symm
  . have h1 : decide ((k : Int) < ((repD x n k).length : Int)) = false := h1; have hkl := geF h1; rw [hl] at hkl; have hkn : k = n := Nat.le_antisymm hk hkl
    (refine .fin () 99 trivial (le_of ?_); cbv; refine .mk ?_; repeat' (first | exact AllP.nil | refine AllP.cons ?_ ?_))
    all_goals first | rfl | (rw [hkn]; simp [repD]; done)
end Go.Qu
namespace Go.Qu
open Go.Eng Go.Proofs
def namesD : List (List DV) := [[.str ⟨#[43]⟩], [.str ⟨#[45]⟩], [.str ⟨#[42]⟩], [.str ⟨#[110, 101, 103]⟩], [.str ⟨#[100, 105, 118]⟩], [.str ⟨#[109, 111, 100]⟩], [.str ⟨#[61, 61]⟩], [.str ⟨#[33, 61]⟩], [.str ⟨#[60]⟩], [.str ⟨#[60, 61]⟩], [.str ⟨#[62]⟩], [.str ⟨#[62, 61]⟩], [.str ⟨#[97, 110, 100]⟩], [.str ⟨#[111, 114]⟩], [.str ⟨#[110, 111, 116]⟩], [.str ⟨#[118, 108, 101, 110]⟩], [.str ⟨#[103, 101, 116]⟩], [.str ⟨#[112, 117, 116]⟩], [.str ⟨#[109, 97, 107, 101]⟩]]
theorem names_at {which : Int} (i : Nat) {r : List DV} (h0 : 0 <= which) (h1 : which < 256) (hi : which % 19 = (i : Int)) (hr : namesD[i]? = some r) (h19 : (i : Int) < 19 := by decide) : namesD[(Int.tmod (IntKind.i64.wrap which) 19).toNat]? = some r /\ (0 <= Int.tmod (IntKind.i64.wrap which) 19 /\ Int.tmod (IntKind.i64.wrap which) 19 < 19) := by
  have e : Int.tmod (IntKind.i64.wrap which) 19 = which % 19 := by rw [w64 (by omega) (by omega), Int.tmod_eq_emod_of_nonneg h0]
  rw [e, hi, Int.toNat_natCast]; exact ⟨hr, Int.natCast_nonneg _, h19⟩
theorem in_of {a : Int} (h : greatB a = false) : inM a := by
  simp only [greatB, Bool.or_eq_false_iff, decide_eq_false_iff_not] at h; unfold inM; omega
theorem len50 {l : List Int} (hL : decide (((ints l).length : Int) > 50) = false) : l.length <= 50 := by
  have hL := of_decide_eq_false hL; rw [ints, List.length_map] at hL; exact Int.ofNat_le.1 (show ((l.length : Nat) : Int) <= ((50 : Nat) : Int) from Int.not_lt.1 hL)
theorem int_lt {l : List Int} {k : Nat} (h : k < l.length) : (k : Int) < ((ints l).length : Int) := by rw [ints, List.length_map]; exact Int.ofNat_lt.2 h
theorem int_get {l : List Int} {k : Nat} {x : Int} (h : l[k]? = some x) : (ints l)[(k : Int).toNat]? = some [.int .i64 x] := by rw [Int.toNat_natCast, ints, List.getElem?_map, h]; rfl
theorem take_in {l : List Int} {k : Nat} {x : Int} (hx : l[k]? = some x) (hm : ∀ x ∈ l.take k, inM x) (hX : inM x) : ∀ x ∈ l.take (k + 1), inM x := by
  rw [List.take_add_one, hx]; intro z hz; rcases List.mem_append.1 hz with hz | hz
  . exact hm z hz
  . have : z = x := by simpa using hz
    rw [this]; exact hX
theorem same_self (v : Sc) : Pure Tryz.prog 9 [v.sv, v.sv] (.bs fun _ => true) := by
  have h := same_sc v v; have e : (v.k == v.k && v.n == v.n) = true := by simp
  rwa [e] at h
end Go.Qu
