/- The orders of strings, declarations and nodes. -/
import Derived.Test.YtoaifhhfcokipaaGreatDoorXk
import Derived.Lib.Bytealg
namespace Go.Qu
open Go.Eng Go.Proofs
def cmpS (a b : ByteArray) : Int := Lib.compareBytes a.data.toList b.data.toList
theorem cmpS_ext : ∀ (a b : ByteArray) (own : Eng.Own), ExtSpec Tryz.prog 118 [.str fun _ => a, .str fun _ => b] own (.int .i64 fun _ => cmpS a b) := by
  intro a b own w β S vals hs _ _
  simp only [SReps] at hs
  obtain ⟨v, vs, rfl, h1, u, us, rfl, h2, rfl⟩ := hs
  rw [SRep] at h1
  rw [SRep] at h2
  subst h1 h2
  refine ⟨_, ?_, by rw [SRep]⟩
  rw [show [Value.string a, Value.string b].toArray = #[.string a, .string b] from rfl, run_callFunc_extern (fn := Tryz.f118) Tryz.func118 (by kernel_rfl) (by kernel_rfl) (by kernel_rfl) (e := Extern.BytealgCompare.compare) (by kernel_rfl), Lib.run_compareString]
  rfl
set_option maxRecDepth 100000 in
theorem cmpS1_ok (a b : ByteArray) : Pure Tryz.prog 93 [.str fun _ => a, .str fun _ => b] (.int .i64 fun _ => cmpS a b) := by
  refine pure_of (P := fun _ => Tryz.prog) tabOk Tryz.func93 rfl rfl ?_
  cbv
  refine .ext (cmpS_ext a b _) rfl ?_
  cbv
  (refine .fin () 99 trivial (le_of ?_); cbv; refine .mk ?_; repeat' (first | exact AllP.nil | refine AllP.cons (by with_reducible rfl) ?_ | refine AllP.cons ?_ ?_))
  all_goals rfl
set_option maxRecDepth 100000 in
theorem cmpS2_ok (a b : ByteArray) : Pure Tryz.prog 56 [.str fun _ => a, .str fun _ => b] (.int .i64 fun _ => cmpS a b) := by
  refine pure_of (P := fun _ => Tryz.prog) tabOk Tryz.func56 rfl rfl ?_
  cbv
  refine .call (cmpS1_ok a b) ?_ rfl rfl ?_
  · (cbv; refine .mk ?_; repeat' (first | exact AllP.nil | refine AllP.cons (by with_reducible rfl) ?_ | refine AllP.cons ?_ ?_))
    all_goals rfl
  cbv
  (refine .fin () 99 trivial (le_of ?_); cbv; refine .mk ?_; repeat' (first | exact AllP.nil | refine AllP.cons (by with_reducible rfl) ?_ | refine AllP.cons ?_ ?_))
  all_goals rfl
def thenC (c d : Int) : Int := if c = 0 then d else c
theorem thenC_0 (d : Int) : thenC 0 d = d := by simp [thenC]
theorem thenC_n {c d : Int} (h : ¬ c = 0) : thenC c d = c := by simp [thenC, h]
namespace Node
mutual
def cmp : Node → Node → Int
  | .mk o s n m ks, y => thenC (sgn o y.op) (thenC (sgn s y.sort) (thenC (cmpS n y.name) (thenC (sgn m y.num) (thenC (sgn ks.length y.kids.length) (cmpL ks y.kids)))))
def cmpL : List Node → List Node → Int
  | [], _ => 0
  | _ :: _, [] => 0
  | x :: l, y :: m => thenC (cmp x y) (cmpL l m)
end
theorem cmp_eq (x y : Node) : cmp x y = thenC (sgn x.op y.op) (thenC (sgn x.sort y.sort) (thenC (cmpS x.name y.name) (thenC (sgn x.num y.num) (thenC (sgn x.kids.length y.kids.length) (cmpL x.kids y.kids))))) := by
  cases x; rw [cmp]; rfl
theorem cmpL_drop {l m : List Node} {k : Nat} {x y : Node} (hx : l[k]? = some x) (hy : m[k]? = some y) : cmpL (l.drop k) (m.drop k) = thenC (cmp x y) (cmpL (l.drop (k + 1)) (m.drop (k + 1))) := by
  have h1 : l.drop k = x :: l.drop (k + 1) := by
    obtain ⟨h, e⟩ := List.getElem?_eq_some_iff.1 hx
    rw [List.drop_eq_getElem_cons h, e]
  have h2 : m.drop k = y :: m.drop (k + 1) := by
    obtain ⟨h, e⟩ := List.getElem?_eq_some_iff.1 hy
    rw [List.drop_eq_getElem_cons h, e]
  rw [h1, h2, cmpL]
end Node
theorem sgn_0 {a b : Int} : sgn a b = 0 ↔ a = b := by unfold sgn; split <;> (try split) <;> omega
set_option maxRecDepth 100000 in
theorem cmp2_ok (x : Node) : ∀ y : Node, Sm x → Sm y → Pure Tryz.prog 37 [.agg x.svs, .agg y.svs] (.int .i64 fun _ => x.cmp y) := by
  induction x using Node.ind2 with
  | h x ih =>
  intro y hsx hsy
  have hl := Sm.len hsx
  have hl2 := Sm.len hsy
  have he := x.cmp_eq y
  refine pure_of (P := fun _ => Tryz.prog) tabOk Tryz.func37 rfl rfl ?_
  cbv
  refine .call (order_ok x.op y.op) ?_ rfl rfl ?_
  · (cbv; refine .mk ?_; repeat' (first | exact AllP.nil | refine AllP.cons (by with_reducible rfl) ?_ | refine AllP.cons ?_ ?_))
    all_goals rfl
  cbv
  refine .split (fun h => ?_) (fun h => ?_)
  · (refine .fin () 99 trivial (le_of ?_); cbv; refine .mk ?_; repeat' (first | exact AllP.nil | refine AllP.cons (by with_reducible rfl) ?_ | refine AllP.cons ?_ ?_))
    all_goals try rfl
    exact he.trans (thenC_n (of_bne h))
  rw [of_nbne h, thenC_0] at he
  clear h
  refine .call (order_ok x.sort y.sort) ?_ rfl rfl ?_
  · (cbv; refine .mk ?_; repeat' (first | exact AllP.nil | refine AllP.cons (by with_reducible rfl) ?_ | refine AllP.cons ?_ ?_))
    all_goals rfl
  cbv
  refine .split (fun h => ?_) (fun h => ?_)
  · (refine .fin () 99 trivial (le_of ?_); cbv; refine .mk ?_; repeat' (first | exact AllP.nil | refine AllP.cons (by with_reducible rfl) ?_ | refine AllP.cons ?_ ?_))
    all_goals try rfl
    exact he.trans (thenC_n (of_bne h))
  rw [of_nbne h, thenC_0] at he
  clear h
  refine .call (cmpS2_ok x.name y.name) ?_ rfl rfl ?_
  · (cbv; refine .mk ?_; repeat' (first | exact AllP.nil | refine AllP.cons (by with_reducible rfl) ?_ | refine AllP.cons ?_ ?_))
    all_goals rfl
  cbv
  refine .split (fun h => ?_) (fun h => ?_)
  · (refine .fin () 99 trivial (le_of ?_); cbv; refine .mk ?_; repeat' (first | exact AllP.nil | refine AllP.cons (by with_reducible rfl) ?_ | refine AllP.cons ?_ ?_))
    all_goals try rfl
    exact he.trans (thenC_n (of_bne h))
  rw [of_nbne h, thenC_0] at he
  clear h
  refine .call (order64_ok x.num y.num) ?_ rfl rfl ?_
  · (cbv; refine .mk ?_; repeat' (first | exact AllP.nil | refine AllP.cons (by with_reducible rfl) ?_ | refine AllP.cons ?_ ?_))
    all_goals rfl
  cbv
  refine .split (fun h => ?_) (fun h => ?_)
  · (refine .fin () 99 trivial (le_of ?_); cbv; refine .mk ?_; repeat' (first | exact AllP.nil | refine AllP.cons (by with_reducible rfl) ?_ | refine AllP.cons ?_ ?_))
    all_goals try rfl
    exact he.trans (thenC_n (of_bne h))
  rw [of_nbne h, thenC_0] at he
  clear h
  refine .call (order_ok x.kids.length y.kids.length) ?_ rfl rfl ?_
  · (cbv; refine .mk ?_; repeat' (first | exact AllP.nil | refine AllP.cons (by with_reducible rfl) ?_ | refine AllP.cons ?_ ?_))
    all_goals first | rfl | (simp [lenL, Node.rows_length]; done)
  cbv
  refine .split (fun h => ?_) (fun h => ?_)
  · (refine .fin () 99 trivial (le_of ?_); cbv; refine .mk ?_; repeat' (first | exact AllP.nil | refine AllP.cons (by with_reducible rfl) ?_ | refine AllP.cons ?_ ?_))
    all_goals try rfl
    exact he.trans (thenC_n (of_bne h))
  have hll : x.kids.length = y.kids.length := Int.ofNat.inj (sgn_0.1 (of_nbne h))
  rw [of_nbne h, thenC_0] at he
  clear h
  refine .loop Nat (fun k => k ≤ x.kids.length ∧ x.cmp y = Node.cmpL (x.kids.drop k) (y.kids.drop k)) (fun k => [(55, .ds 5 fun _ => Node.rows x.kids), (56, .int .i64 fun _ => (x.kids.length : Int)), (57, .int .i64 fun _ => (k : Int))]) (fun k => [(0, .cells 31 x.svs), (1, .cells 31 y.svs)]) 4 (fun k => x.kids.length - k) 0 ⟨Nat.zero_le _, he⟩ ?_ ?_
  · (refine le_of ?_; cbv; refine .mk ?_; repeat' (first | exact AllP.nil | refine AllP.cons (by with_reducible rfl) ?_ | refine AllP.cons ?_ ?_))
    all_goals first | rfl | (simp [lenL, Node.rows_length]; done)
  rintro k ⟨hk, hi⟩
  cbv
  refine .split (fun h1 => ?_) (fun h1 => ?_)
  · have hkl : k < x.kids.length := ltT h1
    obtain ⟨a, ha⟩ := getI hkl
    obtain ⟨b, hb⟩ := getI (hll ▸ hkl)
    have hr := Node.cmpL_drop ha hb
    refine .need ⟨by simp, by simpa [Node.rows_length] using hkl⟩ ?_
    refine .row _ _ (Node.rows_get ha) (Node.row_toSV _) ?_
    cbv
    refine .need ⟨by simp, by simpa [Node.rows_length] using hll ▸ hkl⟩ ?_
    refine .row _ _ (Node.rows_get hb) (Node.row_toSV _) ?_
    cbv
    refine .callD (ih a (List.mem_of_getElem? ha) b (Sm.kid hsx (List.mem_of_getElem? ha)) (Sm.kid hsy (List.mem_of_getElem? hb))) ?_ rfl rfl (fun _ => rfl) ?_ rfl
    · (cbv; refine .mk ?_; repeat' (first | exact AllP.nil | refine AllP.cons (by with_reducible rfl) ?_ | refine AllP.cons ?_ ?_))
      all_goals rfl
    cbv
    refine .need rfl ?_
    refine .split (fun h => ?_) (fun h => ?_)
    · (refine .fin () 99 trivial (le_of ?_); cbv; refine .mk ?_; repeat' (first | exact AllP.nil | refine AllP.cons (by with_reducible rfl) ?_ | refine AllP.cons ?_ ?_))
      all_goals try rfl
      exact hi.trans (hr.trans (thenC_n (of_bne h)))
    · rw [of_nbne h, thenC_0] at hr
      refine .prop ⟨k + 1, ⟨hkl, hi.trans hr⟩, by omega, ?_⟩
      (refine le_of ?_; cbv; refine .mk ?_; repeat' (first | exact AllP.nil | refine AllP.cons (by with_reducible rfl) ?_ | refine AllP.cons ?_ ?_))
      all_goals (first | rfl | exact ⟨rfl, rfl⟩ | (refine wrap64_of ?_ ?_ ?_ <;> simp only [natCast_eq] <;> omega))
  · have hkl : k = x.kids.length := Nat.le_antisymm hk (geF h1)
    subst hkl
    (refine .fin () 99 trivial (le_of ?_); cbv; refine .mk ?_; repeat' (first | exact AllP.nil | refine AllP.cons (by with_reducible rfl) ?_ | refine AllP.cons ?_ ?_))
    all_goals try rfl
    refine hi.trans ?_
    rw [List.drop_length, Node.cmpL]
end Go.Qu
