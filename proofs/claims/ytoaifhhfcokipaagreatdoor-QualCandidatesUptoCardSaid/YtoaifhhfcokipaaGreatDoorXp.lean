/- Uniform. -/
import Derived.Test.YtoaifhhfcokipaaGreatDoorXo
import Derived.Test.YtoaifhhfcokipaaGreatDoorXg
namespace Go.Qu
open Go.Eng Go.Proofs
def getM : List (ByteArray × Int) → ByteArray → Option Int
  | [], _ => none
  | e :: m, s => if e.1 = s then some e.2 else getM m s
def putM : List (ByteArray × Int) → ByteArray → Int → List (ByteArray × Int)
  | [], s, d => [(s, d)]
  | e :: m, s, d => if e.1 = s then (s, d) :: m else e :: putM m s d
def dm (m : List (ByteArray × Int)) : List (ByteArray × DV) := m.map fun e => (e.1, .int .i64 e.2)
theorem hasK_dm : ∀ (m : List (ByteArray × Int)) (s : ByteArray), hasK (dm m) s = (getM m s).isSome
  | [], s => rfl
  | e :: m, s => by
    have := hasK_dm m s
    unfold hasK dm at this ⊢
    rw [List.map_cons, List.any_cons, this, getM]
    by_cases h : e.1 = s <;> simp [h]
theorem idxK_dm : ∀ (m : List (ByteArray × Int)) (s : ByteArray) (v : Int), getM m s = some v → ((dm m).map fun e => [e.2])[idxK (dm m) s]? = some [.int .i64 v]
  | [], s, v, h => by simp [getM] at h
  | e :: m, s, v, h => by
    rw [getM] at h
    by_cases h' : e.1 = s
    · rw [if_pos h'] at h
      injection h with h
      simp [dm, idxK, List.findIdx_cons, h', h]
    · rw [if_neg h'] at h
      have := idxK_dm m s v h
      simp [dm, idxK, List.findIdx_cons, h'] at this ⊢
      exact this
theorem putK_dm : ∀ (m : List (ByteArray × Int)) (s : ByteArray) (v : Int), putK (dm m) s (.int .i64 v) = dm (putM m s v)
  | [], s, v => rfl
  | e :: m, s, v => by
    have := putK_dm m s v
    unfold dm at this ⊢
    rw [List.map_cons, putK, putM]
    by_cases h : e.1 = s
    · simp [h]
    · simp [h, this]
abbrev mark : Int := -4611686018427387904
def isConst (y : Node) : Bool := y.op == 3 && decide (y.kids.length = 0)
/-- one node: nothing where two uses of a name disagree -/
def uniStep (m : List (ByteArray × Int)) (y : Node) : Option (List (ByteArray × Int)) :=
  if (getM m y.name).any (fun v => (isConst y && v != mark) || (y.op == 1 && v == mark)) then none
  else if y.op != 1 then some (if isConst y then putM m y.name mark else m)
  else if (getM (if isConst y then putM m y.name mark else m) y.name).any (fun v => v != y.sort) then none
  else some (putM (if isConst y then putM m y.name mark else m) y.name y.sort)
def uniFold : List (ByteArray × Int) → List Node → Option (List (ByteArray × Int))
  | m, [] => some m
  | m, y :: l => (uniStep m y).bind fun m' => uniFold m' l
theorem uniFold_append : ∀ (a b : List Node) (m : List (ByteArray × Int)), uniFold m (a ++ b) = (uniFold m a).bind fun m' => uniFold m' b
  | [], b, m => rfl
  | y :: a, b, m => by
    simp only [List.cons_append, uniFold]
    cases uniStep m y with
    | none => rfl
    | some m' => exact uniFold_append a b m'
theorem uniFold_succ {l : List Node} {k : Nat} {y : Node} {m : List (ByteArray × Int)} (h : l[k]? = some y) (hm : uniFold [] (l.take k) = some m) : uniFold [] (l.take (k + 1)) = uniStep m y := by
  rw [List.take_add_one, h, uniFold_append, hm]
  simp [uniFold]
theorem uniFold_none {l : List Node} {k : Nat} (h : uniFold [] (l.take k) = none) : uniFold [] l = none := by
  conv => lhs; rw [← List.take_append_drop k l]
  rw [uniFold_append, h]
  rfl
def uniB (x : Node) : Bool := (uniFold [] x.pre).isSome
theorem isConst_op {y : Node} (h : isConst y = true) : y.op = 3 := by
  have := (Bool.and_eq_true_iff.1 h).1
  simpa using this
set_option maxRecDepth 100000 in
theorem uniform2_ok (x : Node) (hsz : Sm x) : Pure Tryz.prog 51 [.agg x.svs] (.bs fun _ => uniB x) := by
  have hpl := pre_length x
  refine pure_of (P := fun _ => Tryz.prog) tabOk Tryz.func51 rfl rfl ?_
  cbv
  refine .callN (walk_ok x) 5 ?_ rfl rfl (fun _ => ⟨rfl, rfl⟩) (fun _ _ => ?_)
  · (cbv; refine .mk ?_; repeat' (first | exact AllP.nil | refine AllP.cons (by with_reducible rfl) ?_ | refine AllP.cons ?_ ?_))
    all_goals rfl
  cbv
  refine .range [.dp 5 (fun _ => [x.dvs]) (fun _ => 0) 0] (Node.its x.pre) (Nat × List (ByteArray × Int)) (fun s => s.1 ≤ x.pre.length ∧ uniFold [] (x.pre.take s.1) = some s.2) Prod.fst (fun s => [(1, .cells 4 [.bool false]), (3, .cells 101 [.om 2]), (2, .map 101 fun _ => dm s.2)]) 5 (0, []) rfl (walk_it x (Sm.big hsz)) (Node.its_ok _) ⟨Nat.zero_le _, rfl⟩ rfl ?_ ?_ ?_
  · (refine le_of ?_; cbv; refine .mk ?_; repeat' (first | exact AllP.nil | refine AllP.cons (by with_reducible rfl) ?_ | refine AllP.cons ?_ ?_))
    all_goals first | rfl | exact ⟨rfl, rfl⟩
  · rintro ⟨k, m⟩ ⟨hk1, hk2⟩ item hit
    obtain ⟨y, hy, rfl⟩ := Node.its_get hit
    have hy : x.pre[k]? = some y := hy
    have hlt : k < x.pre.length := (List.getElem?_eq_some_iff.1 hy).1
    have hys : Sm y := Sm.pre hsz (List.mem_of_getElem? hy)
    have hS := uniFold_succ hy hk2
    have hC : (y.op == 3 && lenL (fun _ => Node.rows y.kids) () == 0) = isConst y := by
      show (y.op == 3 && (((Node.rows y.kids).length : Int) == 0)) = isConst y
      rw [Node.rows_length, isConst]
      by_cases h : y.kids.length = 0 <;> simp [h]
    cbv
    refine .split (fun hK => ?_) (fun hK => ?_)
    · have hK : hasK (dm m) y.name = true := hK
      rw [hasK_dm] at hK
      obtain ⟨v, hv⟩ := Option.isSome_iff_exists.1 hK
      refine .row [.int .i64 v] [.int .i64 fun _ => v] (by show (List.map (fun e => [e.snd]) (dm m))[((idxK (dm m) y.name : Nat) : Int).toNat]? = _; rw [Int.toNat_natCast]; exact idxK_dm m y.name v hv) rfl ?_
      cbv
      have hBB : ((isConst y && v != mark) || (y.op == 1 && v == mark)) = (bif y.op == 3 && lenL (fun _ => Node.rows y.kids) () == 0 then v != -4611686018427387904 || y.op == 1 && v == -4611686018427387904 else y.op == 1 && v == -4611686018427387904) := by
        rw [hC]
        cases isConst y <;> rfl
      refine .split (fun hB => ?_) (fun hB => ?_)
      · have h2 : uniStep m y = none := by
          unfold uniStep
          rw [hv, Option.any_some, hBB.trans hB]
          rfl
        (refine .fin () 99 trivial (le_of ?_); cbv; refine .mk ?_; repeat' (first | exact AllP.nil | refine AllP.cons (by with_reducible rfl) ?_ | refine AllP.cons ?_ ?_))
        all_goals try rfl
        show uniB x = false
        rw [uniB, uniFold_none (hS.trans h2)]
        rfl
      · have hB' := hBB.trans hB
        refine .split (fun hD => ?_) (fun hD => ?_)
        · have hc : isConst y = true := hC.symm.trans hD
          have ho := isConst_op hc
          refine .split (fun hF => ?_) (fun hF => ?_)
          · have h2 : uniStep m y = some (putM m y.name mark) := by unfold uniStep; rw [hv, Option.any_some, hB']; simp only [Bool.false_eq_true, if_false]; simp [hc, ho]
            refine .prop ⟨(k + 1, putM m y.name mark), ⟨hlt, hS.trans h2⟩, rfl, ?_⟩
            (refine le_of ?_; cbv; refine .mk ?_; repeat' (first | exact AllP.nil | refine AllP.cons (by with_reducible rfl) ?_ | refine AllP.cons ?_ ?_))
            all_goals first | rfl | exact (putK_dm m y.name mark).symm | exact putK_dm m y.name mark
          · have hF : (y.op != 1) = false := hF
            rw [ho] at hF
            exact absurd hF (by decide)
        · have hc : isConst y = false := hC.symm.trans hD
          refine .split (fun hF => ?_) (fun hF => ?_)
          · have hF : (y.op != 1) = true := hF
            have h2 : uniStep m y = some m := by unfold uniStep; rw [hv, Option.any_some, hB']; simp only [Bool.false_eq_true, if_false]; simp_all
            refine .prop ⟨(k + 1, m), ⟨hlt, hS.trans h2⟩, rfl, ?_⟩
            (refine le_of ?_; cbv; refine .mk ?_; repeat' (first | exact AllP.nil | refine AllP.cons (by with_reducible rfl) ?_ | refine AllP.cons ?_ ?_))
            all_goals rfl
          · have hF : (y.op != 1) = false := hF
            refine .split (fun hK2 => ?_) (fun hK2 => ?_)
            · refine .row [.int .i64 v] [.int .i64 fun _ => v] (by show (List.map (fun e => [e.snd]) (dm m))[((idxK (dm m) y.name : Nat) : Int).toNat]? = _; rw [Int.toNat_natCast]; exact idxK_dm m y.name v hv) rfl ?_
              cbv
              refine .split (fun hJ => ?_) (fun hJ => ?_)
              · have hJ : (v != y.sort) = true := hJ
                have h2 : uniStep m y = none := by unfold uniStep; rw [hv, Option.any_some, hB']; simp only [Bool.false_eq_true, if_false]; simp_all
                (refine .fin () 99 trivial (le_of ?_); cbv; refine .mk ?_; repeat' (first | exact AllP.nil | refine AllP.cons (by with_reducible rfl) ?_ | refine AllP.cons ?_ ?_))
                all_goals try rfl
                show uniB x = false
                rw [uniB, uniFold_none (hS.trans h2)]
                rfl
              · have hJ : (v != y.sort) = false := hJ
                have h2 : uniStep m y = some (putM m y.name y.sort) := by unfold uniStep; rw [hv, Option.any_some, hB']; simp only [Bool.false_eq_true, if_false]; simp_all
                refine .prop ⟨(k + 1, putM m y.name y.sort), ⟨hlt, hS.trans h2⟩, rfl, ?_⟩
                (refine le_of ?_; cbv; refine .mk ?_; repeat' (first | exact AllP.nil | refine AllP.cons (by with_reducible rfl) ?_ | refine AllP.cons ?_ ?_))
                all_goals first | rfl | exact (putK_dm m y.name y.sort).symm | exact putK_dm m y.name y.sort
            · exact absurd (hK2 : hasK (dm m) y.name = false) (by rw [hasK_dm, hv]; simp)
    · have hK : hasK (dm m) y.name = false := hK
      rw [hasK_dm] at hK
      have hv : getM m y.name = none := by simpa using hK
      refine .split (fun hD => ?_) (fun hD => ?_)
      · have hc : isConst y = true := hC.symm.trans hD
        have ho := isConst_op hc
        refine .split (fun hF => ?_) (fun hF => ?_)
        · have h2 : uniStep m y = some (putM m y.name mark) := by unfold uniStep; rw [hv, Option.any_none]; simp only [Bool.false_eq_true, if_false]; simp [hc, ho]
          refine .prop ⟨(k + 1, putM m y.name mark), ⟨hlt, hS.trans h2⟩, rfl, ?_⟩
          (refine le_of ?_; cbv; refine .mk ?_; repeat' (first | exact AllP.nil | refine AllP.cons (by with_reducible rfl) ?_ | refine AllP.cons ?_ ?_))
          all_goals first | rfl | exact (putK_dm m y.name mark).symm | exact putK_dm m y.name mark
        · have hF : (y.op != 1) = false := hF
          rw [ho] at hF
          exact absurd hF (by decide)
      · have hc : isConst y = false := hC.symm.trans hD
        refine .split (fun hF => ?_) (fun hF => ?_)
        · have hF : (y.op != 1) = true := hF
          have h2 : uniStep m y = some m := by unfold uniStep; rw [hv, Option.any_none]; simp only [Bool.false_eq_true, if_false]; simp_all
          refine .prop ⟨(k + 1, m), ⟨hlt, hS.trans h2⟩, rfl, ?_⟩
          (refine le_of ?_; cbv; refine .mk ?_; repeat' (first | exact AllP.nil | refine AllP.cons (by with_reducible rfl) ?_ | refine AllP.cons ?_ ?_))
          all_goals rfl
        · have hF : (y.op != 1) = false := hF
          refine .split (fun hK2 => ?_) (fun hK2 => ?_)
          · exact absurd (hK2 : hasK (dm m) y.name = true) (by rw [hasK_dm, hv]; simp)
          · have h2 : uniStep m y = some (putM m y.name y.sort) := by unfold uniStep; rw [hv, Option.any_none]; simp only [Bool.false_eq_true, if_false]; simp_all
            refine .prop ⟨(k + 1, putM m y.name y.sort), ⟨hlt, hS.trans h2⟩, rfl, ?_⟩
            (refine le_of ?_; cbv; refine .mk ?_; repeat' (first | exact AllP.nil | refine AllP.cons (by with_reducible rfl) ?_ | refine AllP.cons ?_ ?_))
            all_goals first | rfl | exact (putK_dm m y.name y.sort).symm | exact putK_dm m y.name y.sort
  · rintro ⟨k, m⟩ ⟨hk1, hk2⟩ hk
    have hk : k = x.pre.length := by simpa [Node.its_length] using hk
    cbv
    (refine .fin () 99 trivial (le_of ?_); cbv; refine .mk ?_; repeat' (first | exact AllP.nil | refine AllP.cons (by with_reducible rfl) ?_ | refine AllP.cons ?_ ?_))
    all_goals try rfl
    have hk2 : uniFold [] (x.pre.take k) = some m := hk2
    show uniB x = true
    rw [hk, List.take_length] at hk2
    rw [uniB, hk2]
    rfl
end Go.Qu
