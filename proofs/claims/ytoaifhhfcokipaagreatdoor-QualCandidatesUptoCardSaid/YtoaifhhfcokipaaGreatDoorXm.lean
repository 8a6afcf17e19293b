/- The reference's Compare. -/
import Derived.Test.YtoaifhhfcokipaaGreatDoorXl
namespace Go.Qu
open Go.Eng Go.Proofs
theorem cmpB_lt : ∀ (a b : List UInt8), Op.bytesLess a b = decide (Lib.compareBytes a b < 0)
  | [], [] => by simp [Op.bytesLess, Lib.compareBytes]
  | [], _ :: _ => by simp [Op.bytesLess, Lib.compareBytes]
  | _ :: _, [] => by simp [Op.bytesLess, Lib.compareBytes]
  | a :: x, b :: y => by
    simp only [Op.bytesLess, Lib.compareBytes, cmpB_lt x y]
    rcases Nat.lt_trichotomy a.toNat b.toNat with h | h | h
    · have : a < b := h
      simp [this]
    · have : a = b := UInt8.toNat_inj.1 h
      subst this
      simp [UInt8.lt_irrefl]
    · have h1 : b < a := h
      have h2 : ¬ a < b := fun h' => Nat.lt_asymm h h'
      have h3 : ¬ a = b := fun e => by subst e; exact Nat.lt_irrefl _ h
      simp [h1, h2, h3]
theorem cmpB_eq : ∀ (a b : List UInt8), Lib.compareBytes a b = 0 → a = b
  | [], [], _ => rfl
  | [], _ :: _, h => by simp [Lib.compareBytes] at h
  | _ :: _, [], h => by simp [Lib.compareBytes] at h
  | a :: x, b :: y, h => by
    simp only [Lib.compareBytes] at h
    rcases Nat.lt_trichotomy a.toNat b.toNat with h' | h' | h'
    · have : a < b := h'
      simp [this] at h
    · have : a = b := UInt8.toNat_inj.1 h'
      subst this
      simp [UInt8.lt_irrefl] at h
      rw [cmpB_eq x y h]
    · have h1 : b < a := h'
      have h2 : ¬ a < b := fun h => Nat.lt_asymm h h'
      simp [h1, h2] at h
theorem cmpB_self : ∀ (a : List UInt8), Lib.compareBytes a a = 0
  | [] => rfl
  | a :: x => by simp [Lib.compareBytes, UInt8.lt_irrefl, cmpB_self x]
theorem cmpB_neg : ∀ (a b : List UInt8), Lib.compareBytes b a = - Lib.compareBytes a b
  | [], [] => rfl
  | [], _ :: _ => rfl
  | _ :: _, [] => rfl
  | a :: x, b :: y => by
    simp only [Lib.compareBytes, cmpB_neg x y]
    rcases Nat.lt_trichotomy a.toNat b.toNat with h | h | h
    · have h1 : a < b := h
      have h2 : ¬ b < a := fun h' => Nat.lt_asymm h h'
      simp [h1, h2]
    · have : a = b := UInt8.toNat_inj.1 h
      subst this
      simp [UInt8.lt_irrefl]
    · have h1 : b < a := h
      have h2 : ¬ a < b := fun h' => Nat.lt_asymm h h'
      simp [h1, h2]
theorem cmpB_tri : ∀ (a b : List UInt8), Lib.compareBytes a b = -1 ∨ Lib.compareBytes a b = 0 ∨ Lib.compareBytes a b = 1
  | [], [] => by simp [Lib.compareBytes]
  | [], _ :: _ => by simp [Lib.compareBytes]
  | _ :: _, [] => by simp [Lib.compareBytes]
  | a :: x, b :: y => by
    simp only [Lib.compareBytes]
    split
    · simp
    · split
      · simp
      · exact cmpB_tri x y
theorem cmpS_tri (a b : ByteArray) : cmpS a b = -1 ∨ cmpS a b = 0 ∨ cmpS a b = 1 := cmpB_tri _ _
theorem cmpS_lt (a b : ByteArray) : ltS a b = decide (cmpS a b < 0) := by
  unfold ltS cmpS
  rw [ByteArray.toList_eq, ByteArray.toList_eq, cmpB_lt]
theorem cmpS_0 {a b : ByteArray} : cmpS a b = 0 ↔ a = b := by
  constructor
  · intro h
    have := cmpB_eq _ _ h
    rcases a with ⟨⟨a⟩⟩
    rcases b with ⟨⟨b⟩⟩
    simp at this
    rw [this]
  · rintro rfl
    exact cmpB_self _
theorem cmpS_neg (a b : ByteArray) : cmpS b a = - cmpS a b := cmpB_neg _ _
theorem cmpS_gt (a b : ByteArray) : (!(ltS a b || decide (a = b))) = decide (0 < cmpS a b) := by
  rw [cmpS_lt]
  by_cases h : a = b
  · have := cmpS_0.2 h
    simp only [h, decide_true, Bool.or_true]
    rw [cmpS_0.2 (rfl : b = b)]; decide
  · have h' : ¬ cmpS a b = 0 := fun e => h (cmpS_0.1 e)
    simp only [h, decide_false, Bool.or_false]
    rcases cmpS_tri a b with e | e | e
    · rw [e]; rfl
    · exact absurd e h'
    · rw [e]; rfl
theorem nmJ (a b : ByteArray) (c : Int) : (bif (bif c == 0 && ltS a b then -1 else c) == 0 && !(ltS a b || decide (a = b)) then 1 else (bif c == 0 && ltS a b then -1 else c)) = thenC c (cmpS a b) := by
  rw [cmpS_gt, cmpS_lt]
  unfold thenC
  by_cases h : c = 0
  · subst h
    rcases cmpS_tri a b with e | e | e <;> rw [e] <;> rfl
  · have h' : (c == 0) = false := by simpa using h
    rw [h', Bool.false_and, cond_false, h', Bool.false_and, cond_false, if_neg h]
theorem thenC_of {a b : Int} (h : a = 0) : thenC a b = b := by simp [thenC, h]
theorem thenC_assoc (a b c : Int) : thenC (thenC a b) c = thenC a (thenC b c) := by
  unfold thenC; split <;> (try split) <;> simp_all
theorem nbAbs {a b : Int} (h : ¬ a = b) (h' : (a == b) = true) : False := h (LawfulBEq.eq_of_beq h')
theorem of_nbeq {a b : Int} (h : (a == b) = false) : ¬ a = b := by simpa using h
theorem cmpTail {x y : Node} {v : Int} (hz : v = 0 → x.kids.length = y.kids.length) (hc : x.cmp y = thenC v (Node.cmpL x.kids y.kids)) : ∃ u, u = v ∧ (u = 0 → x.kids.length = y.kids.length) ∧ x.cmp y = thenC u (Node.cmpL (x.kids.drop 0) (y.kids.drop 0)) := ⟨v, rfl, hz, hc⟩
theorem cmpTailN {x y : Node} {v r : Int} (h : ¬ v = 0) (hc : x.cmp y = thenC v r) : ∃ u, u = v ∧ (u = 0 → x.kids.length = y.kids.length) ∧ x.cmp y = thenC u (Node.cmpL (x.kids.drop 0) (y.kids.drop 0)) := ⟨v, rfl, fun e => absurd e h, by rw [hc, thenC_n h, thenC_n h]⟩
def nmV (x y : Node) (c : Int) : Int := bif (bif c == 0 && ltS x.name y.name then -1 else c) == 0 && !(ltS x.name y.name || decide (x.name = y.name)) then 1 else (bif c == 0 && ltS x.name y.name then -1 else c)
theorem nmV_0 {x y : Node} {c : Int} (h : nmV x y c = 0) : c = 0 := by
  have := (nmJ x.name y.name c).symm.trans h
  by_cases e : c = 0
  · exact e
  · rw [thenC_n e] at this; exact this
theorem hnm4 {x y : Node} {c r : Int} (h : ¬ c = 0) (he : x.cmp y = thenC c r) : x.cmp y = thenC (thenC c (cmpS x.name y.name)) 0 := by
  rw [he, thenC_n h, thenC_n h, thenC_n h]
set_option maxRecDepth 100000 in
set_option maxHeartbeats 1000000 in
theorem cmp1_ok (x : Node) : ∀ y : Node, Sm x → Sm y → Pure Tryz.prog 40 [.agg x.svs, .agg y.svs] (.int .i64 fun _ => x.cmp y) := by
  induction x using Node.ind2 with
  | h x ih =>
  intro y hsx hsy
  have hl := Sm.len hsx
  have hl2 := Sm.len hsy
  have he := x.cmp_eq y
  refine pure_of (P := fun _ => Tryz.prog) tabOk Tryz.func40 rfl rfl ?_
  cbv
  refine .call (sign_ok x.op y.op) ?_ rfl rfl ?_
  · (cbv; refine .mk ?_; repeat' (first | exact AllP.nil | refine AllP.cons (by with_reducible rfl) ?_ | refine AllP.cons ?_ ?_))
    all_goals rfl
  cbv
  refine .split (fun h => ?_) (fun h => ?_)
  · rw [thenC_of (LawfulBEq.eq_of_beq h)] at he
    refine .call (sign_ok x.sort y.sort) ?_ rfl rfl ?_
    · (cbv; refine .mk ?_; repeat' (first | exact AllP.nil | refine AllP.cons (by with_reducible rfl) ?_ | refine AllP.cons ?_ ?_))
      all_goals rfl
    cbv
    rw [← thenC_assoc] at he
    refine .split (fun h2 => ?_) (fun h2 => ?_)
    · rw [thenC_of ((nmJ _ _ _).symm.trans (LawfulBEq.eq_of_beq h2))] at he
      refine .call (sign_ok x.num y.num) ?_ rfl rfl ?_
      · (cbv; refine .mk ?_; repeat' (first | exact AllP.nil | refine AllP.cons (by with_reducible rfl) ?_ | refine AllP.cons ?_ ?_))
        all_goals rfl
      cbv
      refine .split (fun h3 => ?_) (fun h3 => ?_)
      · rw [thenC_of (LawfulBEq.eq_of_beq h3)] at he
        refine .call (sign_ok x.kids.length y.kids.length) ?_ rfl rfl ?_
        · (cbv; refine .mk ?_; repeat' (first | exact AllP.nil | refine AllP.cons (by with_reducible rfl) ?_ | refine AllP.cons ?_ ?_))
          all_goals first | rfl | (simp [lenL, Node.rows_length]; done)
        cbv
        obtain ⟨v, hv, hz, hc⟩ := cmpTail (x := x) (y := y) (v := sgn x.kids.length y.kids.length) (fun h => Int.ofNat.inj (sgn_0.1 h)) he
        clear he
        refine .loop (Nat × Int) (fun k => k.1 ≤ x.kids.length ∧ (k.2 = 0 → x.kids.length = y.kids.length) ∧ x.cmp y = thenC k.2 (Node.cmpL (x.kids.drop k.1) (y.kids.drop k.1))) (fun k => [(5, .int .i64 fun _ => k.2), (6, .int .i64 fun _ => (k.1 : Int))]) (fun _ => [(0, .cells 31 x.svs), (1, .cells 31 y.svs)]) 7 (fun k => x.kids.length - k.1) (0, v) ⟨Nat.zero_le _, hz, hc⟩ ?_ ?_
        · (refine le_of ?_; cbv; refine .mk ?_; repeat' (first | exact AllP.nil | refine AllP.cons (by with_reducible rfl) ?_ | refine AllP.cons ?_ ?_))
          all_goals first | rfl | exact hv.symm | exact hv | exact hv.trans (nmJ _ _ _).symm
        clear hz hc hv v
        rintro ⟨k, v⟩ ⟨hk, hz, hc⟩
        dsimp only at hk hz hc
        cbv
        refine .split (fun h1 => ?_) (fun h1 => ?_)
        · have h1 : (v == 0) = true ∧ decide ((k : Int) < ((Node.rows x.kids).length : Int)) = true := (Bool.and_eq_true_iff).1 h1
          have hv0 : v = 0 := LawfulBEq.eq_of_beq h1.1
          have hkl : k < x.kids.length := by have := of_decide_eq_true h1.2; rw [Node.rows_length] at this; omega
          have hll := hz hv0
          obtain ⟨a, ha⟩ := getI hkl
          obtain ⟨b, hb⟩ := getI (hll ▸ hkl)
          rw [hv0, thenC_0, Node.cmpL_drop ha hb] at hc
          refine .need ⟨by simp, by simpa [Node.rows_length] using hkl⟩ ?_
          refine .row _ _ (Node.rows_get ha) (Node.row_toSV _) ?_
          cbv
          refine .need ⟨by simp, by simpa [Node.rows_length] using hll ▸ hkl⟩ ?_
          refine .row _ _ (Node.rows_get hb) (Node.row_toSV _) ?_
          cbv
          refine .callD (ih a (List.mem_of_getElem? ha) b (Sm.kid hsx (List.mem_of_getElem? ha)) (Sm.kid hsy (List.mem_of_getElem? hb))) ?_ rfl rfl (fun _ => rfl) ?_ rfl
          · (cbv; refine .mk ?_; repeat' (first | exact AllP.nil | refine AllP.cons (by with_reducible rfl) ?_ | refine AllP.cons ?_ ?_))
            all_goals rfl
          cbv
          refine .need rfl ?_
          refine .prop ⟨(k + 1, a.cmp b), ⟨hkl, fun _ => hll, hc⟩, by dsimp only; omega, ?_⟩
          (refine le_of ?_; cbv; refine .mk ?_; repeat' (first | exact AllP.nil | refine AllP.cons (by with_reducible rfl) ?_ | refine AllP.cons ?_ ?_))
          all_goals (first | rfl | exact ⟨rfl, rfl⟩ | (refine wrap64_of ?_ ?_ ?_ <;> simp only [natCast_eq] <;> omega))
        · (refine .fin () 99 trivial (le_of ?_); cbv; refine .mk ?_; repeat' (first | exact AllP.nil | refine AllP.cons (by with_reducible rfl) ?_ | refine AllP.cons ?_ ?_))
          all_goals try rfl
          refine hc.trans ?_
          by_cases hv0 : v = 0
          · have h1 : ¬ k < x.kids.length := fun h => by
              have h2 : (v == 0 && decide ((k : Int) < ((Node.rows x.kids).length : Int))) = false := h1
              rw [hv0, Node.rows_length] at h2
              have : ((k : Int) < (x.kids.length : Int)) := by omega
              simp [this] at h2
            have hkl : k = x.kids.length := Nat.le_antisymm hk (Nat.le_of_not_lt h1)
            rw [hkl, List.drop_length, hv0, thenC_0, Node.cmpL]
          · exact thenC_n hv0
      · have h3 := of_nbeq h3
        obtain ⟨v, hv, hz, hc⟩ := cmpTailN h3 he
        clear he
        refine .loop (Nat × Int) (fun k => k.1 ≤ x.kids.length ∧ (k.2 = 0 → x.kids.length = y.kids.length) ∧ x.cmp y = thenC k.2 (Node.cmpL (x.kids.drop k.1) (y.kids.drop k.1))) (fun k => [(5, .int .i64 fun _ => k.2), (6, .int .i64 fun _ => (k.1 : Int))]) (fun _ => [(0, .cells 31 x.svs), (1, .cells 31 y.svs)]) 7 (fun k => x.kids.length - k.1) (0, v) ⟨Nat.zero_le _, hz, hc⟩ ?_ ?_
        · (refine le_of ?_; cbv; refine .mk ?_; repeat' (first | exact AllP.nil | refine AllP.cons (by with_reducible rfl) ?_ | refine AllP.cons ?_ ?_))
          all_goals first | rfl | exact hv.symm | exact hv | exact hv.trans (nmJ _ _ _).symm
        clear hz hc hv v
        rintro ⟨k, v⟩ ⟨hk, hz, hc⟩
        dsimp only at hk hz hc
        cbv
        refine .split (fun h1 => ?_) (fun h1 => ?_)
        · have h1 : (v == 0) = true ∧ decide ((k : Int) < ((Node.rows x.kids).length : Int)) = true := (Bool.and_eq_true_iff).1 h1
          have hv0 : v = 0 := LawfulBEq.eq_of_beq h1.1
          have hkl : k < x.kids.length := by have := of_decide_eq_true h1.2; rw [Node.rows_length] at this; omega
          have hll := hz hv0
          obtain ⟨a, ha⟩ := getI hkl
          obtain ⟨b, hb⟩ := getI (hll ▸ hkl)
          rw [hv0, thenC_0, Node.cmpL_drop ha hb] at hc
          refine .need ⟨by simp, by simpa [Node.rows_length] using hkl⟩ ?_
          refine .row _ _ (Node.rows_get ha) (Node.row_toSV _) ?_
          cbv
          refine .need ⟨by simp, by simpa [Node.rows_length] using hll ▸ hkl⟩ ?_
          refine .row _ _ (Node.rows_get hb) (Node.row_toSV _) ?_
          cbv
          refine .callD (ih a (List.mem_of_getElem? ha) b (Sm.kid hsx (List.mem_of_getElem? ha)) (Sm.kid hsy (List.mem_of_getElem? hb))) ?_ rfl rfl (fun _ => rfl) ?_ rfl
          · (cbv; refine .mk ?_; repeat' (first | exact AllP.nil | refine AllP.cons (by with_reducible rfl) ?_ | refine AllP.cons ?_ ?_))
            all_goals rfl
          cbv
          refine .need rfl ?_
          refine .prop ⟨(k + 1, a.cmp b), ⟨hkl, fun _ => hll, hc⟩, by dsimp only; omega, ?_⟩
          (refine le_of ?_; cbv; refine .mk ?_; repeat' (first | exact AllP.nil | refine AllP.cons (by with_reducible rfl) ?_ | refine AllP.cons ?_ ?_))
          all_goals (first | rfl | exact ⟨rfl, rfl⟩ | (refine wrap64_of ?_ ?_ ?_ <;> simp only [natCast_eq] <;> omega))
        · (refine .fin () 99 trivial (le_of ?_); cbv; refine .mk ?_; repeat' (first | exact AllP.nil | refine AllP.cons (by with_reducible rfl) ?_ | refine AllP.cons ?_ ?_))
          all_goals try rfl
          refine hc.trans ?_
          by_cases hv0 : v = 0
          · have h1 : ¬ k < x.kids.length := fun h => by
              have h2 : (v == 0 && decide ((k : Int) < ((Node.rows x.kids).length : Int))) = false := h1
              rw [hv0, Node.rows_length] at h2
              have : ((k : Int) < (x.kids.length : Int)) := by omega
              simp [this] at h2
            have hkl : k = x.kids.length := Nat.le_antisymm hk (Nat.le_of_not_lt h1)
            rw [hkl, List.drop_length, hv0, thenC_0, Node.cmpL]
          · exact thenC_n hv0
    · have h2 := of_nbeq h2
      refine .split (fun h' => ?_) (fun h' => ?_)
      · exact (nbAbs h2 h').elim
      clear h'
      obtain ⟨v, hv, hz, hc⟩ := cmpTailN (fun e => h2 ((nmJ _ _ _).trans e)) he
      clear he
      refine .loop (Nat × Int) (fun k => k.1 ≤ x.kids.length ∧ (k.2 = 0 → x.kids.length = y.kids.length) ∧ x.cmp y = thenC k.2 (Node.cmpL (x.kids.drop k.1) (y.kids.drop k.1))) (fun k => [(5, .int .i64 fun _ => k.2), (6, .int .i64 fun _ => (k.1 : Int))]) (fun _ => [(0, .cells 31 x.svs), (1, .cells 31 y.svs)]) 7 (fun k => x.kids.length - k.1) (0, v) ⟨Nat.zero_le _, hz, hc⟩ ?_ ?_
      · (refine le_of ?_; cbv; refine .mk ?_; repeat' (first | exact AllP.nil | refine AllP.cons (by with_reducible rfl) ?_ | refine AllP.cons ?_ ?_))
        all_goals first | rfl | exact hv.symm | exact hv | exact hv.trans (nmJ _ _ _).symm
      clear hz hc hv v
      rintro ⟨k, v⟩ ⟨hk, hz, hc⟩
      dsimp only at hk hz hc
      cbv
      refine .split (fun h1 => ?_) (fun h1 => ?_)
      · have h1 : (v == 0) = true ∧ decide ((k : Int) < ((Node.rows x.kids).length : Int)) = true := (Bool.and_eq_true_iff).1 h1
        have hv0 : v = 0 := LawfulBEq.eq_of_beq h1.1
        have hkl : k < x.kids.length := by have := of_decide_eq_true h1.2; rw [Node.rows_length] at this; omega
        have hll := hz hv0
        obtain ⟨a, ha⟩ := getI hkl
        obtain ⟨b, hb⟩ := getI (hll ▸ hkl)
        rw [hv0, thenC_0, Node.cmpL_drop ha hb] at hc
        refine .need ⟨by simp, by simpa [Node.rows_length] using hkl⟩ ?_
        refine .row _ _ (Node.rows_get ha) (Node.row_toSV _) ?_
        cbv
        refine .need ⟨by simp, by simpa [Node.rows_length] using hll ▸ hkl⟩ ?_
        refine .row _ _ (Node.rows_get hb) (Node.row_toSV _) ?_
        cbv
        refine .callD (ih a (List.mem_of_getElem? ha) b (Sm.kid hsx (List.mem_of_getElem? ha)) (Sm.kid hsy (List.mem_of_getElem? hb))) ?_ rfl rfl (fun _ => rfl) ?_ rfl
        · (cbv; refine .mk ?_; repeat' (first | exact AllP.nil | refine AllP.cons (by with_reducible rfl) ?_ | refine AllP.cons ?_ ?_))
          all_goals rfl
        cbv
        refine .need rfl ?_
        refine .prop ⟨(k + 1, a.cmp b), ⟨hkl, fun _ => hll, hc⟩, by dsimp only; omega, ?_⟩
        (refine le_of ?_; cbv; refine .mk ?_; repeat' (first | exact AllP.nil | refine AllP.cons (by with_reducible rfl) ?_ | refine AllP.cons ?_ ?_))
        all_goals (first | rfl | exact ⟨rfl, rfl⟩ | (refine wrap64_of ?_ ?_ ?_ <;> simp only [natCast_eq] <;> omega))
      · (refine .fin () 99 trivial (le_of ?_); cbv; refine .mk ?_; repeat' (first | exact AllP.nil | refine AllP.cons (by with_reducible rfl) ?_ | refine AllP.cons ?_ ?_))
        all_goals try rfl
        refine hc.trans ?_
        by_cases hv0 : v = 0
        · have h1 : ¬ k < x.kids.length := fun h => by
            have h2 : (v == 0 && decide ((k : Int) < ((Node.rows x.kids).length : Int))) = false := h1
            rw [hv0, Node.rows_length] at h2
            have : ((k : Int) < (x.kids.length : Int)) := by omega
            simp [this] at h2
          have hkl : k = x.kids.length := Nat.le_antisymm hk (Nat.le_of_not_lt h1)
          rw [hkl, List.drop_length, hv0, thenC_0, Node.cmpL]
        · exact thenC_n hv0
  · have h2 := of_nbeq h
    have h4 : ∀ {d}, (nmV x y (sgn x.op y.op) = d) → d = 0 → False := fun e e' => h2 (nmV_0 (e.trans e'))
    refine .split (fun h' => ?_) (fun h' => ?_)
    · exact (h4 rfl (LawfulBEq.eq_of_beq h')).elim
    clear h'
    refine .split (fun h' => ?_) (fun h' => ?_)
    · exact (h4 rfl (LawfulBEq.eq_of_beq h')).elim
    clear h'
    have hc4 := hnm4 h2 he
    obtain ⟨v, hv, hz, hc⟩ := cmpTailN (v := thenC (sgn x.op y.op) (cmpS x.name y.name)) (r := 0) (fun e => h4 (nmJ _ _ _) e) hc4
    clear he
    refine .loop (Nat × Int) (fun k => k.1 ≤ x.kids.length ∧ (k.2 = 0 → x.kids.length = y.kids.length) ∧ x.cmp y = thenC k.2 (Node.cmpL (x.kids.drop k.1) (y.kids.drop k.1))) (fun k => [(5, .int .i64 fun _ => k.2), (6, .int .i64 fun _ => (k.1 : Int))]) (fun _ => [(0, .cells 31 x.svs), (1, .cells 31 y.svs)]) 7 (fun k => x.kids.length - k.1) (0, v) ⟨Nat.zero_le _, hz, hc⟩ ?_ ?_
    · (refine le_of ?_; cbv; refine .mk ?_; repeat' (first | exact AllP.nil | refine AllP.cons (by with_reducible rfl) ?_ | refine AllP.cons ?_ ?_))
      all_goals first | rfl | exact hv.symm | exact hv | exact hv.trans (nmJ _ _ _).symm
    clear hz hc hv v
    rintro ⟨k, v⟩ ⟨hk, hz, hc⟩
    dsimp only at hk hz hc
    cbv
    refine .split (fun h1 => ?_) (fun h1 => ?_)
    · have h1 : (v == 0) = true ∧ decide ((k : Int) < ((Node.rows x.kids).length : Int)) = true := (Bool.and_eq_true_iff).1 h1
      have hv0 : v = 0 := LawfulBEq.eq_of_beq h1.1
      have hkl : k < x.kids.length := by have := of_decide_eq_true h1.2; rw [Node.rows_length] at this; omega
      have hll := hz hv0
      obtain ⟨a, ha⟩ := getI hkl
      obtain ⟨b, hb⟩ := getI (hll ▸ hkl)
      rw [hv0, thenC_0, Node.cmpL_drop ha hb] at hc
      refine .need ⟨by simp, by simpa [Node.rows_length] using hkl⟩ ?_
      refine .row _ _ (Node.rows_get ha) (Node.row_toSV _) ?_
      cbv
      refine .need ⟨by simp, by simpa [Node.rows_length] using hll ▸ hkl⟩ ?_
      refine .row _ _ (Node.rows_get hb) (Node.row_toSV _) ?_
      cbv
      refine .callD (ih a (List.mem_of_getElem? ha) b (Sm.kid hsx (List.mem_of_getElem? ha)) (Sm.kid hsy (List.mem_of_getElem? hb))) ?_ rfl rfl (fun _ => rfl) ?_ rfl
      · (cbv; refine .mk ?_; repeat' (first | exact AllP.nil | refine AllP.cons (by with_reducible rfl) ?_ | refine AllP.cons ?_ ?_))
        all_goals rfl
      cbv
      refine .need rfl ?_
      refine .prop ⟨(k + 1, a.cmp b), ⟨hkl, fun _ => hll, hc⟩, by dsimp only; omega, ?_⟩
      (refine le_of ?_; cbv; refine .mk ?_; repeat' (first | exact AllP.nil | refine AllP.cons (by with_reducible rfl) ?_ | refine AllP.cons ?_ ?_))
      all_goals (first | rfl | exact ⟨rfl, rfl⟩ | (refine wrap64_of ?_ ?_ ?_ <;> simp only [natCast_eq] <;> omega))
    · (refine .fin () 99 trivial (le_of ?_); cbv; refine .mk ?_; repeat' (first | exact AllP.nil | refine AllP.cons (by with_reducible rfl) ?_ | refine AllP.cons ?_ ?_))
      all_goals try rfl
      refine hc.trans ?_
      by_cases hv0 : v = 0
      · have h1 : ¬ k < x.kids.length := fun h => by
          have h2 : (v == 0 && decide ((k : Int) < ((Node.rows x.kids).length : Int))) = false := h1
          rw [hv0, Node.rows_length] at h2
          have : ((k : Int) < (x.kids.length : Int)) := by omega
          simp [this] at h2
        have hkl : k = x.kids.length := Nat.le_antisymm hk (Nat.le_of_not_lt h1)
        rw [hkl, List.drop_length, hv0, thenC_0, Node.cmpL]
      · exact thenC_n hv0
end Go.Qu
