/- slices.Insert of one element. -/
import Derived.Test.YtoaifhhfcokipaaGreatDoorXj
import Derived.Test.YtoaifhhfcokipaaGreatDoorXc
import Derived.Lib.Overlaps
namespace Go.Qu
open Go.Eng Go.Proofs
def insAt {α : Type} (l : List α) (i : Nat) (x : α) : List α := l.take i ++ x :: l.drop i
theorem tcp {p : Prop} (h : p := by simp only [natCast_eq, lenL, cpy, cpyN, List.length_append, List.length_take, List.length_drop, List.length_replicate, List.length_cons, List.length_nil, Int.sub_zero, Int.zero_add, Int.add_zero, Nat.zero_add, e1, e2, e3, true_and] <;> omega) : p := h
theorem cpy_val {a b ln : Unit → Int} {xl l : Unit → List (List DV)} (an m : Nat) (ha : (a ()).toNat = an) (hm : cpyN a b ln = m) : cpy a b ln xl l = (l ()).take an ++ ((xl ()).take m ++ (l ()).drop (an + m)) := by
  subst ha hm; rfl
theorem ins_shift {α : Type} (L : List α) (x : α) (i : Nat) (h : i < L.length) : insAt L i x =
    (L.take (i + 1) ++ (((L.take (L.length + 1)).drop i).take (L.length - i) ++ L.drop (i + 1 + (L.length - i)))).take i ++ ([x].take 1 ++
      (L.take (i + 1) ++ (((L.take (L.length + 1)).drop i).take (L.length - i) ++ L.drop (i + 1 + (L.length - i)))).drop (i + 1)) := by
  apply List.ext_getElem?
  intro n
  unfold insAt
  grind
theorem ins_grow {α : Type} (L : List α) (x : α) (z : α) (i k : Nat) (h : i < L.length) (hk : k = L.length + 1 - i) : insAt L i x =
    (((L.take i).drop 0 ++ List.replicate k z).take i ++ ([x].take 1 ++ ((L.take i).drop 0 ++ List.replicate k z).drop (i + 1))).take (i + 1) ++ (((L.take L.length).drop i).take (L.length - i) ++
      (((L.take i).drop 0 ++ List.replicate k z).take i ++ ([x].take 1 ++ ((L.take i).drop 0 ++ List.replicate k z).drop (i + 1))).drop (i + 1 + (L.length - i))) := by
  apply List.ext_getElem?
  intro n
  unfold insAt
  grind
/-- the model's entry for overlaps, at two own rows -/
theorem overlaps_ok {P : Program} {f T e B : Nat} {fn : Func} (hf : P.funcs[f]? = some fn) (hname : (fn.name == "runtime.NumGoroutine") = false) (hb : fn.body.isNone = true) (hn : Extern.findNext fn = none)
    (he : Extern.find fn = some (Extern.SlicesOverlaps.overlaps #[T, T] #[B])) (hu : P.underlying T = some (.slice e)) {sz : Nat} (hz : ∀ w, (sizeOf e).run P w = .ok sz w) {j k Tj Tk : Nat} (hjk : k ≠ j) {own : Eng.Own} {l : Unit → List (List DV)} {c : Unit → Int} {m : Unit → List (List DV)} {a b : Unit → Int}
    (hj : lookB own j = some (.full Tj sz l c)) (hk : lookB own k = some (.arr Tk sz m)) : ExtSpec P f [.os k, .ov j sz a b] own (.bool false) := by
  intro w β S vals hs hblk hinj
  simp only [SReps] at hs
  obtain ⟨v, vs, rfl, h1, u, us, rfl, h2, rfl⟩ := hs
  rw [SRep] at h1
  rw [SRep] at h2
  refine ⟨.bool false, ?_, by rw [SRep]⟩
  rw [show [v, u].toArray = #[v, u] from rfl, run_callFunc_extern hf hname hb hn he]
  have unf : ∀ (x y : Option Addr) (la ca lb cb : Nat), (x = none ∨ y = none ∨ la = 0 ∨ lb = 0 ∨ sz = 0) → (Extern.SlicesOverlaps.overlaps #[T, T] #[B] #[.slice x la ca, .slice y lb cb]).run P w = .ok (.bool false) w := by
    intro x y la ca lb cb h0
    change Sem.run P (α := Value) (do
      let some t := (#[T, T] : Array TypeId)[0]? | stuck "slices.overlaps: no parameter types"
      let .slice elem ← underlying t | stuck "slices.overlaps: slice type expected"
      let size ← sizeOf elem
      match x, y with
      | some a, some b =>
        if la = 0 ∨ lb = 0 ∨ size = 0 then pure (Value.bool false)
        else if a.block != b.block && (← frozen a) && (← frozen b) then unsupported .addressObserved
        else do
          if a.block != b.block then do
            noView a; noView b
            if ← mayBeOne a b then return Value.bool ((← choose (.extern "sameAddr.stringBytes" 2)) == 1)
          pure (Value.bool (a.block == b.block && a.off < b.off + lb * size && b.off < a.off + la * size))
      | _, _ => pure (Value.bool false)) w = _
    cases x with
    | none => simp [run_underlying hu, hz]
    | some x => cases y with
      | none => simp [run_underlying hu, hz]
      | some y =>
        have h0 : la = 0 ∨ lb = 0 ∨ sz = 0 := by simpa using h0
        simp [run_underlying hu, hz, h0]
  have fin : (Extern.SlicesOverlaps.overlaps #[T, T] #[B] #[v, u]).run P w = .ok (.bool false) w := by
    obtain ⟨xs, o1, _⟩ := hblk k _ hk
    rcases o1.2 with ⟨q1, _⟩ | ⟨gk, ck, ck', q1, _, q3, q4, q5, q6, q7⟩
    · rcases h2.2.2 with ⟨g, nn, cap, off, d1, d2, d3, d4, d5⟩ | ⟨d1, d2, d3⟩
      · rw [h1.1, q1, d5]; exact unf _ _ _ _ _ _ (.inl rfl)
      · rw [h1.1, q1, d3]; exact unf _ _ _ _ _ _ (.inl rfl)
    · rcases h2.2.2 with ⟨g, nn, cap, off, d1, d2, d3, d4, d5⟩ | ⟨d1, d2, d3⟩
      · rw [h1.1, q1, d5]
        by_cases h0 : (m ()).length = 0 ∨ (b () - a ()).toNat = 0 ∨ sz = 0
        · exact unf _ _ _ _ _ _ (.inr (.inr h0))
        · have hne : gk ≠ g := fun e => hjk (hinj k j _ _ gk hk hj (by rw [q1]; rfl) (by rw [d1, e]; rfl))
          rcases hblk j _ hj with ⟨p1, _⟩ | ⟨g', n0, cap', cur, p1, p2, p3, p4, p5, p6, p7, p8⟩
          · rw [p1] at d1; cases d1
          · rw [p1] at d1
            cases d1
            have hsz : 0 < sz := Nat.pos_of_ne_zero fun e => h0 (.inr (.inr e))
            have hcap : 0 < cap := by
              have := h2.1
              have : ¬ (b () - a ()).toNat = 0 := fun e => h0 (.inr (.inl e))
              omega
            exact Lib.run_overlaps_apart w T B e hu sz hz ⟨gk, 0, none⟩ ⟨g, off, none⟩ _ _ _ _ hne Tk Tj ck'.size cur.size (by simp [World.shape?, q3]) (by simp [World.shape?, p2]) (by rw [p6]; exact Nat.ne_of_gt (Nat.mul_pos hcap hsz)) (by simp [World.frozen?, q3]) (by simp [World.frozen?, q3])
      · rw [h1.1, q1, d3]; exact unf _ _ _ _ _ _ (.inr (.inl rfl))
  rw [fin]
  rfl
set_option maxRecDepth 100000 in
theorem insDecl_ok (L : List (List DV)) (x : List DV) (i : Nat) (hi : i ≤ L.length) (hL : L.length < 1073741824) :
    Eng.Spec Tryz.prog 92 [.os 0, .int .i64 fun _ => (i : Int), .os 1] [(0, .arr 42 2 fun _ => L), (1, .arr 42 2 fun _ => [x])] 2 (fun _ : Unit => True) (fun _ => .os 2) (fun _ => [(2, .arr 42 2 fun _ => insAt L i x)]) := by
  refine spec_open (P := fun _ => Tryz.prog) tabOk Tryz.func92 rfl rfl rfl fun cap hcap => ?_
  have e1 : IntKind.i64.wrap ((L.length : Int) + ((1 : Nat) : Int)) = (L.length : Int) + 1 := by rw [IntKind.wrap_i64]; omega
  have e2 : IntKind.i64.wrap ((L.length : Int) + 1 - (i : Int)) = (L.length : Int) + 1 - (i : Int) := by rw [IntKind.wrap_i64]; omega
  have e3 : IntKind.i64.wrap ((i : Int) + ((1 : Nat) : Int)) = (i : Int) + 1 := by rw [IntKind.wrap_i64]; omega
  cbv
  refine .need ?_ ?_
  · exact tcp
  refine .split (fun h => ?_) (fun _ => ?_)
  · simp [lenL] at h
  refine .split (fun h => ?_) (fun h => ?_)
  · have h : i = L.length := by simp only [natCast_eq, Int.sub_zero] at h; have := beq_iff_eq.1 h; omega
    refine .need ?_ ?_
    · exact tcp
    refine .need ?_ ?_
    · exact tcp
    (refine .fin () 99 trivial (le_of ?_); cbv; refine .mk ?_; repeat' (first | exact AllP.nil | refine AllP.cons (by with_reducible rfl) ?_ | refine AllP.cons ?_ ?_))
    all_goals try rfl
    show insAt L i x = List.take ((L.length : Int)).toNat L ++ [x]
    rw [h, insAt, Int.toNat_natCast, List.drop_length]
  have h0 : i < L.length := by simp only [natCast_eq, Int.sub_zero] at h; have := beq_eq_false_iff_ne.1 h; omega
  refine .split (fun h => ?_) (fun h => ?_)
  · have h : cap < L.length + 1 := by simp only [natCast_eq, lenL, Int.sub_zero, List.length_cons, List.length_nil, Nat.zero_add, e1] at h; have := of_decide_eq_true h; omega
    refine .need ?_ ?_
    · exact tcp
    refine .need ?_ ?_
    · exact tcp
    refine .need ?_ ?_
    · exact tcp
    refine .need ?_ ?_
    · exact tcp
    refine .need ?_ ?_
    · exact tcp
    refine .need ?_ ?_
    · exact tcp
    refine .need ?_ ?_
    · exact tcp
    refine .need rfl ?_
    (refine .fin () 99 trivial (le_of ?_); cbv; refine .mk ?_; repeat' (first | exact AllP.nil | refine AllP.cons (by with_reducible rfl) ?_ | refine AllP.cons ?_ ?_))
    all_goals try rfl
    rw [cpy_val (i + 1) (L.length - i) (by exact tcp) (by exact tcp)]
    simp only [Int.sub_zero, Int.zero_add]
    rw [cpy_val i 1 (by exact tcp) (by exact tcp)]
    rw [show ((L.length : Int)).toNat = L.length from Int.toNat_natCast _, show ((i : Int)).toNat = i from Int.toNat_natCast _]
    exact ins_grow L x _ i _ h0 (by exact tcp)
  · have h : L.length + 1 ≤ cap := by simp only [natCast_eq, lenL, Int.sub_zero, List.length_cons, List.length_nil, Nat.zero_add, e1] at h; have := of_decide_eq_false h; omega
    refine .need ?_ ?_
    · exact tcp
    refine .need ?_ ?_
    · exact tcp
    refine .ext (res := .bool false) ?_ rfl ?_
    · exact overlaps_ok (f := 116) (T := 28) (e := 42) (B := 4) (fn := Tryz.f116) Tryz.func116 (by kernel_rfl) (by kernel_rfl) (by kernel_rfl) (by kernel_rfl) (by kernel_rfl) (by intro w; kernel_rfl) (by decide) rfl rfl
    cbv
    refine .need ?_ ?_
    · exact tcp
    refine .need ?_ ?_
    · exact tcp
    refine .need ?_ ?_
    · exact tcp
    refine .need rfl ?_
    refine .need ?_ ?_
    · exact tcp
    refine .need ?_ ?_
    · exact tcp
    refine .done ⟨(), 4, trivial, Le.trans (Le.closed (j := 0) (T := 42) (sz := 2) rfl rfl ?_) ?_⟩
    · exact tcp
    · (refine le_of ?_; cbv; refine .mk ?_; repeat' (first | exact AllP.nil | refine AllP.cons (by with_reducible rfl) ?_ | refine AllP.cons ?_ ?_))
      all_goals try rfl
      rw [cpy_val i 1 (by exact tcp) (by exact tcp)]
      simp only [natCast_eq, lenL, Int.sub_zero, Int.zero_add, Int.add_zero, List.length_cons, List.length_nil, Nat.zero_add, e1, e3]
      rw [cpy_val (i + 1) (L.length - i) (by first | omega | exact tcp) (by first | omega | exact tcp)]
      rw [show ((i : Int)).toNat = i from Int.toNat_natCast _, show ((L.length : Int) + 1).toNat = L.length + 1 by omega]
      exact ins_shift L x i h0
set_option maxRecDepth 100000 in
theorem insNode_ok (L : List (List DV)) (x : List DV) (i : Nat) (hi : i ≤ L.length) (hL : L.length < 1073741824) :
    Eng.Spec Tryz.prog 38 [.os 0, .int .i64 fun _ => (i : Int), .os 1] [(0, .arr 31 5 fun _ => L), (1, .arr 31 5 fun _ => [x])] 2 (fun _ : Unit => True) (fun _ => .os 2) (fun _ => [(2, .arr 31 5 fun _ => insAt L i x)]) := by
  refine spec_open (P := fun _ => Tryz.prog) tabOk Tryz.func38 rfl rfl rfl fun cap hcap => ?_
  have e1 : IntKind.i64.wrap ((L.length : Int) + ((1 : Nat) : Int)) = (L.length : Int) + 1 := by rw [IntKind.wrap_i64]; omega
  have e2 : IntKind.i64.wrap ((L.length : Int) + 1 - (i : Int)) = (L.length : Int) + 1 - (i : Int) := by rw [IntKind.wrap_i64]; omega
  have e3 : IntKind.i64.wrap ((i : Int) + ((1 : Nat) : Int)) = (i : Int) + 1 := by rw [IntKind.wrap_i64]; omega
  cbv
  refine .need ?_ ?_
  · exact tcp
  refine .split (fun h => ?_) (fun _ => ?_)
  · simp [lenL] at h
  refine .split (fun h => ?_) (fun h => ?_)
  · have h : i = L.length := by simp only [natCast_eq, Int.sub_zero] at h; have := beq_iff_eq.1 h; omega
    refine .need ?_ ?_
    · exact tcp
    refine .need ?_ ?_
    · exact tcp
    (refine .fin () 99 trivial (le_of ?_); cbv; refine .mk ?_; repeat' (first | exact AllP.nil | refine AllP.cons (by with_reducible rfl) ?_ | refine AllP.cons ?_ ?_))
    all_goals try rfl
    show insAt L i x = List.take ((L.length : Int)).toNat L ++ [x]
    rw [h, insAt, Int.toNat_natCast, List.drop_length]
  have h0 : i < L.length := by simp only [natCast_eq, Int.sub_zero] at h; have := beq_eq_false_iff_ne.1 h; omega
  refine .split (fun h => ?_) (fun h => ?_)
  · have h : cap < L.length + 1 := by simp only [natCast_eq, lenL, Int.sub_zero, List.length_cons, List.length_nil, Nat.zero_add, e1] at h; have := of_decide_eq_true h; omega
    refine .need ?_ ?_
    · exact tcp
    refine .need ?_ ?_
    · exact tcp
    refine .need ?_ ?_
    · exact tcp
    refine .need ?_ ?_
    · exact tcp
    refine .need ?_ ?_
    · exact tcp
    refine .need ?_ ?_
    · exact tcp
    refine .need ?_ ?_
    · exact tcp
    refine .need rfl ?_
    (refine .fin () 99 trivial (le_of ?_); cbv; refine .mk ?_; repeat' (first | exact AllP.nil | refine AllP.cons (by with_reducible rfl) ?_ | refine AllP.cons ?_ ?_))
    all_goals try rfl
    rw [cpy_val (i + 1) (L.length - i) (by exact tcp) (by exact tcp)]
    simp only [Int.sub_zero, Int.zero_add]
    rw [cpy_val i 1 (by exact tcp) (by exact tcp)]
    rw [show ((L.length : Int)).toNat = L.length from Int.toNat_natCast _, show ((i : Int)).toNat = i from Int.toNat_natCast _]
    exact ins_grow L x _ i _ h0 (by exact tcp)
  · have h : L.length + 1 ≤ cap := by simp only [natCast_eq, lenL, Int.sub_zero, List.length_cons, List.length_nil, Nat.zero_add, e1] at h; have := of_decide_eq_false h; omega
    refine .need ?_ ?_
    · exact tcp
    refine .need ?_ ?_
    · exact tcp
    refine .ext (res := .bool false) ?_ rfl ?_
    · exact overlaps_ok (f := 69) (T := 29) (e := 31) (B := 4) (fn := Tryz.f69) Tryz.func69 (by kernel_rfl) (by kernel_rfl) (by kernel_rfl) (by kernel_rfl) (by kernel_rfl) (by intro w; kernel_rfl) (by decide) rfl rfl
    cbv
    refine .need ?_ ?_
    · exact tcp
    refine .need ?_ ?_
    · exact tcp
    refine .need ?_ ?_
    · exact tcp
    refine .need rfl ?_
    refine .need ?_ ?_
    · exact tcp
    refine .need ?_ ?_
    · exact tcp
    refine .done ⟨(), 4, trivial, Le.trans (Le.closed (j := 0) (T := 31) (sz := 5) rfl rfl ?_) ?_⟩
    · exact tcp
    · (refine le_of ?_; cbv; refine .mk ?_; repeat' (first | exact AllP.nil | refine AllP.cons (by with_reducible rfl) ?_ | refine AllP.cons ?_ ?_))
      all_goals try rfl
      rw [cpy_val i 1 (by exact tcp) (by exact tcp)]
      simp only [natCast_eq, lenL, Int.sub_zero, Int.zero_add, Int.add_zero, List.length_cons, List.length_nil, Nat.zero_add, e1, e3]
      rw [cpy_val (i + 1) (L.length - i) (by first | omega | exact tcp) (by first | omega | exact tcp)]
      rw [show ((i : Int)).toNat = i from Int.toNat_natCast _, show ((L.length : Int) + 1).toNat = L.length + 1 by omega]
      exact ins_shift L x i h0
end Go.Qu
