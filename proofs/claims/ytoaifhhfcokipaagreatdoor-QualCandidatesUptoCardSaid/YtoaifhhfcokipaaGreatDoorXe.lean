/- The iterator of package logic: a node and all within it, in preorder.  Small functions of packages logic and quantaleref01. IndexFunc and ContainsFunc over declarations. -/
import Derived.Test.YtoaifhhfcokipaaGreatDoorXc
import Derived.Test.YtoaifhhfcokipaaGreatDoorXd
namespace Go.Qu
open Go.Eng Go.Proofs
theorem natCast_eq (n : Nat) : @NatCast.natCast Int instNatCastInt n = (n : Int) := rfl
theorem wrap64_of {a b : Int} (e : b = a) (h : -9223372036854775808 ≤ a) (k : a < 9223372036854775808) : b = IntKind.i64.wrap a := by rw [IntKind.wrap_i64, e]; omega
def yv (l : Nat) : Value := .func (.yield l) #[] #[]
/-- a list of slots -/
def bl (l : List (Nat × SV)) : List SV := setTs (List.replicate 23 .any) l
def VisitOK (x : Node) : Prop := x.size < 1152921504606846976 → ∀ (l : Nat) (S0 : Snap) (B : Nat) (J : Nat → (Nat → Prop) → World → Prop) (Jx : World → Prop) (i0 : Nat), It Tryz.prog l S0 B J Jx (Node.its x.pre) i0 →
  ∀ (S : Snap) (u : Value) (w : World) (Z : Nat → Prop), SRep (fun _ => undef) S (.agg x.svs) u → (∀ b o, S b = some o → w.heap[b]? = some o) → Deep S0 S B Z → B ≤ w.heap.size → J i0 Z w →
    Calls Tryz.prog 90 #[u, yv l] w (ItPost J Jx Z w (i0 + x.pre.length))
set_option maxRecDepth 100000 in
set_option maxHeartbeats 2000000 in
theorem visit_ok (x : Node) : VisitOK x := by
  induction x using Node.ind with
  | h o s n m ks ih =>
  generalize hx : Node.mk o s n m ks = x
  intro hsz l S0 B J Jx i0 hit S u w Z hu hsat hdeep hB hJ
  refine (callsIn_wide (n := 5)).1 (callsIn_of_wp (fn := Tryz.f90) Tryz.func90 rfl trivial ?_)
  have p0 : Pt [.agg x.svs, .raw (yv l), .any, .any, .any, .any, .any, .any, .any, .any, .any, .any, .any, .any, .any, .any, .any, .any, .any, .any, .any, .any, .any]
      { tmps := #[u, yv l] ++ Array.replicate (Tryz.f90.ntmps - (#[u, yv l] : Array Value).size) undef, defers := [] } w S := by
    refine Pt.start (args := [.agg x.svs, .raw (yv l)]) (vals := [u, yv l]) (n := 23) (m := 21) ?_ rfl hsat rfl
    rw [SReps]
    refine ⟨_, _, rfl, hu, ?_⟩
    rw [SReps]
    refine ⟨_, _, rfl, ?_, ?_⟩
    · rw [SRep]
    · rw [SReps]
  generalize ({ tmps := #[u, yv l] ++ Array.replicate (Tryz.f90.ntmps - (#[u, yv l] : Array Value).size) undef, defers := [] } : Act) = a0 at p0 ⊢
  refine wpIn_seq ?_
  refine seg tabOk p0 (e := .normal) (t1 := [.agg x.svs, .raw (yv l), .op 0 0, .any, .bool false, .any, .any, .any, .any, .any, .any, .any, .any, .any, .any, .any, .any, .any, .any, .any, .any, .any, .any]) (own1 := [(0, .cells 31 x.svs)]) (n1 := 1) ?hh rfl (t2 := [.agg x.svs, .raw (yv l), .dp 5 (fun _ => [x.dvs]) (fun _ => 0) 0, .any, .bool false, .any, .any, .any, .any, .any, .any, .any, .any, .any, .any, .any, .any, .any, .any, .any, .any, .any, .any]) rfl rfl ?_
  case hh => cbv; exact .done ⟨rfl, rfl⟩
  intro a1 w1 S1 p1 s1 n1 g1
  have hJ1 := hit.grow _ _ _ _ hJ g1
  have hB1 : B ≤ w1.heap.size := Nat.le_trans hB g1.size
  have hdeep1 : Deep S0 S1 B Z := hdeep.more s1 n1 hB (hit.fact _ _ _ hJ).2
  show Code.wpIn _ _ _ _ _ _ _
  refine wpIn_seq ?_
  refine wpIn_seq ?_
  refine wpIn_region_list ?_
  refine segOps (os := [_, _]) (rest := [_, _]) tabOk p1 (t1 := [.agg x.svs, .raw (yv l), .dp 5 (fun _ => [x.dvs]) (fun _ => 0) 0, .any, .bool false, .any, .any, .raw (yv l), .agg x.svs, .any, .any, .any, .any, .any, .any, .any, .any, .any, .any, .any, .any, .any, .any]) (own1 := []) (n1 := 0) ?hh1 rfl (t2 := [.agg x.svs, .raw (yv l), .dp 5 (fun _ => [x.dvs]) (fun _ => 0) 0, .any, .bool false, .any, .any, .raw (yv l), .agg x.svs, .any, .any, .any, .any, .any, .any, .any, .any, .any, .any, .any, .any, .any, .any]) rfl rfl ?_
  case hh1 => cbv; refine .row x.dvs x.svs rfl rfl ?_; cbv; exact .done ⟨rfl, rfl⟩
  intro a2 w2 S2 p2 s2 n2 g2
  have hJ2 := hit.grow _ _ _ _ hJ1 g2
  have hB2 : B ≤ w2.heap.size := Nat.le_trans hB1 g2.size
  have hdeep2 : Deep S0 S2 B Z := hdeep1.more s2 n2 hB1 (hit.fact _ _ _ hJ1).2
  refine wpListIn_plain rfl fun K hK => ?_
  have h7 : a2.eval (.tmp 7) = yv l := by have := p2.eval (i := 7); rw [show nth .any _ 7 = SV.raw (yv l) from rfl, SRep] at this; exact this
  have h8 : SRep (fun _ => undef) S2 (.agg x.svs) (a2.eval (.tmp 8)) := p2.eval (i := 8)
  have hround := hit.round 0 [.agg x.svs] Z w2 [a2.eval (.tmp 8)] S2 (by rw [Node.pre_eq]; rfl) hJ2 hdeep2.sub (fun b o h => ⟨p2.sat b o h, hdeep2.new b o h⟩) (by rw [SReps]; exact ⟨_, _, rfl, h8, by rw [SReps]⟩)
  refine yield_op rfl rfl rfl h7 hround fun e w3 hr => ?_
  have p3 : ∀ w', (∀ b o, S2 b = some o → w'.heap[b]? = some o) → ∀ b : Bool, Pt [.agg x.svs, .raw (yv l), .dp 5 (fun _ => [x.dvs]) (fun _ => 0) 0, .any, .bool false, .any, .any, .raw (yv l), .agg x.svs, .bool b, .any, .any, .any, .any, .any, .any, .any, .any, .any, .any, .any, .any, .any] (a2.put (some 9) (.bool b)) w' S2 :=
    fun w' hw b => (p2.world hw).put (d := 9) (v := .bool b) (by rw [SRep]) rfl
  rcases hr with ⟨Z', rfl, hJ3, hk3, hf3⟩ | ⟨rfl, hx3⟩
  · refine ⟨_, rfl, hK _ _ ?_⟩
    have hk3' : Keep Z w w3 := ((Keep.of_grow (g1.trans g2)).trans hk3 (fun b h => .inl h))
    obtain ⟨hdeep3, hsat3⟩ := hdeep2.keep p2.sat hk3 (hit.fact _ _ _ hJ3).1 hf3
    have p3 := p3 w3 hsat3 true
    have hB3 : B ≤ w3.heap.size := Nat.le_trans hB2 hk3.size
    have hf3' : ∀ b, Z' b → Z b ∨ w.heap.size ≤ b := fun b h => (hf3 b h).imp id (fun h => Nat.le_trans (g1.trans g2).size h)
    have q0 : Pt (bl [(1, .raw (yv l)), (2, .dp 5 (fun _ => [x.dvs]) (fun _ => 0) 0), (9, .bool true)]) (a2.put (some 9) (.bool true)) w3 S2 := by
      refine p3.weak ?_ rfl
      cbv
      refine .mk ?_
      repeat' (first | exact AllP.nil | refine AllP.cons rfl ?_)
    refine segOps (os := [_]) (rest := []) tabOk q0 (t1 := bl [(1, .raw (yv l)), (2, .dp 5 (fun _ => [x.dvs]) (fun _ => 0) 0), (9, .bool true), (10, .bool false)]) (own1 := []) (n1 := 0) ?hh4 rfl (t2 := bl [(1, .raw (yv l)), (2, .dp 5 (fun _ => [x.dvs]) (fun _ => 0) 0), (9, .bool true), (10, .bool false)]) rfl rfl ?_
    case hh4 => cbv; exact .done ⟨rfl, rfl⟩
    intro a4 w4 S4 p4 s4 n4 g4
    have hJ4 := hit.grow _ _ _ _ hJ3 g4
    have hdeep4 : Deep S0 S4 B Z' := hdeep3.more s4 n4 hB3 (hit.fact _ _ _ hJ3).2
    have hB4 : B ≤ w4.heap.size := Nat.le_trans hB3 g4.size
    show Code.wpIn _ _ _ _ _ _ _
    refine wpIn_cond_false (by have := p4.eval (i := 10); rw [show nth .any _ 10 = SV.bool false from rfl, SRep] at this; exact this) ?_
    refine wpIn_skip ?_
    show Code.wpIn _ _ _ _ _ _ _
    refine wpIn_seq ?_
    refine wpIn_seq ?_
    refine seg tabOk p4 (e := .normal) (t1 := bl [(1, .raw (yv l)), (2, .dp 5 (fun _ => [x.dvs]) (fun _ => 0) 0), (9, .bool true), (10, .bool false), (11, .dp 5 (fun _ => [x.dvs]) (fun _ => 0) 4), (12, .ds 5 fun _ => Node.rows x.kids), (13, .int .i64 fun _ => ((Node.rows x.kids).length : Int)), (14, .int .i64 fun _ => 0)]) (own1 := []) (n1 := 0) ?hh5 rfl
      (t2 := bl [(1, .raw (yv l)), (2, .dp 5 (fun _ => [x.dvs]) (fun _ => 0) 0), (9, .bool true), (10, .bool false), (11, .dp 5 (fun _ => [x.dvs]) (fun _ => 0) 4), (12, .ds 5 fun _ => Node.rows x.kids), (13, .int .i64 fun _ => ((Node.rows x.kids).length : Int)), (14, .int .i64 fun _ => 0)]) rfl rfl ?_
    case hh5 => cbv; refine .row x.dvs x.svs rfl rfl ?_; cbv; exact .done ⟨rfl, rfl⟩
    intro a5 w5 S5 p5 s5 n5 g5
    have hJ5 := hit.grow _ _ _ _ hJ4 g5
    have hdeep5 : Deep S0 S5 B Z' := hdeep4.more s5 n5 hB4 (hit.fact _ _ _ hJ4).2
    have hB5 : B ≤ w5.heap.size := Nat.le_trans hB4 g5.size
    show Code.wpIn _ _ _ _ _ _ _
    refine wpIn_block ?_
    obtain ⟨Lk, hLk⟩ : ∃ Lk : Nat → List SV, Lk = fun k : Nat => bl [(1, .raw (yv l)), (12, .ds 5 fun _ => Node.rows x.kids), (13, .int .i64 fun _ => ((Node.rows x.kids).length : Int)), (14, .int .i64 fun _ => (k : Int))] := ⟨_, rfl⟩
    refine wpIn_loop_least (fun m a w' => ∃ k Zc Sc, k ≤ x.kids.length ∧ m = x.kids.length - k ∧ Pt (Lk k) a w' Sc ∧ Deep S0 Sc B Zc ∧ B ≤ w'.heap.size ∧ J (i0 + 1 + (Node.pres (x.kids.take k)).length) Zc w' ∧ Keep Z w w' ∧ ∀ b, Zc b → Z b ∨ w.heap.size ≤ b) x.kids.length
      ⟨0, Z', S5, Nat.zero_le _, rfl, ?_, hdeep5, hB5, ?_, hk3'.trans (Keep.of_grow (g4.trans g5)) hf3', hf3'⟩ ?_
    · rw [hLk]
      refine p5.weak ?_ rfl
      cbv
      refine .mk ?_
      repeat' (first | exact AllP.nil | refine AllP.cons rfl ?_)
    · rw [List.take_zero]
      exact hJ5
    rintro mm ak wk ⟨k, Zc, Sc, hk, rfl, pk, hdeepk, hBk, hJk, hkeep, hfr⟩
    rw [hLk] at pk
    refine wpIn_seq ?_
    refine seg tabOk pk (e := .normal) (t1 := bl [(1, .raw (yv l)), (12, .ds 5 fun _ => Node.rows x.kids), (13, .int .i64 fun _ => ((Node.rows x.kids).length : Int)), (14, .int .i64 fun _ => (k : Int)), (15, .bs fun _ => decide ((k : Int) < ((Node.rows x.kids).length : Int)))]) (own1 := []) (n1 := 0) ?hh6 rfl
      (t2 := bl [(1, .raw (yv l)), (12, .ds 5 fun _ => Node.rows x.kids), (13, .int .i64 fun _ => ((Node.rows x.kids).length : Int)), (14, .int .i64 fun _ => (k : Int)), (15, .bs fun _ => decide ((k : Int) < ((Node.rows x.kids).length : Int)))]) rfl rfl ?_
    case hh6 => cbv; exact .done ⟨rfl, rfl⟩
    intro a6 w6 S6 p6 s6 n6 g6
    have hJ6 := hit.grow _ _ _ _ hJk g6
    have hdeep6 : Deep S0 S6 B Zc := hdeepk.more s6 n6 hBk (hit.fact _ _ _ hJk).2
    have hB6 : B ≤ w6.heap.size := Nat.le_trans hBk g6.size
    have hkeep6 : Keep Z w w6 := hkeep.trans (Keep.of_grow (Z := Zc) g6) hfr
    show Code.wpIn _ _ _ _ _ _ _
    refine wpIn_seq ?_
    have h15 : a6.eval (.tmp 15) = .bool (decide ((k : Int) < ((Node.rows x.kids).length : Int))) := by
      have := p6.eval (i := 15)
      rw [show nth .any _ 15 = SV.bs (fun _ => decide ((k : Int) < ((Node.rows x.kids).length : Int))) from rfl, SRep] at this; exact this
    rw [Node.rows_length] at h15
    by_cases hlt : k < x.kids.length
    · refine wpIn_cond_true (by rw [h15]; simp [hlt]) ?_
      refine wpIn_skip ?_
      show Code.wpIn _ _ _ _ _ _ _
      refine wpIn_seq ?_
      refine wpIn_block ?_
      refine wpIn_seq ?_
      obtain ⟨y, hy⟩ : ∃ y, x.kids[k]? = some y := ⟨_, List.getElem?_eq_getElem hlt⟩
      have hkids : x.kids = ks := by rw [← hx]; rfl
      have hym : y ∈ ks := by rw [← hkids]; exact List.mem_of_getElem? hy
      have hsk := Node.size_kid hy
      refine seg tabOk p6 (e := .normal) (t1 := bl [(1, .raw (yv l)), (6, .op 0 0), (12, .ds 5 fun _ => Node.rows x.kids), (13, .int .i64 fun _ => ((Node.rows x.kids).length : Int)), (14, .int .i64 fun _ => (k : Int)), (15, .bs fun _ => decide ((k : Int) < ((Node.rows x.kids).length : Int))), (16, .dp 5 (fun _ => Node.rows x.kids) (fun _ => (k : Int)) 0), (17, .agg y.svs)]) (own1 := [(0, .cells 31 y.svs)]) (n1 := 1) ?hh8 rfl
        (t2 := bl [(1, .raw (yv l)), (6, .dp 5 (fun _ => [y.dvs]) (fun _ => 0) 0), (12, .ds 5 fun _ => Node.rows x.kids), (13, .int .i64 fun _ => ((Node.rows x.kids).length : Int)), (14, .int .i64 fun _ => (k : Int)), (15, .bs fun _ => decide ((k : Int) < ((Node.rows x.kids).length : Int))), (16, .dp 5 (fun _ => Node.rows x.kids) (fun _ => (k : Int)) 0), (17, .agg y.svs)]) rfl rfl ?_
      case hh8 =>
        cbv
        refine .need ⟨by simp, by simpa [Node.rows_length] using hlt⟩ ?_
        refine .row _ _ (Node.rows_get hy) (Node.row_toSV _) ?_
        cbv
        exact .done ⟨rfl, rfl⟩
      intro a8 w8 S8 p8 s8 n8 g8
      have hJ8 := hit.grow _ _ _ _ hJ6 g8
      have hdeep8 : Deep S0 S8 B Zc := hdeep6.more s8 n8 hB6 (hit.fact _ _ _ hJ6).2
      have hB8 : B ≤ w8.heap.size := Nat.le_trans hB6 g8.size
      show Code.wpIn _ _ _ _ _ _ _
      refine wpIn_seq ?_
      refine wpIn_region_list ?_
      have q8 : Pt (bl [(1, .raw (yv l)), (6, .dp 5 (fun _ => [y.dvs]) (fun _ => 0) 0), (12, .ds 5 fun _ => Node.rows x.kids), (13, .int .i64 fun _ => ((Node.rows x.kids).length : Int)), (14, .int .i64 fun _ => (k : Int))]) a8 w8 S8 := by
        refine p8.weak ?_ rfl
        cbv
        refine .mk ?_
        repeat' (first | exact AllP.nil | refine AllP.cons rfl ?_)
      refine segOps (os := [_, _]) (rest := [_, _]) tabOk q8 (t1 := bl [(1, .raw (yv l)), (6, .dp 5 (fun _ => [y.dvs]) (fun _ => 0) 0), (12, .ds 5 fun _ => Node.rows x.kids), (13, .int .i64 fun _ => ((Node.rows x.kids).length : Int)), (14, .int .i64 fun _ => (k : Int)), (18, .agg y.svs), (19, .raw (yv l))]) (own1 := []) (n1 := 0) ?hh9 rfl
        (t2 := bl [(1, .raw (yv l)), (6, .dp 5 (fun _ => [y.dvs]) (fun _ => 0) 0), (12, .ds 5 fun _ => Node.rows x.kids), (13, .int .i64 fun _ => ((Node.rows x.kids).length : Int)), (14, .int .i64 fun _ => (k : Int)), (18, .agg y.svs), (19, .raw (yv l))]) rfl rfl ?_
      case hh9 => cbv; refine .row y.dvs y.svs rfl rfl ?_; cbv; exact .done ⟨rfl, rfl⟩
      intro a9 w9 S9 p9 s9 n9 g9
      have hJ9 := hit.grow _ _ _ _ hJ8 g9
      have hdeep9 : Deep S0 S9 B Zc := hdeep8.more s9 n9 hB8 (hit.fact _ _ _ hJ8).2
      have hB9 : B ≤ w9.heap.size := Nat.le_trans hB8 g9.size
      have hkeep9 : Keep Z w w9 := hkeep6.trans (Keep.of_grow (Z := Zc) (g8.trans g9)) hfr
      refine wpListIn_plain rfl fun K2 hK2 => ?_
      have h18 : SRep (fun _ => undef) S9 (.agg y.svs) (a9.eval (.tmp 18)) := p9.eval (i := 18)
      have h19 : a9.eval (.tmp 19) = yv l := by have := p9.eval (i := 19); rw [show nth .any _ 19 = SV.raw (yv l) from rfl, SRep] at this; exact this
      have hpart : It Tryz.prog l S0 B J Jx (Node.its y.pre) (i0 + (1 + (Node.pres (x.kids.take k)).length)) := hit.part (k := 1 + (Node.pres (x.kids.take k)).length) fun m item hi => by
        have hlm : m < y.pre.length := by
          have := (List.getElem?_eq_some_iff.1 hi).1
          rwa [Node.its_length] at this
        rw [Node.its, List.getElem?_map] at hi ⊢
        rw [Node.pre_eq, Node.pres_split hy, show 1 + (Node.pres (x.kids.take k)).length + m = (Node.pres (x.kids.take k)).length + m + 1 by omega, List.getElem?_cons_succ, List.getElem?_append_right (by omega), show (Node.pres (x.kids.take k)).length + m - (Node.pres (x.kids.take k)).length = m by omega, List.getElem?_append_left hlm]
        exact hi
      have hJ9' : J (i0 + (1 + (Node.pres (x.kids.take k)).length)) Zc w9 := by rw [← Nat.add_assoc]; exact hJ9
      have hcall := ih y hym (by omega) l S0 B J Jx _ hpart S9 (a9.eval (.tmp 18)) w9 Zc h18 p9.sat hdeep9 hB9 hJ9'
      refine call_op rfl rfl ⟨Tryz.f90, Tryz.func90, rfl, rfl⟩ (R := ItPost J Jx Zc w9 (i0 + (1 + (Node.pres (x.kids.take k)).length) + y.pre.length)) ?_ fun e w10 hr => ?_
      · show Calls Tryz.prog 90 (#[Operand.tmp 18, Operand.tmp 19].map a9.eval) w9 _
        have hm : (#[Operand.tmp 18, Operand.tmp 19].map a9.eval) = #[a9.eval (.tmp 18), yv l] := by rw [← h19]; simp
        rw [hm]
        exact hcall
      rcases hr with ⟨Z2, rfl, hJ10, hk10, hf10⟩ | ⟨rfl, hx10⟩
      · refine ⟨_, rfl, hK2 _ _ ?_⟩
        obtain ⟨hdeep10, hsat10⟩ := hdeep9.keep p9.sat hk10 (hit.fact _ _ _ hJ10).1 hf10
        have hB10 : B ≤ w10.heap.size := Nat.le_trans hB9 hk10.size
        have hkeep10 : Keep Z w w10 := hkeep9.trans hk10 hfr
        have hfr10 : ∀ b, Z2 b → Z b ∨ w.heap.size ≤ b := fun b h => (hf10 b h).elim (hfr b) (fun h => .inr (Nat.le_trans hkeep9.size h))
        have q10 := ((p9.world hsat10).put (d := 20) (v := .bool true) (u := .bool true) (by rw [SRep]) rfl).weak (t' := bl [(1, .raw (yv l)), (12, .ds 5 fun _ => Node.rows x.kids), (13, .int .i64 fun _ => ((Node.rows x.kids).length : Int)), (14, .int .i64 fun _ => (k : Int)), (20, .bool true)]) (by
          cbv
          refine .mk ?_
          repeat' (first | exact AllP.nil | refine AllP.cons rfl ?_)) rfl
        refine segOps (os := [_]) (rest := []) tabOk q10 (t1 := bl [(1, .raw (yv l)), (12, .ds 5 fun _ => Node.rows x.kids), (13, .int .i64 fun _ => ((Node.rows x.kids).length : Int)), (14, .int .i64 fun _ => (k : Int)), (20, .bool true), (21, .bool false)]) (own1 := []) (n1 := 0) ?hh10 rfl
          (t2 := bl [(1, .raw (yv l)), (12, .ds 5 fun _ => Node.rows x.kids), (13, .int .i64 fun _ => ((Node.rows x.kids).length : Int)), (14, .int .i64 fun _ => (k : Int)), (20, .bool true), (21, .bool false)]) rfl rfl ?_
        case hh10 => cbv; exact .done ⟨rfl, rfl⟩
        intro a11 w11 S11 p11 s11 n11 g11
        have hJ11 := hit.grow _ _ _ _ hJ10 g11
        have hdeep11 : Deep S0 S11 B Z2 := hdeep10.more s11 n11 hB10 (hit.fact _ _ _ hJ10).2
        have hB11 : B ≤ w11.heap.size := Nat.le_trans hB10 g11.size
        show Code.wpIn _ _ _ _ _ _ _
        refine wpIn_cond_false (by have := p11.eval (i := 21); rw [show nth .any _ 21 = SV.bool false from rfl, SRep] at this; exact this) ?_
        refine wpIn_skip ?_
        show Code.wpIn _ _ _ _ _ _ _
        refine seg tabOk p11 (e := .normal) (t1 := bl [(1, .raw (yv l)), (12, .ds 5 fun _ => Node.rows x.kids), (13, .int .i64 fun _ => ((Node.rows x.kids).length : Int)), (14, .int .i64 fun _ => IntKind.i64.wrap ((k : Int) + 1)), (20, .bool true), (21, .bool false), (22, .int .i64 fun _ => IntKind.i64.wrap ((k : Int) + 1))]) (own1 := []) (n1 := 0) ?hh11 rfl
          (t2 := bl [(1, .raw (yv l)), (12, .ds 5 fun _ => Node.rows x.kids), (13, .int .i64 fun _ => ((Node.rows x.kids).length : Int)), (14, .int .i64 fun _ => IntKind.i64.wrap ((k : Int) + 1)), (20, .bool true), (21, .bool false), (22, .int .i64 fun _ => IntKind.i64.wrap ((k : Int) + 1))]) rfl rfl ?_
        case hh11 => cbv; exact .done ⟨rfl, rfl⟩
        intro a12 w12 S12 p12 s12 n12 g12
        have hJ12 := hit.grow _ _ _ _ hJ11 g12
        refine ⟨x.kids.length - (k + 1), by omega, k + 1, Z2, S12, hlt, rfl, ?_, hdeep11.more s12 n12 hB11 (hit.fact _ _ _ hJ11).2, Nat.le_trans hB11 g12.size, ?_, hkeep10.trans (Keep.of_grow (Z := Z2) (g11.trans g12)) hfr10, hfr10⟩
        · rw [hLk]
          refine p12.weak ?_ rfl
          cbv
          refine .mk ?_
          repeat' (first | exact AllP.nil | refine AllP.cons (by with_reducible rfl) ?_ | refine AllP.cons ?_ ?_)
          refine wrap64_of ?_ ?_ ?_ <;> simp only [natCast_eq] <;> omega
        · rw [Node.pres_take_succ hy, List.length_append, show i0 + 1 + ((Node.pres (x.kids.take k)).length + y.pre.length) = i0 + (1 + (Node.pres (x.kids.take k)).length) + y.pre.length by omega]
          exact hJ12
      · refine ⟨_, rfl, hK2 _ _ ?_⟩
        have q10 : Pt (bl [(20, .bool false)]) (a9.put (some 20) (.bool false)) w10 (fun _ => none) := (p9.blank (w' := w10) (n := 23) rfl).put (d := 20) (v := .bool false) (by rw [SRep]) rfl
        refine segOps (os := [_]) (rest := []) tabOk q10 (t1 := bl [(20, .bool false), (21, .bool true)]) (own1 := []) (n1 := 0) ?hh12 rfl (t2 := bl [(20, .bool false), (21, .bool true)]) rfl rfl ?_
        case hh12 => cbv; exact .done ⟨rfl, rfl⟩
        intro a11 w11 S11 p11 _ _ g11
        show Code.wpIn _ _ _ _ _ _ _
        refine wpIn_cond_true (by have := p11.eval (i := 21); rw [show nth .any _ 21 = SV.bool true from rfl, SRep] at this; exact this) ?_
        refine wpIn_seq ?_
        refine seg tabOk p11 (e := .normal) (t1 := bl [(4, .bool false), (20, .bool false), (21, .bool true)]) (own1 := []) (n1 := 0) ?hh13 rfl (t2 := bl [(4, .bool false), (20, .bool false), (21, .bool true)]) rfl rfl ?_
        case hh13 => cbv; exact .done ⟨rfl, rfl⟩
        intro a12 w12 S12 p12 _ _ g12
        show Code.wpIn _ _ _ _ _ _ _
        refine wpIn_ret ?_
        refine ⟨p12.df, _, res_tmp rfl, .inr ⟨?_, hit.growx _ _ hx10 (g11.trans g12)⟩⟩
        have := p12.eval (i := 4)
        rw [show nth .any _ 4 = SV.bool false from rfl, SRep] at this
        rw [this]
    · refine wpIn_cond_false (by rw [h15]; simp [hlt]) ?_
      refine wpIn_exit ?_
      have hke : k = x.kids.length := by omega
      subst hke
      rw [List.take_length] at hJ6
      show Code.wpIn _ _ _ _ _ _ _
      refine wpIn_seq ?_
      refine seg tabOk p6 (e := .normal) (t1 := bl [(1, .raw (yv l)), (4, .bool true), (12, .ds 5 fun _ => Node.rows x.kids), (13, .int .i64 fun _ => ((Node.rows x.kids).length : Int)), (14, .int .i64 fun _ => (x.kids.length : Int)), (15, .bs fun _ => decide ((x.kids.length : Int) < ((Node.rows x.kids).length : Int)))]) (own1 := []) (n1 := 0) ?hh7 rfl
        (t2 := bl [(1, .raw (yv l)), (4, .bool true), (12, .ds 5 fun _ => Node.rows x.kids), (13, .int .i64 fun _ => ((Node.rows x.kids).length : Int)), (14, .int .i64 fun _ => (x.kids.length : Int)), (15, .bs fun _ => decide ((x.kids.length : Int) < ((Node.rows x.kids).length : Int)))]) rfl rfl ?_
      case hh7 => cbv; exact .done ⟨rfl, rfl⟩
      intro a7 w7 S7 p7 s7 n7 g7
      show Code.wpIn _ _ _ _ _ _ _
      refine wpIn_ret ?_
      refine ⟨p7.df, _, res_tmp rfl, .inl ⟨Zc, ?_, ?_, hkeep6.trans (Keep.of_grow (Z := Zc) g7) hfr, hfr⟩⟩
      · have := p7.eval (i := 4)
        rw [show nth .any _ 4 = SV.bool true from rfl, SRep] at this
        rw [this]
      · have := hit.grow _ _ _ _ hJ6 g7
        rw [Node.pre_eq, List.length_cons, show i0 + ((Node.pres x.kids).length + 1) = i0 + 1 + (Node.pres x.kids).length by omega]
        exact this
  · refine ⟨_, rfl, hK _ _ ?_⟩
    have q0 : Pt (setTs (List.replicate 23 .any) [(9, .bool false)]) (a2.put (some 9) (.bool false)) w3 (fun _ => none) := (p2.blank (w' := w3) (n := 23) rfl).put (d := 9) (v := .bool false) (by rw [SRep]) rfl
    refine segOps (os := [_]) (rest := []) tabOk q0 (t1 := setTs (List.replicate 23 .any) [(9, .bool false), (10, .bool true)]) (own1 := []) (n1 := 0) ?hh2 rfl (t2 := setTs (List.replicate 23 .any) [(9, .bool false), (10, .bool true)]) rfl rfl ?_
    case hh2 => cbv; exact .done ⟨rfl, rfl⟩
    intro a4 w4 S4 p4 _ _ g4
    show Code.wpIn _ _ _ _ _ _ _
    refine wpIn_cond_true (by have := p4.eval (i := 10); rw [show nth .any _ 10 = SV.bool true from rfl, SRep] at this; exact this) ?_
    refine wpIn_seq ?_
    refine seg tabOk p4 (e := .normal) (t1 := setTs (List.replicate 23 .any) [(4, .bool false), (9, .bool false), (10, .bool true)]) (own1 := []) (n1 := 0) ?hh3 rfl (t2 := setTs (List.replicate 23 .any) [(4, .bool false), (9, .bool false), (10, .bool true)]) rfl rfl ?_
    case hh3 => cbv; exact .done ⟨rfl, rfl⟩
    intro a5 w5 S5 p5 _ _ g5
    show Code.wpIn _ _ _ _ _ _ _
    refine wpIn_ret ?_
    refine ⟨p5.df, _, res_tmp rfl, .inr ⟨?_, hit.growx _ _ hx3 (g4.trans g5)⟩⟩
    have := p5.eval (i := 4)
    rw [show nth .any _ 4 = SV.bool false from rfl, SRep] at this
    rw [this]
/-- what logic.walk returns yields a node and all within it -/
theorem walk_it (x : Node) (hsz : x.size < 1152921504606846976) : IterSpec Tryz.prog 89 [.dp 5 (fun _ => [x.dvs]) (fun _ => 0) 0] (Node.its x.pre) := by
  refine ⟨⟨Tryz.f89, Tryz.func89, rfl, rfl⟩, ?_⟩
  intro l β S us w J Jx Z hus fact grow growx round hJ
  have h0 : ∀ (β β' : Nat → Value) (S : Snap) (s : List SV) (v : List Value), kbVs 0 s = true → SReps β S s v → SReps β' S s v := fun β β' S s v hk h => SReps_congr (Eng.Sub.refl S) (n := 0) (fun j hj => absurd hj (Nat.not_lt_zero j)) _ _ (kbVs_sound _ hk) h
  have hit : It Tryz.prog l S w.heap.size J Jx (Node.its x.pre) 0 := by
    refine ⟨fact, grow, growx, fun m item Z w1 vals S' hi hj hs hb hv => ?_⟩
    rw [Nat.zero_add] at hj ⊢
    obtain ⟨y, _, rfl⟩ := Node.its_get hi
    exact round m _ Z w1 vals S' hi hj hs hb (h0 _ β S' _ _ rfl hv)
  have hus := h0 β (fun _ => undef) S _ _ rfl hus
  refine (callsIn_wide (n := 5)).1 (callsIn_of_wp (fn := Tryz.f89) Tryz.func89 rfl trivial ?_)
  have hlen := SReps_length hus
  have p0 : Pt [.raw (yv l), .dp 5 (fun _ => [x.dvs]) (fun _ => 0) 0, .any, .any, .any, .any]
      { tmps := #[yv l] ++ us.toArray ++ Array.replicate (Tryz.f89.ntmps - (#[yv l] ++ us.toArray).size) undef, defers := [] } w S := by
    have := Pt.start (w := w) (S := S) (args := [.raw (yv l), .dp 5 (fun _ => [x.dvs]) (fun _ => 0) 0]) (vals := yv l :: us) (n := 6) (m := 4) (by
      rw [SReps]
      exact ⟨_, _, rfl, by rw [SRep], hus⟩) rfl (fact _ _ _ hJ).1 (by simp [hlen])
    have e : (#[yv l] ++ us.toArray : Array Value) = (yv l :: us).toArray := by simp
    rw [e]
    exact this
  refine wpIn_region_list ?_
  refine segOps (os := [_, _]) (rest := [_]) tabOk p0 (t1 := [.raw (yv l), .dp 5 (fun _ => [x.dvs]) (fun _ => 0) 0, .any, .agg x.svs, .raw (yv l), .any]) (own1 := []) (n1 := 0) ?hh rfl (t2 := [.raw (yv l), .dp 5 (fun _ => [x.dvs]) (fun _ => 0) 0, .any, .agg x.svs, .raw (yv l), .any]) rfl rfl ?_
  case hh => cbv; refine .row x.dvs x.svs rfl rfl ?_; cbv; exact .done ⟨rfl, rfl⟩
  intro a1 w1 S1 p1 s1 n1 g1
  have hJ1 := grow _ _ _ _ hJ g1
  have hd : Deep S S1 w.heap.size Z := ⟨s1, fun b o h1 h2 => ⟨n1 b o h1 h2, fun hz => by have := (fact _ _ _ hJ).2 b hz; have := n1 b o h1 h2; omega⟩⟩
  refine wpListIn_plain rfl fun K hK => ?_
  have h3 : SRep (fun _ => undef) S1 (.agg x.svs) (a1.eval (.tmp 3)) := p1.eval (i := 3)
  have h4 : a1.eval (.tmp 4) = yv l := by have := p1.eval (i := 4); rw [show nth .any _ 4 = SV.raw (yv l) from rfl, SRep] at this; exact this
  have hcall := visit_ok x hsz l S w.heap.size J Jx 0 hit S1 (a1.eval (.tmp 3)) w1 Z h3 p1.sat hd g1.size hJ1
  refine call_op rfl rfl ⟨Tryz.f90, Tryz.func90, rfl, rfl⟩ (R := ItPost J Jx Z w1 (0 + x.pre.length)) ?_ fun e w2 hr => ?_
  · show Calls Tryz.prog 90 (#[Operand.tmp 3, Operand.tmp 4].map a1.eval) w1 _
    have hm : (#[Operand.tmp 3, Operand.tmp 4].map a1.eval) = #[a1.eval (.tmp 3), yv l] := by rw [← h4]; simp
    rw [hm]
    exact hcall
  rcases hr with ⟨Z', rfl, hJ2, _, _⟩ | ⟨rfl, hx⟩
  · refine ⟨_, rfl, hK _ _ ?_⟩
    rw [Nat.zero_add, ← Node.its_length] at hJ2
    exact ⟨p1.df, .tuple #[], res_none rfl, ⟨_, rfl⟩, .inl ⟨Z', hJ2⟩⟩
  · refine ⟨_, rfl, hK _ _ ?_⟩
    exact ⟨p1.df, .tuple #[], res_none rfl, ⟨_, rfl⟩, .inr hx⟩
end Go.Qu
namespace Go.Qu
open Go.Eng Go.Proofs
set_option maxRecDepth 100000 in
theorem walk_ok (x : Node) : Eng.Spec Tryz.prog 53 [.agg x.svs] [] 0 (fun _ : Unit => True) (fun _ => .fn 89 [.op 0 0]) (fun _ => [(0, .cells 31 x.svs)]) := by
  refine made_of (P := fun _ => Tryz.prog) tabOk Tryz.func53 rfl rfl ?_
  cbv
  refine .fin () 1 trivial (le_of ?_)
  cbv
  refine .mk ?_
  repeat' (first | exact AllP.nil | refine AllP.cons ?_ ?_)
  all_goals try rfl
set_option maxRecDepth 100000 in
theorem holes_ok (x : Node) (hsz : x.size < 1152921504606846976) : Pure Tryz.prog 27 [.agg x.svs] (.bs fun _ => x.pre.any fun y => y.op == 42) := by
  refine pure_of (P := fun _ => Tryz.prog) tabOk Tryz.func27 rfl rfl ?_
  cbv
  refine .callN (walk_ok x) 3 ?_ rfl rfl (fun _ => ⟨rfl, rfl⟩) (fun _ _ => ?_)
  · cbv
    refine .mk ?_
    repeat' (first | exact AllP.nil | refine AllP.cons ?_ ?_)
    all_goals try rfl
  cbv
  refine .range [.dp 5 (fun _ => [x.dvs]) (fun _ => 0) 0] (Node.its x.pre) Nat (fun k => k ≤ x.pre.length ∧ (x.pre.take k).any (fun y => y.op == 42) = false) id (fun _ => [(1, .cells 4 [.bool false])]) 3 0 rfl (walk_it x hsz) (Node.its_ok _) ⟨Nat.zero_le _, by simp⟩ rfl ?_ ?_ ?_
  · apply le_of
    cbv
    refine .mk ?_
    repeat' (first | exact AllP.nil | refine AllP.cons ?_ ?_)
    all_goals rfl
  · rintro k ⟨hk1, hk2⟩ item hit
    obtain ⟨y, hy, rfl⟩ := Node.its_get hit
    have hy : x.pre[k]? = some y := hy
    have hlt : k < x.pre.length := (List.getElem?_eq_some_iff.1 hy).1
    cbv
    refine .split (fun h => ?_) (fun h => ?_)
    · refine .fin () 4 trivial (le_of ?_)
      cbv
      refine .mk (.cons ?_ .nil)
      show (x.pre.any fun y => y.op == 42) = true
      exact List.any_eq_true.2 ⟨y, List.mem_of_getElem? hy, h⟩
    · refine .prop ⟨k + 1, ⟨hlt, ?_⟩, rfl, le_of ?_⟩
      · rw [List.take_add_one, hy, List.any_append, hk2]
        simpa using h
      · cbv
        refine .mk ?_
        repeat' (first | exact AllP.nil | refine AllP.cons ?_ ?_)
        all_goals rfl
  · rintro k ⟨hk1, hk2⟩ hk
    have hk : k = x.pre.length := by simpa [Node.its_length] using hk
    cbv
    refine .fin () 3 trivial (le_of ?_)
    cbv
    refine .mk (.cons ?_ .nil)
    show (x.pre.any fun y => y.op == 42) = false
    rw [hk, List.take_length] at hk2
    exact hk2
end Go.Qu
namespace Go.Qu
open Go.Eng Go.Proofs
def sgn (a b : Int) : Int := if a < b then -1 else if a > b then 1 else 0
set_option maxRecDepth 100000 in
theorem order_ok (a b : Int) : Pure Tryz.prog 57 [.int .i64 fun _ => a, .int .i64 fun _ => b] (.int .i64 fun _ => sgn a b) := by
  refine pure_of (P := fun _ => Tryz.prog) tabOk Tryz.func57 rfl rfl ?_
  cbv
  refine .split (fun h => ?_) (fun h => ?_)
  · refine .fin () 0 trivial (le_of ?_)
    cbv
    refine .mk (.cons ?_ .nil)
    have h : a < b := of_decide_eq_true h
    show sgn a b = _
    simp [sgn, h]
  · have h : ¬ a < b := of_decide_eq_false h
    refine .split (fun g => ?_) (fun g => ?_)
    · have g : b < a := of_decide_eq_true g
      refine .fin () 0 trivial (le_of ?_)
      cbv
      refine .mk (.cons ?_ .nil)
      show sgn a b = _
      simp [sgn, h, g]
    · have g : ¬ b < a := of_decide_eq_false g
      refine .fin () 0 trivial (le_of ?_)
      cbv
      refine .mk (.cons ?_ .nil)
      show sgn a b = _
      simp [sgn, h, g]
set_option maxRecDepth 100000 in
theorem order64_ok (a b : Int) : Pure Tryz.prog 68 [.int .i64 fun _ => a, .int .i64 fun _ => b] (.int .i64 fun _ => sgn a b) := by
  refine pure_of (P := fun _ => Tryz.prog) tabOk Tryz.func68 rfl rfl ?_
  cbv
  refine .split (fun h => ?_) (fun h => ?_)
  · refine .fin () 0 trivial (le_of ?_)
    cbv
    refine .mk (.cons ?_ .nil)
    have h : a < b := of_decide_eq_true h
    show sgn a b = _
    simp [sgn, h]
  · have h : ¬ a < b := of_decide_eq_false h
    refine .split (fun g => ?_) (fun g => ?_)
    · have g : b < a := of_decide_eq_true g
      refine .fin () 0 trivial (le_of ?_)
      cbv
      refine .mk (.cons ?_ .nil)
      show sgn a b = _
      simp [sgn, h, g]
    · have g : ¬ b < a := of_decide_eq_false g
      refine .fin () 0 trivial (le_of ?_)
      cbv
      refine .mk (.cons ?_ .nil)
      show sgn a b = _
      simp [sgn, h, g]
set_option maxRecDepth 100000 in
theorem sign_ok (a b : Int) : Pure Tryz.prog 71 [.int .i64 fun _ => a, .int .i64 fun _ => b] (.int .i64 fun _ => sgn a b) := by
  refine pure_of (P := fun _ => Tryz.prog) tabOk Tryz.func71 rfl rfl ?_
  cbv
  refine .split (fun h => ?_) (fun h => ?_)
  · refine .fin () 0 trivial (le_of ?_)
    cbv
    refine .mk (.cons ?_ .nil)
    have h : a < b := of_decide_eq_true h
    show sgn a b = _
    simp [sgn, h]
  · have h : ¬ a < b := of_decide_eq_false h
    refine .split (fun g => ?_) (fun g => ?_)
    · have g : b < a := of_decide_eq_true g
      refine .fin () 0 trivial (le_of ?_)
      cbv
      refine .mk (.cons ?_ .nil)
      show sgn a b = _
      simp [sgn, h, g]
    · have g : ¬ b < a := of_decide_eq_false g
      refine .fin () 0 trivial (le_of ?_)
      cbv
      refine .mk (.cons ?_ .nil)
      show sgn a b = _
      simp [sgn, h, g]
def letterB (c : Int) : Bool := decide (97 ≤ c) && decide (c ≤ 122) || decide (65 ≤ c) && decide (c ≤ 90)
def digitB (c : Int) : Bool := decide (48 ≤ c) && decide (c ≤ 57)
def plainB (s : Int) : Bool := s == 1 || s == 3 || s == 4 || s == 5
set_option maxRecDepth 100000 in
theorem letter_ok (c : Int) : Pure Tryz.prog 46 [.int .u8 fun _ => c] (.bs fun _ => letterB c) := by
  refine pure_of (P := fun _ => Tryz.prog) tabOk Tryz.func46 rfl rfl ?_
  cbv
  repeat' (refine HU.split (fun _ => ?_) (fun _ => ?_))
  all_goals
    refine .fin () 0 trivial (le_of ?_)
    cbv
    refine .mk (.cons ?_ .nil)
    show letterB c = _
    rw [Bool.eq_iff_iff]
    simp [letterB]
    all_goals first | omega | (split <;> omega)
set_option maxRecDepth 100000 in
theorem letter1_ok (c : Int) : Pure Tryz.prog 63 [.int .u8 fun _ => c] (.bs fun _ => letterB c) := by
  refine pure_of (P := fun _ => Tryz.prog) tabOk Tryz.func63 rfl rfl ?_
  cbv
  repeat' (refine HU.split (fun _ => ?_) (fun _ => ?_))
  all_goals
    refine .fin () 0 trivial (le_of ?_)
    cbv
    refine .mk (.cons ?_ .nil)
    show letterB c = _
    rw [Bool.eq_iff_iff]
    simp [letterB]
    all_goals first | omega | (split <;> omega)
set_option maxRecDepth 100000 in
theorem digit1_ok (c : Int) : Pure Tryz.prog 65 [.int .u8 fun _ => c] (.bs fun _ => digitB c) := by
  refine pure_of (P := fun _ => Tryz.prog) tabOk Tryz.func65 rfl rfl ?_
  cbv
  repeat' (refine HU.split (fun _ => ?_) (fun _ => ?_))
  all_goals
    refine .fin () 0 trivial (le_of ?_)
    cbv
    refine .mk (.cons ?_ .nil)
    show digitB c = _
    rw [Bool.eq_iff_iff]
    simp [digitB]
    all_goals first | omega | (split <;> omega)
set_option maxRecDepth 100000 in
theorem plain_ok (c : Int) : Pure Tryz.prog 95 [.int .i64 fun _ => c] (.bs fun _ => plainB c) := by
  refine pure_of (P := fun _ => Tryz.prog) tabOk Tryz.func95 rfl rfl ?_
  cbv
  repeat' (refine HU.split (fun _ => ?_) (fun _ => ?_))
  all_goals
    refine .fin () 0 trivial (le_of ?_)
    cbv
    refine .mk (.cons ?_ .nil)
    show plainB c = _
    rw [Bool.eq_iff_iff]
    simp [plainB]
    all_goals first | omega | (split <;> omega)
end Go.Qu
namespace Go.Qu
open Go.Eng Go.Proofs
structure Decl where
  name : ByteArray
  sort : Int
namespace Decl
def dvs (d : Decl) : List DV := [.str d.name, .int .i64 d.sort]
def svs (d : Decl) : List SV := [.str fun _ => d.name, .int .i64 fun _ => d.sort]
def rows (l : List Decl) : List (List DV) := l.map dvs
theorem rows_length (l : List Decl) : (rows l).length = l.length := by simp [rows]
theorem rows_get {l : List Decl} {i : Nat} {x : Decl} (h : l[i]? = some x) : (rows l)[i]? = some x.dvs := by simp [rows, h]
theorem dvs_toSV (x : Decl) : x.dvs.map DV.toSV = x.svs := rfl
end Decl
def idxOf {α : Type} (p : α → Bool) (l : List α) : Int :=
  match l.findIdx? p with
  | some i => (i : Int)
  | none => -1
theorem idxOf_hit {α : Type} {p : α → Bool} {l : List α} {k : Nat} {x : α} (hx : l[k]? = some x) (hp : p x = true) (h : (l.take k).any p = false) : idxOf p l = (k : Int) := by
  have : l.findIdx? p = some k := by
    rw [List.findIdx?_eq_some_iff_getElem]
    have hlt := (List.getElem?_eq_some_iff.1 hx).1
    have hxe := (List.getElem?_eq_some_iff.1 hx).2
    refine ⟨hlt, by rw [hxe]; exact hp, fun j hj => ?_⟩
    have := List.any_eq_false.1 h (l[j]'(by omega)) (by
      rw [List.mem_take_iff_getElem]
      exact ⟨j, by omega, rfl⟩)
    simpa using this
  simp [idxOf, this]
theorem idxOf_none {α : Type} {p : α → Bool} {l : List α} (h : l.any p = false) : idxOf p l = -1 := by
  have : l.findIdx? p = none := by
    rw [List.findIdx?_eq_none_iff]
    intro x hx
    simpa using List.any_eq_false.1 h x hx
  simp [idxOf, this]
set_option maxRecDepth 100000 in
theorem indexDecl_ok (l : List Decl) (p : Decl → Bool) (g : Nat) (caps : List SV) (hc : KBs 0 caps) (hl : l.length < 4611686018427387904) (h : ∀ x ∈ l, Pure Tryz.prog g (.agg x.svs :: caps) (.bs fun _ => p x)) :
    Pure Tryz.prog 48 [.ds 2 fun _ => Decl.rows l, .fno g caps] (.int .i64 fun _ => idxOf p l) := by
  refine pure_of (P := fun _ => Tryz.prog) tabOk Tryz.func48 rfl rfl ?_
  cbv
  refine .loop Nat (fun k => k ≤ l.length ∧ (l.take k).any p = false) (fun k => [(8, .int .i64 fun _ => (k : Int))]) (fun _ => []) 0 (fun k => l.length - k) 0 ⟨Nat.zero_le _, by simp⟩ ?_ ?_
  · apply le_of
    cbv
    refine .mk ?_
    repeat' (first | exact AllP.nil | refine AllP.cons (by with_reducible rfl) ?_ | refine AllP.cons ?_ ?_)
    all_goals first | rfl | exact ⟨rfl, rfl⟩
  · rintro k ⟨hk, hn⟩
    cbv
    refine .split (fun h1 => ?_) (fun h1 => ?_)
    · have hkl : k < l.length := by simpa [lenL, Decl.rows_length] using h1
      obtain ⟨x, hx⟩ : ∃ x, l[k]? = some x := ⟨_, List.getElem?_eq_getElem hkl⟩
      refine .need ⟨by simp, by simpa [Decl.rows_length] using hkl⟩ ?_
      refine .row _ _ (Decl.rows_get hx) (Decl.dvs_toSV _) ?_
      cbv
      refine .call0 (h x (List.mem_of_getElem? hx)) ⟨by simp [KB, KBs], hc⟩ rfl ?_
      cbv
      refine .split (fun hp => ?_) (fun hp => ?_)
      · refine .fin () 0 trivial (le_of ?_)
        cbv
        refine .mk (.cons ?_ .nil)
        exact idxOf_hit hx hp hn
      · refine .prop ⟨k + 1, ⟨hkl, ?_⟩, by omega, le_of ?_⟩
        · rw [List.take_add_one, hx, List.any_append, hn]
          simpa using hp
        · cbv
          refine .mk ?_
          repeat' (first | exact AllP.nil | refine AllP.cons (by with_reducible rfl) ?_ | refine AllP.cons ?_ ?_)
          all_goals first | rfl | exact ⟨rfl, rfl⟩ | (refine wrap64_of ?_ ?_ ?_ <;> simp only [natCast_eq] <;> omega)
    · have hkl : k = l.length := by simp [lenL, Decl.rows_length] at h1; omega
      refine .fin () 0 trivial (le_of ?_)
      cbv
      refine .mk (.cons ?_ .nil)
      rw [hkl, List.take_length] at hn
      exact idxOf_none hn
theorem idxOf_nonneg {α : Type} (p : α → Bool) (l : List α) : decide (0 ≤ idxOf p l) = l.any p := by
  unfold idxOf
  cases h : l.findIdx? p with
  | none =>
    rw [List.findIdx?_eq_none_iff] at h
    have : l.any p = false := List.any_eq_false.2 fun x hx => by simp [h x hx]
    simp [this]
  | some i =>
    rw [List.findIdx?_eq_some_iff_getElem] at h
    obtain ⟨h1, h2, _⟩ := h
    have : l.any p = true := List.any_eq_true.2 ⟨_, List.getElem_mem h1, h2⟩
    simp [this]
set_option maxRecDepth 100000 in
theorem containsDecl_ok (l : List Decl) (p : Decl → Bool) (g : Nat) (caps : List SV) (hc : KBs 0 caps) (hl : l.length < 4611686018427387904) (h : ∀ x ∈ l, Pure Tryz.prog g (.agg x.svs :: caps) (.bs fun _ => p x)) :
    Pure Tryz.prog 24 [.ds 2 fun _ => Decl.rows l, .fno g caps] (.bs fun _ => l.any p) := by
  refine pure_of (P := fun _ => Tryz.prog) tabOk Tryz.func24 rfl rfl ?_
  cbv
  refine .call0 (indexDecl_ok l p g caps hc hl h) ⟨by simp [KB], by simp [KB], trivial⟩ rfl ?_
  cbv
  refine .fin () 0 trivial (le_of ?_)
  cbv
  refine .mk (.cons ?_ .nil)
  exact (idxOf_nonneg p l).symm
set_option maxRecDepth 100000 in
theorem check1_ok (x d : Decl) : Pure Tryz.prog 25 [.agg x.svs, .dp 2 (fun _ => [d.dvs]) (fun _ => 0) 0] (.bs fun _ => decide (x.name = d.name)) := by
  refine pure_of (P := fun _ => Tryz.prog) tabOk Tryz.func25 rfl rfl ?_
  cbv
  refine .row d.dvs d.svs rfl rfl ?_
  cbv
  refine .fin () 1 trivial (le_of ?_)
  cbv
  refine .mk (.cons rfl .nil)
end Go.Qu
