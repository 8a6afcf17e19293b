/- For every input of bulk at most 1048576, quantalelaw18.QualCandidates returns true and leaves its arguments as they were. -/
import Derived.Test.YtoaifhhfcokipaaGreatDoorXcr
import Derived.Test.YtoaifhhfcokipaaGreatDoorYd
import Derived.Test.YtoaifhhfcokipaaGreatDoorCards
import Derived.Test.YtoaifhhfcokipaaGreatDoorTie
import Derived.OpenShut
import Derived.Deep.DeepHandedRow
import Derived.Lib.LaidTab
namespace Go.Qu
open Go.Eng Go.Proofs Go.ChangeShapes Go.WideShapes Go.ChangeAt Go.RowKit
open Go.Proofs.YtoaifhhfcokipaaGreatDoor
section
variable {H : Type} {enc : TypeId × Value → H} {w : World} {spare : Nat → Bool} {held : Bool}
theorem rd_struct {P : Program} {t : TypeId} {n : Nat} {cs : List Value} {x : DataW H × List MemPlace} {fs : Array Field} (ht : P.underlying t = some (.struct fs)) (h : DataW.trod enc P w 0 spare held n t cs = some x) :
    ∃ (xs : List (DataW H × List MemPlace)) (m : Nat), n = m + 1 ∧ x.1 = .agg (xs.map (·.1)) ∧ cs.length = P.cellsOf t ∧ xs.length = fs.size ∧
      ∀ (i : Nat) (f : Field), fs[i]? = some f → DataW.trod enc P w 0 spare held m f.type ((cs.drop f.offset).take (P.cellsOf f.type)) = xs[i]? := by
  obtain ⟨xs, m, h1, h2, h3, h4, h5⟩ := DataW.trod_struct ht h
  exact ⟨xs, m, h1, by rw [h2], h3, h4, h5⟩
theorem c31 : Tryz.prog.cellsOf 31 = 5 := by kernel_rfl
theorem c33 : Tryz.prog.cellsOf 33 = 7 := by kernel_rfl
theorem c42 : Tryz.prog.cellsOf 42 = 2 := by kernel_rfl
theorem c25 : Tryz.prog.cellsOf 25 = 1 := by kernel_rfl
theorem c2 : Tryz.prog.cellsOf 2 = 1 := by kernel_rfl
theorem c3 : Tryz.prog.cellsOf 3 = 1 := by kernel_rfl
theorem c9 : Tryz.prog.cellsOf 9 = 1 := by kernel_rfl
theorem c23 : Tryz.prog.cellsOf 23 = 1 := by kernel_rfl
theorem c28 : Tryz.prog.cellsOf 28 = 1 := by kernel_rfl
theorem c29 : Tryz.prog.cellsOf 29 = 1 := by kernel_rfl
theorem bulk_sizes : ∀ (l : List Node) (ds : List (DataW H)), ds.length = l.length → (∀ (i : Nat) (a : Node) (d : DataW H), l[i]? = some a → ds[i]? = some d → a.size ≤ Rows.uptoBulk d) → Node.sizes l ≤ Rows.uptoBulkAll ds
  | [], ds, _, _ => Nat.zero_le _
  | a :: l, [], h, _ => by simp at h
  | a :: l, d :: ds, h, hx => by
    have h1 := hx 0 a d rfl rfl
    have h2 := bulk_sizes l ds (by simpa using h) fun i a d p q => hx (i + 1) a d (by simpa using p) (by simpa using q)
    rw [Node.sizes, Rows.uptoBulkAll]
    omega
theorem bulk_len (l : List (DataW H)) : l.length ≤ Rows.uptoBulkAll l := by
  induction l with
  | nil => simp
  | cons d l ih =>
    have : 1 ≤ Rows.uptoBulk d := by
      cases d with
      | lit l => cases l <;> simp [Rows.uptoBulk]
      | _ => simp [Rows.uptoBulk]
    rw [Rows.uptoBulkAll, List.length_cons]
    omega
theorem bulk_mem {d : DataW H} {l : List (DataW H)} (h : d ∈ l) : Rows.uptoBulk d ≤ Rows.uptoBulkAll l := by
  induction l with
  | nil => cases h
  | cons x r ih =>
    simp only [Rows.uptoBulkAll]
    rcases List.mem_cons.1 h with e | e
    · subst e; omega
    · have := ih e; omega
set_option maxRecDepth 100000 in
theorem rd_node : ∀ (n : Nat) (cs : List Value) (d : DataW H) (p : List MemPlace), DataW.trod enc Tryz.prog w 0 spare held n 31 cs = some (d, p) → ∃ x : Node, DCells (snapW w) x.dvs cs ∧ x.size ≤ Rows.uptoBulk d := by
  intro n
  induction n using Nat.strongRecOn with
  | ind n ih =>
  intro cs d p h
  obtain ⟨xs, m, rfl, h2, h3, h4, h5⟩ := rd_struct Tryz.underlying31 h
  rw [c31] at h3
  match cs, h3, xs, h4 with
  | [a0, a1, a2, a3, a4], _, [x0, x1, x2, x3, x4], _ =>
    have f0 : DataW.trod enc Tryz.prog w 0 spare held m 3 (([a0, a1, a2, a3, a4].drop 0).take (Tryz.prog.cellsOf 3)) = some x0 := h5 0 _ rfl
    have f1 : DataW.trod enc Tryz.prog w 0 spare held m 3 (([a0, a1, a2, a3, a4].drop 1).take (Tryz.prog.cellsOf 3)) = some x1 := h5 1 _ rfl
    have f2 : DataW.trod enc Tryz.prog w 0 spare held m 9 (([a0, a1, a2, a3, a4].drop 2).take (Tryz.prog.cellsOf 9)) = some x2 := h5 2 _ rfl
    have f3 : DataW.trod enc Tryz.prog w 0 spare held m 2 (([a0, a1, a2, a3, a4].drop 3).take (Tryz.prog.cellsOf 2)) = some x3 := h5 3 _ rfl
    have f4 : DataW.trod enc Tryz.prog w 0 spare held m 29 (([a0, a1, a2, a3, a4].drop 4).take (Tryz.prog.cellsOf 29)) = some x4 := h5 4 _ rfl
    simp only [c2, c3, c9, c29] at f0 f1 f2 f3 f4
    obtain ⟨o, e0, _⟩ := rd_int Tryz.underlying3 f0
    obtain ⟨s, e1, _⟩ := rd_int Tryz.underlying3 f1
    obtain ⟨nm, e2, _⟩ := rd_str Tryz.underlying9 f2
    obtain ⟨u, e3, _⟩ := rd_int Tryz.underlying2 f3
    obtain ⟨v, l, ds, e4, q1, q2, q3, q4, q5⟩ := rd_rows (row := Node.dvs) (G := fun a d => a.size ≤ Rows.uptoBulk d) Tryz.underlying29 (by rw [c31]; decide) f4 (fun k c d p hk hc => ih k (by omega) c d p hc)
    simp at e0 e1 e2 e3 e4
    subst e0 e1 e2 e3 e4
    refine ⟨.mk o s nm u l, ?_, ?_⟩
    · have hrow : Node.rows l = l.map Node.dvs := by rw [Node.rows_eq]; exact List.map_congr_left fun x _ => Node.row_dvs x
      show DCells (snapW w) [.int .i64 o, .int .i64 s, .str nm, .int .i64 u, .sl 5 (Node.rows l)] _
      rw [hrow]
      rw [c31] at q1
      simp only [DCells, DRep] at q1 ⊢
      exact ⟨_, _, rfl, rfl, _, _, rfl, rfl, _, _, rfl, rfl, _, _, rfl, rfl, _, _, rfl, q1, rfl⟩
    · simp only at h2
      rw [h2]
      have := bulk_sizes l ds q3 q5
      have hk : Rows.uptoBulkAll ds + 1 ≤ Rows.uptoBulk x4.1 := by
        rcases q4 with ⟨e, rfl⟩ | ⟨sp, e⟩
        · rw [e]; simp [Rows.uptoBulk, Rows.uptoBulkAll]
        · rw [e]; simp only [Rows.uptoBulk]; omega
      simp only [List.map_cons, List.map_nil, Rows.uptoBulk, Rows.uptoBulkAll, Node.size]
      omega
  | [], h, _, _ => cases h
set_option maxRecDepth 100000 in
theorem rd_decl (n : Nat) (cs : List Value) (d : DataW H) (p : List MemPlace) (h : DataW.trod enc Tryz.prog w 0 spare held n 42 cs = some (d, p)) : ∃ x : Decl, DCells (snapW w) x.dvs cs ∧ True := by
  obtain ⟨xs, m, rfl, h2, h3, h4, h5⟩ := rd_struct Tryz.underlying42 h
  rw [c42] at h3
  match cs, h3, xs, h4 with
  | [a0, a1], _, [x0, x1], _ =>
    have f0 : DataW.trod enc Tryz.prog w 0 spare held m 9 (([a0, a1].drop 0).take (Tryz.prog.cellsOf 9)) = some x0 := h5 0 _ rfl
    have f1 : DataW.trod enc Tryz.prog w 0 spare held m 3 (([a0, a1].drop 1).take (Tryz.prog.cellsOf 3)) = some x1 := h5 1 _ rfl
    simp only [c3, c9] at f0 f1
    obtain ⟨nm, e0, _⟩ := rd_str Tryz.underlying9 f0
    obtain ⟨s, e1, _⟩ := rd_int Tryz.underlying3 f1
    simp at e0 e1
    subst e0 e1
    refine ⟨⟨nm, s⟩, ?_, trivial⟩
    show DCells (snapW w) [.str nm, .int .i64 s] _
    simp only [DCells, DRep]
    exact ⟨_, _, rfl, rfl, _, _, rfl, rfl, rfl⟩
set_option maxRecDepth 100000 in
theorem rd_qual (n : Nat) (cs : List Value) (d : DataW H) (p : List MemPlace) (h : DataW.trod enc Tryz.prog w 0 spare held n 33 cs = some (d, p)) : ∃ x : Qual, DCells (snapW w) x.dvs cs ∧ x.node.size ≤ Rows.uptoBulk d := by
  obtain ⟨xs, m, rfl, h2, h3, h4, h5⟩ := rd_struct Tryz.underlying33 h
  rw [c33] at h3
  match cs, h3, xs, h4 with
  | [a0, a1, a2, a3, a4, a5, a6], _, [x0, x1, x2], _ =>
    have f0 : DataW.trod enc Tryz.prog w 0 spare held m 9 (([a0, a1, a2, a3, a4, a5, a6].drop 0).take (Tryz.prog.cellsOf 9)) = some x0 := h5 0 _ rfl
    have f1 : DataW.trod enc Tryz.prog w 0 spare held m 28 (([a0, a1, a2, a3, a4, a5, a6].drop 1).take (Tryz.prog.cellsOf 28)) = some x1 := h5 1 _ rfl
    have f2 : DataW.trod enc Tryz.prog w 0 spare held m 31 (([a0, a1, a2, a3, a4, a5, a6].drop 2).take (Tryz.prog.cellsOf 31)) = some x2 := h5 2 _ rfl
    simp only [c9, c28, c31] at f0 f1 f2
    obtain ⟨nm, e0, _⟩ := rd_str Tryz.underlying9 f0
    obtain ⟨v, l, ds, e1, q1, _⟩ := rd_rows (row := Decl.dvs) (G := fun _ _ => True) Tryz.underlying28 (by rw [c42]; decide) f1 (fun k c d p hk hc => rd_decl k c d p hc)
    obtain ⟨x, r1, r2⟩ := rd_node _ _ _ _ f2
    simp at e0 e1 r1
    subst e0 e1
    refine ⟨⟨nm, l, x⟩, ?_, ?_⟩
    · show DCells (snapW w) ([.str nm, .sl 2 (l.map Decl.dvs)] ++ x.dvs) _
      rw [c42] at q1
      rw [List.cons_append, List.cons_append, List.nil_append, DCells]
      refine ⟨.string nm, _, rfl, by rw [DRep], ?_⟩
      rw [DCells]
      exact ⟨_, _, rfl, q1, r1⟩
    · simp only at h2
      rw [h2]
      simp only [List.map_cons, List.map_nil, Rows.uptoBulk, Rows.uptoBulkAll]
      omega
end
theorem own : ownKnob Tryz.prog.godebug = none := by kernel_rfl
theorem laidOut : laidOutB Tryz.prog = true := by kernel_rfl
set_option maxRecDepth 100000 in
theorem contract (H : Type) (enc : TypeId × Value → H) (W : World) (base : Nat) (args : Array Value) (ds gs : List (DataW H)) (before : List MemPlace)
    (hval : ∀ (j : Nat) t v, Tryz.f3.params[j]? = some t → args[j]? = some v → Value.okWide Tryz.prog W .any base t v)
    (hW : DataW.Whole enc Tryz.prog Tryz.f3.params.toList Rows.qualCandidatesSpec.vars false W args.toList ds gs before) (hk : Rows.uptoSmall H (ds ++ gs) = true) :
    Calls Tryz.prog 3 args W fun e W' => ∃ v, e = .returned v ∧ Rows.qualCandidatesSpec.post enc Tryz.prog Tryz.f3 false true false false W args v W' := by
  have hW' := hW
  obtain ⟨p, q, hA0, hV, rfl, hfz, hnd⟩ := hW
  have hA : DataW.TrodAll enc Tryz.prog W 0 (fun _ => true) true Tryz.f3.params.toList args.toList ds p := hA0
  rw [Tryz.params3] at hA hval
  obtain ⟨v0, v1, d0, d1, p0, p1, rfl, rfl, rfl, h0, h1⟩ := trodAll_two hA
  obtain ⟨rfl, rfl⟩ := trodVars_none hV
  clear hA0
  simp only [List.append_nil] at hW' hk
  have hb := of_decide_eq_true hk
  simp only [Rows.uptoBulkAll] at hb
  have h0k := h0
  have h1k := h1
  obtain ⟨n0, h0⟩ := h0
  obtain ⟨n1, h1⟩ := h1
  obtain ⟨a0, l0, c0, rfl⟩ := okWide_slice Tryz.underlying22 (hval 0 22 v0 rfl rfl)
  obtain ⟨s, qs, dq, e0, q1, q2, q3, q4, q5⟩ := rd_rows (row := Qual.dvs) (G := fun a d => a.node.size ≤ Rows.uptoBulk d) Tryz.underlying22 (by rw [c33]; decide) h0 (fun k c d p hk hc => rd_qual k c d p hc)
  have e0 : s = .slice a0 l0 c0 := by simpa [Value.cells] using e0.symm
  subst e0
  have hv1 := hval 1 25 v1 rfl rfl
  unfold Value.okWide at hv1
  rw [Tryz.underlying25] at hv1
  obtain ⟨c1, rfl, hc1, _⟩ := hv1
  obtain ⟨xs, m, rfl, u2, u3, u4, u5⟩ := rd_struct Tryz.underlying25 h1
  match xs, u4 with
  | [x0], _ =>
  have f0 : DataW.trod enc Tryz.prog W 0 (fun _ => true) true m 23 (((Value.agg c1).cells.toList.drop 0).take (Tryz.prog.cellsOf 23)) = some x0 := u5 0 _ rfl
  obtain ⟨s1, u, du, g0, g1, g2, g3, g4, _⟩ := rd_rows (row := fun n => [DV.int .i64 n]) (G := fun _ _ => True) Tryz.underlying23 (by rw [c3]; decide) f0 (fun k c d p hk hc => by
    obtain ⟨m, rfl, _, _⟩ := rd_int Tryz.underlying3 hc
    exact ⟨m, by simp only [DCells, DRep]; exact ⟨_, _, rfl, rfl, rfl⟩, trivial⟩)
  have hcs : c1.toList = [s1] := by
    have hl : c1.toList.length = 1 := by rw [Array.length_toList, hc1, c25]
    match hh : c1.toList, hl with
    | [a], _ =>
      have : (Value.agg c1).cells.toList = [a] := hh
      rw [this] at g0
      simp [c23] at g0
      rw [g0]
  have hqb : Rows.uptoBulkAll dq ≤ Rows.uptoBulk d0 := by
    rcases q4 with ⟨_, rfl⟩ | ⟨sp, e⟩
    · simp [Rows.uptoBulkAll]
    · have e : d0 = .slice dq sp := e
      rw [e]; simp only [Rows.uptoBulk]; omega
  have hub : Rows.uptoBulkAll du ≤ Rows.uptoBulk d1 := by
    have u2 : d1 = .agg [x0.1] := u2
    rw [u2]
    simp only [Rows.uptoBulk, Rows.uptoBulkAll]
    rcases g4 with ⟨_, rfl⟩ | ⟨sp, e⟩
    · simp [Rows.uptoBulkAll]
    · rw [e]; simp only [Rows.uptoBulk]; omega
  have hql : qs.length ≤ 1048576 := by have := bulk_len dq; omega
  have hul : u.length ≤ 1048576 := by have := bulk_len du; omega
  have hqz : ∀ x ∈ qs, Sm x.node := by
    intro x hx
    obtain ⟨i, hi, rfl⟩ := List.getElem_of_mem hx
    have hd : dq[i]? = some dq[i] := List.getElem?_eq_getElem (by omega)
    have := q5 i _ _ (List.getElem?_eq_getElem hi) hd
    have hm := bulk_mem (List.mem_of_getElem? hd)
    unfold Sm
    omega
  have hp : Pure Tryz.prog 3 [.ds 7 fun _ => Qual.rows qs, .agg [.ds 1 fun _ => ints u]] (.bs fun _ => true) := law_ok qs u (by omega) hqz (by omega)
  have hrep : SReps (fun _ => undef) (snapW W) [.ds 7 fun _ => Qual.rows qs, .agg [.ds 1 fun _ => ints u]] [.slice a0 l0 c0, .agg c1] := by
    rw [c33] at q1
    rw [c3] at g1
    simp only [SReps, SRep]
    refine ⟨_, _, rfl, q1, _, _, rfl, ⟨c1, rfl, ?_⟩, rfl⟩
    rw [hcs]
    exact ⟨_, _, rfl, g1, rfl⟩
  refine (pure_calls hp rfl hrep).mono fun e W' => ?_
  rintro ⟨v, β, S, rfl, hr, hbel⟩
  rw [SRep] at hr
  subst hr
  have hlt : ∀ x ∈ p0 ++ p1, x.block < W.heap.size := fun x hx => hW'.lt x hx
  exact ⟨_, rfl, ⟨_, _, _, [], _, [], hW', trodAll_mk1 (shut_bool Tryz.underlying4 _), trodAll_mk2 (Below.trod laidOut (by kernel_rfl) (of_decide_eq_true (by kernel_rfl)) h0k hbel fun x hx => hlt x (List.mem_append_left _ hx)) (Below.trod laidOut (by kernel_rfl) (of_decide_eq_true (by kernel_rfl)) h1k hbel fun x hx => hlt x (List.mem_append_right _ hx)), rfl, hbel.frame _, fun h => by cases h⟩⟩
/-- a listed variable's cells -/
def litV : DataW Unit → Value
  | .lit (.int k n) => .int k n
  | _ => undef
def cellsL : DataW Unit → Array Value
  | .agg l => (l.map litV).toArray
  | _ => #[]
def layAt (h : Array Obj) (g : Nat) (d : DataW Unit) : Array Obj := h.modify g fun
  | .cells _ t frozen => .cells (cellsL d) t frozen
  | o => o
noncomputable def laidWorld (os : Os) : World :=
  { World.holding Tryz.prog os ⟨#[], #[], []⟩ with heap := layAt (layAt (layAt (World.holding Tryz.prog os ⟨#[], #[], []⟩).heap 2 Rows.laid_math_bits_deBruijn32tab) 3 Rows.laid_math_bits_deBruijn64tab) 1 Rows.laid_internal_strconv_uint64pow10 }
abbrev wit : Array Value := #[.slice none 0 0, .agg #[.slice none 0 0]]
theorem laid_met (os : Os) : laidMet Tryz.prog Rows.qualCandidatesUptoRow.laid ((laidWorld os).forCall (fun _ _ => 0) ⟨#[], wit, []⟩).memory :=
  laidMet_of_run' 8 (by kernel_rfl) (by kernel_rfl)
theorem reads (os : Os) {H : Type} (enc : TypeId × Value → H) : ∃ places, DataW.whole enc Tryz.prog ((laidWorld os).forCall (fun _ _ => 0) ⟨#[], wit, []⟩).memory Tryz.f3.params.toList Rows.qualCandidatesSpec.vars false wit.toList 8 = some ([.nil, .agg [.nil]], [], places) :=
  ⟨[], by kernel_rfl⟩
set_option maxRecDepth 100000 in
theorem lifted (os : Os) (started : os.Started) (H : Type) (enc : TypeId × Value → H) (F : Stop.Interp) :
    ReturnsInHanded {} Tryz.checked os 3 .any ((Rows.OpenSpec.upto Rows.qualCandidatesSpec).preRow enc Tryz.prog Tryz.f3 Rows.qualCandidatesUptoRow.domain false Rows.qualCandidatesUptoRow.laid) (((Rows.OpenSpec.upto Rows.qualCandidatesSpec).at F).post enc Tryz.prog Tryz.f3 false true false false) := by
  obtain ⟨places, hx⟩ := reads os enc
  refine returnsInHanded_of_row (C := Tryz.checked) (s := Rows.OpenSpec.upto Rows.qualCandidatesSpec) own started (by kernel_rfl) Tryz.func3
    (witness_row_at (enc := enc) (C := Tryz.checked) false (laidWorld os) wit rfl (by kernel_rfl) (by kernel_rfl) (by kernel_rfl)
      (OpenSpec.preRow_of_cond 8 hx (by kernel_rfl) (fun k hk => by cases hk; kernel_rfl) (by kernel_rfl) (laid_met os))) ?_
  intro W base args ds gs before hval hW _ hcond _ _ _ _
  exact contract H enc W base args ds gs before hval hW (hcond _ rfl)
theorem said : Rows.QualCandidatesUptoSaid :=
  OpenClaim.holds_of_cond 3 Tryz.f3 rfl rfl rfl rfl rfl rfl rfl ⟨rfl, rfl, rfl, rfl, rfl⟩ rfl rfl rfl rfl rfl (by kernel_rfl) Tryz.func3 (by kernel_rfl)
    (of_decide_eq_true (by kernel_rfl)) (by unfold Func.isWrapper; first | (rw [if_pos (by decide +kernel)]; kernel_rfl) | (rw [if_neg (by decide +kernel)]; exact ⟨rfl, rfl⟩))
    (fun os started H enc _ F => by rw [OpenClaim.pre_eq_preRow]; exact lifted os started H enc F)
theorem plain (f : FuncId) (fn : Func) (hf : Tryz.pinned.checked.prog.funcNamed "quantale/quantalelaw18.QualCandidates" = some f) (hfn : Tryz.pinned.checked.prog.funcs[f]? = some fn) :
    false = Tryz.pinned.checked.prog.looks [] ∧ ∀ (j : Nat) t, fn.params[j]? = some t → Tryz.pinned.checked.prog.wantsStandIn t = false := by
  obtain rfl : f = 3 := Option.some.inj ((show Tryz.prog.funcNamed "quantale/quantalelaw18.QualCandidates" = some 3 by kernel_rfl).symm.trans hf) |>.symm
  obtain rfl : fn = Tryz.f3 := (Option.some.inj (Tryz.func3.symm.trans hfn)).symm
  refine ⟨by kernel_rfl, fun j t ht => ?_⟩
  rw [Tryz.params3] at ht
  have : t = 22 ∨ t = 25 := by simpa using Array.mem_of_getElem? ht
  rcases this with rfl | rfl
  · exact (show Tryz.prog.wantsStandIn 22 = false by kernel_rfl)
  · exact (show Tryz.prog.wantsStandIn 25 = false by kernel_rfl)
end Go.Qu
namespace Go.Proofs.YtoaifhhfcokipaaGreatDoor
theorem qualCandidates_card : Rows.QualCandidatesUptoCardSaid :=
  Claim7.holds_tied_plain_at .later [] _ _ _ _ Go.Qu.said (fun _ h => by cases h) (by kernel_rfl) (fun _ h => by cases h) qualCandidatesUpto_row_tie rfl ⟨rfl, rfl⟩ (by kernel_rfl) rfl Go.Qu.plain (by kernel_rfl)
end Go.Proofs.YtoaifhhfcokipaaGreatDoor
