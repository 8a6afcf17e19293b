/- For every input, quantalelaw13.EvalPrims returns true and leaves its arguments as they were. -/
import Derived.Test.YtkgiopdkhhinoaaGreatDoorXcr
import Derived.Test.YtkgiopdkhhinoaaGreatDoorVn
import Derived.Test.YtkgiopdkhhinoaaGreatDoorRows
import Derived.OpenShut
import Derived.LaidMore
import Derived.Stop.Joined
import Derived.Deep.DeepHandedRow
set_option linter.all false
namespace Go.Qu
open Go.Eng Go.Proofs Go.ChangeShapes Go.WideShapes Go.ChangeAt Go.RowKit
open Go.Proofs.YtkgiopdkhhinoaaGreatDoor
theorem c2 : Tryz.prog.cellsOf 2 = 1 := by kernel_rfl
theorem own : ownKnob Tryz.prog.godebug = none := by kernel_rfl
theorem laidOut : laidOutB Tryz.prog = true := by kernel_rfl
set_option maxRecDepth 100000 in
theorem contract (H : Type) (enc : TypeId × Value -> H) (W : World) (base : Nat) (args : Array Value) (ds gs : List (DataW H)) (before : List MemPlace)
    (hval : ∀ (j : Nat) t v, Tryz.f3.params[j]? = some t -> args[j]? = some v -> Value.okWide Tryz.prog W .any base t v)
    (hW : DataW.Whole enc Tryz.prog Tryz.f3.params.toList Rows.evalPrimsSpec.vars false W args.toList ds gs before) :
    Calls Tryz.prog 3 args W fun e W' => ∃ v, e = .returned v /\ Rows.evalPrimsSpec.post enc Tryz.prog Tryz.f3 false true false false W args v W' := by
  have hW' := hW; obtain ⟨p, q, hA0, hV, rfl, hfz, hnd⟩ := hW; have hA : DataW.TrodAll enc Tryz.prog W 0 (fun _ => true) true Tryz.f3.params.toList args.toList ds p := hA0
  rw [Tryz.params3] at hA hval; obtain ⟨v0, vs0, d0, ds0, p0, q0, hargs, rfl, rfl, t0, r0⟩ := trodAll_cons hA; obtain ⟨v1, vs1, d1, ds1, p1, q1, rfl, rfl, rfl, t1, r1⟩ := trodAll_cons r0; obtain ⟨v2, vs2, d2, ds2, p2, q2, rfl, rfl, rfl, t2, r2⟩ := trodAll_cons r1; obtain ⟨v3, vs3, d3, ds3, p3, q3, rfl, rfl, rfl, t3, r3⟩ := trodAll_cons r2; obtain ⟨v4, vs4, d4, ds4, p4, q4, rfl, rfl, rfl, t4, r4⟩ := trodAll_cons r3; obtain ⟨rfl, rfl, rfl⟩ := trodAll_nil r4; obtain rfl : args = #[v0, v1, v2, v3, v4] := by cases args; simp_all
  obtain ⟨rfl, rfl⟩ := trodVars_none hV; obtain ⟨which, rfl, rfl, rfl, w0⟩ := open_int Tryz.underlying5 (hval 0 5 v0 rfl rfl) t0; obtain ⟨a, rfl, rfl, rfl, w1⟩ := open_int Tryz.underlying2 (hval 1 2 v1 rfl rfl) t1; obtain ⟨b, rfl, rfl, rfl, w2⟩ := open_int Tryz.underlying2 (hval 2 2 v2 rfl rfl) t2; obtain ⟨c, rfl, rfl, rfl, w3⟩ := open_int Tryz.underlying2 (hval 3 2 v3 rfl rfl) t3; clear hA0 hA r0 r1 r2 r3 r4 t0 t1 t2 t3; have t4k := t4; obtain ⟨n4, t4⟩ := t4; obtain ⟨sa, sl, sc, rfl⟩ := okWide_slice Tryz.underlying22 (hval 4 22 v4 rfl rfl)
  obtain ⟨s1, l, du, g0, g1, g2, g3, g4, _⟩ := rd_rows (row := fun n => [DV.int .i64 n]) (G := fun _ _ => True) Tryz.underlying22 (by rw [c2]; decide) t4 (fun k c d p hk hc => by
    obtain ⟨m, rfl, _, _⟩ := rd_int Tryz.underlying2 hc; exact ⟨m, by simp only [DCells, DRep]; exact ⟨_, _, rfl, rfl, rfl⟩, trivial⟩)
  have e0 : s1 = .slice sa sl sc := by simpa [Value.cells] using g0.symm
  subst e0
  have hw : 0 <= which /\ which < 256 := by
    simp [Lit.wf, IntKind.min, IntKind.max, IntKind.signed, IntKind.bits] at w0; omega
  have hp : Pure Tryz.prog 3 _ _ := law_ok which a b c l hw.1 hw.2
  have hrep : SReps (fun _ => undef) (snapW W) [.int .u8 fun _ => which, .int .i64 fun _ => a, .int .i64 fun _ => b, .int .i64 fun _ => c, .ds 1 fun _ => ints l] [.int .u8 which, .int .i64 a, .int .i64 b, .int .i64 c, .slice sa sl sc] := by
    rw [c2] at g1; simp only [SReps, SRep]; exact ⟨_, _, rfl, rfl, _, _, rfl, rfl, _, _, rfl, rfl, _, _, rfl, rfl, _, _, rfl, g1, rfl⟩
  refine (pure_calls hp rfl hrep).mono fun e W' => ?_
  rintro ⟨v, β, S, rfl, hr, hbel⟩; rw [SRep] at hr; subst hr; simp only [List.append_nil, List.nil_append] at hW'; have hlt : ∀ x ∈ p4, x.block < W.heap.size := fun x hx => hW'.lt x hx
  exact ⟨_, rfl, ⟨_, _, _, [], _, [], hW', trodAll_mk1 (shut_bool Tryz.underlying4 _),
    trodAll_cons_mk (shut_int Tryz.underlying5 w0) (trodAll_cons_mk (shut_int Tryz.underlying2 w1) (trodAll_cons_mk (shut_int Tryz.underlying2 w2) (trodAll_cons_mk (shut_int Tryz.underlying2 w3) (trodAll_cons_mk (Below.trod laidOut (by kernel_rfl) (of_decide_eq_true (by kernel_rfl)) t4k hbel hlt) trodAll_mk0)))),
    rfl, hbel.frame _, fun h => by cases h⟩⟩
end Go.Qu
