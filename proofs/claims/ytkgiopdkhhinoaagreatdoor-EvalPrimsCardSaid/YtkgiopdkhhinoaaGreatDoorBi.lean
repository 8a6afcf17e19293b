/- The tie of this translation. EvalPrims: for every input the law returns true and its arguments stay as they were; the listed variables are tied to the program's text. -/
import Derived.Test.YtkgiopdkhhinoaaGreatDoorTa0
import Derived.Test.YtkgiopdkhhinoaaGreatDoorTb
import Derived.Test.YtkgiopdkhhinoaaGreatDoorTc
import Derived.Test.YtkgiopdkhhinoaaGreatDoorBa
import Derived.Test.YtkgiopdkhhinoaaGreatDoorBb
import Derived.Test.YtkgiopdkhhinoaaGreatDoorBh
import Derived.Test.YtkgiopdkhhinoaaGreatDoorCards
import Derived.OpenShut
import Derived.LaidMore
import Derived.Stop.Joined
import Derived.SevenTiedAt
set_option linter.all false
namespace Go.Proofs.YtkgiopdkhhinoaaGreatDoor
open Go
theorem noOwnUnsafe : Tryz.pinned.checked.prog.headLifts.contains "ownunsafe" = false := by kernel_rfl
theorem tie : Tryz.prog.laidByTextLater laidL [.data, .data, .data, .sentinel, .sentinel] true :=
  Program.laidByTextLater_by_run 400 8 tieF0 tieF1 tieF2 tieF3 tieF4 tieF5 tieF6 tieF7 tieF8
theorem evalPrims_row_tie : Rows.evalPrimsRow.laidByTextAt .later Tryz.pinned [.data, .data, .data, .sentinel, .sentinel] true :=
  OpenClaim.laidByTextAt_later rfl rfl tie noOwnUnsafe
end Go.Proofs.YtkgiopdkhhinoaaGreatDoor
namespace Go.Qu
open Go.Eng Go.Proofs Go.ChangeShapes Go.WideShapes Go.ChangeAt Go.RowKit
open Go.Proofs.YtkgiopdkhhinoaaGreatDoor
set_option maxRecDepth 100000 in
theorem lifted (os : Os) (started : os.Started) (H : Type) (enc : TypeId × Value -> H) :
    ReturnsInHanded {} Tryz.checked os 3 .any (fun w args => (Rows.evalPrimsSpec.pre enc Tryz.prog Tryz.f3 [] false w args /\ laidMetH Tryz.prog Rows.evalPrimsRow.laid w) /\ sizedMet enc Tryz.prog Tryz.f3 (OpenSpec.ofChange Rows.evalPrimsSpec) false w args)
      (Rows.evalPrimsSpec.post enc Tryz.prog Tryz.f3 false true false false) := by
  refine returnsInHanded_of_change_and (C := Tryz.checked) (X := fun w _ => laidMetH Tryz.prog Rows.evalPrimsRow.laid w) (fun _ _ _ hh h => h.of_heap hh) own started noinit Tryz.func3
    (ChangeSpec.witness_shaped (enc := enc) (C := Tryz.checked) (os := os) (X := fun w _ => laidMetH Tryz.prog Rows.evalPrimsRow.laid w) false (World.doorLaid Tryz.prog 400 os) wit 8 rfl (World.shaped_of_RefB (shaped1 os) (shaped2 os)) (okw os) (preb os enc) (sizb os enc) (laid_met os)) ?_
  intro W base args ds gs before hval hW _ _ _ _; exact contract H enc W base args ds gs before hval hW
theorem said : Rows.EvalPrimsSaid :=
  OpenClaim.holds_of_wide 3 Tryz.f3 rfl rfl rfl rfl rfl rfl rfl ⟨rfl, rfl, rfl, rfl, rfl⟩ rfl rfl rfl rfl rfl fnamed Tryz.func3 joined finst fwrap
    (fun os started H enc _ => lifted os started H enc)
theorem plain (f : FuncId) (fn : Func) (hf : Tryz.pinned.checked.prog.funcNamed "quantale/quantalelaw13.EvalPrims" = some f) (hfn : Tryz.pinned.checked.prog.funcs[f]? = some fn) :
    true = Tryz.pinned.checked.prog.looks [] /\ ∀ (j : Nat) t, fn.params[j]? = some t -> Tryz.pinned.checked.prog.wantsStandIn t = false := by
  obtain rfl : f = 3 := Option.some.inj (fnamed.symm.trans hf) |>.symm
  obtain rfl : fn = Tryz.f3 := (Option.some.inj (Tryz.func3.symm.trans hfn)).symm; refine ⟨flooks, fun j t ht => ?_⟩
  rw [Tryz.params3] at ht
  have hm : t ∈ [5, 2, 22] := by
    have := Array.mem_of_getElem? ht; simp at this; simp [this]
  exact (show Tryz.prog.wantsStandIn t = false by simpa using List.all_eq_true.1 fstand t hm)
end Go.Qu
namespace Go.Proofs.YtkgiopdkhhinoaaGreatDoor
theorem evalPrims_card : Rows.EvalPrimsCardSaid :=
  Claim7.holds_tied_plain_at .later [] _ _ _ _ Go.Qu.said (fun _ h => by cases h) Go.Qu.wft (fun _ h => by cases h) evalPrims_row_tie rfl ⟨rfl, rfl⟩ Go.Qu.mainis rfl Go.Qu.plain Go.Qu.goes
end Go.Proofs.YtkgiopdkhhinoaaGreatDoor
