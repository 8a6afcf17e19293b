/- Closed facts of the card. Closed facts of the card, second part. The closed facts of the row, joined; laid by mkf.py. -/
import Derived.Test.YtkgiopdkhhinoaaGreatDoorRows
import Derived.Stop.Joined
import Derived.ProofKit
import Derived.SevenTiedAt
import Derived.Test.YtkgiopdkhhinoaaGreatDoorCards
import Derived.Test.YtkgiopdkhhinoaaGreatDoorBc
import Derived.Test.YtkgiopdkhhinoaaGreatDoorBd
import Derived.Test.YtkgiopdkhhinoaaGreatDoorBe
import Derived.Test.YtkgiopdkhhinoaaGreatDoorBf
import Derived.Test.YtkgiopdkhhinoaaGreatDoorBg
set_option linter.all false
namespace Go.Qu
open Go.Proofs
open Go.Proofs.YtkgiopdkhhinoaaGreatDoor
theorem fnamed : Tryz.prog.funcNamed "quantale/quantalelaw13.EvalPrims" = some 3 := by kernel_rfl
theorem finst : Tryz.f3.isInstance Tryz.prog Rows.evalPrimsRow.origin Rows.evalPrimsRow.targs := of_decide_eq_true (by kernel_rfl)
theorem fwrap : Tryz.f3.isWrapper Tryz.prog Rows.evalPrimsRow.wrapper Rows.evalPrimsRow.mainSum := by
  unfold Func.isWrapper
  first
    | (rw [if_pos (by decide +kernel)]; kernel_rfl)
    | (rw [if_neg (by decide +kernel)]; exact ⟨rfl, rfl⟩)
theorem fstand : ([5, 2, 22].all fun u => !Tryz.prog.wantsStandIn u) = true := by kernel_rfl
theorem noinit : Tryz.prog.inits.idxOf? 3 = none := by kernel_rfl
theorem wft : Rows.evalPrimsRow.wfByText (OpenSpec.ofChange Rows.evalPrimsSpec) = true := by kernel_rfl
end Go.Qu
namespace Go.Qu
open Go.Proofs
open Go.Proofs.YtkgiopdkhhinoaaGreatDoor
theorem flooks : true = Tryz.prog.looks [] := by kernel_rfl
theorem mainis : Tryz.prog.mainIs = some ((true, "658409a686fb9a47804d8619019f2a17fad2261798ec8283f702feed96dc30eb").1, (true, "658409a686fb9a47804d8619019f2a17fad2261798ec8283f702feed96dc30eb").2.toList) := by kernel_rfl
theorem nogoes : Tryz.prog.funcs.any Func.goes = false := by kernel_rfl
theorem goes_of {P : Program} {c : OpenClaim} {f : FuncId} (hs : c.start = .entering) (hf : P.funcNamed c.func = some f) (hn : P.funcs.any Func.goes = false) : false = c.goesBy P := by
  have h : ∀ g : Nat, (P.funcs[g]?).any Func.goes = false := fun g => by
    cases e : P.funcs[g]? with
    | none => rfl
    | some fn => exact Bool.eq_false_iff.2 fun k => Bool.noConfusion (hn.symm.trans (Array.any_eq_true'.2 ⟨fn, Array.mem_of_getElem? e, k⟩))
  unfold OpenClaim.goesBy Program.goesAt Program.goesFrom; rw [hf, hs]; show false = (Program.goes P f || false)
  unfold Program.goes; rw [hn, Bool.and_false, Bool.or_false, Bool.or_false]; exact (List.any_eq_false.2 fun g _ => by rw [h g]; exact Bool.noConfusion).symm
theorem goes : false = Rows.evalPrimsRow.goesBy Tryz.prog := goes_of rfl fnamed nogoes
end Go.Qu
namespace Go.Qu
open Go.Proofs
open Go.Proofs.YtkgiopdkhhinoaaGreatDoor
theorem andT {a b : Bool} (h : a = true) (k : b = true) : (a && b) = true := by rw [h, k]; rfl
set_option maxRecDepth 100000 in
theorem joined : joinedFacts Tryz.pinned.checked.prog 3 Tryz.f3 Rows.evalPrimsSpec Rows.evalPrimsRow = true := by
  unfold joinedFacts; exact (andT (andT (andT (andT (andT (andT (andT (andT (andT (andT (andT (andT (andT (andT (andT (andT (andT (andT (andT (andT (andT (andT (andT (andT (andT (andT (andT (andT (andT (andT (andT jf0 jf1) jf2) jf3) jf4) jf5) jf6) jf7) jf8) jf9) jf10) jf11) jf12) jf13) jf14) jf15) jf16) jf17) jf18) jf19) jf20) jf21) jf22) jf23) jf24) jf25) jf26) jf27) jf28) jf29) jf30) jf31)
end Go.Qu
