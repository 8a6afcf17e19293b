/-
  DERIVED. GIVEN WITH THE SEED: THE CARDS: each row of YtkgiopdkhhinoaaGreatDoorRows.lean that lists a variable, with what it lists TIED to the program's text (the seventh form; the later family's looks); each row that meets fmt, with fmt's text TOLD by the authors' own Lean function (tested against real Go, not proved from fmt's source: count such statements apart). THE CARD IS WHAT COUNTS. Prove the row's statement (the work); the ties are given (YtkgiopdkhhinoaaGreatDoorTie.lean); close each card by the builder's one call (the guide's Derived/Test/ToyasCard.lean, 'card_holds'). Laid BY PROGRAM, IN A SANDBOX (cutbox-door.mjs). By AI agents, Wed Nov 11 2026. No macro, syntax, notation, axiom, sorry.
-/
import Derived.Test.YtkgiopdkhhinoaaGreatDoorRows
import GoSem.ClaimSeven
namespace Go.Proofs.YtkgiopdkhhinoaaGreatDoor
namespace Rows

/-- THE TIED CARD OF 'quantalelaw13.EvalPrims'. -/
def evalPrimsCard : Claim7 := { stood := { row := evalPrimsRow, standIns := [], harness := (true, "658409a686fb9a47804d8619019f2a17fad2261798ec8283f702feed96dc30eb"), looks := true }, kinds := [], alts := [], laidByText := true, laidKinds := [.data, .data, .data, .sentinel, .sentinel], laidTests := true, laidLooks := .later }
def EvalPrimsCardSaid : Prop := Claim7.holds Tryz.pinned (.plain (OpenSpec.ofChange evalPrimsSpec)) evalPrimsCard

/-- THE SECOND FORM's CARD OF 'quantalelaw13.EvalPrims'. -/
def evalPrimsUptoCard : Claim7 := { stood := { row := evalPrimsUptoRow, standIns := [], harness := (true, "658409a686fb9a47804d8619019f2a17fad2261798ec8283f702feed96dc30eb"), looks := true }, kinds := [], alts := [], laidByText := true, laidKinds := [.data, .data, .data, .sentinel, .sentinel], laidTests := true, laidLooks := .later }
def EvalPrimsUptoCardSaid : Prop := Claim7.holds Tryz.pinned (.plain (OpenSpec.upto evalPrimsSpec)) evalPrimsUptoCard
end Rows
end Go.Proofs.YtkgiopdkhhinoaaGreatDoor
