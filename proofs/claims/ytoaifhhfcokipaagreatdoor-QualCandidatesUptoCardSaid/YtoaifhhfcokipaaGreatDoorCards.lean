/-
  DERIVED. GIVEN WITH THE SEED: THE CARDS: each row of YtoaifhhfcokipaaGreatDoorRows.lean that lists a variable, with what it lists TIED to the program's text (the seventh form; the later family's looks); each row that meets fmt, with fmt's text TOLD by the authors' own Lean function (tested against real Go, not proved from fmt's source: count such statements apart). THE CARD IS WHAT COUNTS. Prove the row's statement (the work); the ties are given (YtoaifhhfcokipaaGreatDoorTie.lean); close each card by the builder's one call (the guide's Derived/Test/ToyasCard.lean, 'card_holds'). Laid BY PROGRAM, IN A SANDBOX (cutbox-door.mjs). By AI agents, Wed Nov 11 2026. No macro, syntax, notation, axiom, sorry.
-/
import Derived.Test.YtoaifhhfcokipaaGreatDoorRows
import GoSem.ClaimSeven
namespace Go.Proofs.YtoaifhhfcokipaaGreatDoor
namespace Rows

/-- THE TIED CARD OF 'quantalelaw18.QualCandidates'. -/
def qualCandidatesCard : Claim7 := { stood := { row := qualCandidatesRow, standIns := [], harness := (true, "7ccd2d146ec99fae21647c8ab79c2bbeea17fa569443cb5a6b91c5275e20a8d8"), looks := false }, kinds := [], alts := [], laidByText := true, laidKinds := [.data, .data, .data], laidTests := true, laidLooks := .later }
def QualCandidatesCardSaid : Prop := Claim7.holds Tryz.pinned (.plain (OpenSpec.ofChange qualCandidatesSpec)) qualCandidatesCard

/-- THE SECOND FORM's CARD OF 'quantalelaw18.QualCandidates'. -/
def qualCandidatesUptoCard : Claim7 := { stood := { row := qualCandidatesUptoRow, standIns := [], harness := (true, "7ccd2d146ec99fae21647c8ab79c2bbeea17fa569443cb5a6b91c5275e20a8d8"), looks := false }, kinds := [], alts := [], laidByText := true, laidKinds := [.data, .data, .data], laidTests := true, laidLooks := .later }
def QualCandidatesUptoCardSaid : Prop := Claim7.holds Tryz.pinned (.plain (OpenSpec.upto qualCandidatesSpec)) qualCandidatesUptoCard
end Rows
end Go.Proofs.YtoaifhhfcokipaaGreatDoor
