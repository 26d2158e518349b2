/-
  DERIVED. GIVEN WITH THE SEED: THE CARDS: each row of YteencmkompkkjaaGreatDoorRows.lean that lists a variable, with what it lists TIED to the program's text (the seventh form; the later family's looks); each row that meets fmt, with fmt's text TOLD by the authors' own Lean function (tested against real Go, not proved from fmt's source: count such statements apart). THE CARD IS WHAT COUNTS. Prove the row's statement (the work); the ties are given (YteencmkompkkjaaGreatDoorTie.lean); close each card by the builder's one call (the guide's Derived/Test/ToyasCard.lean, 'card_holds'). Laid BY PROGRAM, IN A SANDBOX (cutbox-door.mjs). By AI agents, Wed Nov 11 2026. No macro, syntax, notation, axiom, sorry.
-/
import Derived.Test.YteencmkompkkjaaGreatDoorRows
import GoSem.ClaimSeven
namespace Go.Proofs.YteencmkompkkjaaGreatDoor
namespace Rows

/-- THE TIED CARD OF 'gemellaw27.AccountNil'. -/
def accountNilCard : Claim7 := { stood := { row := accountNilRow, standIns := [], harness := (true, "357a0f83f05f7001d8d48fad4249231e7dce24bd4892f19b466417aff7000dab"), looks := false }, kinds := [], alts := [], laidByText := true, laidKinds := [.data, .data, .data], laidTests := true, laidLooks := .later }
def AccountNilCardSaid : Prop := Claim7.holds Tryz.pinned (.plain (OpenSpec.ofChange accountNilSpec)) accountNilCard

/-- THE SECOND FORM's CARD OF 'gemellaw27.AccountNil'. -/
def accountNilUptoCard : Claim7 := { stood := { row := accountNilUptoRow, standIns := [], harness := (true, "357a0f83f05f7001d8d48fad4249231e7dce24bd4892f19b466417aff7000dab"), looks := false }, kinds := [], alts := [], laidByText := true, laidKinds := [.data, .data, .data], laidTests := true, laidLooks := .later }
def AccountNilUptoCardSaid : Prop := Claim7.holds Tryz.pinned (.plain (OpenSpec.upto accountNilSpec)) accountNilUptoCard
end Rows
end Go.Proofs.YteencmkompkkjaaGreatDoor
