/-
  DERIVED. GIVEN WITH THE SEED: THE CARDS: each row of YteencmkompkkjaaDoorRows.lean that lists a variable, with what it lists TIED to the program's text (the seventh form; the later family's looks); each row that meets fmt, with fmt's text TOLD by the authors' own Lean function (tested against real Go, not proved from fmt's source: count such statements apart). THE CARD IS WHAT COUNTS. Prove the row's statement (the work); the ties are given (YteencmkompkkjaaDoorTie.lean); close each card by the builder's one call (the guide's Derived/Test/ToyasCard.lean, 'card_holds'). Laid BY PROGRAM, IN A SANDBOX (cutbox-door.mjs). By AI agents, Wed Nov 11 2026. No macro, syntax, notation, axiom, sorry.
-/
import Derived.Test.YteencmkompkkjaaDoorRows
import GoSem.ClaimSeven
namespace Go.Proofs.YteencmkompkkjaaDoor
namespace Rows

/-- THE TIED CARD OF 'gemellaw09.LinkHeals'. -/
def linkHealsCard : Claim7 := { stood := { row := linkHealsRow, standIns := [], harness := (true, "0fc25fa470201669194051a48d74390169c4a4881f82fefcba4a2abc3ea54d48"), looks := false }, kinds := [], alts := [], laidByText := true, laidKinds := [.data], laidTests := true, laidLooks := .later }
def LinkHealsCardSaid : Prop := Claim7.holds Tryd.pinned (.plain (OpenSpec.ofChange linkHealsSpec)) linkHealsCard

/-- THE TIED CARD OF 'gemellaw09.LinkNil'. -/
def linkNilCard : Claim7 := { stood := { row := linkNilRow, standIns := [], harness := (true, "0fc25fa470201669194051a48d74390169c4a4881f82fefcba4a2abc3ea54d48"), looks := false }, kinds := [], alts := [], laidByText := true, laidKinds := [.data], laidTests := true, laidLooks := .later }
def LinkNilCardSaid : Prop := Claim7.holds Tryd.pinned (.plain (OpenSpec.ofChange linkNilSpec)) linkNilCard

/-- THE SECOND FORM's CARD OF 'gemellaw09.LinkHeals'. -/
def linkHealsUptoCard : Claim7 := { stood := { row := linkHealsUptoRow, standIns := [], harness := (true, "0fc25fa470201669194051a48d74390169c4a4881f82fefcba4a2abc3ea54d48"), looks := false }, kinds := [], alts := [], laidByText := true, laidKinds := [.data], laidTests := true, laidLooks := .later }
def LinkHealsUptoCardSaid : Prop := Claim7.holds Tryd.pinned (.plain (OpenSpec.upto linkHealsSpec)) linkHealsUptoCard

/-- THE SECOND FORM's CARD OF 'gemellaw09.LinkNil'. -/
def linkNilUptoCard : Claim7 := { stood := { row := linkNilUptoRow, standIns := [], harness := (true, "0fc25fa470201669194051a48d74390169c4a4881f82fefcba4a2abc3ea54d48"), looks := false }, kinds := [], alts := [], laidByText := true, laidKinds := [.data], laidTests := true, laidLooks := .later }
def LinkNilUptoCardSaid : Prop := Claim7.holds Tryd.pinned (.plain (OpenSpec.upto linkNilSpec)) linkNilUptoCard
end Rows
end Go.Proofs.YteencmkompkkjaaDoor
