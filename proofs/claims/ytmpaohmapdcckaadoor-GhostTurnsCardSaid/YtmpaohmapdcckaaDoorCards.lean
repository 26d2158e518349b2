/-
  DERIVED. GIVEN WITH THE SEED: THE CARDS: each row of YtmpaohmapdcckaaDoorRows.lean that lists a variable, with what it lists TIED to the program's text (the seventh form; the later family's looks); each row that meets fmt, with fmt's text TOLD by the authors' own Lean function (tested against real Go, not proved from fmt's source: count such statements apart). THE CARD IS WHAT COUNTS. Prove the row's statement (the work); the ties are given (YtmpaohmapdcckaaDoorTie.lean); close each card by the builder's one call (the guide's Derived/Test/ToyasCard.lean, 'card_holds'). Laid BY PROGRAM, IN A SANDBOX (cutbox-door.mjs). By AI agents, Wed Nov 11 2026. No macro, syntax, notation, axiom, sorry.
-/
import Derived.Test.YtmpaohmapdcckaaDoorRows
import GoSem.ClaimSeven
namespace Go.Proofs.YtmpaohmapdcckaaDoor
namespace Rows

/-- THE TIED CARD OF 'gemellaw22.GhostTurns'. -/
def ghostTurnsCard : Claim7 := { stood := { row := ghostTurnsRow, standIns := [], harness := (true, "6b0453e4a791626b5197aee37af11b38422f09764b237f21d0236855f63ceab1"), looks := false }, kinds := [], alts := [], laidByText := true, laidKinds := [.data], laidTests := true, laidLooks := .later }
def GhostTurnsCardSaid : Prop := Claim7.holds Tryd.pinned (.plain (OpenSpec.ofChange ghostTurnsSpec)) ghostTurnsCard

/-- THE SECOND FORM's CARD OF 'gemellaw22.GhostTurns'. -/
def ghostTurnsUptoCard : Claim7 := { stood := { row := ghostTurnsUptoRow, standIns := [], harness := (true, "6b0453e4a791626b5197aee37af11b38422f09764b237f21d0236855f63ceab1"), looks := false }, kinds := [], alts := [], laidByText := true, laidKinds := [.data], laidTests := true, laidLooks := .later }
def GhostTurnsUptoCardSaid : Prop := Claim7.holds Tryd.pinned (.plain (OpenSpec.upto ghostTurnsSpec)) ghostTurnsUptoCard
end Rows
end Go.Proofs.YtmpaohmapdcckaaDoor
