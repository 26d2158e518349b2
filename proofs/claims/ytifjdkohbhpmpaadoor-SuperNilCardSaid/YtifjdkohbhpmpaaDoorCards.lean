/-
  DERIVED. GIVEN WITH THE SEED: THE CARDS: each row of YtifjdkohbhpmpaaDoorRows.lean that lists a variable, with what it lists TIED to the program's text (the seventh form; the later family's looks); each row that meets fmt, with fmt's text TOLD by the authors' own Lean function (tested against real Go, not proved from fmt's source: count such statements apart). THE CARD IS WHAT COUNTS. Prove the row's statement (the work); the ties are given (YtifjdkohbhpmpaaDoorTie.lean); close each card by the builder's one call (the guide's Derived/Test/ToyasCard.lean, 'card_holds'). Laid BY PROGRAM, IN A SANDBOX (cutbox-door.mjs). By AI agents, Wed Nov 11 2026. No macro, syntax, notation, axiom, sorry.
-/
import Derived.Test.YtifjdkohbhpmpaaDoorRows
import GoSem.ClaimSeven
namespace Go.Proofs.YtifjdkohbhpmpaaDoor
namespace Rows

/-- THE TIED CARD OF 'gemellaw04.SuperNil'. -/
def superNilCard : Claim7 := { stood := { row := superNilRow, standIns := [], harness := (true, "d76c8014ed744522b80f600b802f5ed3afceac6cda77f8a844292d56bd90cddd"), looks := false }, kinds := [], alts := [], laidByText := true, laidKinds := [.data], laidTests := true, laidLooks := .later }
def SuperNilCardSaid : Prop := Claim7.holds Tryd.pinned (.plain (OpenSpec.ofChange superNilSpec)) superNilCard

/-- THE TIED CARD OF 'gemellaw05.ActlogNil'. -/
def actlogNilCard : Claim7 := { stood := { row := actlogNilRow, standIns := [], harness := (true, "d76c8014ed744522b80f600b802f5ed3afceac6cda77f8a844292d56bd90cddd"), looks := false }, kinds := [], alts := [], laidByText := true, laidKinds := [.data], laidTests := true, laidLooks := .later }
def ActlogNilCardSaid : Prop := Claim7.holds Tryd.pinned (.plain (OpenSpec.ofChange actlogNilSpec)) actlogNilCard

/-- THE TIED CARD OF 'gemellaw11.ReserveNil'. -/
def reserveNilCard : Claim7 := { stood := { row := reserveNilRow, standIns := [], harness := (true, "d76c8014ed744522b80f600b802f5ed3afceac6cda77f8a844292d56bd90cddd"), looks := false }, kinds := [], alts := [], laidByText := true, laidKinds := [.data], laidTests := true, laidLooks := .later }
def ReserveNilCardSaid : Prop := Claim7.holds Tryd.pinned (.plain (OpenSpec.ofChange reserveNilSpec)) reserveNilCard

/-- THE SECOND FORM's CARD OF 'gemellaw04.SuperNil'. -/
def superNilUptoCard : Claim7 := { stood := { row := superNilUptoRow, standIns := [], harness := (true, "d76c8014ed744522b80f600b802f5ed3afceac6cda77f8a844292d56bd90cddd"), looks := false }, kinds := [], alts := [], laidByText := true, laidKinds := [.data], laidTests := true, laidLooks := .later }
def SuperNilUptoCardSaid : Prop := Claim7.holds Tryd.pinned (.plain (OpenSpec.upto superNilSpec)) superNilUptoCard

/-- THE SECOND FORM's CARD OF 'gemellaw05.ActlogNil'. -/
def actlogNilUptoCard : Claim7 := { stood := { row := actlogNilUptoRow, standIns := [], harness := (true, "d76c8014ed744522b80f600b802f5ed3afceac6cda77f8a844292d56bd90cddd"), looks := false }, kinds := [], alts := [], laidByText := true, laidKinds := [.data], laidTests := true, laidLooks := .later }
def ActlogNilUptoCardSaid : Prop := Claim7.holds Tryd.pinned (.plain (OpenSpec.upto actlogNilSpec)) actlogNilUptoCard

/-- THE SECOND FORM's CARD OF 'gemellaw11.ReserveNil'. -/
def reserveNilUptoCard : Claim7 := { stood := { row := reserveNilUptoRow, standIns := [], harness := (true, "d76c8014ed744522b80f600b802f5ed3afceac6cda77f8a844292d56bd90cddd"), looks := false }, kinds := [], alts := [], laidByText := true, laidKinds := [.data], laidTests := true, laidLooks := .later }
def ReserveNilUptoCardSaid : Prop := Claim7.holds Tryd.pinned (.plain (OpenSpec.upto reserveNilSpec)) reserveNilUptoCard
end Rows
end Go.Proofs.YtifjdkohbhpmpaaDoor
