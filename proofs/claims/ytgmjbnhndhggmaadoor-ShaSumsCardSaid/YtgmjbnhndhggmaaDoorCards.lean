/-
  DERIVED. GIVEN WITH THE SEED: THE CARDS: each row of YtgmjbnhndhggmaaDoorRows.lean that lists a variable, with what it lists TIED to the program's text (the seventh form; the later family's looks); each row that meets fmt, with fmt's text TOLD by the authors' own Lean function (tested against real Go, not proved from fmt's source: count such statements apart). THE CARD IS WHAT COUNTS. Prove the row's statement (the work); the ties are given (YtgmjbnhndhggmaaDoorTie.lean); close each card by the builder's one call (the guide's Derived/Test/ToyasCard.lean, 'card_holds'). Laid BY PROGRAM, IN A SANDBOX (cutbox-door.mjs). By AI agents, Wed Nov 11 2026. No macro, syntax, notation, axiom, sorry.
-/
import Derived.Test.YtgmjbnhndhggmaaDoorRows
import GoSem.ClaimSeven
namespace Go.Proofs.YtgmjbnhndhggmaaDoor
namespace Rows

/-- THE TIED CARD OF 'gemellaw02.ShaAll'. -/
def shaAllCard : Claim7 := { stood := { row := shaAllRow, standIns := [], harness := (true, "e70c661f1534081baf8d562401f3ae2d591dc50a06aa863ff85042d2181f873b"), looks := false }, kinds := [], alts := [], laidByText := true, laidKinds := [.data], laidTests := true, laidLooks := .later }
def ShaAllCardSaid : Prop := Claim7.holds Tryd.pinned (.plain (OpenSpec.ofChange shaAllSpec)) shaAllCard

/-- THE TIED CARD OF 'gemellaw02.ShaConstants'. -/
def shaConstantsCard : Claim7 := { stood := { row := shaConstantsRow, standIns := [], harness := (true, "e70c661f1534081baf8d562401f3ae2d591dc50a06aa863ff85042d2181f873b"), looks := false }, kinds := [], alts := [], laidByText := true, laidKinds := [.data], laidTests := true, laidLooks := .later }
def ShaConstantsCardSaid : Prop := Claim7.holds Tryd.pinned (.plain (OpenSpec.ofChange shaConstantsSpec)) shaConstantsCard

/-- THE TIED CARD OF 'gemellaw02.ShaSums'. -/
def shaSumsCard : Claim7 := { stood := { row := shaSumsRow, standIns := [], harness := (true, "e70c661f1534081baf8d562401f3ae2d591dc50a06aa863ff85042d2181f873b"), looks := false }, kinds := [], alts := [], laidByText := true, laidKinds := [.data], laidTests := true, laidLooks := .later }
def ShaSumsCardSaid : Prop := Claim7.holds Tryd.pinned (.plain (OpenSpec.ofChange shaSumsSpec)) shaSumsCard

/-- THE TIED CARD OF 'gemellaw02.ShaMeans'. -/
def shaMeansCard : Claim7 := { stood := { row := shaMeansRow, standIns := [], harness := (true, "e70c661f1534081baf8d562401f3ae2d591dc50a06aa863ff85042d2181f873b"), looks := false }, kinds := [], alts := [], laidByText := true, laidKinds := [.data], laidTests := true, laidLooks := .later }
def ShaMeansCardSaid : Prop := Claim7.holds Tryd.pinned (.plain (OpenSpec.ofChange shaMeansSpec)) shaMeansCard

/-- THE SECOND FORM's CARD OF 'gemellaw02.ShaAll'. -/
def shaAllUptoCard : Claim7 := { stood := { row := shaAllUptoRow, standIns := [], harness := (true, "e70c661f1534081baf8d562401f3ae2d591dc50a06aa863ff85042d2181f873b"), looks := false }, kinds := [], alts := [], laidByText := true, laidKinds := [.data], laidTests := true, laidLooks := .later }
def ShaAllUptoCardSaid : Prop := Claim7.holds Tryd.pinned (.plain (OpenSpec.upto shaAllSpec)) shaAllUptoCard

/-- THE SECOND FORM's CARD OF 'gemellaw02.ShaConstants'. -/
def shaConstantsUptoCard : Claim7 := { stood := { row := shaConstantsUptoRow, standIns := [], harness := (true, "e70c661f1534081baf8d562401f3ae2d591dc50a06aa863ff85042d2181f873b"), looks := false }, kinds := [], alts := [], laidByText := true, laidKinds := [.data], laidTests := true, laidLooks := .later }
def ShaConstantsUptoCardSaid : Prop := Claim7.holds Tryd.pinned (.plain (OpenSpec.upto shaConstantsSpec)) shaConstantsUptoCard

/-- THE SECOND FORM's CARD OF 'gemellaw02.ShaSums'. -/
def shaSumsUptoCard : Claim7 := { stood := { row := shaSumsUptoRow, standIns := [], harness := (true, "e70c661f1534081baf8d562401f3ae2d591dc50a06aa863ff85042d2181f873b"), looks := false }, kinds := [], alts := [], laidByText := true, laidKinds := [.data], laidTests := true, laidLooks := .later }
def ShaSumsUptoCardSaid : Prop := Claim7.holds Tryd.pinned (.plain (OpenSpec.upto shaSumsSpec)) shaSumsUptoCard

/-- THE SECOND FORM's CARD OF 'gemellaw02.ShaMeans'. -/
def shaMeansUptoCard : Claim7 := { stood := { row := shaMeansUptoRow, standIns := [], harness := (true, "e70c661f1534081baf8d562401f3ae2d591dc50a06aa863ff85042d2181f873b"), looks := false }, kinds := [], alts := [], laidByText := true, laidKinds := [.data], laidTests := true, laidLooks := .later }
def ShaMeansUptoCardSaid : Prop := Claim7.holds Tryd.pinned (.plain (OpenSpec.upto shaMeansSpec)) shaMeansUptoCard
end Rows
end Go.Proofs.YtgmjbnhndhggmaaDoor
