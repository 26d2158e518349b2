/-
  DERIVED. GIVEN WITH THE SEED: THE CARDS: each row of YtolenjlggpdigaaGreatDoorRows.lean that lists a variable, with what it lists TIED to the program's text (the seventh form; the later family's looks); each row that meets fmt, with fmt's text TOLD by the authors' own Lean function (tested against real Go, not proved from fmt's source: count such statements apart). THE CARD IS WHAT COUNTS. Prove the row's statement (the work); the ties are given (YtolenjlggpdigaaGreatDoorTie.lean); close each card by the builder's one call (the guide's Derived/Test/ToyasCard.lean, 'card_holds'). Laid BY PROGRAM, IN A SANDBOX (cutbox-door.mjs). By AI agents, Wed Nov 11 2026. No macro, syntax, notation, axiom, sorry.
-/
import Derived.Test.YtolenjlggpdigaaGreatDoorRows
import GoSem.ClaimSeven
namespace Go.Proofs.YtolenjlggpdigaaGreatDoor
namespace Rows

/-- THE TIED CARD OF 'gemellaw25.ScriptParts'. -/
def scriptPartsCard : Claim7 := { stood := { row := scriptPartsRow, standIns := [], harness := (true, "2b2615a0a354bb831a9615149d6af3c191360797e247346c352cfc0045c6d611"), looks := false }, kinds := [], alts := [], laidByText := true, laidKinds := [.data, .data, .data, .data, .pinned], laidTests := true, laidLooks := .later }
def ScriptPartsCardSaid : Prop := Claim7.holds Tryz.pinned (.plain (OpenSpec.ofChange scriptPartsSpec)) scriptPartsCard

/-- THE TIED CARD OF 'gemellaw25.ScriptStages'. -/
def scriptStagesCard : Claim7 := { stood := { row := scriptStagesRow, standIns := [], harness := (true, "2b2615a0a354bb831a9615149d6af3c191360797e247346c352cfc0045c6d611"), looks := false }, kinds := [], alts := [], laidByText := true, laidKinds := [.data, .data, .data, .data, .pinned], laidTests := true, laidLooks := .later }
def ScriptStagesCardSaid : Prop := Claim7.holds Tryz.pinned (.plain (OpenSpec.ofChange scriptStagesSpec)) scriptStagesCard

/-- THE TIED CARD OF 'gemellaw25.ScriptBounds'. -/
def scriptBoundsCard : Claim7 := { stood := { row := scriptBoundsRow, standIns := [], harness := (true, "2b2615a0a354bb831a9615149d6af3c191360797e247346c352cfc0045c6d611"), looks := false }, kinds := [], alts := [], laidByText := true, laidKinds := [.data, .data, .data, .data, .pinned], laidTests := true, laidLooks := .later }
def ScriptBoundsCardSaid : Prop := Claim7.holds Tryz.pinned (.plain (OpenSpec.ofChange scriptBoundsSpec)) scriptBoundsCard

/-- THE TIED CARD OF 'gemellaw25.ScriptGrows'. -/
def scriptGrowsCard : Claim7 := { stood := { row := scriptGrowsRow, standIns := [], harness := (true, "2b2615a0a354bb831a9615149d6af3c191360797e247346c352cfc0045c6d611"), looks := false }, kinds := [], alts := [], laidByText := true, laidKinds := [.data, .data, .data, .data, .pinned], laidTests := true, laidLooks := .later }
def ScriptGrowsCardSaid : Prop := Claim7.holds Tryz.pinned (.plain (OpenSpec.ofChange scriptGrowsSpec)) scriptGrowsCard

/-- THE TIED CARD OF 'gemellaw25.ScriptMeans'. -/
def scriptMeansCard : Claim7 := { stood := { row := scriptMeansRow, standIns := [], harness := (true, "2b2615a0a354bb831a9615149d6af3c191360797e247346c352cfc0045c6d611"), looks := false }, kinds := [], alts := [], laidByText := true, laidKinds := [.data, .data, .data, .data, .pinned], laidTests := true, laidLooks := .later }
def ScriptMeansCardSaid : Prop := Claim7.holds Tryz.pinned (.plain (OpenSpec.ofChange scriptMeansSpec)) scriptMeansCard

/-- THE SECOND FORM's CARD OF 'gemellaw25.ScriptParts'. -/
def scriptPartsUptoCard : Claim7 := { stood := { row := scriptPartsUptoRow, standIns := [], harness := (true, "2b2615a0a354bb831a9615149d6af3c191360797e247346c352cfc0045c6d611"), looks := false }, kinds := [], alts := [], laidByText := true, laidKinds := [.data, .data, .data, .data, .pinned], laidTests := true, laidLooks := .later }
def ScriptPartsUptoCardSaid : Prop := Claim7.holds Tryz.pinned (.plain (OpenSpec.upto scriptPartsSpec)) scriptPartsUptoCard

/-- THE SECOND FORM's CARD OF 'gemellaw25.ScriptStages'. -/
def scriptStagesUptoCard : Claim7 := { stood := { row := scriptStagesUptoRow, standIns := [], harness := (true, "2b2615a0a354bb831a9615149d6af3c191360797e247346c352cfc0045c6d611"), looks := false }, kinds := [], alts := [], laidByText := true, laidKinds := [.data, .data, .data, .data, .pinned], laidTests := true, laidLooks := .later }
def ScriptStagesUptoCardSaid : Prop := Claim7.holds Tryz.pinned (.plain (OpenSpec.upto scriptStagesSpec)) scriptStagesUptoCard

/-- THE SECOND FORM's CARD OF 'gemellaw25.ScriptBounds'. -/
def scriptBoundsUptoCard : Claim7 := { stood := { row := scriptBoundsUptoRow, standIns := [], harness := (true, "2b2615a0a354bb831a9615149d6af3c191360797e247346c352cfc0045c6d611"), looks := false }, kinds := [], alts := [], laidByText := true, laidKinds := [.data, .data, .data, .data, .pinned], laidTests := true, laidLooks := .later }
def ScriptBoundsUptoCardSaid : Prop := Claim7.holds Tryz.pinned (.plain (OpenSpec.upto scriptBoundsSpec)) scriptBoundsUptoCard

/-- THE SECOND FORM's CARD OF 'gemellaw25.ScriptGrows'. -/
def scriptGrowsUptoCard : Claim7 := { stood := { row := scriptGrowsUptoRow, standIns := [], harness := (true, "2b2615a0a354bb831a9615149d6af3c191360797e247346c352cfc0045c6d611"), looks := false }, kinds := [], alts := [], laidByText := true, laidKinds := [.data, .data, .data, .data, .pinned], laidTests := true, laidLooks := .later }
def ScriptGrowsUptoCardSaid : Prop := Claim7.holds Tryz.pinned (.plain (OpenSpec.upto scriptGrowsSpec)) scriptGrowsUptoCard

/-- THE SECOND FORM's CARD OF 'gemellaw25.ScriptMeans'. -/
def scriptMeansUptoCard : Claim7 := { stood := { row := scriptMeansUptoRow, standIns := [], harness := (true, "2b2615a0a354bb831a9615149d6af3c191360797e247346c352cfc0045c6d611"), looks := false }, kinds := [], alts := [], laidByText := true, laidKinds := [.data, .data, .data, .data, .pinned], laidTests := true, laidLooks := .later }
def ScriptMeansUptoCardSaid : Prop := Claim7.holds Tryz.pinned (.plain (OpenSpec.upto scriptMeansSpec)) scriptMeansUptoCard
end Rows
end Go.Proofs.YtolenjlggpdigaaGreatDoor
