/-
  DERIVED. GIVEN WITH THE SEED: THE CARDS: each row of YtenndllcidikeaaGreatDoorRows.lean that lists a variable, with what it lists TIED to the program's text (the seventh form; the later family's looks); each row that meets fmt, with fmt's text TOLD by the authors' own Lean function (tested against real Go, not proved from fmt's source: count such statements apart). THE CARD IS WHAT COUNTS. Prove the row's statement (the work); the ties are given (YtenndllcidikeaaGreatDoorTie.lean); close each card by the builder's one call (the guide's Derived/Test/ToyasCard.lean, 'card_holds'). Laid BY PROGRAM, IN A SANDBOX (cutbox-door.mjs). By AI agents, Wed Nov 11 2026. No macro, syntax, notation, axiom, sorry.
-/
import Derived.Test.YtenndllcidikeaaGreatDoorRows
import GoSem.ClaimSeven
namespace Go.Proofs.YtenndllcidikeaaGreatDoor
namespace Rows

/-- THE TIED CARD OF 'gemellaw29.MetaReads'. -/
def metaReadsCard : Claim7 := { stood := { row := metaReadsRow, standIns := [], harness := (true, "d8996aae64e31e277bfb564dcfe641488df086e02bf72b47fafeae3ee37626dd"), looks := true }, kinds := [], alts := [], laidByText := true, laidKinds := [.data, .data, .data, .data, .data, .sentinel, .sentinel, .pinned], laidTests := true, laidLooks := .later }
def MetaReadsCardSaid : Prop := Claim7.holds Tryz.pinned (.plain (OpenSpec.ofChange metaReadsSpec)) metaReadsCard

/-- THE TIED CARD OF 'gemellaw29.MetaNil'. -/
def metaNilCard : Claim7 := { stood := { row := metaNilRow, standIns := [], harness := (true, "d8996aae64e31e277bfb564dcfe641488df086e02bf72b47fafeae3ee37626dd"), looks := true }, kinds := [], alts := [], laidByText := true, laidKinds := [.data, .data, .data, .data, .data, .sentinel, .sentinel, .pinned], laidTests := true, laidLooks := .later }
def MetaNilCardSaid : Prop := Claim7.holds Tryz.pinned (.plain (OpenSpec.ofChange metaNilSpec)) metaNilCard

/-- THE TIED CARD OF 'gemellaw29.MetaPuts'. -/
def metaPutsCard : Claim7 := { stood := { row := metaPutsRow, standIns := [], harness := (true, "d8996aae64e31e277bfb564dcfe641488df086e02bf72b47fafeae3ee37626dd"), looks := true }, kinds := [], alts := [], laidByText := true, laidKinds := [.data, .data, .data, .data], laidTests := true, laidLooks := .later }
def MetaPutsCardSaid : Prop := Claim7.holds Tryz.pinned (.plain (OpenSpec.ofChange metaPutsSpec)) metaPutsCard

/-- THE TIED CARD OF 'gemellaw29.MetaTakes'. -/
def metaTakesCard : Claim7 := { stood := { row := metaTakesRow, standIns := [], harness := (true, "d8996aae64e31e277bfb564dcfe641488df086e02bf72b47fafeae3ee37626dd"), looks := true }, kinds := [], alts := [], laidByText := true, laidKinds := [.data, .data, .data, .data], laidTests := true, laidLooks := .later }
def MetaTakesCardSaid : Prop := Claim7.holds Tryz.pinned (.plain (OpenSpec.ofChange metaTakesSpec)) metaTakesCard

/-- THE TIED CARD OF 'gemellaw29.MetaAttached'. -/
def metaAttachedCard : Claim7 := { stood := { row := metaAttachedRow, standIns := [], harness := (true, "d8996aae64e31e277bfb564dcfe641488df086e02bf72b47fafeae3ee37626dd"), looks := true }, kinds := [], alts := [], laidByText := true, laidKinds := [.data, .data, .data, .data], laidTests := true, laidLooks := .later }
def MetaAttachedCardSaid : Prop := Claim7.holds Tryz.pinned (.plain (OpenSpec.ofChange metaAttachedSpec)) metaAttachedCard

/-- THE TIED CARD OF 'gemellaw29.MetaStore'. -/
def metaStoreCard : Claim7 := { stood := { row := metaStoreRow, standIns := [], harness := (true, "d8996aae64e31e277bfb564dcfe641488df086e02bf72b47fafeae3ee37626dd"), looks := true }, kinds := [], alts := [], laidByText := true, laidKinds := [.data, .data, .data, .data], laidTests := true, laidLooks := .later }
def MetaStoreCardSaid : Prop := Claim7.holds Tryz.pinned (.plain (OpenSpec.ofChange metaStoreSpec)) metaStoreCard

/-- THE SECOND FORM's CARD OF 'gemellaw29.MetaReads'. -/
def metaReadsUptoCard : Claim7 := { stood := { row := metaReadsUptoRow, standIns := [], harness := (true, "d8996aae64e31e277bfb564dcfe641488df086e02bf72b47fafeae3ee37626dd"), looks := true }, kinds := [], alts := [], laidByText := true, laidKinds := [.data, .data, .data, .data, .data, .sentinel, .sentinel, .pinned], laidTests := true, laidLooks := .later }
def MetaReadsUptoCardSaid : Prop := Claim7.holds Tryz.pinned (.plain (OpenSpec.upto metaReadsSpec)) metaReadsUptoCard

/-- THE SECOND FORM's CARD OF 'gemellaw29.MetaNil'. -/
def metaNilUptoCard : Claim7 := { stood := { row := metaNilUptoRow, standIns := [], harness := (true, "d8996aae64e31e277bfb564dcfe641488df086e02bf72b47fafeae3ee37626dd"), looks := true }, kinds := [], alts := [], laidByText := true, laidKinds := [.data, .data, .data, .data, .data, .sentinel, .sentinel, .pinned], laidTests := true, laidLooks := .later }
def MetaNilUptoCardSaid : Prop := Claim7.holds Tryz.pinned (.plain (OpenSpec.upto metaNilSpec)) metaNilUptoCard

/-- THE SECOND FORM's CARD OF 'gemellaw29.MetaPuts'. -/
def metaPutsUptoCard : Claim7 := { stood := { row := metaPutsUptoRow, standIns := [], harness := (true, "d8996aae64e31e277bfb564dcfe641488df086e02bf72b47fafeae3ee37626dd"), looks := true }, kinds := [], alts := [], laidByText := true, laidKinds := [.data, .data, .data, .data], laidTests := true, laidLooks := .later }
def MetaPutsUptoCardSaid : Prop := Claim7.holds Tryz.pinned (.plain (OpenSpec.upto metaPutsSpec)) metaPutsUptoCard

/-- THE SECOND FORM's CARD OF 'gemellaw29.MetaTakes'. -/
def metaTakesUptoCard : Claim7 := { stood := { row := metaTakesUptoRow, standIns := [], harness := (true, "d8996aae64e31e277bfb564dcfe641488df086e02bf72b47fafeae3ee37626dd"), looks := true }, kinds := [], alts := [], laidByText := true, laidKinds := [.data, .data, .data, .data], laidTests := true, laidLooks := .later }
def MetaTakesUptoCardSaid : Prop := Claim7.holds Tryz.pinned (.plain (OpenSpec.upto metaTakesSpec)) metaTakesUptoCard

/-- THE SECOND FORM's CARD OF 'gemellaw29.MetaAttached'. -/
def metaAttachedUptoCard : Claim7 := { stood := { row := metaAttachedUptoRow, standIns := [], harness := (true, "d8996aae64e31e277bfb564dcfe641488df086e02bf72b47fafeae3ee37626dd"), looks := true }, kinds := [], alts := [], laidByText := true, laidKinds := [.data, .data, .data, .data], laidTests := true, laidLooks := .later }
def MetaAttachedUptoCardSaid : Prop := Claim7.holds Tryz.pinned (.plain (OpenSpec.upto metaAttachedSpec)) metaAttachedUptoCard

/-- THE SECOND FORM's CARD OF 'gemellaw29.MetaStore'. -/
def metaStoreUptoCard : Claim7 := { stood := { row := metaStoreUptoRow, standIns := [], harness := (true, "d8996aae64e31e277bfb564dcfe641488df086e02bf72b47fafeae3ee37626dd"), looks := true }, kinds := [], alts := [], laidByText := true, laidKinds := [.data, .data, .data, .data], laidTests := true, laidLooks := .later }
def MetaStoreUptoCardSaid : Prop := Claim7.holds Tryz.pinned (.plain (OpenSpec.upto metaStoreSpec)) metaStoreUptoCard
end Rows
end Go.Proofs.YtenndllcidikeaaGreatDoor
