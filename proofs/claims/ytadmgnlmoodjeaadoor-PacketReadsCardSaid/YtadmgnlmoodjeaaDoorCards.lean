/-
  DERIVED. GIVEN WITH THE SEED: THE CARDS: each row of YtadmgnlmoodjeaaDoorRows.lean that lists a variable, with what it lists TIED to the program's text (the seventh form; the later family's looks); each row that meets fmt, with fmt's text TOLD by the authors' own Lean function (tested against real Go, not proved from fmt's source: count such statements apart). THE CARD IS WHAT COUNTS. Prove the row's statement (the work); the ties are given (YtadmgnlmoodjeaaDoorTie.lean); close each card by the builder's one call (the guide's Derived/Test/ToyasCard.lean, 'card_holds'). Laid BY PROGRAM, IN A SANDBOX (cutbox-door.mjs). By AI agents, Wed Nov 11 2026. No macro, syntax, notation, axiom, sorry.
-/
import Derived.Test.YtadmgnlmoodjeaaDoorRows
import GoSem.ClaimSeven
namespace Go.Proofs.YtadmgnlmoodjeaaDoor
namespace Rows

/-- THE TIED CARD OF 'gemellaw08.PacketSizes'. -/
def packetSizesCard : Claim7 := { stood := { row := packetSizesRow, standIns := [], harness := (true, "fd67aae43071d16916ebf57e1ea0780dd81ae2656c74d679e40a5eb722c1e201"), looks := false }, kinds := [], alts := [], laidByText := true, laidKinds := [.data], laidTests := true, laidLooks := .later }
def PacketSizesCardSaid : Prop := Claim7.holds Tryd.pinned (.plain (OpenSpec.ofChange packetSizesSpec)) packetSizesCard

/-- THE TIED CARD OF 'gemellaw08.PacketReads'. -/
def packetReadsCard : Claim7 := { stood := { row := packetReadsRow, standIns := [], harness := (true, "fd67aae43071d16916ebf57e1ea0780dd81ae2656c74d679e40a5eb722c1e201"), looks := false }, kinds := [], alts := [], laidByText := true, laidKinds := [.data], laidTests := true, laidLooks := .later }
def PacketReadsCardSaid : Prop := Claim7.holds Tryd.pinned (.plain (OpenSpec.ofChange packetReadsSpec)) packetReadsCard

/-- THE TIED CARD OF 'gemellaw06.MapBlocks'. -/
def mapBlocksCard : Claim7 := { stood := { row := mapBlocksRow, standIns := [], harness := (true, "fd67aae43071d16916ebf57e1ea0780dd81ae2656c74d679e40a5eb722c1e201"), looks := false }, kinds := [], alts := [], laidByText := true, laidKinds := [.data], laidTests := true, laidLooks := .later }
def MapBlocksCardSaid : Prop := Claim7.holds Tryd.pinned (.plain (OpenSpec.ofChange mapBlocksSpec)) mapBlocksCard

/-- THE TIED CARD OF 'gemellaw06.MapNil'. -/
def mapNilCard : Claim7 := { stood := { row := mapNilRow, standIns := [], harness := (true, "fd67aae43071d16916ebf57e1ea0780dd81ae2656c74d679e40a5eb722c1e201"), looks := false }, kinds := [], alts := [], laidByText := true, laidKinds := [.data, .data], laidTests := true, laidLooks := .later }
def MapNilCardSaid : Prop := Claim7.holds Tryd.pinned (.plain (OpenSpec.ofChange mapNilSpec)) mapNilCard

/-- THE SECOND FORM's CARD OF 'gemellaw08.PacketSizes'. -/
def packetSizesUptoCard : Claim7 := { stood := { row := packetSizesUptoRow, standIns := [], harness := (true, "fd67aae43071d16916ebf57e1ea0780dd81ae2656c74d679e40a5eb722c1e201"), looks := false }, kinds := [], alts := [], laidByText := true, laidKinds := [.data], laidTests := true, laidLooks := .later }
def PacketSizesUptoCardSaid : Prop := Claim7.holds Tryd.pinned (.plain (OpenSpec.upto packetSizesSpec)) packetSizesUptoCard

/-- THE SECOND FORM's CARD OF 'gemellaw08.PacketReads'. -/
def packetReadsUptoCard : Claim7 := { stood := { row := packetReadsUptoRow, standIns := [], harness := (true, "fd67aae43071d16916ebf57e1ea0780dd81ae2656c74d679e40a5eb722c1e201"), looks := false }, kinds := [], alts := [], laidByText := true, laidKinds := [.data], laidTests := true, laidLooks := .later }
def PacketReadsUptoCardSaid : Prop := Claim7.holds Tryd.pinned (.plain (OpenSpec.upto packetReadsSpec)) packetReadsUptoCard

/-- THE SECOND FORM's CARD OF 'gemellaw06.MapBlocks'. -/
def mapBlocksUptoCard : Claim7 := { stood := { row := mapBlocksUptoRow, standIns := [], harness := (true, "fd67aae43071d16916ebf57e1ea0780dd81ae2656c74d679e40a5eb722c1e201"), looks := false }, kinds := [], alts := [], laidByText := true, laidKinds := [.data], laidTests := true, laidLooks := .later }
def MapBlocksUptoCardSaid : Prop := Claim7.holds Tryd.pinned (.plain (OpenSpec.upto mapBlocksSpec)) mapBlocksUptoCard

/-- THE SECOND FORM's CARD OF 'gemellaw06.MapNil'. -/
def mapNilUptoCard : Claim7 := { stood := { row := mapNilUptoRow, standIns := [], harness := (true, "fd67aae43071d16916ebf57e1ea0780dd81ae2656c74d679e40a5eb722c1e201"), looks := false }, kinds := [], alts := [], laidByText := true, laidKinds := [.data, .data], laidTests := true, laidLooks := .later }
def MapNilUptoCardSaid : Prop := Claim7.holds Tryd.pinned (.plain (OpenSpec.upto mapNilSpec)) mapNilUptoCard
end Rows
end Go.Proofs.YtadmgnlmoodjeaaDoor
