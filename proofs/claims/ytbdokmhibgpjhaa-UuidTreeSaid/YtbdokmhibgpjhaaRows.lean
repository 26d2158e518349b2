/-
  No cell of these rows narrows 'for every input' (looked for: loops, veiled, ifaces, maps, wideKeys, modest, calm, conditions, laid).
  DERIVED. THE GIVEN ROWS OF THIS SEAT. 6 by the template 'for every input the law returns true; each argument reads behind the call as it read before'; 0 by the template 'total and deterministic' (their statements: YtbdokmhibgpjhaaTotals.lean).
  GIVEN WITH THE SEED: the statements are not yours to turn. If you find one false, say at which input.
  Laid BY PROGRAM, IN A SANDBOX (cutbox-rows.mjs): the forced cells as the released guide's own fill.sh prints them over the translation d2ca8f8db5a45083… (all of the seat's roots in one cut). By AI agents, Wed Nov 11 2026. No macro, syntax, notation, axiom, sorry.
-/
import Derived.Test.YtbdokmhibgpjhaaChecked
import GoSem.Claim
import GoSem.ClaimJoined
import GoSem.ClaimMapViews
import Derived.JoinedTies
import Derived.KernelRfl
namespace Go.Proofs.Ytbdokmhibgpjhaa
/- THE CELL 'sum', in the pinned program and in every row, IS THE sha256 OF THE DUMP (.gsa) THAT YtbdokmhibgpjhaaProg.lean LOADS. Nothing in Lean hashes anything: it is a label: what it is worth is what the hold of that sum in a sandbox is worth. -/
noncomputable def Try.pinned : Pinned := { name := "ytbdokmhibgpjhaa", sum := "d2ca8f8db5a45083c4f01c6691348f6aee0c40d29d7f4df31934a701eb90c549", checked := Try.checked }
namespace Rows
def none {H : Type} : Left H := { results := [], args := [] }

/-- 'gemellaw17.ArbiterHolds': WHATEVER THE INPUT: true; the input reads as it did. -/
def arbiterHoldsSpec : ChangeSpec := { name := "arbiterHolds", fn := fun _ => fun
  | [d1, d2, d3] => { results := [.lit (.bool true)], args := [d1, d2, d3] }
  | _ => none }
def arbiterHoldsRow : OpenClaim := { program := "ytbdokmhibgpjhaa", sum := "d2ca8f8db5a45083c4f01c6691348f6aee0c40d29d7f4df31934a701eb90c549", func := "gemel/gemellaw17.ArbiterHolds", spec := "arbiterHolds", apart := false }
def ArbiterHoldsSaid : Prop := arbiterHoldsRow.holds Try.pinned (OpenSpec.ofChange arbiterHoldsSpec)

/-- ITS FALSE NEIGHBOUR: 'it returns false'. Refute it at one input. -/
def arbiterHoldsWrong : ChangeSpec := { name := "arbiterHolds", fn := fun _ => fun
  | [d1, d2, d3] => { results := [.lit (.bool false)], args := [d1, d2, d3] }
  | _ => none }
def ArbiterHoldsWrongFalsely : Prop := arbiterHoldsRow.holds Try.pinned (OpenSpec.ofChange arbiterHoldsWrong)

/-- 'gemellaw17.ArbiterMeans': WHATEVER THE INPUT: true; the input reads as it did. -/
def arbiterMeansSpec : ChangeSpec := { name := "arbiterMeans", fn := fun _ => fun
  | [d] => { results := [.lit (.bool true)], args := [d] }
  | _ => none }
def arbiterMeansRow : OpenClaim := { program := "ytbdokmhibgpjhaa", sum := "d2ca8f8db5a45083c4f01c6691348f6aee0c40d29d7f4df31934a701eb90c549", func := "gemel/gemellaw17.ArbiterMeans", spec := "arbiterMeans", unfollowed := true, recurses := true, apart := false }
def ArbiterMeansSaid : Prop := arbiterMeansRow.holds Try.pinned (OpenSpec.ofChange arbiterMeansSpec)

/-- ITS FALSE NEIGHBOUR: 'it returns false'. Refute it at one input. -/
def arbiterMeansWrong : ChangeSpec := { name := "arbiterMeans", fn := fun _ => fun
  | [d] => { results := [.lit (.bool false)], args := [d] }
  | _ => none }
def ArbiterMeansWrongFalsely : Prop := arbiterMeansRow.holds Try.pinned (OpenSpec.ofChange arbiterMeansWrong)

/-- 'gemellaw17.ArbiterNil': WHATEVER THE INPUT: true; the input reads as it did. -/
def arbiterNilSpec : ChangeSpec := { name := "arbiterNil", fn := fun _ => fun
  | [] => { results := [.lit (.bool true)], args := [] }
  | _ => none }
def arbiterNilRow : OpenClaim := { program := "ytbdokmhibgpjhaa", sum := "d2ca8f8db5a45083c4f01c6691348f6aee0c40d29d7f4df31934a701eb90c549", func := "gemel/gemellaw17.ArbiterNil", spec := "arbiterNil", unfollowed := true, recurses := true, apart := false }
def ArbiterNilSaid : Prop := arbiterNilRow.holds Try.pinned (OpenSpec.ofChange arbiterNilSpec)

/-- ITS FALSE NEIGHBOUR: 'it returns false'. Refute it at one input. -/
def arbiterNilWrong : ChangeSpec := { name := "arbiterNil", fn := fun _ => fun
  | [] => { results := [.lit (.bool false)], args := [] }
  | _ => none }
def ArbiterNilWrongFalsely : Prop := arbiterNilRow.holds Try.pinned (OpenSpec.ofChange arbiterNilWrong)

/-- 'gemellaw07.UuidTree': WHATEVER THE INPUT: true; the input reads as it did. -/
def uuidTreeSpec : ChangeSpec := { name := "uuidTree", fn := fun _ => fun
  | [d] => { results := [.lit (.bool true)], args := [d] }
  | _ => none }
def uuidTreeRow : OpenClaim := { program := "ytbdokmhibgpjhaa", sum := "d2ca8f8db5a45083c4f01c6691348f6aee0c40d29d7f4df31934a701eb90c549", func := "gemel/gemellaw07.UuidTree", spec := "uuidTree", apart := false }
def UuidTreeSaid : Prop := uuidTreeRow.holds Try.pinned (OpenSpec.ofChange uuidTreeSpec)

/-- ITS FALSE NEIGHBOUR: 'it returns false'. Refute it at one input. -/
def uuidTreeWrong : ChangeSpec := { name := "uuidTree", fn := fun _ => fun
  | [d] => { results := [.lit (.bool false)], args := [d] }
  | _ => none }
def UuidTreeWrongFalsely : Prop := uuidTreeRow.holds Try.pinned (OpenSpec.ofChange uuidTreeWrong)

/-- 'gemellaw01.WireWrites': WHATEVER THE INPUT: true; the input reads as it did. -/
def wireWritesSpec : ChangeSpec := { name := "wireWrites", fn := fun _ => fun
  | [d] => { results := [.lit (.bool true)], args := [d] }
  | _ => none }
def wireWritesRow : OpenClaim := { program := "ytbdokmhibgpjhaa", sum := "d2ca8f8db5a45083c4f01c6691348f6aee0c40d29d7f4df31934a701eb90c549", func := "gemel/gemellaw01.WireWrites", spec := "wireWrites", apart := false }
def WireWritesSaid : Prop := wireWritesRow.holds Try.pinned (OpenSpec.ofChange wireWritesSpec)

/-- ITS FALSE NEIGHBOUR: 'it returns false'. Refute it at one input. -/
def wireWritesWrong : ChangeSpec := { name := "wireWrites", fn := fun _ => fun
  | [d] => { results := [.lit (.bool false)], args := [d] }
  | _ => none }
def WireWritesWrongFalsely : Prop := wireWritesRow.holds Try.pinned (OpenSpec.ofChange wireWritesWrong)

/-- 'gemellaw01.WireMeans': WHATEVER THE INPUT: true; the input reads as it did. -/
def wireMeansSpec : ChangeSpec := { name := "wireMeans", fn := fun _ => fun
  | [d1, d2, d3] => { results := [.lit (.bool true)], args := [d1, d2, d3] }
  | _ => none }
def wireMeansRow : OpenClaim := { program := "ytbdokmhibgpjhaa", sum := "d2ca8f8db5a45083c4f01c6691348f6aee0c40d29d7f4df31934a701eb90c549", func := "gemel/gemellaw01.WireMeans", spec := "wireMeans", apart := false }
def WireMeansSaid : Prop := wireMeansRow.holds Try.pinned (OpenSpec.ofChange wireMeansSpec)

/-- ITS FALSE NEIGHBOUR: 'it returns false'. Refute it at one input. -/
def wireMeansWrong : ChangeSpec := { name := "wireMeans", fn := fun _ => fun
  | [d1, d2, d3] => { results := [.lit (.bool false)], args := [d1, d2, d3] }
  | _ => none }
def WireMeansWrongFalsely : Prop := wireMeansRow.holds Try.pinned (OpenSpec.ofChange wireMeansWrong)

/- THE SECOND FORM. 'bulk': how many values and letters a reading holds, each counted each time it is reached (what is shared counts as often as it is met; a slice's spare places count too). A statement '..UptoSaid' is the law's where the arguments, and the package variables that the reading takes, are together of bulk at most 1048576: NARROWER than '..Said'. Prove '..Said' where nothing that the law and all that it calls make is longer than what came in: it says more and counts as full. Else prove '..UptoSaid'. A law counts once. -/
mutual
def uptoBulk {H : Type} : DataW H → Nat
  | .lit (.string bytes) => bytes.length + 1
  | .lit _ => 1
  | .nil => 1
  | .ptr d => uptoBulk d + 1
  | .slice elems spare => uptoBulkAll elems + uptoBulkAll spare + 1
  | .agg parts => uptoBulkAll parts + 1
  | .iface _ d => uptoBulk d + 1
  | .map entries => uptoBulkEntries entries + 1
  | .held _ => 1
def uptoBulkAll {H : Type} : List (DataW H) → Nat
  | [] => 0
  | d :: r => uptoBulk d + uptoBulkAll r
def uptoBulkEntries {H : Type} : List (Lit × DataW H) → Nat
  | [] => 0
  | x :: r => uptoBulkEntry x + uptoBulkEntries r
def uptoBulkEntry {H : Type} : Lit × DataW H → Nat
  | (.string bytes, d) => bytes.length + uptoBulk d + 1
  | (_, d) => uptoBulk d + 1
 end
def uptoSmall : (H : Type) → List (DataW H) → Bool := fun _ ds => decide (uptoBulkAll ds ≤ 1048576)
def OpenSpec.upto (s : _root_.Go.ChangeSpec) : _root_.Go.OpenSpec := { _root_.Go.OpenSpec.ofChange s with cond := some uptoSmall }

/-- 'gemellaw17.ArbiterHolds', WHERE WHAT IT READS IS OF BULK AT MOST 1048576: true; the input reads as it did. -/
def arbiterHoldsUptoRow : OpenClaim := { program := "ytbdokmhibgpjhaa", sum := "d2ca8f8db5a45083c4f01c6691348f6aee0c40d29d7f4df31934a701eb90c549", func := "gemel/gemellaw17.ArbiterHolds", spec := "arbiterHolds", apart := false, narrowed := true }
def ArbiterHoldsUptoSaid : Prop := arbiterHoldsUptoRow.holds Try.pinned (OpenSpec.upto arbiterHoldsSpec)

/-- 'gemellaw17.ArbiterMeans', WHERE WHAT IT READS IS OF BULK AT MOST 1048576: true; the input reads as it did. -/
def arbiterMeansUptoRow : OpenClaim := { program := "ytbdokmhibgpjhaa", sum := "d2ca8f8db5a45083c4f01c6691348f6aee0c40d29d7f4df31934a701eb90c549", func := "gemel/gemellaw17.ArbiterMeans", spec := "arbiterMeans", unfollowed := true, recurses := true, apart := false, narrowed := true }
def ArbiterMeansUptoSaid : Prop := arbiterMeansUptoRow.holds Try.pinned (OpenSpec.upto arbiterMeansSpec)

/-- 'gemellaw17.ArbiterNil', WHERE WHAT IT READS IS OF BULK AT MOST 1048576: true; the input reads as it did. -/
def arbiterNilUptoRow : OpenClaim := { program := "ytbdokmhibgpjhaa", sum := "d2ca8f8db5a45083c4f01c6691348f6aee0c40d29d7f4df31934a701eb90c549", func := "gemel/gemellaw17.ArbiterNil", spec := "arbiterNil", unfollowed := true, recurses := true, apart := false, narrowed := true }
def ArbiterNilUptoSaid : Prop := arbiterNilUptoRow.holds Try.pinned (OpenSpec.upto arbiterNilSpec)

/-- 'gemellaw07.UuidTree', WHERE WHAT IT READS IS OF BULK AT MOST 1048576: true; the input reads as it did. -/
def uuidTreeUptoRow : OpenClaim := { program := "ytbdokmhibgpjhaa", sum := "d2ca8f8db5a45083c4f01c6691348f6aee0c40d29d7f4df31934a701eb90c549", func := "gemel/gemellaw07.UuidTree", spec := "uuidTree", apart := false, narrowed := true }
def UuidTreeUptoSaid : Prop := uuidTreeUptoRow.holds Try.pinned (OpenSpec.upto uuidTreeSpec)

/-- 'gemellaw01.WireWrites', WHERE WHAT IT READS IS OF BULK AT MOST 1048576: true; the input reads as it did. -/
def wireWritesUptoRow : OpenClaim := { program := "ytbdokmhibgpjhaa", sum := "d2ca8f8db5a45083c4f01c6691348f6aee0c40d29d7f4df31934a701eb90c549", func := "gemel/gemellaw01.WireWrites", spec := "wireWrites", apart := false, narrowed := true }
def WireWritesUptoSaid : Prop := wireWritesUptoRow.holds Try.pinned (OpenSpec.upto wireWritesSpec)

/-- 'gemellaw01.WireMeans', WHERE WHAT IT READS IS OF BULK AT MOST 1048576: true; the input reads as it did. -/
def wireMeansUptoRow : OpenClaim := { program := "ytbdokmhibgpjhaa", sum := "d2ca8f8db5a45083c4f01c6691348f6aee0c40d29d7f4df31934a701eb90c549", func := "gemel/gemellaw01.WireMeans", spec := "wireMeans", apart := false, narrowed := true }
def WireMeansUptoSaid : Prop := wireMeansUptoRow.holds Try.pinned (OpenSpec.upto wireMeansSpec)

end Rows
end Go.Proofs.Ytbdokmhibgpjhaa
