/-
  No cell of these rows narrows 'for every input' (looked for: loops, veiled, ifaces, maps, wideKeys, modest, calm, conditions, laid).
  DERIVED. THE GIVEN ROWS OF THIS SEAT. 5 by the template 'for every input the law returns true; each argument reads behind the call as it read before'; 0 by the template 'total and deterministic' (their statements: YtmpaohmapdcckaaTotals.lean).
  GIVEN WITH THE SEED: the statements are not yours to turn. If you find one false, say at which input.
  Laid BY PROGRAM, IN A SANDBOX (cutbox-rows.mjs): the forced cells as the released guide's own fill.sh prints them over the translation 001a84fb7ed94773… (all of the seat's roots in one cut). By AI agents, Wed Nov 11 2026. No macro, syntax, notation, axiom, sorry.
-/
import Derived.Test.YtmpaohmapdcckaaChecked
import GoSem.Claim
import GoSem.ClaimJoined
import GoSem.ClaimMapViews
import Derived.JoinedTies
import Derived.KernelRfl
namespace Go.Proofs.Ytmpaohmapdcckaa
/- THE CELL 'sum', in the pinned program and in every row, IS THE sha256 OF THE DUMP (.gsa) THAT YtmpaohmapdcckaaProg.lean LOADS. Nothing in Lean hashes anything: it is a label: what it is worth is what the hold of that sum in a sandbox is worth. -/
noncomputable def Try.pinned : Pinned := { name := "ytmpaohmapdcckaa", sum := "001a84fb7ed947732a4706c09e7ece64444c9e1ef740e864c037cf6b57d6939a", checked := Try.checked }
namespace Rows
def none {H : Type} : Left H := { results := [], args := [] }

/-- 'gemellaw22.GhostCommon': WHATEVER THE INPUT: true; the input reads as it did. -/
def ghostCommonSpec : ChangeSpec := { name := "ghostCommon", fn := fun _ => fun
  | [d1, d2, d3, d4] => { results := [.lit (.bool true)], args := [d1, d2, d3, d4] }
  | _ => none }
def ghostCommonRow : OpenClaim := { program := "ytmpaohmapdcckaa", sum := "001a84fb7ed947732a4706c09e7ece64444c9e1ef740e864c037cf6b57d6939a", func := "gemel/gemellaw22.GhostCommon", spec := "ghostCommon", unfollowed := true, recurses := true, apart := false }
def GhostCommonSaid : Prop := ghostCommonRow.holds Try.pinned (OpenSpec.ofChange ghostCommonSpec)

/-- ITS FALSE NEIGHBOUR: 'it returns false'. Refute it at one input. -/
def ghostCommonWrong : ChangeSpec := { name := "ghostCommon", fn := fun _ => fun
  | [d1, d2, d3, d4] => { results := [.lit (.bool false)], args := [d1, d2, d3, d4] }
  | _ => none }
def GhostCommonWrongFalsely : Prop := ghostCommonRow.holds Try.pinned (OpenSpec.ofChange ghostCommonWrong)

/-- 'gemellaw22.GhostLines': WHATEVER THE INPUT: true; the input reads as it did. -/
def ghostLinesSpec : ChangeSpec := { name := "ghostLines", fn := fun _ => fun
  | [d] => { results := [.lit (.bool true)], args := [d] }
  | _ => none }
def ghostLinesRow : OpenClaim := { program := "ytmpaohmapdcckaa", sum := "001a84fb7ed947732a4706c09e7ece64444c9e1ef740e864c037cf6b57d6939a", func := "gemel/gemellaw22.GhostLines", spec := "ghostLines", unfollowed := true, recurses := true, apart := false }
def GhostLinesSaid : Prop := ghostLinesRow.holds Try.pinned (OpenSpec.ofChange ghostLinesSpec)

/-- ITS FALSE NEIGHBOUR: 'it returns false'. Refute it at one input. -/
def ghostLinesWrong : ChangeSpec := { name := "ghostLines", fn := fun _ => fun
  | [d] => { results := [.lit (.bool false)], args := [d] }
  | _ => none }
def GhostLinesWrongFalsely : Prop := ghostLinesRow.holds Try.pinned (OpenSpec.ofChange ghostLinesWrong)

/-- 'gemellaw13.OverlapApart': WHATEVER THE INPUT: true; the input reads as it did. -/
def overlapApartSpec : ChangeSpec := { name := "overlapApart", fn := fun _ => fun
  | [d1, d2, d3] => { results := [.lit (.bool true)], args := [d1, d2, d3] }
  | _ => none }
def overlapApartRow : OpenClaim := { program := "ytmpaohmapdcckaa", sum := "001a84fb7ed947732a4706c09e7ece64444c9e1ef740e864c037cf6b57d6939a", func := "gemel/gemellaw13.OverlapApart", spec := "overlapApart", unfollowed := true, recurses := true, apart := false }
def OverlapApartSaid : Prop := overlapApartRow.holds Try.pinned (OpenSpec.ofChange overlapApartSpec)

/-- ITS FALSE NEIGHBOUR: 'it returns false'. Refute it at one input. -/
def overlapApartWrong : ChangeSpec := { name := "overlapApart", fn := fun _ => fun
  | [d1, d2, d3] => { results := [.lit (.bool false)], args := [d1, d2, d3] }
  | _ => none }
def OverlapApartWrongFalsely : Prop := overlapApartRow.holds Try.pinned (OpenSpec.ofChange overlapApartWrong)

/-- 'gemellaw13.OverlapNil': WHATEVER THE INPUT: true; the input reads as it did. -/
def overlapNilSpec : ChangeSpec := { name := "overlapNil", fn := fun _ => fun
  | [] => { results := [.lit (.bool true)], args := [] }
  | _ => none }
def overlapNilRow : OpenClaim := { program := "ytmpaohmapdcckaa", sum := "001a84fb7ed947732a4706c09e7ece64444c9e1ef740e864c037cf6b57d6939a", func := "gemel/gemellaw13.OverlapNil", spec := "overlapNil", unfollowed := true, recurses := true, apart := false }
def OverlapNilSaid : Prop := overlapNilRow.holds Try.pinned (OpenSpec.ofChange overlapNilSpec)

/-- ITS FALSE NEIGHBOUR: 'it returns false'. Refute it at one input. -/
def overlapNilWrong : ChangeSpec := { name := "overlapNil", fn := fun _ => fun
  | [] => { results := [.lit (.bool false)], args := [] }
  | _ => none }
def OverlapNilWrongFalsely : Prop := overlapNilRow.holds Try.pinned (OpenSpec.ofChange overlapNilWrong)

/-- 'gemellaw14.TlogNil': WHATEVER THE INPUT: true; the input reads as it did. -/
def tlogNilSpec : ChangeSpec := { name := "tlogNil", fn := fun _ => fun
  | [] => { results := [.lit (.bool true)], args := [] }
  | _ => none }
def tlogNilRow : OpenClaim := { program := "ytmpaohmapdcckaa", sum := "001a84fb7ed947732a4706c09e7ece64444c9e1ef740e864c037cf6b57d6939a", func := "gemel/gemellaw14.TlogNil", spec := "tlogNil", unfollowed := true, recurses := true, apart := false }
def TlogNilSaid : Prop := tlogNilRow.holds Try.pinned (OpenSpec.ofChange tlogNilSpec)

/-- ITS FALSE NEIGHBOUR: 'it returns false'. Refute it at one input. -/
def tlogNilWrong : ChangeSpec := { name := "tlogNil", fn := fun _ => fun
  | [] => { results := [.lit (.bool false)], args := [] }
  | _ => none }
def TlogNilWrongFalsely : Prop := tlogNilRow.holds Try.pinned (OpenSpec.ofChange tlogNilWrong)

/- THE SECOND FORM. 'bulk': how many values and letters a reading holds, each counted each time it is reached (what is shared counts as often as it is met; a slice's spare places count too). A statement '..UptoSaid' is the law's where the arguments, and the package variables that the reading takes, are together of bulk at most 1048576: NARROWER than '..Said'. Prove '..Said' where nothing that the law and all that it calls make is longer than what came in: it says more and counts as full. Else prove '..UptoSaid'. A law counts once. -/
mutual
def uptoBulk {H : Type} : DataW H → Nat
  | .lit (.string bytes) => bytes.length + 1
  | .lit _ => 1
  | .nil => 1
  | .ptr d => uptoBulk d + 1
  | .slice elems spare => uptoBulkAll elems + uptoBulkAll spare + 1
  | .agg parts => uptoBulkAll parts + 1
  | .iface _ d => uptoBulk d + 1
  | .map entries => uptoBulkEntries entries + 1
  | .held _ => 1
def uptoBulkAll {H : Type} : List (DataW H) → Nat
  | [] => 0
  | d :: r => uptoBulk d + uptoBulkAll r
def uptoBulkEntries {H : Type} : List (Lit × DataW H) → Nat
  | [] => 0
  | x :: r => uptoBulkEntry x + uptoBulkEntries r
def uptoBulkEntry {H : Type} : Lit × DataW H → Nat
  | (.string bytes, d) => bytes.length + uptoBulk d + 1
  | (_, d) => uptoBulk d + 1
 end
def uptoSmall : (H : Type) → List (DataW H) → Bool := fun _ ds => decide (uptoBulkAll ds ≤ 1048576)
def OpenSpec.upto (s : _root_.Go.ChangeSpec) : _root_.Go.OpenSpec := { _root_.Go.OpenSpec.ofChange s with cond := some uptoSmall }

/-- 'gemellaw22.GhostCommon', WHERE WHAT IT READS IS OF BULK AT MOST 1048576: true; the input reads as it did. -/
def ghostCommonUptoRow : OpenClaim := { program := "ytmpaohmapdcckaa", sum := "001a84fb7ed947732a4706c09e7ece64444c9e1ef740e864c037cf6b57d6939a", func := "gemel/gemellaw22.GhostCommon", spec := "ghostCommon", unfollowed := true, recurses := true, apart := false, narrowed := true }
def GhostCommonUptoSaid : Prop := ghostCommonUptoRow.holds Try.pinned (OpenSpec.upto ghostCommonSpec)

/-- 'gemellaw22.GhostLines', WHERE WHAT IT READS IS OF BULK AT MOST 1048576: true; the input reads as it did. -/
def ghostLinesUptoRow : OpenClaim := { program := "ytmpaohmapdcckaa", sum := "001a84fb7ed947732a4706c09e7ece64444c9e1ef740e864c037cf6b57d6939a", func := "gemel/gemellaw22.GhostLines", spec := "ghostLines", unfollowed := true, recurses := true, apart := false, narrowed := true }
def GhostLinesUptoSaid : Prop := ghostLinesUptoRow.holds Try.pinned (OpenSpec.upto ghostLinesSpec)

/-- 'gemellaw13.OverlapApart', WHERE WHAT IT READS IS OF BULK AT MOST 1048576: true; the input reads as it did. -/
def overlapApartUptoRow : OpenClaim := { program := "ytmpaohmapdcckaa", sum := "001a84fb7ed947732a4706c09e7ece64444c9e1ef740e864c037cf6b57d6939a", func := "gemel/gemellaw13.OverlapApart", spec := "overlapApart", unfollowed := true, recurses := true, apart := false, narrowed := true }
def OverlapApartUptoSaid : Prop := overlapApartUptoRow.holds Try.pinned (OpenSpec.upto overlapApartSpec)

/-- 'gemellaw13.OverlapNil', WHERE WHAT IT READS IS OF BULK AT MOST 1048576: true; the input reads as it did. -/
def overlapNilUptoRow : OpenClaim := { program := "ytmpaohmapdcckaa", sum := "001a84fb7ed947732a4706c09e7ece64444c9e1ef740e864c037cf6b57d6939a", func := "gemel/gemellaw13.OverlapNil", spec := "overlapNil", unfollowed := true, recurses := true, apart := false, narrowed := true }
def OverlapNilUptoSaid : Prop := overlapNilUptoRow.holds Try.pinned (OpenSpec.upto overlapNilSpec)

/-- 'gemellaw14.TlogNil', WHERE WHAT IT READS IS OF BULK AT MOST 1048576: true; the input reads as it did. -/
def tlogNilUptoRow : OpenClaim := { program := "ytmpaohmapdcckaa", sum := "001a84fb7ed947732a4706c09e7ece64444c9e1ef740e864c037cf6b57d6939a", func := "gemel/gemellaw14.TlogNil", spec := "tlogNil", unfollowed := true, recurses := true, apart := false, narrowed := true }
def TlogNilUptoSaid : Prop := tlogNilUptoRow.holds Try.pinned (OpenSpec.upto tlogNilSpec)

end Rows
end Go.Proofs.Ytmpaohmapdcckaa
