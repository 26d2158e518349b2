/-
  NARROWER THAN 'FOR EVERY INPUT', by the rows' own cells (each row's printed sentence says how): LinkHeals: laid · LinkNil: laid.
  DERIVED. THE GIVEN ROWS OF THIS SEAT. 2 by the template 'for every input the law returns true; each argument reads behind the call as it read before'; 0 by the template 'total and deterministic' (their statements: YteencmkompkkjaaDoorTotals.lean).
  GIVEN WITH THE SEED: the statements are not yours to turn. If you find one false, say at which input.
  Laid BY PROGRAM, IN A SANDBOX (cutbox-rows.mjs): the forced cells as the released guide's own fill.sh prints them over the translation fd0772079debf384… (all of the seat's roots in one cut). By AI agents, Wed Nov 11 2026. No macro, syntax, notation, axiom, sorry.
-/
import Derived.Test.YteencmkompkkjaaDoorChecked
import GoSem.Claim
import GoSem.ClaimJoined
import GoSem.ClaimMapViews
import Derived.JoinedTies
import Derived.KernelRfl
namespace Go.Proofs.YteencmkompkkjaaDoor
/- THE CELL 'sum', in the pinned program and in every row, IS THE sha256 OF THE DUMP (.gsa) THAT YteencmkompkkjaaDoorProg.lean LOADS. Nothing in Lean hashes anything: it is a label: what it is worth is what the hold of that sum in a sandbox is worth. -/
noncomputable def Tryd.pinned : Pinned := { name := "yteencmkompkkjaadoor", sum := "fd0772079debf384237f0b380266e7bb18c67bf293f54489a8b0042cfa16607b", checked := Tryd.checked }
namespace Rows
def none {H : Type} : Left H := { results := [], args := [] }

/- WHAT THE LISTED PACKAGE-LEVEL VARIABLES READ AS WHEN THE CALL BEGINS. Each datum BY PROGRAM (the guide's laid-datum.mjs) off the statement by which the dump's own 'gosem.cut.vars' lays the variable. In a bare row this is a premise. The card (YteencmkompkkjaaDoorCards.lean) ties it to the program's text. -/
def laid_gemel_sha_start {H : Type} : DataW H := .agg [.lit (.int .u32 1779033703), .lit (.int .u32 3144134277), .lit (.int .u32 1013904242), .lit (.int .u32 2773480762), .lit (.int .u32 1359893119), .lit (.int .u32 2600822924), .lit (.int .u32 528734635), .lit (.int .u32 1541459225)]

/-- 'gemellaw09.LinkHeals': WHATEVER THE INPUT: true; the input reads as it did. -/
def linkHealsSpec : ChangeSpec := { name := "linkHeals", fn := fun _ => fun
  | [d1, d2, d3] => { results := [.lit (.bool true)], args := [d1, d2, d3] }
  | _ => none }
def linkHealsRow : OpenClaim := { program := "yteencmkompkkjaadoor", sum := "fd0772079debf384237f0b380266e7bb18c67bf293f54489a8b0042cfa16607b", func := "gemel/gemellaw09.LinkHeals", spec := "linkHeals", unfollowed := true, recurses := true, named := ["gemel/sha.start"], apart := false, laid := [("gemel/sha.start", laid_gemel_sha_start)] }
def LinkHealsSaid : Prop := linkHealsRow.holds Tryd.pinned (OpenSpec.ofChange linkHealsSpec)

/-- ITS FALSE NEIGHBOUR: 'it returns false'. Refute it at one input. -/
def linkHealsWrong : ChangeSpec := { name := "linkHeals", fn := fun _ => fun
  | [d1, d2, d3] => { results := [.lit (.bool false)], args := [d1, d2, d3] }
  | _ => none }
def LinkHealsWrongFalsely : Prop := linkHealsRow.holds Tryd.pinned (OpenSpec.ofChange linkHealsWrong)

/-- 'gemellaw09.LinkNil': WHATEVER THE INPUT: true; the input reads as it did. -/
def linkNilSpec : ChangeSpec := { name := "linkNil", fn := fun _ => fun
  | [] => { results := [.lit (.bool true)], args := [] }
  | _ => none }
def linkNilRow : OpenClaim := { program := "yteencmkompkkjaadoor", sum := "fd0772079debf384237f0b380266e7bb18c67bf293f54489a8b0042cfa16607b", func := "gemel/gemellaw09.LinkNil", spec := "linkNil", unfollowed := true, recurses := true, named := ["gemel/sha.start"], apart := false, laid := [("gemel/sha.start", laid_gemel_sha_start)] }
def LinkNilSaid : Prop := linkNilRow.holds Tryd.pinned (OpenSpec.ofChange linkNilSpec)

/-- ITS FALSE NEIGHBOUR: 'it returns false'. Refute it at one input. -/
def linkNilWrong : ChangeSpec := { name := "linkNil", fn := fun _ => fun
  | [] => { results := [.lit (.bool false)], args := [] }
  | _ => none }
def LinkNilWrongFalsely : Prop := linkNilRow.holds Tryd.pinned (OpenSpec.ofChange linkNilWrong)

/- THE SECOND FORM. 'bulk': how many values and letters a reading holds, each counted each time it is reached (what is shared counts as often as it is met; a slice's spare places count too). A statement '..UptoSaid' is the law's where the arguments, and the package variables that the reading takes, are together of bulk at most 1048576: NARROWER than '..Said'. Prove '..Said' where nothing that the law and all that it calls make is longer than what came in: it says more and counts as full. Else prove '..UptoSaid'. A law counts once. -/
mutual
def uptoBulk {H : Type} : DataW H → Nat
  | .lit (.string bytes) => bytes.length + 1
  | .lit _ => 1
  | .nil => 1
  | .ptr d => uptoBulk d + 1
  | .slice elems spare => uptoBulkAll elems + uptoBulkAll spare + 1
  | .agg parts => uptoBulkAll parts + 1
  | .iface _ d => uptoBulk d + 1
  | .map entries => uptoBulkEntries entries + 1
  | .held _ => 1
def uptoBulkAll {H : Type} : List (DataW H) → Nat
  | [] => 0
  | d :: r => uptoBulk d + uptoBulkAll r
def uptoBulkEntries {H : Type} : List (Lit × DataW H) → Nat
  | [] => 0
  | x :: r => uptoBulkEntry x + uptoBulkEntries r
def uptoBulkEntry {H : Type} : Lit × DataW H → Nat
  | (.string bytes, d) => bytes.length + uptoBulk d + 1
  | (_, d) => uptoBulk d + 1
 end
def uptoSmall : (H : Type) → List (DataW H) → Bool := fun _ ds => decide (uptoBulkAll ds ≤ 1048576)
def OpenSpec.upto (s : _root_.Go.ChangeSpec) : _root_.Go.OpenSpec := { _root_.Go.OpenSpec.ofChange s with cond := some uptoSmall }

/-- 'gemellaw09.LinkHeals', WHERE WHAT IT READS IS OF BULK AT MOST 1048576: true; the input reads as it did. -/
def linkHealsUptoRow : OpenClaim := { program := "yteencmkompkkjaadoor", sum := "fd0772079debf384237f0b380266e7bb18c67bf293f54489a8b0042cfa16607b", func := "gemel/gemellaw09.LinkHeals", spec := "linkHeals", unfollowed := true, recurses := true, named := ["gemel/sha.start"], apart := false, laid := [("gemel/sha.start", laid_gemel_sha_start)], narrowed := true }
def LinkHealsUptoSaid : Prop := linkHealsUptoRow.holds Tryd.pinned (OpenSpec.upto linkHealsSpec)

/-- 'gemellaw09.LinkNil', WHERE WHAT IT READS IS OF BULK AT MOST 1048576: true; the input reads as it did. -/
def linkNilUptoRow : OpenClaim := { program := "yteencmkompkkjaadoor", sum := "fd0772079debf384237f0b380266e7bb18c67bf293f54489a8b0042cfa16607b", func := "gemel/gemellaw09.LinkNil", spec := "linkNil", unfollowed := true, recurses := true, named := ["gemel/sha.start"], apart := false, laid := [("gemel/sha.start", laid_gemel_sha_start)], narrowed := true }
def LinkNilUptoSaid : Prop := linkNilUptoRow.holds Tryd.pinned (OpenSpec.upto linkNilSpec)

end Rows
end Go.Proofs.YteencmkompkkjaaDoor
