/-
  NARROWER THAN 'FOR EVERY INPUT', by the rows' own cells (each row's printed sentence says how): ShaAll: laid · ShaConstants: laid · ShaSums: laid · ShaMeans: laid.
  DERIVED. THE GIVEN ROWS OF THIS SEAT. 4 by the template 'for every input the law returns true; each argument reads behind the call as it read before'; 0 by the template 'total and deterministic' (their statements: YtgmjbnhndhggmaaDoorTotals.lean).
  GIVEN WITH THE SEED: the statements are not yours to turn. If you find one false, say at which input.
  Laid BY PROGRAM, IN A SANDBOX (cutbox-rows.mjs): the forced cells as the released guide's own fill.sh prints them over the translation 4796b95b7f533831… (all of the seat's roots in one cut). By AI agents, Wed Nov 11 2026. No macro, syntax, notation, axiom, sorry.
-/
import Derived.Test.YtgmjbnhndhggmaaDoorChecked
import GoSem.Claim
import GoSem.ClaimJoined
import GoSem.ClaimMapViews
import Derived.JoinedTies
import Derived.KernelRfl
namespace Go.Proofs.YtgmjbnhndhggmaaDoor
/- THE CELL 'sum', in the pinned program and in every row, IS THE sha256 OF THE DUMP (.gsa) THAT YtgmjbnhndhggmaaDoorProg.lean LOADS. Nothing in Lean hashes anything: it is a label: what it is worth is what the hold of that sum in a sandbox is worth. -/
noncomputable def Tryd.pinned : Pinned := { name := "ytgmjbnhndhggmaadoor", sum := "4796b95b7f5338311d40b73b8601f3356a8258bc71dc970c26f6011d215dcf20", checked := Tryd.checked }
namespace Rows
def none {H : Type} : Left H := { results := [], args := [] }

/- WHAT THE LISTED PACKAGE-LEVEL VARIABLES READ AS WHEN THE CALL BEGINS. Each datum BY PROGRAM (the guide's laid-datum.mjs) off the statement by which the dump's own 'gosem.cut.vars' lays the variable. In a bare row this is a premise. The card (YtgmjbnhndhggmaaDoorCards.lean) ties it to the program's text. -/
def laid_gemel_sha_start {H : Type} : DataW H := .agg [.lit (.int .u32 1779033703), .lit (.int .u32 3144134277), .lit (.int .u32 1013904242), .lit (.int .u32 2773480762), .lit (.int .u32 1359893119), .lit (.int .u32 2600822924), .lit (.int .u32 528734635), .lit (.int .u32 1541459225)]

/-- 'gemellaw02.ShaAll': WHATEVER THE INPUT: true; the input reads as it did. -/
def shaAllSpec : ChangeSpec := { name := "shaAll", fn := fun _ => fun
  | [] => { results := [.lit (.bool true)], args := [] }
  | _ => none }
def shaAllRow : OpenClaim := { program := "ytgmjbnhndhggmaadoor", sum := "4796b95b7f5338311d40b73b8601f3356a8258bc71dc970c26f6011d215dcf20", func := "gemel/gemellaw02.ShaAll", spec := "shaAll", unfollowed := true, recurses := true, named := ["gemel/sha.start"], apart := false, laid := [("gemel/sha.start", laid_gemel_sha_start)] }
def ShaAllSaid : Prop := shaAllRow.holds Tryd.pinned (OpenSpec.ofChange shaAllSpec)

/-- ITS FALSE NEIGHBOUR: 'it returns false'. Refute it at one input. -/
def shaAllWrong : ChangeSpec := { name := "shaAll", fn := fun _ => fun
  | [] => { results := [.lit (.bool false)], args := [] }
  | _ => none }
def ShaAllWrongFalsely : Prop := shaAllRow.holds Tryd.pinned (OpenSpec.ofChange shaAllWrong)

/-- 'gemellaw02.ShaConstants': WHATEVER THE INPUT: true; the input reads as it did. -/
def shaConstantsSpec : ChangeSpec := { name := "shaConstants", fn := fun _ => fun
  | [d] => { results := [.lit (.bool true)], args := [d] }
  | _ => none }
def shaConstantsRow : OpenClaim := { program := "ytgmjbnhndhggmaadoor", sum := "4796b95b7f5338311d40b73b8601f3356a8258bc71dc970c26f6011d215dcf20", func := "gemel/gemellaw02.ShaConstants", spec := "shaConstants", unfollowed := true, recurses := true, named := ["gemel/sha.start"], apart := false, laid := [("gemel/sha.start", laid_gemel_sha_start)] }
def ShaConstantsSaid : Prop := shaConstantsRow.holds Tryd.pinned (OpenSpec.ofChange shaConstantsSpec)

/-- ITS FALSE NEIGHBOUR: 'it returns false'. Refute it at one input. -/
def shaConstantsWrong : ChangeSpec := { name := "shaConstants", fn := fun _ => fun
  | [d] => { results := [.lit (.bool false)], args := [d] }
  | _ => none }
def ShaConstantsWrongFalsely : Prop := shaConstantsRow.holds Tryd.pinned (OpenSpec.ofChange shaConstantsWrong)

/-- 'gemellaw02.ShaSums': WHATEVER THE INPUT: true; the input reads as it did. -/
def shaSumsSpec : ChangeSpec := { name := "shaSums", fn := fun _ => fun
  | [d] => { results := [.lit (.bool true)], args := [d] }
  | _ => none }
def shaSumsRow : OpenClaim := { program := "ytgmjbnhndhggmaadoor", sum := "4796b95b7f5338311d40b73b8601f3356a8258bc71dc970c26f6011d215dcf20", func := "gemel/gemellaw02.ShaSums", spec := "shaSums", unfollowed := true, recurses := true, named := ["gemel/sha.start"], apart := false, laid := [("gemel/sha.start", laid_gemel_sha_start)] }
def ShaSumsSaid : Prop := shaSumsRow.holds Tryd.pinned (OpenSpec.ofChange shaSumsSpec)

/-- ITS FALSE NEIGHBOUR: 'it returns false'. Refute it at one input. -/
def shaSumsWrong : ChangeSpec := { name := "shaSums", fn := fun _ => fun
  | [d] => { results := [.lit (.bool false)], args := [d] }
  | _ => none }
def ShaSumsWrongFalsely : Prop := shaSumsRow.holds Tryd.pinned (OpenSpec.ofChange shaSumsWrong)

/-- 'gemellaw02.ShaMeans': WHATEVER THE INPUT: true; the input reads as it did. -/
def shaMeansSpec : ChangeSpec := { name := "shaMeans", fn := fun _ => fun
  | [d1, d2, d3] => { results := [.lit (.bool true)], args := [d1, d2, d3] }
  | _ => none }
def shaMeansRow : OpenClaim := { program := "ytgmjbnhndhggmaadoor", sum := "4796b95b7f5338311d40b73b8601f3356a8258bc71dc970c26f6011d215dcf20", func := "gemel/gemellaw02.ShaMeans", spec := "shaMeans", unfollowed := true, recurses := true, named := ["gemel/sha.start"], apart := false, laid := [("gemel/sha.start", laid_gemel_sha_start)] }
def ShaMeansSaid : Prop := shaMeansRow.holds Tryd.pinned (OpenSpec.ofChange shaMeansSpec)

/-- ITS FALSE NEIGHBOUR: 'it returns false'. Refute it at one input. -/
def shaMeansWrong : ChangeSpec := { name := "shaMeans", fn := fun _ => fun
  | [d1, d2, d3] => { results := [.lit (.bool false)], args := [d1, d2, d3] }
  | _ => none }
def ShaMeansWrongFalsely : Prop := shaMeansRow.holds Tryd.pinned (OpenSpec.ofChange shaMeansWrong)

/- THE SECOND FORM. 'bulk': how many values and letters a reading holds, each counted each time it is reached (what is shared counts as often as it is met; a slice's spare places count too). A statement '..UptoSaid' is the law's where the arguments, and the package variables that the reading takes, are together of bulk at most 1048576: NARROWER than '..Said'. Prove '..Said' where nothing that the law and all that it calls make is longer than what came in: it says more and counts as full. Else prove '..UptoSaid'. A law counts once. -/
mutual
def uptoBulk {H : Type} : DataW H → Nat
  | .lit (.string bytes) => bytes.length + 1
  | .lit _ => 1
  | .nil => 1
  | .ptr d => uptoBulk d + 1
  | .slice elems spare => uptoBulkAll elems + uptoBulkAll spare + 1
  | .agg parts => uptoBulkAll parts + 1
  | .iface _ d => uptoBulk d + 1
  | .map entries => uptoBulkEntries entries + 1
  | .held _ => 1
def uptoBulkAll {H : Type} : List (DataW H) → Nat
  | [] => 0
  | d :: r => uptoBulk d + uptoBulkAll r
def uptoBulkEntries {H : Type} : List (Lit × DataW H) → Nat
  | [] => 0
  | x :: r => uptoBulkEntry x + uptoBulkEntries r
def uptoBulkEntry {H : Type} : Lit × DataW H → Nat
  | (.string bytes, d) => bytes.length + uptoBulk d + 1
  | (_, d) => uptoBulk d + 1
 end
def uptoSmall : (H : Type) → List (DataW H) → Bool := fun _ ds => decide (uptoBulkAll ds ≤ 1048576)
def OpenSpec.upto (s : _root_.Go.ChangeSpec) : _root_.Go.OpenSpec := { _root_.Go.OpenSpec.ofChange s with cond := some uptoSmall }

/-- 'gemellaw02.ShaAll', WHERE WHAT IT READS IS OF BULK AT MOST 1048576: true; the input reads as it did. -/
def shaAllUptoRow : OpenClaim := { program := "ytgmjbnhndhggmaadoor", sum := "4796b95b7f5338311d40b73b8601f3356a8258bc71dc970c26f6011d215dcf20", func := "gemel/gemellaw02.ShaAll", spec := "shaAll", unfollowed := true, recurses := true, named := ["gemel/sha.start"], apart := false, laid := [("gemel/sha.start", laid_gemel_sha_start)], narrowed := true }
def ShaAllUptoSaid : Prop := shaAllUptoRow.holds Tryd.pinned (OpenSpec.upto shaAllSpec)

/-- 'gemellaw02.ShaConstants', WHERE WHAT IT READS IS OF BULK AT MOST 1048576: true; the input reads as it did. -/
def shaConstantsUptoRow : OpenClaim := { program := "ytgmjbnhndhggmaadoor", sum := "4796b95b7f5338311d40b73b8601f3356a8258bc71dc970c26f6011d215dcf20", func := "gemel/gemellaw02.ShaConstants", spec := "shaConstants", unfollowed := true, recurses := true, named := ["gemel/sha.start"], apart := false, laid := [("gemel/sha.start", laid_gemel_sha_start)], narrowed := true }
def ShaConstantsUptoSaid : Prop := shaConstantsUptoRow.holds Tryd.pinned (OpenSpec.upto shaConstantsSpec)

/-- 'gemellaw02.ShaSums', WHERE WHAT IT READS IS OF BULK AT MOST 1048576: true; the input reads as it did. -/
def shaSumsUptoRow : OpenClaim := { program := "ytgmjbnhndhggmaadoor", sum := "4796b95b7f5338311d40b73b8601f3356a8258bc71dc970c26f6011d215dcf20", func := "gemel/gemellaw02.ShaSums", spec := "shaSums", unfollowed := true, recurses := true, named := ["gemel/sha.start"], apart := false, laid := [("gemel/sha.start", laid_gemel_sha_start)], narrowed := true }
def ShaSumsUptoSaid : Prop := shaSumsUptoRow.holds Tryd.pinned (OpenSpec.upto shaSumsSpec)

/-- 'gemellaw02.ShaMeans', WHERE WHAT IT READS IS OF BULK AT MOST 1048576: true; the input reads as it did. -/
def shaMeansUptoRow : OpenClaim := { program := "ytgmjbnhndhggmaadoor", sum := "4796b95b7f5338311d40b73b8601f3356a8258bc71dc970c26f6011d215dcf20", func := "gemel/gemellaw02.ShaMeans", spec := "shaMeans", unfollowed := true, recurses := true, named := ["gemel/sha.start"], apart := false, laid := [("gemel/sha.start", laid_gemel_sha_start)], narrowed := true }
def ShaMeansUptoSaid : Prop := shaMeansUptoRow.holds Tryd.pinned (OpenSpec.upto shaMeansSpec)

end Rows
end Go.Proofs.YtgmjbnhndhggmaaDoor
