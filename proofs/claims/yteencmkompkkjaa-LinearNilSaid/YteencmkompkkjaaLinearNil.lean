/- gemel, the law LinearNil: the given statement 'LinearNilSaid': called with nothing, it returns true in every run, and nothing that stood before is changed. Conditions: none.
   How: one run of the evaluator (YteencmkompkkjaaClA) in the kernel, and callC_sound (YteencmkompkkjaaClD). -/
import Derived.Test.YteencmkompkkjaaRows
import Derived.Test.YteencmkompkkjaaClE
import Derived.Test.YteencmkompkkjaaM0
import Derived.Test.YteencmkompkkjaaM1
import Derived.Test.YteencmkompkkjaaM2
import Derived.Test.YteencmkompkkjaaM3
import Derived.Test.YteencmkompkkjaaM4
namespace Go.Proofs.Yteencmkompkkjaa
open Go.ChangeShapes Go.WideShapes Go.ChangeAt Go.RowKit

theorem linearNil_own : ownKnob Try.prog.godebug = none := by kernel_rfl
theorem linearNil_mixed : Try.prog.follows .mixedOrders = true := by kernel_rfl
theorem linearNil_plain : Go.Cl.plainB Try.prog = true := by kernel_rfl

def linearNil_told : List Go.Cl.ME := [linearNil_e0, linearNil_e1, linearNil_e2, linearNil_e3, linearNil_e4]
theorem linearNil_told_ok : Go.Cl.MsOk Try.prog Go.Cl.noSums 100000 linearNil_told := ⟨linearNil_ok0, linearNil_ok1, linearNil_ok2, linearNil_ok3, linearNil_ok4, trivial⟩
set_option maxRecDepth 1000000 in
theorem linearNil_run : Go.Cl.saysTrue (Go.Cl.callK Try.prog (Go.Cl.memoL linearNil_told) 100000 3 [] (Go.Cl.h0 0)) = true := by kernel_rfl

theorem linearNil_walk (W : World) : Calls Try.prog 3 #[] W fun e W' => e = .returned (.bool true) ∧ Below W.heap.size W W' :=
  Go.Cl.closed_callsS (Go.Cl.memoL_ok linearNil_plain linearNil_mixed (Go.Cl.noSums_ok _) linearNil_told_ok) linearNil_plain linearNil_mixed linearNil_run W

set_option maxRecDepth 100000 in
theorem linearNil_lifted (os : Os) (started : os.Started) (H : Type) (enc : TypeId × Value → H) :
    ReturnsInHanded {} Try.checked os 3 .any (Rows.linearNilSpec.pre6 enc Try.prog Try.f3 Rows.linearNilRow.domain false) (Rows.linearNilSpec.post enc Try.prog Try.f3 false true false false) := by
  refine returnsInHanded_of_change (C := Try.checked) linearNil_own started (by kernel_rfl) Try.func3
    (ChangeSpec.witness6 (enc := enc) (C := Try.checked) false ⟨#[], #[], []⟩ 8 (by kernel_rfl) (by kernel_rfl) (by kernel_rfl) (by kernel_rfl)) ?_
  intro W base args ds gs before _ hW _ _
  have hW' := hW
  obtain ⟨p, q, hA0, hV, rfl, _, _⟩ := hW
  have hA : DataW.TrodAll enc Try.prog W 0 (fun _ => true) true Try.f3.params.toList args.toList ds p := hA0
  rw [Try.params3] at hA
  obtain ⟨rfl, rfl, rfl⟩ := trodAll_none hA
  obtain ⟨rfl, rfl⟩ := trodVars_none hV
  clear hA0
  simp only [List.append_nil] at hW'
  refine (linearNil_walk W).mono fun e W' ⟨he, hb⟩ => ?_
  subst he
  exact ⟨_, rfl, ⟨_, _, _, [], _, [], hW', trodAll_mk1 (shut_bool Try.underlying4 _), trodAll_mk0, rfl, hb.frame _, fun h => by cases h⟩⟩

theorem linearNil_holds : Rows.LinearNilSaid :=
  OpenClaim.holds_of_wide 3 Try.f3 rfl rfl rfl rfl rfl rfl rfl ⟨rfl, rfl, rfl, rfl, rfl⟩ rfl rfl rfl rfl rfl (by kernel_rfl) Try.func3 (by kernel_rfl)
    (of_decide_eq_true (by kernel_rfl)) (by unfold Func.isWrapper; rw [if_neg (by decide +kernel)]; exact ⟨rfl, rfl⟩)
    (fun os started H enc _ => linearNil_lifted os started H enc)
#print axioms linearNil_holds

end Go.Proofs.Yteencmkompkkjaa
