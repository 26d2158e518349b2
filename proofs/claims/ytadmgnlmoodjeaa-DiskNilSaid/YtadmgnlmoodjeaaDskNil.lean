/- gemel, the law DiskNil: the given statement 'DiskNilSaid': called with nothing, it returns true in every run, and nothing that stood before is changed. Conditions: none.
   How: one run of the evaluator (YtadmgnlmoodjeaaClA) in the kernel, and callC_sound (YtadmgnlmoodjeaaClD). -/
import Derived.Test.YtadmgnlmoodjeaaRows
import Derived.Test.YtadmgnlmoodjeaaClE
namespace Go.Proofs.Ytadmgnlmoodjeaa
open Go.ChangeShapes Go.WideShapes Go.ChangeAt Go.RowKit

theorem diskNil_own : ownKnob Try.prog.godebug = none := by kernel_rfl
theorem diskNil_mixed : Try.prog.follows .mixedOrders = true := by kernel_rfl
theorem diskNil_plain : Go.Cl.plainB Try.prog = true := by kernel_rfl

set_option maxRecDepth 1000000 in
theorem diskNil_run : Go.Cl.saysTrue (Go.Cl.callC Try.prog 10000000 4 [] (Go.Cl.h0 0)) = true := by kernel_rfl

theorem diskNil_walk (W : World) : Calls Try.prog 4 #[] W fun e W' => e = .returned (.bool true) ∧ Below W.heap.size W W' :=
  Go.Cl.closed_calls diskNil_plain diskNil_mixed diskNil_run W

set_option maxRecDepth 100000 in
theorem diskNil_lifted (os : Os) (started : os.Started) (H : Type) (enc : TypeId × Value → H) :
    ReturnsInHanded {} Try.checked os 4 .any (Rows.diskNilSpec.pre6 enc Try.prog Try.f4 Rows.diskNilRow.domain false) (Rows.diskNilSpec.post enc Try.prog Try.f4 false true false false) := by
  refine returnsInHanded_of_change (C := Try.checked) diskNil_own started (by kernel_rfl) Try.func4
    (ChangeSpec.witness6 (enc := enc) (C := Try.checked) false ⟨#[], #[], []⟩ 8 (by kernel_rfl) (by kernel_rfl) (by kernel_rfl) (by kernel_rfl)) ?_
  intro W base args ds gs before _ hW _ _
  have hW' := hW
  obtain ⟨p, q, hA0, hV, rfl, _, _⟩ := hW
  have hA : DataW.TrodAll enc Try.prog W 0 (fun _ => true) true Try.f4.params.toList args.toList ds p := hA0
  rw [Try.params4] at hA
  obtain ⟨rfl, rfl, rfl⟩ := trodAll_none hA
  obtain ⟨rfl, rfl⟩ := trodVars_none hV
  clear hA0
  simp only [List.append_nil] at hW'
  refine (diskNil_walk W).mono fun e W' ⟨he, hb⟩ => ?_
  subst he
  exact ⟨_, rfl, ⟨_, _, _, [], _, [], hW', trodAll_mk1 (shut_bool Try.underlying4 _), trodAll_mk0, rfl, hb.frame _, fun h => by cases h⟩⟩

theorem diskNil_holds : Rows.DiskNilSaid :=
  OpenClaim.holds_of_wide 4 Try.f4 rfl rfl rfl rfl rfl rfl rfl ⟨rfl, rfl, rfl, rfl, rfl⟩ rfl rfl rfl rfl rfl (by kernel_rfl) Try.func4 (by kernel_rfl)
    (of_decide_eq_true (by kernel_rfl)) (by unfold Func.isWrapper; rw [if_neg (by decide +kernel)]; exact ⟨rfl, rfl⟩)
    (fun os started H enc _ => diskNil_lifted os started H enc)
#print axioms diskNil_holds

end Go.Proofs.Ytadmgnlmoodjeaa
