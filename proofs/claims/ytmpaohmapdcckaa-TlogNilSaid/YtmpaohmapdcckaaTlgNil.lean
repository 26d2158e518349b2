/- gemel, the law TlogNil: the given statement 'TlogNilSaid': called with nothing, it returns true in every run, and nothing that stood before is changed. Conditions: none.
   How: one run of the evaluator (YtmpaohmapdcckaaClA) in the kernel, and callC_sound (YtmpaohmapdcckaaClD). -/
import Derived.Test.YtmpaohmapdcckaaRows
import Derived.Test.YtmpaohmapdcckaaClE
namespace Go.Proofs.Ytmpaohmapdcckaa
open Go.ChangeShapes Go.WideShapes Go.ChangeAt Go.RowKit

theorem tlogNil_own : ownKnob Try.prog.godebug = none := by kernel_rfl
theorem tlogNil_mixed : Try.prog.follows .mixedOrders = true := by kernel_rfl
theorem tlogNil_plain : Go.Cl.plainB Try.prog = true := by kernel_rfl

set_option maxRecDepth 1000000 in
theorem tlogNil_run : Go.Cl.saysTrue (Go.Cl.callC Try.prog 10000000 7 [] (Go.Cl.h0 0)) = true := by kernel_rfl

theorem tlogNil_walk (W : World) : Calls Try.prog 7 #[] W fun e W' => e = .returned (.bool true) ∧ Below W.heap.size W W' :=
  Go.Cl.closed_calls tlogNil_plain tlogNil_mixed tlogNil_run W

set_option maxRecDepth 100000 in
theorem tlogNil_lifted (os : Os) (started : os.Started) (H : Type) (enc : TypeId × Value → H) :
    ReturnsInHanded {} Try.checked os 7 .any (Rows.tlogNilSpec.pre6 enc Try.prog Try.f7 Rows.tlogNilRow.domain false) (Rows.tlogNilSpec.post enc Try.prog Try.f7 false true false false) := by
  refine returnsInHanded_of_change (C := Try.checked) tlogNil_own started (by kernel_rfl) Try.func7
    (ChangeSpec.witness6 (enc := enc) (C := Try.checked) false ⟨#[], #[], []⟩ 8 (by kernel_rfl) (by kernel_rfl) (by kernel_rfl) (by kernel_rfl)) ?_
  intro W base args ds gs before _ hW _ _
  have hW' := hW
  obtain ⟨p, q, hA0, hV, rfl, _, _⟩ := hW
  have hA : DataW.TrodAll enc Try.prog W 0 (fun _ => true) true Try.f7.params.toList args.toList ds p := hA0
  rw [Try.params7] at hA
  obtain ⟨rfl, rfl, rfl⟩ := trodAll_none hA
  obtain ⟨rfl, rfl⟩ := trodVars_none hV
  clear hA0
  simp only [List.append_nil] at hW'
  refine (tlogNil_walk W).mono fun e W' ⟨he, hb⟩ => ?_
  subst he
  exact ⟨_, rfl, ⟨_, _, _, [], _, [], hW', trodAll_mk1 (shut_bool Try.underlying4 _), trodAll_mk0, rfl, hb.frame _, fun h => by cases h⟩⟩

theorem tlogNil_holds : Rows.TlogNilSaid :=
  OpenClaim.holds_of_wide 7 Try.f7 rfl rfl rfl rfl rfl rfl rfl ⟨rfl, rfl, rfl, rfl, rfl⟩ rfl rfl rfl rfl rfl (by kernel_rfl) Try.func7 (by kernel_rfl)
    (of_decide_eq_true (by kernel_rfl)) (by unfold Func.isWrapper; rw [if_neg (by decide +kernel)]; exact ⟨rfl, rfl⟩)
    (fun os started H enc _ => tlogNil_lifted os started H enc)
#print axioms tlogNil_holds

end Go.Proofs.Ytmpaohmapdcckaa
