/- gemel, the law MapNil: the given statement 'MapNilCardSaid': called with nothing, it returns true in every run, and nothing that stood before is changed; the tables that the row lists are tied to the program's text (the tie is given). Conditions: none.
   How: one run of the evaluator (YtadmgnlmoodjeaaDoorClA) in the kernel, and callC_sound (YtadmgnlmoodjeaaDoorClD). -/
import Derived.Test.YtadmgnlmoodjeaaDoorRows
import Derived.Test.YtadmgnlmoodjeaaDoorTie
import Derived.Test.YtadmgnlmoodjeaaDoorCards
import Derived.Test.YtadmgnlmoodjeaaDoorClE
import Derived.LaidMore
import Derived.OpenShut
import Derived.Stop.Joined
import Derived.SevenTiedAt
namespace Go.Proofs.YtadmgnlmoodjeaaDoor
open Go.ChangeShapes Go.WideShapes Go.ChangeAt Go.RowKit

theorem mapNil_own : ownKnob Tryd.prog.godebug = none := by kernel_rfl
theorem mapNil_mixed : Tryd.prog.follows .mixedOrders = true := by kernel_rfl
theorem mapNil_plain : Go.Cl.plainB Tryd.prog = true := by kernel_rfl

set_option maxRecDepth 1000000 in
theorem mapNil_run : Go.Cl.saysTrue (Go.Cl.callC Tryd.prog 10000000 6 [] (Go.Cl.h0 0)) = true := by kernel_rfl

theorem mapNil_walk (W : World) : Calls Tryd.prog 6 #[] W fun e W' => e = .returned (.bool true) ∧ Below W.heap.size W W' :=
  Go.Cl.closed_calls mapNil_plain mapNil_mixed mapNil_run W

/-- The door's own heap meets the condition on the listed tables. -/
theorem mapNil_door (os : Os) (args : Array Value) : laidMetH Tryd.prog Rows.mapNilRow.laid ((World.doorLaid Tryd.prog 400 os).forCall (fun _ _ => 0) ⟨#[], args, []⟩).memory := by
  rw [MakeChecks.laidMetH_plain _ _ _ (by kernel_rfl)]
  exact laidMet_of_run' 8 (by kernel_rfl) (by kernel_rfl)

set_option maxRecDepth 100000 in
theorem mapNil_lifted (os : Os) (started : os.Started) (H : Type) (enc : TypeId × Value → H) :
    ReturnsInHanded {} Tryd.checked os 6 .any (fun w args => (Rows.mapNilSpec.pre enc Tryd.prog Tryd.f6 [] false w args ∧ laidMetH Tryd.prog Rows.mapNilRow.laid w) ∧ sizedMet enc Tryd.prog Tryd.f6 (OpenSpec.ofChange Rows.mapNilSpec) false w args)
      (Rows.mapNilSpec.post enc Tryd.prog Tryd.f6 false true false false) := by
  refine returnsInHanded_of_change_and (C := Tryd.checked) (X := fun w _ => laidMetH Tryd.prog Rows.mapNilRow.laid w) (fun _ _ _ hh h => h.of_heap hh) mapNil_own started (by kernel_rfl) Tryd.func6
    (ChangeSpec.witness_shaped (enc := enc) (C := Tryd.checked) (os := os) (X := fun w _ => laidMetH Tryd.prog Rows.mapNilRow.laid w) false (World.doorLaid Tryd.prog 400 os) #[] 8 rfl (World.shaped_of_RefB (by kernel_rfl) (by kernel_rfl)) (by kernel_rfl) (by kernel_rfl) (by kernel_rfl) (mapNil_door os _)) ?_
  intro W base args ds gs before _ hW _ _ _ _
  have hW' := hW
  obtain ⟨p, q, hA0, hV, rfl, _, _⟩ := hW
  have hA : DataW.TrodAll enc Tryd.prog W 0 (fun _ => true) true Tryd.f6.params.toList args.toList ds p := hA0
  rw [Tryd.params6] at hA
  obtain ⟨rfl, rfl, rfl⟩ := trodAll_none hA
  obtain ⟨rfl, rfl⟩ := trodVars_none hV
  clear hA0
  simp only [List.append_nil] at hW'
  refine (mapNil_walk W).mono fun e W' ⟨he, hb⟩ => ?_
  subst he
  exact ⟨_, rfl, ⟨_, _, _, [], _, [], hW', trodAll_mk1 (shut_bool Tryd.underlying4 _), trodAll_mk0, rfl, hb.frame _, fun h => by cases h⟩⟩

theorem mapNil_holds : Rows.MapNilSaid :=
  OpenClaim.holds_of_wide 6 Tryd.f6 rfl rfl rfl rfl rfl rfl rfl ⟨rfl, rfl, rfl, rfl, rfl⟩ rfl rfl rfl rfl rfl (by kernel_rfl) Tryd.func6 (by kernel_rfl)
    (of_decide_eq_true (by kernel_rfl)) (by unfold Func.isWrapper; rw [if_neg (by decide +kernel)]; exact ⟨rfl, rfl⟩)
    (fun os started H enc _ => mapNil_lifted os started H enc)

theorem mapNil_card : Rows.MapNilCardSaid :=
  Claim7.holds_tied_plain_at .later [] [.data,.data] true (true, "fd67aae43071d16916ebf57e1ea0780dd81ae2656c74d679e40a5eb722c1e201") false
    mapNil_holds (fun _ h => by cases h) (by kernel_rfl) (fun _ h => by cases h) mapNil_row_tie rfl ⟨rfl, rfl⟩ (by kernel_rfl) rfl
    (fun f fn hf hfn => by
      obtain rfl : f = 6 := Option.some.inj ((show Tryd.prog.funcNamed "gemel/gemellaw06.MapNil" = some 6 by kernel_rfl).symm.trans hf) |>.symm
      obtain rfl : fn = Tryd.f6 := (Option.some.inj (Tryd.func6.symm.trans hfn)).symm
      exact ⟨by kernel_rfl, fun j t ht => by
        rw [Tryd.params6] at ht
        simp at ht⟩)
    (by kernel_rfl)
#print axioms mapNil_card

end Go.Proofs.YtadmgnlmoodjeaaDoor
