/- gemel, the law ReserveNil: the given statement 'ReserveNilCardSaid': called with nothing, it returns true in every run, and nothing that stood before is changed; the tables that the row lists are tied to the program's text (the tie is given). Conditions: none.
   How: one run of the evaluator (YtifjdkohbhpmpaaDoorClA) in the kernel, and callC_sound (YtifjdkohbhpmpaaDoorClD). -/
import Derived.Test.YtifjdkohbhpmpaaDoorRows
import Derived.Test.YtifjdkohbhpmpaaDoorTie
import Derived.Test.YtifjdkohbhpmpaaDoorCards
import Derived.Test.YtifjdkohbhpmpaaDoorClE
import Derived.LaidMore
import Derived.OpenShut
import Derived.Stop.Joined
import Derived.SevenTiedAt
namespace Go.Proofs.YtifjdkohbhpmpaaDoor
open Go.ChangeShapes Go.WideShapes Go.ChangeAt Go.RowKit

theorem reserveNil_own : ownKnob Tryd.prog.godebug = none := by kernel_rfl
theorem reserveNil_mixed : Tryd.prog.follows .mixedOrders = true := by kernel_rfl
theorem reserveNil_plain : Go.Cl.plainB Tryd.prog = true := by kernel_rfl

set_option maxRecDepth 1000000 in
theorem reserveNil_run : Go.Cl.saysTrue (Go.Cl.callC Tryd.prog 10000000 5 [] (Go.Cl.h0 0)) = true := by kernel_rfl

theorem reserveNil_walk (W : World) : Calls Tryd.prog 5 #[] W fun e W' => e = .returned (.bool true) ∧ Below W.heap.size W W' :=
  Go.Cl.closed_calls reserveNil_plain reserveNil_mixed reserveNil_run W

/-- The door's own heap meets the condition on the listed tables. -/
theorem reserveNil_door (os : Os) (args : Array Value) : laidMetH Tryd.prog Rows.reserveNilRow.laid ((World.doorLaid Tryd.prog 400 os).forCall (fun _ _ => 0) ⟨#[], args, []⟩).memory := by
  rw [MakeChecks.laidMetH_plain _ _ _ (by kernel_rfl)]
  exact laidMet_of_run' 8 (by kernel_rfl) (by kernel_rfl)

set_option maxRecDepth 100000 in
theorem reserveNil_lifted (os : Os) (started : os.Started) (H : Type) (enc : TypeId × Value → H) :
    ReturnsInHanded {} Tryd.checked os 5 .any (fun w args => (Rows.reserveNilSpec.pre enc Tryd.prog Tryd.f5 [] false w args ∧ laidMetH Tryd.prog Rows.reserveNilRow.laid w) ∧ sizedMet enc Tryd.prog Tryd.f5 (OpenSpec.ofChange Rows.reserveNilSpec) false w args)
      (Rows.reserveNilSpec.post enc Tryd.prog Tryd.f5 false true false false) := by
  refine returnsInHanded_of_change_and (C := Tryd.checked) (X := fun w _ => laidMetH Tryd.prog Rows.reserveNilRow.laid w) (fun _ _ _ hh h => h.of_heap hh) reserveNil_own started (by kernel_rfl) Tryd.func5
    (ChangeSpec.witness_shaped (enc := enc) (C := Tryd.checked) (os := os) (X := fun w _ => laidMetH Tryd.prog Rows.reserveNilRow.laid w) false (World.doorLaid Tryd.prog 400 os) #[] 8 rfl (World.shaped_of_RefB (by kernel_rfl) (by kernel_rfl)) (by kernel_rfl) (by kernel_rfl) (by kernel_rfl) (reserveNil_door os _)) ?_
  intro W base args ds gs before _ hW _ _ _ _
  have hW' := hW
  obtain ⟨p, q, hA0, hV, rfl, _, _⟩ := hW
  have hA : DataW.TrodAll enc Tryd.prog W 0 (fun _ => true) true Tryd.f5.params.toList args.toList ds p := hA0
  rw [Tryd.params5] at hA
  obtain ⟨rfl, rfl, rfl⟩ := trodAll_none hA
  obtain ⟨rfl, rfl⟩ := trodVars_none hV
  clear hA0
  simp only [List.append_nil] at hW'
  refine (reserveNil_walk W).mono fun e W' ⟨he, hb⟩ => ?_
  subst he
  exact ⟨_, rfl, ⟨_, _, _, [], _, [], hW', trodAll_mk1 (shut_bool Tryd.underlying4 _), trodAll_mk0, rfl, hb.frame _, fun h => by cases h⟩⟩

theorem reserveNil_holds : Rows.ReserveNilSaid :=
  OpenClaim.holds_of_wide 5 Tryd.f5 rfl rfl rfl rfl rfl rfl rfl ⟨rfl, rfl, rfl, rfl, rfl⟩ rfl rfl rfl rfl rfl (by kernel_rfl) Tryd.func5 (by kernel_rfl)
    (of_decide_eq_true (by kernel_rfl)) (by unfold Func.isWrapper; rw [if_neg (by decide +kernel)]; exact ⟨rfl, rfl⟩)
    (fun os started H enc _ => reserveNil_lifted os started H enc)

theorem reserveNil_card : Rows.ReserveNilCardSaid :=
  Claim7.holds_tied_plain_at .later [] [.data] true (true, "d76c8014ed744522b80f600b802f5ed3afceac6cda77f8a844292d56bd90cddd") false
    reserveNil_holds (fun _ h => by cases h) (by kernel_rfl) (fun _ h => by cases h) reserveNil_row_tie rfl ⟨rfl, rfl⟩ (by kernel_rfl) rfl
    (fun f fn hf hfn => by
      obtain rfl : f = 5 := Option.some.inj ((show Tryd.prog.funcNamed "gemel/gemellaw11.ReserveNil" = some 5 by kernel_rfl).symm.trans hf) |>.symm
      obtain rfl : fn = Tryd.f5 := (Option.some.inj (Tryd.func5.symm.trans hfn)).symm
      exact ⟨by kernel_rfl, fun j t ht => by
        rw [Tryd.params5] at ht
        simp at ht⟩)
    (by kernel_rfl)
#print axioms reserveNil_card

end Go.Proofs.YtifjdkohbhpmpaaDoor
