/- gemel, the law AccountNil: the given statement 'AccountNilCardSaid': the call returns true in every run, and the arguments read as they did. The table that the row lists is tied to the program's text (the tie is given). Conditions: none.
   How: the evaluator's run by rewriting (the texts before), the table and the arguments laid, and callC_sound. -/
import Derived.Test.YteencmkompkkjaaGreatDoorJoA
import Derived.Test.YteencmkompkkjaaGreatDoorRows
import Derived.Test.YteencmkompkkjaaGreatDoorTie
import Derived.Test.YteencmkompkkjaaGreatDoorCards
import Derived.LaidMore
import Derived.OpenShut
import Derived.Stop.Joined
import Derived.SevenTiedAt
set_option linter.all false
open Go Go.Cl Go.Proofs
namespace Go.Proofs.YteencmkompkkjaaGreatDoor
open Go.ChangeShapes Go.WideShapes Go.ChangeAt Go.RowKit Go.Cl Go.Cl.Jo

theorem accountNil_own : ownKnob Tryz.prog.godebug = none := by kernel_rfl
theorem accountNil_mixed : Tryz.prog.follows .mixedOrders = true := by kernel_rfl
theorem accountNil_plain : plainB Tryz.prog = true := by kernel_rfl
theorem accountNil_laidOut : laidOutB Tryz.prog = true := by kernel_rfl
set_option maxRecDepth 1000000 in
theorem accountNil_known : saysTrue (k_callK Tryz.prog (joinS 18) 100000 3 [] (h0 0)) = true := by kernel_rfl

/-- The door's own heap meets the condition on the listed tables. -/
theorem accountNil_door (os : Os) (args : Array Value) : laidMetH Tryz.prog Rows.accountNilRow.laid ((World.doorLaid Tryz.prog 400 os).forCall (fun _ _ => 0) ⟨#[], args, []⟩).memory := by
  rw [MakeChecks.laidMetH_plain _ _ _ (by kernel_rfl)]
  exact laidMet_of_run' 8 (by kernel_rfl) (by kernel_rfl)

set_option maxRecDepth 100000 in
theorem accountNil_lifted (os : Os) (started : os.Started) (H : Type) (enc : TypeId × Value → H) :
    ReturnsInHanded {} Tryz.checked os 3 .any (fun w args => (Rows.accountNilSpec.pre enc Tryz.prog Tryz.f3 [] false w args ∧ laidMetH Tryz.prog Rows.accountNilRow.laid w) ∧ sizedMet enc Tryz.prog Tryz.f3 (OpenSpec.ofChange Rows.accountNilSpec) false w args)
      (Rows.accountNilSpec.post enc Tryz.prog Tryz.f3 false true false false) := by
  refine returnsInHanded_of_change_and (C := Tryz.checked) (X := fun w _ => laidMetH Tryz.prog Rows.accountNilRow.laid w) (fun _ _ _ hh h => h.of_heap hh) accountNil_own started (by kernel_rfl) Tryz.func3
    (ChangeSpec.witness_shaped (enc := enc) (C := Tryz.checked) (os := os) (X := fun w _ => laidMetH Tryz.prog Rows.accountNilRow.laid w) false (World.doorLaid Tryz.prog 400 os) #[] 8 rfl (World.shaped_of_RefB (by kernel_rfl) (by kernel_rfl)) (by kernel_rfl) (by kernel_rfl) (by kernel_rfl) (accountNil_door os _)) ?_
  intro W base args ds gs before hval hW _ _ hL _
  have hW' := hW
  obtain ⟨p, q, hA0, hV, hpq, _, _⟩ := hW
  have hlt := hW'.lt
  have hA : DataW.TrodAll enc Tryz.prog W 0 (fun _ => true) true Tryz.f3.params.toList args.toList ds p := hA0
  rw [Tryz.params3] at hA
  obtain ⟨rfl, rfl, rfl⟩ := trodAll_none hA
  obtain ⟨rfl, rfl⟩ := trodVars_none hV
  subst hpq
  have a0 : ∀ id o, (h0 0).t.get id = some o → o.ro = true := fun id o ho => by rw [show (h0 0).t = T.nil from rfl, T.get_nil] at ho; cases ho
  obtain ⟨f0, rel⟩ : ∃ f0, Rel f0 (h0 0) W := ⟨_, rel0 W⟩
  have HG0 := True.intro
  have run : Tru ((lim Tryz.prog (joinS 18)).call 3 [] (h0 0)) := tru_says (by rw [← k_callK_eq]; exact accountNil_known)
  have hc := open_calls accountNil_plain accountNil_mixed join_ok' rel a0 (args := []) (by simp only [okL]) run
  have hr : (renL f0 []).toArray = #[] := rfl
  rw [hr] at hc
  refine hc.mono fun e W' ⟨he, hb⟩ => ?_
  subst he
  refine ⟨_, rfl, ?_⟩
  simp only [List.append_nil] at hW'
  exact ⟨_, _, _, [], _, [], hW', trodAll_mk1 (shut_bool Tryz.underlying4 _), trodAll_mk0, rfl, hb.frame _, fun h => by cases h⟩

theorem accountNil_holds : Rows.AccountNilSaid :=
  OpenClaim.holds_of_wide 3 Tryz.f3 rfl rfl rfl rfl rfl rfl rfl ⟨rfl, rfl, rfl, rfl, rfl⟩ rfl rfl rfl rfl rfl (by kernel_rfl) Tryz.func3 (by kernel_rfl)
    (of_decide_eq_true (by kernel_rfl)) (by unfold Func.isWrapper; rw [if_neg (by decide +kernel)]; exact ⟨rfl, rfl⟩)
    (fun os started H enc _ => accountNil_lifted os started H enc)

theorem accountNil_card : Rows.AccountNilCardSaid :=
  Claim7.holds_tied_plain_at .later [] [.data, .data, .data] true (true, "357a0f83f05f7001d8d48fad4249231e7dce24bd4892f19b466417aff7000dab") false
    accountNil_holds (fun _ h => by cases h) (by kernel_rfl) (fun _ h => by cases h) accountNil_row_tie rfl ⟨rfl, rfl⟩ (by kernel_rfl) rfl
    (fun f fn hf hfn => by
      obtain rfl : f = 3 := Option.some.inj ((show Tryz.prog.funcNamed "gemel/gemellaw27.AccountNil" = some 3 by kernel_rfl).symm.trans hf) |>.symm
      obtain rfl : fn = Tryz.f3 := (Option.some.inj (Tryz.func3.symm.trans hfn)).symm
      exact ⟨by kernel_rfl, fun j t ht => by
        rw [Tryz.params3] at ht
        simp at ht⟩)
    (by kernel_rfl)
#print axioms accountNil_card
end Go.Proofs.YteencmkompkkjaaGreatDoor
