/- gemel, the law LinkNil: the given statement 'LinkNilCardSaid': the call returns true in every run, and the arguments read as they did. The table that the row lists is tied to the program's text (the tie is given). Conditions: none.
   How: the evaluator's run by rewriting (the texts before), the table and the arguments laid, and callC_sound. -/
import Derived.Test.YteencmkompkkjaaDoorLkA
import Derived.Test.YteencmkompkkjaaDoorRows
import Derived.Test.YteencmkompkkjaaDoorTie
import Derived.Test.YteencmkompkkjaaDoorCards
import Derived.LaidMore
import Derived.OpenShut
import Derived.Stop.Joined
import Derived.SevenTiedAt
set_option linter.all false
open Go Go.Cl Go.Proofs
namespace Go.Proofs.YteencmkompkkjaaDoor
open Go.ChangeShapes Go.WideShapes Go.ChangeAt Go.RowKit Go.Cl Go.Cl.Sh

theorem linkNil_own : ownKnob Tryd.prog.godebug = none := by kernel_rfl
theorem linkNil_mixed : Tryd.prog.follows .mixedOrders = true := by kernel_rfl
theorem linkNil_plain : plainB Tryd.prog = true := by kernel_rfl
theorem linkNil_laidOut : laidOutB Tryd.prog = true := by kernel_rfl
set_option maxRecDepth 1000000 in
theorem linkNil_known : saysTrue (k_callK Tryd.prog lk_sig 100000 4 [] (tabH .u32 startV)) = true := by kernel_rfl

/-- The door's own heap meets the condition on the listed tables. -/
theorem linkNil_door (os : Os) (args : Array Value) : laidMetH Tryd.prog Rows.linkNilRow.laid ((World.doorLaid Tryd.prog 400 os).forCall (fun _ _ => 0) ⟨#[], args, []⟩).memory := by
  rw [MakeChecks.laidMetH_plain _ _ _ (by kernel_rfl)]
  exact laidMet_of_run' 8 (by kernel_rfl) (by kernel_rfl)

set_option maxRecDepth 100000 in
theorem linkNil_lifted (os : Os) (started : os.Started) (H : Type) (enc : TypeId × Value → H) :
    ReturnsInHanded {} Tryd.checked os 4 .any (fun w args => (Rows.linkNilSpec.pre enc Tryd.prog Tryd.f4 [] false w args ∧ laidMetH Tryd.prog Rows.linkNilRow.laid w) ∧ sizedMet enc Tryd.prog Tryd.f4 (OpenSpec.ofChange Rows.linkNilSpec) false w args)
      (Rows.linkNilSpec.post enc Tryd.prog Tryd.f4 false true false false) := by
  refine returnsInHanded_of_change_and (C := Tryd.checked) (X := fun w _ => laidMetH Tryd.prog Rows.linkNilRow.laid w) (fun _ _ _ hh h => h.of_heap hh) linkNil_own started (by kernel_rfl) Tryd.func4
    (ChangeSpec.witness_shaped (enc := enc) (C := Tryd.checked) (os := os) (X := fun w _ => laidMetH Tryd.prog Rows.linkNilRow.laid w) false (World.doorLaid Tryd.prog 400 os) #[] 8 rfl (World.shaped_of_RefB (by kernel_rfl) (by kernel_rfl)) (by kernel_rfl) (by kernel_rfl) (by kernel_rfl) (linkNil_door os _)) ?_
  intro W base args ds gs before hval hW _ _ hL _
  have hW' := hW
  obtain ⟨p, q, hA0, hV, hpq, _, _⟩ := hW
  have hlt := hW'.lt
  have hA : DataW.TrodAll enc Tryd.prog W 0 (fun _ => true) true Tryd.f4.params.toList args.toList ds p := hA0
  rw [Tryd.params4] at hA
  obtain ⟨rfl, rfl, rfl⟩ := trodAll_none hA
  obtain ⟨rfl, rfl⟩ := trodVars_none hV
  subst hpq
  rw [MakeChecks.laidMetH_plain _ _ _ (by kernel_rfl)] at hL
  obtain ⟨tcs, tct, tfr, hh, hsz, htv⟩ := table_of (vals := [1779033703, 3144134277, 1013904242, 2773480762, 1359893119, 2600822924, 528734635, 1541459225]) (k := .u32) (g := 0) (t := 105) (e := 104) hL (by kernel_rfl) (by kernel_rfl) Tryd.underlying105 Tryd.underlying104 (by kernel_rfl) rfl
  obtain ⟨f0, rel, a0, hb0⟩ := rel1 (k := .u32) (vals := [1779033703, 3144134277, 1013904242, 2773480762, 1359893119, 2600822924, 528734635, 1541459225]) hh hsz htv
  have HG0 := HG.tab hb0
  have run : Tru ((lim Tryd.prog lk_sig).call 4 [] (tabH .u32 startV)) := tru_says (by rw [← k_callK_eq]; exact linkNil_known)
  have hc := open_calls linkNil_plain linkNil_mixed lk_sig_ok rel a0 (args := []) (by simp only [okL]) run
  have hr : (renL f0 []).toArray = #[] := rfl
  rw [hr] at hc
  refine hc.mono fun e W' ⟨he, hb⟩ => ?_
  subst he
  refine ⟨_, rfl, ?_⟩
  simp only [List.append_nil] at hW'
  exact ⟨_, _, _, [], _, [], hW', trodAll_mk1 (shut_bool Tryd.underlying4 _), trodAll_mk0, rfl, hb.frame _, fun h => by cases h⟩

theorem linkNil_holds : Rows.LinkNilSaid :=
  OpenClaim.holds_of_wide 4 Tryd.f4 rfl rfl rfl rfl rfl rfl rfl ⟨rfl, rfl, rfl, rfl, rfl⟩ rfl rfl rfl rfl rfl (by kernel_rfl) Tryd.func4 (by kernel_rfl)
    (of_decide_eq_true (by kernel_rfl)) (by unfold Func.isWrapper; rw [if_neg (by decide +kernel)]; exact ⟨rfl, rfl⟩)
    (fun os started H enc _ => linkNil_lifted os started H enc)

theorem linkNil_card : Rows.LinkNilCardSaid :=
  Claim7.holds_tied_plain_at .later [] [.data] true (true, "0fc25fa470201669194051a48d74390169c4a4881f82fefcba4a2abc3ea54d48") false
    linkNil_holds (fun _ h => by cases h) (by kernel_rfl) (fun _ h => by cases h) linkNil_row_tie rfl ⟨rfl, rfl⟩ (by kernel_rfl) rfl
    (fun f fn hf hfn => by
      obtain rfl : f = 4 := Option.some.inj ((show Tryd.prog.funcNamed "gemel/gemellaw09.LinkNil" = some 4 by kernel_rfl).symm.trans hf) |>.symm
      obtain rfl : fn = Tryd.f4 := (Option.some.inj (Tryd.func4.symm.trans hfn)).symm
      exact ⟨by kernel_rfl, fun j t ht => by
        rw [Tryd.params4] at ht
        simp at ht⟩)
    (by kernel_rfl)
#print axioms linkNil_card
end Go.Proofs.YteencmkompkkjaaDoor
