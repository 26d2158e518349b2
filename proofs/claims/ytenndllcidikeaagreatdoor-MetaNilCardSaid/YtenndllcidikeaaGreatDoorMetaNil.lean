/- gemel, the law MetaNil: the given statement 'MetaNilCardSaid': the call returns true in every run, and the arguments read as they did. The table that the row lists is tied to the program's text (the tie is given). Conditions: none.
   How: the evaluator's run by rewriting (the texts before), the table and the arguments laid, and callC_sound. -/
import Derived.Test.YtenndllcidikeaaGreatDoorFpC
import Derived.Test.YtenndllcidikeaaGreatDoorRows
import Derived.Test.YtenndllcidikeaaGreatDoorTie
import Derived.Test.YtenndllcidikeaaGreatDoorCards
import Derived.LaidMore
import Derived.Lay
import Derived.OpenShut
import Derived.Stop.Joined
import Derived.SevenTiedAt
set_option linter.all false
open Go Go.Cl Go.Proofs
namespace Go.Proofs.YtenndllcidikeaaGreatDoor
open Go.ChangeShapes Go.WideShapes Go.ChangeAt Go.RowKit Go.Cl Go.Cl.Sh

theorem metaNil_own : ownKnob Tryz.prog.godebug = none := by kernel_rfl
theorem metaNil_mixed : Tryz.prog.follows .mixedOrders = true := by kernel_rfl
theorem metaNil_plain : plainB Tryz.prog = true := by kernel_rfl
theorem metaNil_laidOut : laidOutB Tryz.prog = true := by kernel_rfl
set_option maxRecDepth 1000000 in
theorem metaNil_known : saysTrue (k_callK Tryz.prog mr_sig 100000 4 [] (tabsH tabsM 9)) = true := by kernel_rfl

/-- A world in which the listed tables are laid meets the condition on them. -/
theorem metaNil_door (os : Os) (args : Array Value) : laidMetH Tryz.prog Rows.metaNilRow.laid ((World.laidAll Tryz.prog os Rows.metaNilRow.laid).forCall (fun _ _ => 0) ⟨#[], args, []⟩).memory := by
  rw [MakeChecks.laidMetH_plain _ _ _ (by kernel_rfl)]
  exact laidMet_laidAll _ (by kernel_rfl) (by kernel_rfl)

set_option maxRecDepth 100000 in
theorem metaNil_lifted (os : Os) (started : os.Started) (H : Type) (enc : TypeId × Value → H) :
    ReturnsInHanded {} Tryz.checked os 4 .any (fun w args => (Rows.metaNilSpec.pre enc Tryz.prog Tryz.f4 [] false w args ∧ laidMetH Tryz.prog Rows.metaNilRow.laid w) ∧ sizedMet enc Tryz.prog Tryz.f4 (OpenSpec.ofChange Rows.metaNilSpec) false w args)
      (Rows.metaNilSpec.post enc Tryz.prog Tryz.f4 false true false false) := by
  refine returnsInHanded_of_change_and (C := Tryz.checked) (X := fun w _ => laidMetH Tryz.prog Rows.metaNilRow.laid w) (fun _ _ _ hh h => h.of_heap hh) metaNil_own started (by kernel_rfl) Tryz.func4
    (ChangeSpec.witness_shaped (enc := enc) (C := Tryz.checked) (os := os) (X := fun w _ => laidMetH Tryz.prog Rows.metaNilRow.laid w) false (World.laidAll Tryz.prog os Rows.metaNilRow.laid) #[] 8 (World.laidAll_os _ _ _) (World.shaped_of_ZipB (by kernel_rfl) (by kernel_rfl)) (by kernel_rfl) (by kernel_rfl) (by kernel_rfl) (metaNil_door os _)) ?_
  intro W base args ds gs before hval hW _ _ hL _
  have hW' := hW
  obtain ⟨p, q, hA0, hV, hpq, _, _⟩ := hW
  have hlt := hW'.lt
  have hA : DataW.TrodAll enc Tryz.prog W 0 (fun _ => true) true Tryz.f4.params.toList args.toList ds p := hA0
  rw [Tryz.params4] at hA
  obtain ⟨rfl, rfl, rfl⟩ := trodAll_none hA
  obtain ⟨rfl, rfl⟩ := trodVars_none hV
  subst hpq
  rw [MakeChecks.laidMetH_plain _ _ _ (by kernel_rfl)] at hL
  obtain ⟨f0, rel, a0⟩ := relT (l := tabsM) (n := 9) (W := W) (by decide) (fun p hp => by
    simp only [tabsM, List.mem_cons, List.not_mem_nil, or_false] at hp
    rcases hp with rfl | rfl | rfl | rfl
    · exact table_in (n := "gemel/sha.start") (g := 0) (t := 253) (e := 252) (N := 8) hL (List.mem_of_getElem? (i := 2) (by kernel_rfl)) (by kernel_rfl) (by kernel_rfl) Tryz.underlying253 Tryz.underlying252 (by kernel_rfl) rfl
    · exact table_in (n := "internal/strconv.uint64pow10") (g := 4) (t := 308) (e := 24) (N := 20) hL (List.mem_of_getElem? (i := 3) (by kernel_rfl)) (by kernel_rfl) (by kernel_rfl) Tryz.underlying308 Tryz.underlying24 (by kernel_rfl) rfl
    · exact table_in (n := "math/bits.deBruijn32tab") (g := 7) (t := 234) (e := 5) (N := 32) hL (List.mem_of_getElem? (i := 0) (by kernel_rfl)) (by kernel_rfl) (by kernel_rfl) Tryz.underlying234 Tryz.underlying5 (by kernel_rfl) rfl
    · exact table_in (n := "math/bits.deBruijn64tab") (g := 8) (t := 322) (e := 5) (N := 64) hL (List.mem_of_getElem? (i := 1) (by kernel_rfl)) (by kernel_rfl) (by kernel_rfl) Tryz.underlying322 Tryz.underlying5 (by kernel_rfl) rfl)
  have run : Tru ((lim Tryz.prog mr_sig).call 4 [] (tabsH tabsM 9)) := tru_says (by rw [← k_callK_eq]; exact metaNil_known)
  have hc := open_calls metaNil_plain metaNil_mixed mr_sig_ok rel a0 (args := []) (by simp only [okL]) run
  have hr : (renL f0 []).toArray = #[] := rfl
  rw [hr] at hc
  refine hc.mono fun e W' ⟨he, hb⟩ => ?_
  subst he
  refine ⟨_, rfl, ?_⟩
  simp only [List.append_nil] at hW'
  exact ⟨_, _, _, [], _, [], hW', trodAll_mk1 (shut_bool Tryz.underlying4 _), trodAll_mk0, rfl, hb.frame _, fun h => by cases h⟩

theorem metaNil_holds : Rows.MetaNilSaid :=
  OpenClaim.holds_of_wide 4 Tryz.f4 rfl rfl rfl rfl rfl rfl rfl ⟨rfl, rfl, rfl, rfl, rfl⟩ rfl rfl rfl rfl rfl (by kernel_rfl) Tryz.func4 (by kernel_rfl)
    (of_decide_eq_true (by kernel_rfl)) (by unfold Func.isWrapper; rw [if_neg (by decide +kernel)]; exact ⟨rfl, rfl⟩)
    (fun os started H enc _ => metaNil_lifted os started H enc)

theorem metaNil_card : Rows.MetaNilCardSaid :=
  Claim7.holds_tied_plain_at .later [] [.data, .data, .data, .data, .data, .sentinel, .sentinel, .pinned] true (true, "d8996aae64e31e277bfb564dcfe641488df086e02bf72b47fafeae3ee37626dd") true
    metaNil_holds (fun _ h => by cases h) (by kernel_rfl) (fun _ h => by cases h) metaNil_row_tie rfl ⟨rfl, rfl⟩ (by kernel_rfl) rfl
    (fun f fn hf hfn => by
      obtain rfl : f = 4 := Option.some.inj ((show Tryz.prog.funcNamed "gemel/gemellaw29.MetaNil" = some 4 by kernel_rfl).symm.trans hf) |>.symm
      obtain rfl : fn = Tryz.f4 := (Option.some.inj (Tryz.func4.symm.trans hfn)).symm
      exact ⟨by kernel_rfl, fun j t ht => by
        rw [Tryz.params4] at ht
        simp at ht⟩)
    (by kernel_rfl)
#print axioms metaNil_card
end Go.Proofs.YtenndllcidikeaaGreatDoor
