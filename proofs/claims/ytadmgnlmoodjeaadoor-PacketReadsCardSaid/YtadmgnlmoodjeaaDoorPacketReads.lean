/- gemel, the law PacketReads: the given statement 'PacketReadsCardSaid': the call returns true in every run, and the arguments read as they did. The table that the row lists is tied to the program's text (the tie is given). Conditions: none.
   How: the evaluator's run by rewriting (the texts before), the table and the arguments laid, and callC_sound. -/
import Derived.Test.YtadmgnlmoodjeaaDoorPkD
import Derived.Test.YtadmgnlmoodjeaaDoorRows
import Derived.Test.YtadmgnlmoodjeaaDoorTie
import Derived.Test.YtadmgnlmoodjeaaDoorCards
import Derived.LaidMore
import Derived.OpenShut
import Derived.Stop.Joined
import Derived.SevenTiedAt
set_option linter.all false
open Go Go.Cl Go.Proofs
namespace Go.Proofs.YtadmgnlmoodjeaaDoor
open Go.ChangeShapes Go.WideShapes Go.ChangeAt Go.RowKit Go.Cl Go.Cl.Sh

theorem packetReads_own : ownKnob Tryd.prog.godebug = none := by kernel_rfl
theorem packetReads_mixed : Tryd.prog.follows .mixedOrders = true := by kernel_rfl
theorem packetReads_plain : plainB Tryd.prog = true := by kernel_rfl
theorem packetReads_laidOut : laidOutB Tryd.prog = true := by kernel_rfl
/-- The door's own heap meets the condition on the listed tables. -/
theorem packetReads_door (os : Os) (args : Array Value) : laidMetH Tryd.prog Rows.packetReadsRow.laid ((World.doorLaid Tryd.prog 400 os).forCall (fun _ _ => 0) ⟨#[], args, []⟩).memory := by
  rw [MakeChecks.laidMetH_plain _ _ _ (by kernel_rfl)]
  exact laidMet_of_run' 8 (by kernel_rfl) (by kernel_rfl)

set_option maxRecDepth 100000 in
theorem packetReads_lifted (os : Os) (started : os.Started) (H : Type) (enc : TypeId × Value → H) :
    ReturnsInHanded {} Tryd.checked os 4 .any (fun w args => (Rows.packetReadsSpec.pre enc Tryd.prog Tryd.f4 [] false w args ∧ laidMetH Tryd.prog Rows.packetReadsRow.laid w) ∧ sizedMet enc Tryd.prog Tryd.f4 (OpenSpec.ofChange Rows.packetReadsSpec) false w args)
      (Rows.packetReadsSpec.post enc Tryd.prog Tryd.f4 false true false false) := by
  refine returnsInHanded_of_change_and (C := Tryd.checked) (X := fun w _ => laidMetH Tryd.prog Rows.packetReadsRow.laid w) (fun _ _ _ hh h => h.of_heap hh) packetReads_own started (by kernel_rfl) Tryd.func4
    (ChangeSpec.witness_shaped (enc := enc) (C := Tryd.checked) (os := os) (X := fun w _ => laidMetH Tryd.prog Rows.packetReadsRow.laid w) false (World.doorLaid Tryd.prog 400 os) #[.slice none 0 0] 8 rfl (World.shaped_of_RefB (by kernel_rfl) (by kernel_rfl)) (by kernel_rfl) (by kernel_rfl) (by kernel_rfl) (packetReads_door os _)) ?_
  intro W base args ds gs before hval hW _ _ hL _
  have hW' := hW
  obtain ⟨p, q, hA0, hV, hpq, _, _⟩ := hW
  have hlt := hW'.lt
  have hA : DataW.TrodAll enc Tryd.prog W 0 (fun _ => true) true Tryd.f4.params.toList args.toList ds p := hA0
  rw [Tryd.params4] at hA
  obtain ⟨v0, d0, rfl, rfl, t0⟩ := trodAll_one hA
  obtain ⟨rfl, rfl⟩ := trodVars_none hV
  subst hpq
  have hv : ∀ (j : Nat) t v, (#[24] : Array Nat)[j]? = some t → (#[v0] : Array Value)[j]? = some v → Value.okWide Tryd.prog W .any base t v := by
    intro j t v hj hvj
    exact hval j t v (by rw [Tryd.params4]; exact hj) hvj
  rw [MakeChecks.laidMetH_plain _ _ _ (by kernel_rfl)] at hL
  obtain ⟨tcs, tct, tfr, hh, hsz, htv⟩ := table_of (vals := [1779033703, 3144134277, 1013904242, 2773480762, 1359893119, 2600822924, 528734635, 1541459225]) (k := .u32) (g := 0) (t := 104) (e := 103) hL (by kernel_rfl) (by kernel_rfl) Tryd.underlying104 Tryd.underlying103 (by kernel_rfl) rfl
  obtain ⟨f0, rel, a0, hb0⟩ := rel1 (k := .u32) (vals := [1779033703, 3144134277, 1013904242, 2773480762, 1359893119, 2600822924, 528734635, 1541459225]) hh hsz htv
  obtain ⟨h1, f1, c0, r1, g1, e0, A0⟩ := layArg (n := 8) (t := 24) (by kernel_rfl) (hv 0 24 v0 rfl rfl) t0 rel a0
  have b1 := g1.all a0
  have B0 := A0
  have HG0 := HG.tab hb0
  have HG1 := HG0.ext ⟨g1.nx, g1.gn, g1.old⟩
  obtain ⟨id, bs, BB, RB0, hid, hb⟩ := Go.Cl.Sh.W.rb_of HG1.nx B0
  have run := Go.Cl.Sh.W.reads_run (σ := noSums) (fun _ _ _ => rfl) HG1 BB RB0 hid hb
  have hc := open_calls packetReads_plain packetReads_mixed (noSums_ok Tryd.prog) r1 b1 (args := [c0]) (by simp only [okL]; exact ⟨B0.ok, trivial⟩) run
  have hr : (renL f1 [c0]).toArray = #[v0] := by
    rw [← e0]
    simp only [renL]
  rw [hr] at hc
  refine hc.mono fun e W' ⟨he, hb⟩ => ?_
  subst he
  refine ⟨_, rfl, ?_⟩
  have hl : ∀ x ∈ (p) ++ [], x.block < W.heap.size := hW'.lt
  exact ⟨_, _, _, [], _, [], hW', trodAll_mk1 (shut_bool Tryd.underlying4 _),
    trodAll_mk1 (Below.trod packetReads_laidOut (by kernel_rfl) (of_decide_eq_true (by kernel_rfl)) t0 hb fun x hx => hl x (by simp [hx])), rfl, hb.frame _, fun h => by cases h⟩

theorem packetReads_holds : Rows.PacketReadsSaid :=
  OpenClaim.holds_of_wide 4 Tryd.f4 rfl rfl rfl rfl rfl rfl rfl ⟨rfl, rfl, rfl, rfl, rfl⟩ rfl rfl rfl rfl rfl (by kernel_rfl) Tryd.func4 (by kernel_rfl)
    (of_decide_eq_true (by kernel_rfl)) (by unfold Func.isWrapper; rw [if_neg (by decide +kernel)]; exact ⟨rfl, rfl⟩)
    (fun os started H enc _ => packetReads_lifted os started H enc)

theorem packetReads_card : Rows.PacketReadsCardSaid :=
  Claim7.holds_tied_plain_at .later [] [.data] true (true, "fd67aae43071d16916ebf57e1ea0780dd81ae2656c74d679e40a5eb722c1e201") false
    packetReads_holds (fun _ h => by cases h) (by kernel_rfl) (fun _ h => by cases h) packetReads_row_tie rfl ⟨rfl, rfl⟩ (by kernel_rfl) rfl
    (fun f fn hf hfn => by
      obtain rfl : f = 4 := Option.some.inj ((show Tryd.prog.funcNamed "gemel/gemellaw08.PacketReads" = some 4 by kernel_rfl).symm.trans hf) |>.symm
      obtain rfl : fn = Tryd.f4 := (Option.some.inj (Tryd.func4.symm.trans hfn)).symm
      exact ⟨by kernel_rfl, fun j t ht => by
        rw [Tryd.params4] at ht
        have hm : t ∈ [24] := by simpa using Array.mem_of_getElem? ht
        have hall : ([24].all fun u => !Tryd.prog.wantsStandIn u) = true := by kernel_rfl
        exact (show Tryd.prog.wantsStandIn t = false by simpa using List.all_eq_true.1 hall t hm)⟩)
    (by kernel_rfl)
#print axioms packetReads_card
end Go.Proofs.YtadmgnlmoodjeaaDoor
