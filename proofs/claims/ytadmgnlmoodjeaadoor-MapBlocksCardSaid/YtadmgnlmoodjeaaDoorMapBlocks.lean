/- gemel, the law MapBlocks: the given statement 'MapBlocksCardSaid': the call returns true in every run, and the arguments read as they did. The table that the row lists is tied to the program's text (the tie is given). Conditions: none.
   How: the evaluator's run by rewriting (the texts before), the table and the arguments laid, and callC_sound. -/
import Derived.Test.YtadmgnlmoodjeaaDoorMbD
import Derived.Test.YtadmgnlmoodjeaaDoorRows
import Derived.Test.YtadmgnlmoodjeaaDoorTie
import Derived.Test.YtadmgnlmoodjeaaDoorCards
import Derived.LaidMore
import Derived.OpenShut
import Derived.Stop.Joined
import Derived.SevenTiedAt
set_option linter.all false
open Go Go.Cl Go.Proofs
namespace Go.Proofs.YtadmgnlmoodjeaaDoor
open Go.ChangeShapes Go.WideShapes Go.ChangeAt Go.RowKit Go.Cl Go.Cl.Sh

theorem mapBlocks_own : ownKnob Tryd.prog.godebug = none := by kernel_rfl
theorem mapBlocks_mixed : Tryd.prog.follows .mixedOrders = true := by kernel_rfl
theorem mapBlocks_plain : plainB Tryd.prog = true := by kernel_rfl
theorem mapBlocks_laidOut : laidOutB Tryd.prog = true := by kernel_rfl
set_option maxRecDepth 1000000 in
theorem mapBlocks_known : (callK Tryd.prog noSums 100000 17 [] (h0 0)).map Prod.fst = some (.bool true) := by kernel_rfl

/-- The door's own heap meets the condition on the listed tables. -/
theorem mapBlocks_door (os : Os) (args : Array Value) : laidMetH Tryd.prog Rows.mapBlocksRow.laid ((World.doorLaid Tryd.prog 400 os).forCall (fun _ _ => 0) ⟨#[], args, []⟩).memory := by
  rw [MakeChecks.laidMetH_plain _ _ _ (by kernel_rfl)]
  exact laidMet_of_run' 8 (by kernel_rfl) (by kernel_rfl)

set_option maxRecDepth 100000 in
theorem mapBlocks_lifted (os : Os) (started : os.Started) (H : Type) (enc : TypeId × Value → H) :
    ReturnsInHanded {} Tryd.checked os 5 .any (fun w args => (Rows.mapBlocksSpec.pre enc Tryd.prog Tryd.f5 [] false w args ∧ laidMetH Tryd.prog Rows.mapBlocksRow.laid w) ∧ sizedMet enc Tryd.prog Tryd.f5 (OpenSpec.ofChange Rows.mapBlocksSpec) false w args)
      (Rows.mapBlocksSpec.post enc Tryd.prog Tryd.f5 false true false false) := by
  refine returnsInHanded_of_change_and (C := Tryd.checked) (X := fun w _ => laidMetH Tryd.prog Rows.mapBlocksRow.laid w) (fun _ _ _ hh h => h.of_heap hh) mapBlocks_own started (by kernel_rfl) Tryd.func5
    (ChangeSpec.witness_shaped (enc := enc) (C := Tryd.checked) (os := os) (X := fun w _ => laidMetH Tryd.prog Rows.mapBlocksRow.laid w) false (World.doorLaid Tryd.prog 400 os) #[.int .u64 0, .agg (Array.replicate 256 (.int .u8 0)), .int .i64 0, .int .u8 0] 8 rfl (World.shaped_of_RefB (by kernel_rfl) (by kernel_rfl)) (by kernel_rfl) (by kernel_rfl) (by kernel_rfl) (mapBlocks_door os _)) ?_
  intro W base args ds gs before hval hW _ _ hL _
  have hW' := hW
  obtain ⟨p, q, hA0, hV, hpq, _, _⟩ := hW
  have hlt := hW'.lt
  have hA : DataW.TrodAll enc Tryd.prog W 0 (fun _ => true) true Tryd.f5.params.toList args.toList ds p := hA0
  rw [Tryd.params5] at hA
  obtain ⟨v0, v1, v2, v3, d0, d1, d2, d3, p0, p1, p2, p3, rfl, rfl, rfl, t0, t1, t2, t3⟩ := trodAll_four hA
  obtain ⟨rfl, rfl⟩ := trodVars_none hV
  subst hpq
  have hv : ∀ (j : Nat) t v, (#[23, 40, 3, 5] : Array Nat)[j]? = some t → (#[v0, v1, v2, v3] : Array Value)[j]? = some v → Value.okWide Tryd.prog W .any base t v := by
    intro j t v hj hvj
    exact hval j t v (by rw [Tryd.params5]; exact hj) hvj
  rw [MakeChecks.laidMetH_plain _ _ _ (by kernel_rfl)] at hL
  obtain ⟨tcs, tct, tfr, hh, hsz, htv⟩ := table_of (vals := [1779033703, 3144134277, 1013904242, 2773480762, 1359893119, 2600822924, 528734635, 1541459225]) (k := .u32) (g := 0) (t := 104) (e := 103) hL (by kernel_rfl) (by kernel_rfl) Tryd.underlying104 Tryd.underlying103 (by kernel_rfl) rfl
  obtain ⟨f0, rel, a0, hb0⟩ := rel1 (k := .u32) (vals := [1779033703, 3144134277, 1013904242, 2773480762, 1359893119, 2600822924, 528734635, 1541459225]) hh hsz htv
  obtain ⟨h1, f1, c0, r1, g1, e0, A0⟩ := layArg (n := 8) (t := 23) (by kernel_rfl) (hv 0 23 v0 rfl rfl) t0 rel a0
  have b1 := g1.all a0
  obtain ⟨h2, f2, c1, r2, g2, e1, A1⟩ := layArg (n := 8) (t := 40) (by kernel_rfl) (hv 1 40 v1 rfl rfl) t1 r1 b1
  have b2 := g2.all b1
  obtain ⟨h3, f3, c2, r3, g3, e2, A2⟩ := layArg (n := 8) (t := 3) (by kernel_rfl) (hv 2 3 v2 rfl rfl) t2 r2 b2
  have b3 := g3.all b2
  obtain ⟨h4, f4, c3, r4, g4, e3, A3⟩ := layArg (n := 8) (t := 5) (by kernel_rfl) (hv 3 5 v3 rfl rfl) t3 r3 b3
  have b4 := g4.all b3
  have B0 := (((A0).mono g2).mono g3).mono g4
  have B1 := ((A1).mono g3).mono g4
  have B2 := (A2).mono g4
  have B3 := A3
  have HG0 := HG.tab hb0
  have HG1 := HG0.ext ⟨g1.nx, g1.gn, g1.old⟩
  have HG2 := HG1.ext ⟨g2.nx, g2.gn, g2.old⟩
  have HG3 := HG2.ext ⟨g3.nx, g3.gn, g3.old⟩
  have HG4 := HG3.ext ⟨g4.nx, g4.gn, g4.old⟩
  obtain ⟨X0, rfl⟩ := Go.Cl.Sh.u64_of B0
  obtain ⟨bl, rfl, hbl, hbb⟩ := Go.Cl.Sh.block_of B1
  obtain ⟨n2, rfl⟩ := Go.Cl.Sh.i64_of B2
  obtain ⟨n3, rfl⟩ := Go.Cl.Sh.u8_of B3
  have run := Go.Cl.Sh.mapBlocks_run (σ := tell 17 (.bool true)) Go.Cl.Sh.tell_none (fun Y => tell_self Y) HG4 X0 hbl hbb n2 n3
  have hc := open_calls mapBlocks_plain mapBlocks_mixed (tell_ok mapBlocks_plain mapBlocks_mixed mapBlocks_known rfl) r4 b4 (args := [w64 X0, .agg (Go.Cl.Sh.bc bl), .int .i64 n2, u8 n3]) (by simp only [okL]; exact ⟨B0.ok, B1.ok, B2.ok, B3.ok, trivial⟩) run
  have hr : (renL f4 [w64 X0, .agg (Go.Cl.Sh.bc bl), .int .i64 n2, u8 n3]).toArray = #[v0, v1, v2, v3] := by
    rw [← e0, ← e1, ← e2, ← e3]
    simp only [renL, ren_congr g2.agree _ (A0).ok, ren_congr g3.agree _ ((A0).mono g2).ok, ren_congr g4.agree _ (((A0).mono g2).mono g3).ok, ren_congr g3.agree _ (A1).ok, ren_congr g4.agree _ ((A1).mono g3).ok, ren_congr g4.agree _ (A2).ok]
  rw [hr] at hc
  refine hc.mono fun e W' ⟨he, hb⟩ => ?_
  subst he
  refine ⟨_, rfl, ?_⟩
  have hl : ∀ x ∈ (p0 ++ p1 ++ p2 ++ p3) ++ [], x.block < W.heap.size := hW'.lt
  exact ⟨_, _, _, [], _, [], hW', trodAll_mk1 (shut_bool Tryd.underlying4 _),
    trodAll_mk4 (Below.trod mapBlocks_laidOut (by kernel_rfl) (of_decide_eq_true (by kernel_rfl)) t0 hb fun x hx => hl x (by simp [hx])) (Below.trod mapBlocks_laidOut (by kernel_rfl) (of_decide_eq_true (by kernel_rfl)) t1 hb fun x hx => hl x (by simp [hx])) (Below.trod mapBlocks_laidOut (by kernel_rfl) (of_decide_eq_true (by kernel_rfl)) t2 hb fun x hx => hl x (by simp [hx])) (Below.trod mapBlocks_laidOut (by kernel_rfl) (of_decide_eq_true (by kernel_rfl)) t3 hb fun x hx => hl x (by simp [hx])), rfl, hb.frame _, fun h => by cases h⟩

theorem mapBlocks_holds : Rows.MapBlocksSaid :=
  OpenClaim.holds_of_wide 5 Tryd.f5 rfl rfl rfl rfl rfl rfl rfl ⟨rfl, rfl, rfl, rfl, rfl⟩ rfl rfl rfl rfl rfl (by kernel_rfl) Tryd.func5 (by kernel_rfl)
    (of_decide_eq_true (by kernel_rfl)) (by unfold Func.isWrapper; rw [if_neg (by decide +kernel)]; exact ⟨rfl, rfl⟩)
    (fun os started H enc _ => mapBlocks_lifted os started H enc)

theorem mapBlocks_card : Rows.MapBlocksCardSaid :=
  Claim7.holds_tied_plain_at .later [] [.data] true (true, "fd67aae43071d16916ebf57e1ea0780dd81ae2656c74d679e40a5eb722c1e201") false
    mapBlocks_holds (fun _ h => by cases h) (by kernel_rfl) (fun _ h => by cases h) mapBlocks_row_tie rfl ⟨rfl, rfl⟩ (by kernel_rfl) rfl
    (fun f fn hf hfn => by
      obtain rfl : f = 5 := Option.some.inj ((show Tryd.prog.funcNamed "gemel/gemellaw06.MapBlocks" = some 5 by kernel_rfl).symm.trans hf) |>.symm
      obtain rfl : fn = Tryd.f5 := (Option.some.inj (Tryd.func5.symm.trans hfn)).symm
      exact ⟨by kernel_rfl, fun j t ht => by
        rw [Tryd.params5] at ht
        have hm : t ∈ [23, 40, 3, 5] := by simpa using Array.mem_of_getElem? ht
        have hall : ([23, 40, 3, 5].all fun u => !Tryd.prog.wantsStandIn u) = true := by kernel_rfl
        exact (show Tryd.prog.wantsStandIn t = false by simpa using List.all_eq_true.1 hall t hm)⟩)
    (by kernel_rfl)
#print axioms mapBlocks_card
end Go.Proofs.YtadmgnlmoodjeaaDoor
