/- gemel, the law GhostTurns: the given statement 'GhostTurnsCardSaid': the call returns true in every run, and the arguments read as they did. The table that the row lists is tied to the program's text (the tie is given). Conditions: none.
   How: the evaluator's run by rewriting (the texts before), the table and the arguments laid, and callC_sound. -/
import Derived.Test.YtmpaohmapdcckaaDoorUgB
import Derived.Test.YtmpaohmapdcckaaDoorRows
import Derived.Test.YtmpaohmapdcckaaDoorTie
import Derived.Test.YtmpaohmapdcckaaDoorCards
import Derived.LaidMore
import Derived.OpenShut
import Derived.Stop.Joined
import Derived.SevenTiedAt
set_option linter.all false
open Go Go.Cl Go.Proofs
namespace Go.Proofs.YtmpaohmapdcckaaDoor
open Go.ChangeShapes Go.WideShapes Go.ChangeAt Go.RowKit Go.Cl Go.Cl.U

theorem ghostTurns_own : ownKnob Tryd.prog.godebug = none := by kernel_rfl
theorem ghostTurns_mixed : Tryd.prog.follows .mixedOrders = true := by kernel_rfl
theorem ghostTurns_plain : plainB Tryd.prog = true := by kernel_rfl
theorem ghostTurns_laidOut : laidOutB Tryd.prog = true := by kernel_rfl
set_option maxRecDepth 1000000 in
theorem ghostTurns_known : (callK Tryd.prog noSums 100000 5 [] (h0 0)).map Prod.fst = some (.bool true) := by kernel_rfl

/-- The door's own heap meets the condition on the listed tables. -/
theorem ghostTurns_door (os : Os) (args : Array Value) : laidMetH Tryd.prog Rows.ghostTurnsRow.laid ((World.doorLaid Tryd.prog 400 os).forCall (fun _ _ => 0) ⟨#[], args, []⟩).memory := by
  rw [MakeChecks.laidMetH_plain _ _ _ (by kernel_rfl)]
  exact laidMet_of_run' 8 (by kernel_rfl) (by kernel_rfl)

set_option maxRecDepth 100000 in
theorem ghostTurns_lifted (os : Os) (started : os.Started) (H : Type) (enc : TypeId × Value → H) :
    ReturnsInHanded {} Tryd.checked os 3 .any (fun w args => (Rows.ghostTurnsSpec.pre enc Tryd.prog Tryd.f3 [] false w args ∧ laidMetH Tryd.prog Rows.ghostTurnsRow.laid w) ∧ sizedMet enc Tryd.prog Tryd.f3 (OpenSpec.ofChange Rows.ghostTurnsSpec) false w args)
      (Rows.ghostTurnsSpec.post enc Tryd.prog Tryd.f3 false true false false) := by
  refine returnsInHanded_of_change_and (C := Tryd.checked) (X := fun w _ => laidMetH Tryd.prog Rows.ghostTurnsRow.laid w) (fun _ _ _ hh h => h.of_heap hh) ghostTurns_own started (by kernel_rfl) Tryd.func3
    (ChangeSpec.witness_shaped (enc := enc) (C := Tryd.checked) (os := os) (X := fun w _ => laidMetH Tryd.prog Rows.ghostTurnsRow.laid w) false (World.doorLaid Tryd.prog 400 os) #[.int .u64 0, .slice none 0 0, .agg #[.int .u64 0, .int .u64 0, .int .u64 0, .int .u64 0], .agg #[.int .u64 0, .int .u64 0, .int .u64 0, .int .u64 0]] 8 rfl (World.shaped_of_RefB (by kernel_rfl) (by kernel_rfl)) (by kernel_rfl) (by kernel_rfl) (by kernel_rfl) (ghostTurns_door os _)) ?_
  intro W base args ds gs before hval hW _ _ hL _
  have hW' := hW
  obtain ⟨p, q, hA0, hV, hpq, _, _⟩ := hW
  have hlt := hW'.lt
  have hA : DataW.TrodAll enc Tryd.prog W 0 (fun _ => true) true Tryd.f3.params.toList args.toList ds p := hA0
  rw [Tryd.params3] at hA
  obtain ⟨v0, v1, v2, v3, d0, d1, d2, d3, p0, p1, p2, p3, rfl, rfl, rfl, t0, t1, t2, t3⟩ := trodAll_four hA
  obtain ⟨rfl, rfl⟩ := trodVars_none hV
  subst hpq
  have hv : ∀ (j : Nat) t v, (#[22, 23, 26, 26] : Array Nat)[j]? = some t → (#[v0, v1, v2, v3] : Array Value)[j]? = some v → Value.okWide Tryd.prog W .any base t v := by
    intro j t v hj hvj
    exact hval j t v (by rw [Tryd.params3]; exact hj) hvj
  rw [MakeChecks.laidMetH_plain _ _ _ (by kernel_rfl)] at hL
  obtain ⟨tcs, tct, tfr, hh, hsz, htv⟩ := table_of (vals := [0, 1, 3, 2, 4, 6, 5, 7, 8]) (k := .i64) (g := 0) (t := 50) (e := 34) hL (by kernel_rfl) (by kernel_rfl) Tryd.underlying50 Tryd.underlying34 (by kernel_rfl) rfl
  obtain ⟨f0, rel, a0, hb0⟩ := rel1 (k := .i64) (vals := [0, 1, 3, 2, 4, 6, 5, 7, 8]) hh hsz htv
  obtain ⟨h1, f1, c0, r1, g1, e0, A0⟩ := layArg (n := 8) (t := 22) (by kernel_rfl) (hv 0 22 v0 rfl rfl) t0 rel a0
  have b1 := g1.all a0
  obtain ⟨h2, f2, c1, r2, g2, e1, A1⟩ := layArg (n := 8) (t := 23) (by kernel_rfl) (hv 1 23 v1 rfl rfl) t1 r1 b1
  have b2 := g2.all b1
  obtain ⟨h3, f3, c2, r3, g3, e2, A2⟩ := layArg (n := 8) (t := 26) (by kernel_rfl) (hv 2 26 v2 rfl rfl) t2 r2 b2
  have b3 := g3.all b2
  obtain ⟨h4, f4, c3, r4, g4, e3, A3⟩ := layArg (n := 8) (t := 26) (by kernel_rfl) (hv 3 26 v3 rfl rfl) t3 r3 b3
  have b4 := g4.all b3
  have B0 := (((A0).mono g2).mono g3).mono g4
  have B1 := ((A1).mono g3).mono g4
  have B2 := (A2).mono g4
  have B3 := A3
  have HG0 := Go.Cl.U.HT.tab hb0
  have HG1 := HG0.ext ⟨g1.nx, g1.gn, g1.old⟩
  have HG2 := HG1.ext ⟨g2.nx, g2.gn, g2.old⟩
  have HG3 := HG2.ext ⟨g3.nx, g3.gn, g3.old⟩
  have HG4 := HG3.ext ⟨g4.nx, g4.gn, g4.old⟩
  obtain ⟨X0, rfl⟩ := Go.Cl.U.u64n_of B0
  obtain ⟨bl, S1⟩ := Go.Cl.U.born_of B1
  obtain ⟨la, rfl⟩ := Go.Cl.U.line_of B2
  obtain ⟨lb, rfl⟩ := Go.Cl.U.line_of B3
  have run := Go.Cl.U.turns_run (σ := tell 5 (.bool true)) Go.Cl.U.tell_none (fun Y => tell_self Y) (first := X0) HG4 S1 la lb
  have hc := open_calls ghostTurns_plain ghostTurns_mixed (tell_ok ghostTurns_plain ghostTurns_mixed ghostTurns_known rfl) r4 b4 (args := [u64 X0, c1, la.cv, lb.cv]) (by simp only [okL]; exact ⟨B0.ok, B1.ok, B2.ok, B3.ok, trivial⟩) run
  have hr : (renL f4 [u64 X0, c1, la.cv, lb.cv]).toArray = #[v0, v1, v2, v3] := by
    rw [← e0, ← e1, ← e2, ← e3]
    simp only [renL, ren_congr g2.agree _ (A0).ok, ren_congr g3.agree _ ((A0).mono g2).ok, ren_congr g4.agree _ (((A0).mono g2).mono g3).ok, ren_congr g3.agree _ (A1).ok, ren_congr g4.agree _ ((A1).mono g3).ok, ren_congr g4.agree _ (A2).ok]
  rw [hr] at hc
  refine hc.mono fun e W' ⟨he, hb⟩ => ?_
  subst he
  refine ⟨_, rfl, ?_⟩
  have hl : ∀ x ∈ (p0 ++ p1 ++ p2 ++ p3) ++ [], x.block < W.heap.size := hW'.lt
  exact ⟨_, _, _, [], _, [], hW', trodAll_mk1 (shut_bool Tryd.underlying4 _),
    trodAll_mk4 (Below.trod ghostTurns_laidOut (by kernel_rfl) (of_decide_eq_true (by kernel_rfl)) t0 hb fun x hx => hl x (by simp [hx])) (Below.trod ghostTurns_laidOut (by kernel_rfl) (of_decide_eq_true (by kernel_rfl)) t1 hb fun x hx => hl x (by simp [hx])) (Below.trod ghostTurns_laidOut (by kernel_rfl) (of_decide_eq_true (by kernel_rfl)) t2 hb fun x hx => hl x (by simp [hx])) (Below.trod ghostTurns_laidOut (by kernel_rfl) (of_decide_eq_true (by kernel_rfl)) t3 hb fun x hx => hl x (by simp [hx])), rfl, hb.frame _, fun h => by cases h⟩

theorem ghostTurns_holds : Rows.GhostTurnsSaid :=
  OpenClaim.holds_of_wide 3 Tryd.f3 rfl rfl rfl rfl rfl rfl rfl ⟨rfl, rfl, rfl, rfl, rfl⟩ rfl rfl rfl rfl rfl (by kernel_rfl) Tryd.func3 (by kernel_rfl)
    (of_decide_eq_true (by kernel_rfl)) (by unfold Func.isWrapper; rw [if_neg (by decide +kernel)]; exact ⟨rfl, rfl⟩)
    (fun os started H enc _ => ghostTurns_lifted os started H enc)

theorem ghostTurns_card : Rows.GhostTurnsCardSaid :=
  Claim7.holds_tied_plain_at .later [] [.data] true (true, "6b0453e4a791626b5197aee37af11b38422f09764b237f21d0236855f63ceab1") false
    ghostTurns_holds (fun _ h => by cases h) (by kernel_rfl) (fun _ h => by cases h) ghostTurns_row_tie rfl ⟨rfl, rfl⟩ (by kernel_rfl) rfl
    (fun f fn hf hfn => by
      obtain rfl : f = 3 := Option.some.inj ((show Tryd.prog.funcNamed "gemel/gemellaw22.GhostTurns" = some 3 by kernel_rfl).symm.trans hf) |>.symm
      obtain rfl : fn = Tryd.f3 := (Option.some.inj (Tryd.func3.symm.trans hfn)).symm
      exact ⟨by kernel_rfl, fun j t ht => by
        rw [Tryd.params3] at ht
        have hm : t ∈ [22, 23, 26, 26] := by simpa using Array.mem_of_getElem? ht
        have hall : ([22, 23, 26, 26].all fun u => !Tryd.prog.wantsStandIn u) = true := by kernel_rfl
        exact (show Tryd.prog.wantsStandIn t = false by simpa using List.all_eq_true.1 hall t hm)⟩)
    (by kernel_rfl)
#print axioms ghostTurns_card
end Go.Proofs.YtmpaohmapdcckaaDoor
