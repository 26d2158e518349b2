/- gemel, the law GhostLines: the given statement 'GhostLinesSaid': whatever the list of deeds, the call returns true in every run, and the argument reads as it did. Conditions: none.
   How: the evaluator's run by rewriting (the texts before), the arguments laid (ClArg), and callC_sound. -/
import Derived.Test.YtmpaohmapdcckaaUgC
import Derived.Test.YtmpaohmapdcckaaRows
set_option linter.all false
open Go Go.Cl Go.Proofs
namespace Go.Proofs.Ytmpaohmapdcckaa
open Go.ChangeShapes Go.WideShapes Go.ChangeAt Go.RowKit Go.Cl Go.Cl.U

theorem ghostLines_own : ownKnob Try.prog.godebug = none := by kernel_rfl
theorem ghostLines_mixed : Try.prog.follows .mixedOrders = true := by kernel_rfl
theorem ghostLines_plain : plainB Try.prog = true := by kernel_rfl
theorem ghostLines_laidOut : laidOutB Try.prog = true := by kernel_rfl
set_option maxRecDepth 1000000 in
theorem ghostLines_known : (callK Try.prog noSums 10000000 9 [] (h0 0)).map Prod.fst = some (.bool true) := by kernel_rfl

set_option maxRecDepth 100000 in
theorem ghostLines_lifted (os : Os) (started : os.Started) (H : Type) (enc : TypeId × Value → H) :
    ReturnsInHanded {} Try.checked os 4 .any (Rows.ghostLinesSpec.pre6 enc Try.prog Try.f4 Rows.ghostLinesRow.domain false) (Rows.ghostLinesSpec.post enc Try.prog Try.f4 false true false false) := by
  refine returnsInHanded_of_change (C := Try.checked) ghostLines_own started (by kernel_rfl) Try.func4
    (ChangeSpec.witness6 (enc := enc) (C := Try.checked) false ⟨#[], #[.slice none 0 0], []⟩ 8 (by kernel_rfl) (by kernel_rfl) (by kernel_rfl) (by kernel_rfl)) ?_
  intro W base args ds gs before hval hW _ _
  have hW' := hW
  obtain ⟨p, q, hA0, hV, hpq, hfz, _⟩ := hW
  have hlt := hW'.lt
  have hA : DataW.TrodAll enc Try.prog W 0 (fun _ => true) true Try.f4.params.toList args.toList ds p := hA0
  rw [Try.params4] at hA
  obtain ⟨v0, d0, rfl, rfl, t0⟩ := trodAll_one hA
  obtain ⟨rfl, rfl⟩ := trodVars_none hV
  subst hpq
  have hv : ∀ (j : Nat) t v, (#[39] : Array Nat)[j]? = some t → (#[v0] : Array Value)[j]? = some v → Value.okWide Try.prog W .any base t v := by
    intro j t v hj hvj
    exact hval j t v (by rw [Try.params4]; exact hj) hvj
  have rel := rel0 W
  have a0 : ∀ id o, (h0 0).t.get id = some o → o.ro = true := fun id o ho => by rw [show (h0 0).t = T.nil from rfl, T.get_nil] at ho; cases ho
  obtain ⟨h1, f1, c0, r1, g1, e0, A0⟩ := layArg (n := 8) (t := 39) (by kernel_rfl) (hv 0 39 v0 rfl rfl) t0 rel a0
  have b1 := g1.all a0
  have B0 := A0
  obtain ⟨xs, S0⟩ := Go.Cl.U.deeds_of B0
  have run := Go.Cl.U.lines_run (σ := tell 9 (.bool true)) tell_other tell_self S0
  have hc := open_calls ghostLines_plain ghostLines_mixed (tell_ok ghostLines_plain ghostLines_mixed ghostLines_known rfl) r1 b1 (args := [c0]) (by simp only [okL]; exact ⟨B0.ok, trivial⟩) run
  have hr : (renL f1 [c0]).toArray = #[v0] := by
    rw [← e0]
    simp only [renL]
  rw [hr] at hc
  refine hc.mono fun e W' ⟨he, hb⟩ => ?_
  subst he
  refine ⟨_, rfl, ?_⟩
  have hl : ∀ x ∈ (p) ++ [], x.block < W.heap.size := hW'.lt
  exact ⟨_, _, _, [], _, [], hW', trodAll_mk1 (shut_bool Try.underlying4 _),
    trodAll_mk1 (Below.trod ghostLines_laidOut (by kernel_rfl) (of_decide_eq_true (by kernel_rfl)) t0 hb fun x hx => hl x (by simp [hx])), rfl, hb.frame _, fun h => by cases h⟩

theorem ghostLines_holds : Rows.GhostLinesSaid :=
  OpenClaim.holds_of_wide 4 Try.f4 rfl rfl rfl rfl rfl rfl rfl ⟨rfl, rfl, rfl, rfl, rfl⟩ rfl rfl rfl rfl rfl (by kernel_rfl) Try.func4 (by kernel_rfl)
    (of_decide_eq_true (by kernel_rfl)) (by unfold Func.isWrapper; rw [if_neg (by decide +kernel)]; exact ⟨rfl, rfl⟩)
    (fun os started H enc _ => ghostLines_lifted os started H enc)
#print axioms ghostLines_holds
end Go.Proofs.Ytmpaohmapdcckaa
