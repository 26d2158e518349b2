/- gemel, the law OverlapApart: the given statement 'OverlapApartSaid': whatever the three lists of acts, the call returns true in every run, and the arguments read as they did. Conditions: none.
   How: the evaluator's run by rewriting (the texts before), the arguments laid (ClArg), and callC_sound. -/
import Derived.Test.YtmpaohmapdcckaaOvD
import Derived.Test.YtmpaohmapdcckaaRows
set_option linter.all false
open Go Go.Cl Go.Proofs
namespace Go.Proofs.Ytmpaohmapdcckaa
open Go.ChangeShapes Go.WideShapes Go.ChangeAt Go.RowKit Go.Cl Go.Cl.O

theorem overlapApart_own : ownKnob Try.prog.godebug = none := by kernel_rfl
theorem overlapApart_mixed : Try.prog.follows .mixedOrders = true := by kernel_rfl
theorem overlapApart_plain : plainB Try.prog = true := by kernel_rfl
theorem overlapApart_laidOut : laidOutB Try.prog = true := by kernel_rfl
set_option maxRecDepth 1000000 in
theorem overlapApart_known : (callK Try.prog noSums 10000000 23 [] (h0 0)).map Prod.fst = some (.bool true) := by kernel_rfl

set_option maxRecDepth 100000 in
theorem overlapApart_lifted (os : Os) (started : os.Started) (H : Type) (enc : TypeId × Value → H) :
    ReturnsInHanded {} Try.checked os 5 .any (Rows.overlapApartSpec.pre6 enc Try.prog Try.f5 Rows.overlapApartRow.domain false) (Rows.overlapApartSpec.post enc Try.prog Try.f5 false true false false) := by
  refine returnsInHanded_of_change (C := Try.checked) overlapApart_own started (by kernel_rfl) Try.func5
    (ChangeSpec.witness6 (enc := enc) (C := Try.checked) false ⟨#[], #[.slice none 0 0, .slice none 0 0, .slice none 0 0], []⟩ 8 (by kernel_rfl) (by kernel_rfl) (by kernel_rfl) (by kernel_rfl)) ?_
  intro W base args ds gs before hval hW _ _
  have hW' := hW
  obtain ⟨p, q, hA0, hV, hpq, hfz, _⟩ := hW
  have hlt := hW'.lt
  have hA : DataW.TrodAll enc Try.prog W 0 (fun _ => true) true Try.f5.params.toList args.toList ds p := hA0
  rw [Try.params5] at hA
  obtain ⟨v0, v1, v2, d0, d1, d2, p0, p1, p2, rfl, rfl, rfl, t0, t1, t2⟩ := trodAll_three hA
  obtain ⟨rfl, rfl⟩ := trodVars_none hV
  subst hpq
  have hv : ∀ (j : Nat) t v, (#[55, 55, 55] : Array Nat)[j]? = some t → (#[v0, v1, v2] : Array Value)[j]? = some v → Value.okWide Try.prog W .any base t v := by
    intro j t v hj hvj
    exact hval j t v (by rw [Try.params5]; exact hj) hvj
  have rel := rel0 W
  have a0 : ∀ id o, (h0 0).t.get id = some o → o.ro = true := fun id o ho => by rw [show (h0 0).t = T.nil from rfl, T.get_nil] at ho; cases ho
  obtain ⟨h1, f1, c0, r1, g1, e0, A0⟩ := layArg (n := 8) (t := 55) (by kernel_rfl) (hv 0 55 v0 rfl rfl) t0 rel a0
  have b1 := g1.all a0
  obtain ⟨h2, f2, c1, r2, g2, e1, A1⟩ := layArg (n := 8) (t := 55) (by kernel_rfl) (hv 1 55 v1 rfl rfl) t1 r1 b1
  have b2 := g2.all b1
  obtain ⟨h3, f3, c2, r3, g3, e2, A2⟩ := layArg (n := 8) (t := 55) (by kernel_rfl) (hv 2 55 v2 rfl rfl) t2 r2 b2
  have b3 := g3.all b2
  have B0 := ((A0).mono g2).mono g3
  have B1 := (A1).mono g3
  have B2 := A2
  obtain ⟨x0, S0⟩ := Go.Cl.O.acts_of B0
  obtain ⟨x1, S1⟩ := Go.Cl.O.acts_of B1
  obtain ⟨x2, S2⟩ := Go.Cl.O.acts_of B2
  have run := Go.Cl.O.apart_run (σ := tell 23 (.bool true)) tell_other tell_self S0 S1 S2
  have hc := open_calls overlapApart_plain overlapApart_mixed (tell_ok overlapApart_plain overlapApart_mixed overlapApart_known rfl) r3 b3 (args := [c0, c1, c2]) (by simp only [okL]; exact ⟨B0.ok, B1.ok, B2.ok, trivial⟩) run
  have hr : (renL f3 [c0, c1, c2]).toArray = #[v0, v1, v2] := by
    rw [← e0, ← e1, ← e2]
    simp only [renL, ren_congr g2.agree _ (A0).ok, ren_congr g3.agree _ ((A0).mono g2).ok, ren_congr g3.agree _ (A1).ok]
  rw [hr] at hc
  refine hc.mono fun e W' ⟨he, hb⟩ => ?_
  subst he
  refine ⟨_, rfl, ?_⟩
  have hl : ∀ x ∈ (p0 ++ p1 ++ p2) ++ [], x.block < W.heap.size := hW'.lt
  exact ⟨_, _, _, [], _, [], hW', trodAll_mk1 (shut_bool Try.underlying4 _),
    trodAll_mk3 (Below.trod overlapApart_laidOut (by kernel_rfl) (of_decide_eq_true (by kernel_rfl)) t0 hb fun x hx => hl x (by simp [hx])) (Below.trod overlapApart_laidOut (by kernel_rfl) (of_decide_eq_true (by kernel_rfl)) t1 hb fun x hx => hl x (by simp [hx])) (Below.trod overlapApart_laidOut (by kernel_rfl) (of_decide_eq_true (by kernel_rfl)) t2 hb fun x hx => hl x (by simp [hx])), rfl, hb.frame _, fun h => by cases h⟩

theorem overlapApart_holds : Rows.OverlapApartSaid :=
  OpenClaim.holds_of_wide 5 Try.f5 rfl rfl rfl rfl rfl rfl rfl ⟨rfl, rfl, rfl, rfl, rfl⟩ rfl rfl rfl rfl rfl (by kernel_rfl) Try.func5 (by kernel_rfl)
    (of_decide_eq_true (by kernel_rfl)) (by unfold Func.isWrapper; rw [if_neg (by decide +kernel)]; exact ⟨rfl, rfl⟩)
    (fun os started H enc _ => overlapApart_lifted os started H enc)
#print axioms overlapApart_holds
end Go.Proofs.Ytmpaohmapdcckaa
