/- gemel, the law DiskMeans: the given statement 'DiskMeansSaid': whatever the number of blocks, the steps and the picks, the call returns true in every run, and the arguments read as they did. Conditions: none.
   How: the evaluator's run by rewriting (the texts before), the arguments laid (ClArg), and callC_sound. -/
import Derived.Test.YtadmgnlmoodjeaaDkE
import Derived.Test.YtadmgnlmoodjeaaRows
set_option linter.all false
open Go Go.Cl Go.Proofs
namespace Go.Proofs.Ytadmgnlmoodjeaa
open Go.ChangeShapes Go.WideShapes Go.ChangeAt Go.RowKit Go.Cl Go.Cl.Sh

theorem diskMeans_own : ownKnob Try.prog.godebug = none := by kernel_rfl
theorem diskMeans_mixed : Try.prog.follows .mixedOrders = true := by kernel_rfl
theorem diskMeans_plain : plainB Try.prog = true := by kernel_rfl
theorem diskMeans_laidOut : laidOutB Try.prog = true := by kernel_rfl

set_option maxRecDepth 100000 in
theorem diskMeans_lifted (os : Os) (started : os.Started) (H : Type) (enc : TypeId × Value → H) :
    ReturnsInHanded {} Try.checked os 3 .any (Rows.diskMeansSpec.pre6 enc Try.prog Try.f3 Rows.diskMeansRow.domain false) (Rows.diskMeansSpec.post enc Try.prog Try.f3 false true false false) := by
  refine returnsInHanded_of_change (C := Try.checked) diskMeans_own started (by kernel_rfl) Try.func3
    (ChangeSpec.witness6 (enc := enc) (C := Try.checked) false ⟨#[], #[.int .i64 0, .slice none 0 0, .slice none 0 0], []⟩ 8 (by kernel_rfl) (by kernel_rfl) (by kernel_rfl) (by kernel_rfl)) ?_
  intro W base args ds gs before hval hW _ _
  have hW' := hW
  obtain ⟨p, q, hA0, hV, hpq, hfz, _⟩ := hW
  have hlt := hW'.lt
  have hA : DataW.TrodAll enc Try.prog W 0 (fun _ => true) true Try.f3.params.toList args.toList ds p := hA0
  rw [Try.params3] at hA
  obtain ⟨v0, v1, v2, d0, d1, d2, p0, p1, p2, rfl, rfl, rfl, t0, t1, t2⟩ := trodAll_three hA
  obtain ⟨rfl, rfl⟩ := trodVars_none hV
  subst hpq
  have hv : ∀ (j : Nat) t v, (#[3, 22, 23] : Array Nat)[j]? = some t → (#[v0, v1, v2] : Array Value)[j]? = some v → Value.okWide Try.prog W .any base t v := by
    intro j t v hj hvj
    exact hval j t v (by rw [Try.params3]; exact hj) hvj
  have rel := rel0 W
  have a0 : ∀ id o, (h0 0).t.get id = some o → o.ro = true := fun id o ho => by rw [show (h0 0).t = T.nil from rfl, T.get_nil] at ho; cases ho
  obtain ⟨h1, f1, c0, r1, g1, e0, A0⟩ := layArg (n := 8) (t := 3) (by kernel_rfl) (hv 0 3 v0 rfl rfl) t0 rel a0
  have b1 := g1.all a0
  obtain ⟨h2, f2, c1, r2, g2, e1, A1⟩ := layArg (n := 8) (t := 22) (by kernel_rfl) (hv 1 22 v1 rfl rfl) t1 r1 b1
  have b2 := g2.all b1
  obtain ⟨h3, f3, c2, r3, g3, e2, A2⟩ := layArg (n := 8) (t := 23) (by kernel_rfl) (hv 2 23 v2 rfl rfl) t2 r2 b2
  have b3 := g3.all b2
  have B0 := ((A0).mono g2).mono g3
  have B1 := (A1).mono g3
  have B2 := A2
  have run := Go.Cl.Sh.means_run B0 B1 B2
  have hc := open_calls diskMeans_plain diskMeans_mixed Go.Cl.Sh.sigL_ok r3 b3 (args := [c0, c1, c2]) (by simp only [okL]; exact ⟨B0.ok, B1.ok, B2.ok, trivial⟩) run
  have hr : (renL f3 [c0, c1, c2]).toArray = #[v0, v1, v2] := by
    rw [← e0, ← e1, ← e2]
    simp only [renL, ren_congr g2.agree _ (A0).ok, ren_congr g3.agree _ ((A0).mono g2).ok, ren_congr g3.agree _ (A1).ok]
  rw [hr] at hc
  refine hc.mono fun e W' ⟨he, hb⟩ => ?_
  subst he
  refine ⟨_, rfl, ?_⟩
  have hl : ∀ x ∈ (p0 ++ p1 ++ p2) ++ [], x.block < W.heap.size := hW'.lt
  exact ⟨_, _, _, [], _, [], hW', trodAll_mk1 (shut_bool Try.underlying4 _),
    trodAll_mk3 (Below.trod diskMeans_laidOut (by kernel_rfl) (of_decide_eq_true (by kernel_rfl)) t0 hb fun x hx => hl x (by simp [hx])) (Below.trod diskMeans_laidOut (by kernel_rfl) (of_decide_eq_true (by kernel_rfl)) t1 hb fun x hx => hl x (by simp [hx])) (Below.trod diskMeans_laidOut (by kernel_rfl) (of_decide_eq_true (by kernel_rfl)) t2 hb fun x hx => hl x (by simp [hx])), rfl, hb.frame _, fun h => by cases h⟩

theorem diskMeans_holds : Rows.DiskMeansSaid :=
  OpenClaim.holds_of_wide 3 Try.f3 rfl rfl rfl rfl rfl rfl rfl ⟨rfl, rfl, rfl, rfl, rfl⟩ rfl rfl rfl rfl rfl (by kernel_rfl) Try.func3 (by kernel_rfl)
    (of_decide_eq_true (by kernel_rfl)) (by unfold Func.isWrapper; rw [if_neg (by decide +kernel)]; exact ⟨rfl, rfl⟩)
    (fun os started H enc _ => diskMeans_lifted os started H enc)
#print axioms diskMeans_holds
end Go.Proofs.Ytadmgnlmoodjeaa
