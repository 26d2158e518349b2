/- A call with no arguments that the evaluator sees answer true: every run of it returns true, and leaves what stood. Conditions as in ClD. -/
import Derived.ChangeSame
import Derived.JoinedOf
import Derived.JoinedAt
import Derived.JoinedStill
import Derived.RowKit
import Derived.ProofKit
import Derived.Test.YtadmgnlmoodjeaaDoorClD
set_option linter.all false
namespace Go.Cl
open Go Go.RowKit

def plainB (P : Program) : Bool := P.funcs.toList.all fun fn => fn.body.isNone || !(fn.name == "runtime.NumGoroutine")

theorem plain_of {P : Program} (h : plainB P = true) : Plain P := fun f fn hf hb => by
  have hm : fn ∈ P.funcs.toList := by
    rw [← Array.getElem?_toList] at hf
    exact List.mem_of_getElem? hf
  have := List.all_eq_true.1 h fn hm
  simp only [Bool.or_eq_true, Bool.not_eq_true'] at this
  rcases this with h1 | h1
  · cases hq : fn.body with
    | none => rw [hq] at hb; cases hb
    | some _ => rw [hq] at h1; cases h1
  · exact h1

def saysTrue (r : Option (CV × Option H)) : Bool := match r with
  | some (.bool true, _) => true
  | _ => false

def val0 : Val := ⟨fun i => i, fun _ => 0, fun _ => 0, fun _ => ⟨0, 0, none⟩⟩

theorem rel0 (W : World) : Rel val0 (h0 0) W where
  obj := fun i o ho => by
    rw [show (h0 0).t = T.nil from rfl, T.get_nil] at ho; cases ho
  inj := fun i j o o' ho _ _ _ => by
    rw [show (h0 0).t = T.nil from rfl, T.get_nil] at ho; cases ho
  glob := fun g hg => by cases hg

theorem closed_calls {P : Program} {k : Nat} {g : FuncId} (hP : plainB P = true) (hm : P.follows .mixedOrders = true) (e : saysTrue (callK P noSums k g [] (h0 0)) = true) (W : World) :
    Calls P g #[] W fun e W' => e = .returned (.bool true) ∧ Below W.heap.size W W' := by
  rw [callK_eq] at e
  unfold saysTrue at e
  split at e
  · rename_i x hx
    have := callC_sound (noSums_ok P) (plain_of hP) hm hx (rel0 W) (by simp [okL])
    refine Calls.mono this fun e' W' hp => ?_
    obtain ⟨f', rfl, st, _, _⟩ := hp
    refine ⟨by simp [ren], st.os, st.tape, st.output, st.size, fun j hj => st.frame j hj fun id o ho => ?_⟩
    rw [show (h0 0).t = T.nil from rfl, T.get_nil] at ho; cases ho
  · cases e

/-- a call with no arguments that the evaluator sees answer a value that names no block: what it answers, told of it, holds -/
theorem closed_sum {P : Program} {k : Nat} {g : FuncId} {v : CV} {x : Option H} (hP : plainB P = true) (hm : P.follows .mixedOrders = true) (e : callC P noSums k g [] (h0 0) = some (v, x)) (ov : okB 0 v = true) :
    (∃ fn, P.funcs[g]? = some fn ∧ fn.body.isSome = true) ∧ ∀ (h : H) (f : Val) (w : World), Rel f h w → CallsIn Fence.wide 0 P g #[] w (CallPost f h w v none) := by
  obtain ⟨h1, h2⟩ := (all_sound (noSums_ok P) (plain_of hP) hm k).2.2.1 g [] (h0 0) v x e
  refine ⟨h1, fun h f w rel => ?_⟩
  refine CallsIn.mono (h2 val0 w (rel0 w) (by simp [okL])) fun e' w' hp => ?_
  obtain ⟨f', rfl, st, _, _⟩ := hp
  have o0 := ok_of_okB _ ov
  have hk : Keeps w w' := ⟨st.os, st.tape, st.output, st.size, fun j hj => st.frame j hj fun id o ho => by
    rw [show (h0 0).t = T.nil from rfl, T.get_nil] at ho; cases ho⟩
  refine ⟨f, ?_, Step.keeps rel hk, ok_mono (Nat.zero_le _) _ o0, fun _ => rfl⟩
  rw [ren_congr (f := f') (g := f) (n := 0) (fun i hi => by omega) v o0]
end Go.Cl
