/- The program's functions, run by the rewriting evaluator: what each answers and leaves (UuC). -/
import Derived.Test.YtbdokmhibgpjhaaUuB
set_option linter.all false
open Go Go.Cl Go.Proofs
namespace Go.Cl.U

theorem ints_of {h : H} {c : CV} (a : Arg Try.prog h 48 c) : ∃ xs : List Int, Sl Try.prog 48 h c 1 xs.length (xs.map (CV.int .i64)) := by
  have h1 : c.one = true := by rcases a.one with ⟨_, h⟩ | ⟨_, _, h⟩ | h; rw [Try.underlying48] at h; cases h; rw [Try.underlying48] at h; cases h; exact h
  have r := a.rd
  rw [cells_one h1] at r
  obtain ⟨n, xs, _, hx, hs⟩ := r.slice_inv Try.underlying48 sz_3
  obtain ⟨l, hl, hq⟩ := list_of (Q := fun i (b : Int) => xs i = [.int .i64 b]) n fun i hi => by
    obtain ⟨b, hb, _⟩ := (hx i hi).2.int_inv Try.underlying3
    exact ⟨b, hb⟩
  subst hl
  refine ⟨l, hs _ fun i j x hi hj hn => ?_⟩
  have : j = 0 := by omega
  subst this
  rw [Nat.mul_one, Nat.add_zero, nth_eq] at hn
  obtain ⟨g, hg⟩ : ∃ g, l[i]? = some g := ⟨_, List.getElem?_eq_getElem hi⟩
  rw [hq i g hg]
  simp [hg] at hn
  subst hn; rfl
end Go.Cl.U
