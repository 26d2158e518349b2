/- The program's functions, run by the rewriting evaluator: what each answers and leaves (FpC). -/
import Derived.Test.YtenndllcidikeaaGreatDoorFpA
set_option linter.all false
open Go Go.Cl Go.Proofs
namespace Go.Cl
noncomputable section
open Go Go.RowKit
variable {W : World}

def tabsT : List (Nat × IntKind × List Int) → T CObj
  | [] => .nil
  | p :: l => (tabsT l).set p.1 (.cells (tabB p.2.1 p.2.2))
/-- the heap with some tables, of so many globals -/
def tabsH (l : List (Nat × IntKind × List Int)) (n : Nat) : H := { t := tabsT l, nx := n, low := n, gn := n }
theorem tabsT_get : ∀ (l : List (Nat × IntKind × List Int)) (id : Nat) (o : CObj), (tabsT l).get id = some o → ∃ p ∈ l, p.1 = id ∧ o = .cells (tabB p.2.1 p.2.2)
  | [], id, o, h => by simp [tabsT, T.get_nil] at h
  | p :: l, id, o, h => by
    simp only [tabsT] at h
    rw [T.get_set] at h
    split at h
    · rename_i e
      cases h
      exact ⟨p, List.mem_cons_self, e.symm, rfl⟩
    · obtain ⟨q, h1, h2⟩ := tabsT_get l id o h
      exact ⟨q, List.mem_cons_of_mem _ h1, h2⟩
def TabIn (W : World) (p : Nat × IntKind × List Int) : Prop := ∃ cs ct fr, W.heap[p.1]? = some (.cells cs ct fr) ∧ p.2.2.length ≤ cs.size ∧ ∀ (i : Nat) (x : Int), p.2.2[i]? = some x → cs[i]? = some (Value.int p.2.1 x)
def tabsV (l : List (Nat × IntKind × List Int)) : Val := ⟨fun i => i, fun _ => 0, fun i => match (tabsT l).get i with | some (.cells b) => b.n | _ => 0, fun _ => ⟨0, 0, none⟩⟩
theorem relT {l : List (Nat × IntKind × List Int)} {n : Nat} (hlt : ∀ p ∈ l, p.1 < n) (hW : ∀ p ∈ l, TabIn W p) :
    ∃ f, Rel f (tabsH l n) W ∧ ∀ id o, (tabsH l n).t.get id = some o → o.ro = true := by
  have hro : ∀ id o, (tabsH l n).t.get id = some o → o.ro = true := fun id o ho => by
    obtain ⟨p, _, _, rfl⟩ := tabsT_get l id o ho
    rfl
  refine ⟨tabsV l, ⟨fun id o ho => ?_, fun id id' o o' _ ho' hr e => e, fun g hg => ⟨hg, rfl, rfl⟩⟩, hro⟩
  have ho' : (tabsT l).get id = some o := ho
  obtain ⟨p, hp, rfl, rfl⟩ := tabsT_get l id o ho
  obtain ⟨cs, ct, fr, h1, h2, h3⟩ := hW p hp
  refine ⟨hlt p hp, _, h1, .cells ⟨.inl rfl, ?_, ?_, fun i hi => ?_⟩ (TyOk.none rfl)⟩
  · show (tabB p.2.1 p.2.2).n ≤ (match (tabsT l).get p.1 with | some (.cells b) => b.n | _ => 0)
    rw [ho']; exact Nat.le_refl _
  · show 0 + (match (tabsT l).get p.1 with | some (.cells b) => b.n | _ => 0) ≤ cs.size
    rw [ho']
    show 0 + p.2.2.length ≤ cs.size
    omega
  · have hi : i < p.2.2.length := hi
    obtain ⟨x, hx⟩ : ∃ x, p.2.2[i]? = some x := ⟨_, List.getElem?_eq_getElem hi⟩
    refine ⟨.int p.2.1 x, ?_, rfl, trivial, ?_⟩
    · unfold tabB
      rw [get_list (by simp), List.getElem?_map, hx]; rfl
    · have := h3 i x hx
      show cs[0 + i]? = _
      rw [Nat.zero_add, this]; rfl
variable {P : Program}
theorem laid_mem {P : Program} : ∀ {l : List (String × DataW Unit)} {ps : List MemPlace}, DataW.LaidVars P W l ps → ∀ {x : String × DataW Unit}, x ∈ l → ∃ ps', DataW.LaidVars P W [x] ps'
  | [], _, _, _, hx => by cases hx
  | (n, d) :: r, ps, h, x, hx => by
    obtain ⟨g, t, cs, fuel, p, q, h1, h2, h3, h4, h5, h6⟩ := h
    rcases List.mem_cons.1 hx with rfl | hx
    · exact ⟨_, g, t, cs, fuel, p, [], h1, h2, h3, h4, rfl, rfl⟩
    · exact laid_mem h5 hx
theorem table_in {n : String} {vals : List Int} {g : Nat} {t e : TypeId} {k : IntKind} {N : Nat} {l : List (String × DataW Unit)} (hL : laidMet P l W) (hm : (n, DataW.agg (vals.map fun x => .lit (.int k x))) ∈ l) (hg : P.globalNamed n = some g) (ht : (P.globals[g]?).map (·.type) = some t)
    (hu : P.underlying t = some (.array N e)) (he : P.underlying e = some (.int k)) (hc : P.cellsOf e = 1) (hN : vals.length = N) : TabIn W (g, k, vals) := by
  obtain ⟨ps0, hL0, _, _⟩ := hL
  obtain ⟨ps, g0, t0, cs, f0, p0, q0, hg0, ht0, hv, hd, _, _⟩ := laid_mem hL0 hm
  obtain rfl := Option.some.inj (hg.symm.trans hg0)
  obtain rfl := Option.some.inj (ht.symm.trans ht0)
  have hh : ∃ ct fr, W.heap[g]? = some (.cells cs ct fr) := by
    simp only [World.var?, hg, Option.bind_some] at hv
    split at hv
    · rename_i cs' ct fr hq
      cases hv
      exact ⟨ct, fr, hq⟩
    · cases hv
  obtain ⟨ct, fr, hh⟩ := hh
  obtain ⟨xs, m, rfl, hx, hlen, hn, hel⟩ := DataW.trod_array hu hd
  simp only [Prod.mk.injEq, DataW.agg.injEq] at hx
  have hx1 := hx.1
  have key : ∀ (i : Nat) (x : Int), vals[i]? = some x → cs[i]? = some (Value.int k x) := by
    intro i x hi
    have hil : i < N := by have := (List.getElem?_eq_some_iff.1 hi).1; omega
    obtain ⟨y, hy⟩ : ∃ y, xs[i]? = some y := ⟨_, List.getElem?_eq_getElem (by omega)⟩
    have h1 := hel i hil
    rw [hy, hc] at h1
    obtain ⟨r, e1, e2, _⟩ := DataW.trod_int he h1
    have h2 : (xs.map (·.1))[i]? = some y.1 := by rw [List.getElem?_map, hy]; rfl
    rw [← hx1, List.getElem?_map, hi] at h2
    have h3 : r = x := by
      have : DataW.lit (.int k x) = y.1 := Option.some.inj h2
      rw [e2] at this
      simpa using this.symm
    have h4 : (cs.toList.drop (i * 1)).take 1 = [Value.int k r] := by simpa using e1
    have h5 : cs.toList[i]? = some (Value.int k r) := by
      have : ((cs.toList.drop (i * 1)).take 1)[0]? = some (Value.int k r) := by rw [h4]; rfl
      rw [List.getElem?_take, if_pos (by decide), List.getElem?_drop, Nat.mul_one, Nat.add_zero] at this
      exact this
    rw [← h3, ← Array.getElem?_toList]; exact h5
  refine ⟨cs, ct, fr, hh, (show vals.length ≤ cs.size from ?_), key⟩
  rcases Nat.eq_zero_or_pos N with h0 | h0
  · omega
  · obtain ⟨x, hx⟩ : ∃ x, vals[N - 1]? = some x := ⟨_, List.getElem?_eq_getElem (by omega)⟩
    have := key _ _ hx
    have := (Array.getElem?_eq_some_iff.1 this).1
    omega
end
end Go.Cl

namespace Go.Cl.Sh
noncomputable section
def tabsM : List (Nat × IntKind × List Int) := [(0, .u32, [1779033703, 3144134277, 1013904242, 2773480762, 1359893119, 2600822924, 528734635, 1541459225]), (4, .u64, [1, 10, 100, 1000, 10000, 100000, 1000000, 10000000, 100000000, 1000000000, 10000000000, 100000000000, 1000000000000, 10000000000000, 100000000000000, 1000000000000000, 10000000000000000, 100000000000000000, 1000000000000000000, 10000000000000000000]), (7, .u8, [0, 1, 28, 2, 29, 14, 24, 3, 30, 22, 20, 15, 25, 17, 4, 8, 31, 27, 13, 23, 21, 19, 16, 7, 26, 12, 18, 6, 11, 5, 10, 9]), (8, .u8, [0, 1, 56, 2, 57, 49, 28, 3, 61, 58, 42, 50, 38, 29, 17, 4, 62, 47, 59, 36, 45, 43, 51, 22, 53, 39, 33, 30, 24, 18, 12, 5, 63, 55, 48, 27, 60, 41, 37, 16, 46, 35, 44, 21, 52, 32, 23, 11, 54, 26, 40, 15, 34, 20, 31, 10, 25, 14, 19, 9, 13, 8, 7, 6])]
end
end Go.Cl.Sh
