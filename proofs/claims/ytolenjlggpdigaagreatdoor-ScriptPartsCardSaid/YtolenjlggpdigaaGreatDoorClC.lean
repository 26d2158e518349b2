/- What the evaluator's other operations answer (maps, iterators, comparisons, arithmetic, conversions, built-ins, calls), the model's operations answer, in every related state. -/
import Derived.Laws.Strings
import Derived.Laws.StructEq
import Derived.Laws.BytesString
import Derived.Lib.ConvBytes
import Derived.Test.YtolenjlggpdigaaGreatDoorClB
set_option linter.all false
namespace Go.Cl
noncomputable section
open Go Go.RowKit

section
variable {P : Program} {w : World} {f : Val} {h : H}

/-! ### maps -/
theorem H.mp_get {id : Nat} {es : List (CV × CV × Nat)} {c : Nat} (e : h.mp id = some (es, c)) : h.t.get id = some (.map es c) := by
  unfold H.mp at e
  split at e
  · cases e; assumption
  · cases e

theorem Rel.mp (r : Rel f h w) {id : Nat} {es : List (CV × CV × Nat)} {c : Nat} (e : h.mp id = some (es, c)) :
    id < h.nx ∧ w.heap[f.blk id]? = some (.map (es.map (renE f)).toArray c) ∧ ∀ x ∈ es, ok h.nx x.1 ∧ ok h.nx x.2.1 := by
  obtain ⟨h1, O, h2, h3⟩ := r.obj _ _ (H.mp_get e)
  cases h3 with
  | map hm => exact ⟨h1, h2, hm⟩

theorem run_getObj_map {id : Nat} {es : Array MapEntry} {c : Nat} (e : w.heap[id]? = some (.map es c)) : (getObj id).run P w = .ok (.map es c) w := by simp [getObj, Sem.run, e]
theorem run_setObj_map {id : Nat} {es : Array MapEntry} {c : Nat} (o : Obj) (e : w.heap[id]? = some (.map es c)) : (setObj id o).run P w = .ok () (w.putObj id o) := by simp [setObj, Sem.run, e, World.putObj]

theorem strV_inj {a b : List Nat} (ha : ∀ x ∈ a, x < 256) (hb : ∀ x ∈ b, x < 256) (e : strV a = strV b) : a = b := by
  have e' : (strV a).data.toList = (strV b).data.toList := by rw [e]
  rw [strV_data, strV_data] at e'
  have key : ∀ l : List Nat, (∀ x ∈ l, x < 256) → (l.map UInt8.ofNat).map UInt8.toNat = l := by
    intro l hl
    rw [List.map_map]
    conv => rhs; rw [← List.map_id l]
    exact List.map_congr_left fun x hx => by simp [UInt8.toNat_ofNat_of_lt' (hl x hx)]
  rw [← key a ha, ← key b hb, e']

theorem strV_beq {a b : List Nat} (ha : ∀ x ∈ a, x < 256) (hb : ∀ x ∈ b, x < 256) : (strV a == strV b) = (a == b) := by
  have e1 : (strV a == strV b) = ((strV a).data == (strV b).data) := rfl
  rw [e1, Bool.eq_iff_iff, beq_iff_eq, beq_iff_eq]
  exact ⟨fun e => strV_inj ha hb (ByteArray.ext e), fun e => by rw [e]⟩

/-- a key's kind -/
inductive KeyK : TypeDesc → CV → Prop
  | int (k k' : IntKind) (n : Int) : KeyK (.int k) (.int k' n)
  | str (s : List Nat) : KeyK .string (.str s)
  | bool (b : Bool) : KeyK .bool (.bool b)

theorem keyOk_spec {t : TypeId} {k : CV} (e : keyOk P t k = true) : ∃ d, P.underlying t = some d ∧ KeyK d k := by
  unfold keyOk at e
  split at e
  · rename_i hd; exact ⟨_, hd, .int ..⟩
  · rename_i hd; exact ⟨_, hd, .str _⟩
  · rename_i hd; exact ⟨_, hd, .bool _⟩
  · cases e

theorem run_checkKey {t : TypeId} {d : TypeDesc} {k : CV} (hd : P.underlying t = some d) (hk : KeyK d k) (b : Bool) : (Instr.checkKey b 10000 t (ren f k)).run P w = .ok () w := by
  show (Instr.checkKey b (9999 + 1) t (ren f k)).run P w = .ok () w
  generalize 9999 = n
  cases hk <;> simp [Instr.checkKey, run_underlying' hd, ren]

theorem sameNow_eq {nx : Nat} {d : TypeDesc} {k x : CV} (hk : KeyK d k) (o1 : ok nx k) (o2 : ok nx x) {b : Bool} (e : keyEq k x = some b) : Instr.sameNow d (ren f k) (ren f x) = some b := by
  cases hk with
  | int k0 k1 n =>
    cases x <;> simp only [keyEq, reduceCtorEq] at e
    rename_i k2 m
    replace e := cond_some e; obtain ⟨hc, e⟩ := e
    have : k1 = k2 := by simpa using hc
    subst this
    cases e
    simp [Instr.sameNow, ren]
  | str s =>
    cases x <;> simp only [keyEq, reduceCtorEq, Option.some.injEq] at e
    rename_i s2
    subst e
    simp only [ok] at o1 o2
    simp [Instr.sameNow, ren, strV_beq o1 o2]
  | bool c =>
    cases x <;> simp only [keyEq, reduceCtorEq, Option.some.injEq] at e
    subst e
    simp [Instr.sameNow, ren]

theorem findNow_eq {nx : Nat} {d : TypeDesc} {k : CV} (hk : KeyK d k) (o1 : ok nx k) : ∀ {es : List (CV × CV × Nat)} {i : Nat} {r : Option (Nat × CV)}, (∀ x ∈ es, ok nx x.1 ∧ ok nx x.2.1) → findKF k es i = some r →
    Instr.findNow d (ren f k) (es.map (renE f)) i = some (r.map fun p => (p.1, ren f p.2)) ∧ (∀ p, r = some p → i ≤ p.1 ∧ p.1 < i + es.length ∧ ok nx p.2 ∧ ∃ x, es[p.1 - i]? = some x ∧ x.2.1 = p.2 ∧ keyEq k x.1 = some true)
  | [], i, r, _, e => by cases e; simp [Instr.findNow]
  | x :: es, i, r, hes, e => by
    simp only [findKF, bind_some] at e
    obtain ⟨b, hb, e⟩ := e
    have ho := hes x (by simp)
    have hs := sameNow_eq (f := f) hk o1 ho.1 hb
    cases b with
    | true =>
      cases e
      refine ⟨by simp [Instr.findNow, renE, hs], fun p hp => ?_⟩
      cases hp
      exact ⟨Nat.le_refl _, by simp, ho.2, x, by simp, rfl, hb⟩
    | false =>
      obtain ⟨a1, a2⟩ := findNow_eq hk o1 (es := es) (i := i + 1) (fun y hy => hes y (by simp [hy])) e
      refine ⟨by simp [Instr.findNow, renE, hs, a1], fun p hp => ?_⟩
      obtain ⟨b1, b2, b3, y, b4, b5⟩ := a2 p hp
      refine ⟨by omega, by simp only [List.length_cons]; omega, b3, y, ?_, b5⟩
      rw [show p.1 - i = (p.1 - (i + 1)) + 1 by omega]
      simpa using b4

theorem run_findKey {nx : Nat} {t : TypeId} {d : TypeDesc} {k : CV} (hd : P.underlying t = some d) (hk : KeyK d k) (o1 : ok nx k) {es : List (CV × CV × Nat)} {r : Option (Nat × CV)}
    (hes : ∀ x ∈ es, ok nx x.1 ∧ ok nx x.2.1) (e : findK k es = some r) :
    (Instr.findKey t (ren f k) (es.map (renE f))).run P w = .ok (r.map fun p => (p.1, ren f p.2)) w := by
  simp only [Instr.findKey, Sem.run_bind, run_underlying' hd, Result.andThen_ok, (findNow_eq (f := f) hk o1 hes e).1, Sem.run_pure]

theorem lookupT_sound (r : Rel f h w) {t : TypeId} {x k v : CV} {c : Bool} (e : lookupT P h t x k c = some v) (hk : ok h.nx k) :
    (Instr.lookup t (ren f x) (ren f k) c).run P w = .ok (ren f v) w ∧ ok h.nx v := by
  unfold lookupT at e
  replace e := bind_some.1 e; obtain ⟨d, hd, e⟩ := e
  cases d <;> simp only [reduceCtorEq] at e
  rename_i kt et
  replace e := cond_some e; obtain ⟨hc, e⟩ := e
  obtain ⟨d', hd', hkk⟩ := keyOk_spec hc
  replace e := bind_some.1 e; obtain ⟨es, hes, e⟩ := e
  replace e := bind_some.1 e; obtain ⟨q, hq, e⟩ := e
  replace e := bind_some.1 e; obtain ⟨p, hp, e⟩ := e
  cases e
  have tail : ∀ {l : List MapEntry}, (Instr.findKey kt (ren f k) l).run P w = .ok (q.map fun p => (p.1, ren f p.2)) w → (∀ p, q = some p → ok h.nx p.2) →
      ((Instr.findKey kt (ren f k) l).run P w).andThen (fun a w' => (match a with
        | some (_, v) => do
          let x ← (pure (v, true) : Sem (Value × Bool))
          pure (if c = true then Value.tuple #[x.1, Value.bool x.2] else x.1)
        | none => do
          let z ← zeroValue et
          let x ← (pure (z, false) : Sem (Value × Bool))
          pure (if c = true then Value.tuple #[x.1, Value.bool x.2] else x.1) : Sem Value).run P w') = .ok (ren f (bif c then .tup [p.1, .bool p.2] else p.1)) w ∧ ok h.nx (bif c then .tup [p.1, .bool p.2] else p.1) := by
    intro l hl ho
    rw [hl]
    cases q with
    | some iv =>
      cases hp
      have := ho _ rfl
      cases c <;> simp [ren, renL, ok, okL, this]
    | none =>
      obtain ⟨z, hz, rfl⟩ := Option.map_eq_some_iff.1 hp
      obtain ⟨z1, z2⟩ := run_zero' (P := P) (w := w) (f := f) (n := h.nx) hz
      cases c <;> simp [ren, renL, ok, okL, z1, z2]
  cases x <;> simp only [reduceCtorEq, Option.some.injEq] at hes
  · subst hes
    have k1 : ∀ y ∈ ([] : List (CV × CV × Nat)), ok h.nx y.1 ∧ ok h.nx y.2.1 := by simp
    have hl := run_findKey (P := P) (w := w) (f := f) hd' hkk hk k1 hq
    obtain ⟨t1, t2⟩ := tail hl (fun p hp => ((findNow_eq (f := f) hkk hk k1 hq).2 p hp).2.2.1)
    refine ⟨?_, t2⟩
    rw [← t1]
    unfold Instr.lookup
    simp only [Sem.run_bind, run_underlying' hd, Result.andThen_ok, ren, Sem.run_pure, run_checkKey hd' hkk]
    rfl
  · rename_i id
    obtain ⟨pr, hpr, hes⟩ := Option.map_eq_some_iff.1 hes
    obtain ⟨es', cl⟩ := pr
    cases hes
    obtain ⟨h1, h2, k1⟩ := r.mp hpr
    have hl := run_findKey (P := P) (w := w) (f := f) hd' hkk hk k1 hq
    obtain ⟨t1, t2⟩ := tail hl (fun p hp => ((findNow_eq (f := f) hkk hk k1 hq).2 p hp).2.2.1)
    refine ⟨?_, t2⟩
    rw [← t1]
    unfold Instr.lookup
    simp only [Sem.run_bind, run_underlying' hd, Result.andThen_ok, ren, run_getObj_map h2, Sem.run_pure, run_checkKey hd' hkk]
    rfl

theorem sameBits_ren {nx : Nat} {d : TypeDesc} {k x : CV} (hk : KeyK d k) (o1 : ok nx k) (o2 : ok nx x) (e : keyEq k x = some true) : ren f x = ren f k ∧ Instr.sameBits 10000 (ren f x) (ren f k) = true := by
  cases hk with
  | int k0 k1 n =>
    cases x <;> simp only [keyEq, reduceCtorEq] at e
    rename_i k2 m
    replace e := cond_some e; obtain ⟨hc, e⟩ := e
    have : k1 = k2 := by simpa using hc
    subst this
    have : n = m := by simpa using e
    subst this
    simp [ren, Instr.sameBits]
  | str s =>
    cases x <;> simp only [keyEq, reduceCtorEq, Option.some.injEq] at e
    rename_i s2
    have : s = s2 := by simpa using e
    subst this
    simp only [ok] at o1
    simp [ren, Instr.sameBits, strV_beq o1 o1]
  | bool c =>
    cases x <;> simp only [keyEq, reduceCtorEq, Option.some.injEq] at e
    rename_i b
    have : c = b := by simpa using e
    subst this
    simp [ren, Instr.sameBits]

theorem keyThatStays_run {nx : Nat} {d : TypeDesc} {k x : CV} (hk : KeyK d k) (o1 : ok nx k) (o2 : ok nx x) (e : keyEq k x = some true) : (Instr.keyThatStays (ren f x) (ren f k)).run P w = .ok (ren f k) w := by
  simp [Instr.keyThatStays, (sameBits_ren (f := f) hk o1 o2 e).2]

theorem modify_map (es : List (CV × CV × Nat)) (i : Nat) (g : CV × CV × Nat → CV × CV × Nat) (g' : MapEntry → MapEntry) (hg : ∀ e ∈ es, renE f (g e) = g' (renE f e)) :
    ((es.map (renE f)).toArray.modify i g') = ((modAt es i g).map (renE f)).toArray := by
  apply Array.ext_getElem?
  intro j
  unfold modAt
  rw [Array.getElem?_modify]
  by_cases c : i = j
  · subst c
    rw [if_pos rfl]
    cases hx : es[i]? with
    | none => simp [hx]
    | some x => simp [hx, hg x (List.mem_of_getElem? hx)]
  · rw [if_neg c]
    simp [c]

theorem modAt_ok {nx : Nat} {es : List (CV × CV × Nat)} (hes : ∀ x ∈ es, ok nx x.1 ∧ ok nx x.2.1) {i : Nat} {g : CV × CV × Nat → CV × CV × Nat} (hg : ∀ x ∈ es, ok nx (g x).1 ∧ ok nx (g x).2.1) :
    ∀ x ∈ modAt es i g, ok nx x.1 ∧ ok nx x.2.1 := by
  intro x hx
  unfold modAt at hx
  obtain ⟨j, hj⟩ := List.getElem?_of_mem hx
  rw [List.getElem?_modify] at hj
  cases hy : es[j]? with
  | none => simp [hy] at hj
  | some y =>
    have hm := List.mem_of_getElem? hy
    rw [hy] at hj
    by_cases c : i = j
    · simp [c] at hj; subst hj; exact hg y hm
    · simp [c] at hj; subst hj; exact hes y hm

theorem mapUpdateT_sound (r : Rel f h w) {t : TypeId} {m k v : CV} {h' : H} (e : mapUpdateT P h t m k v = some h') (hk : ok h.nx k) (hv : ok h.nx v) :
    ∃ w', (Instr.mapUpdate t (ren f m) (ren f k) (ren f v)).run P w = .ok () w' ∧ Step f h w f h' w' := by
  unfold mapUpdateT at e
  replace e := bind_some.1 e; obtain ⟨d, hd, e⟩ := e
  split at e
  · rename_i kt et id
    replace e := cond_some e; obtain ⟨hc, e⟩ := e
    obtain ⟨d', hd', hkk⟩ := keyOk_spec hc
    replace e := bind_some.1 e; obtain ⟨⟨es, c⟩, hes, e⟩ := e
    simp only at e
    replace e := bind_some.1 e; obtain ⟨q, hq, e⟩ := e
    obtain ⟨h1, h2, h3⟩ := r.mp hes
    have hf := run_findKey (P := P) (w := w) (f := f) hd' hkk hk h3 hq
    obtain ⟨_, n2⟩ := findNow_eq (f := f) hkk hk h3 hq
    cases q with
    | some iv =>
      obtain ⟨i, u⟩ := iv
      cases e
      obtain ⟨_, b2, b3, x, b4, b5, b6⟩ := n2 _ rfl
      simp only [Nat.sub_zero] at b4
      have hx := h3 x (List.mem_of_getElem? b4)
      refine ⟨_, ?_, Step.put r (H.mp_get hes) rfl rfl (.map (modAt_ok h3 (g := fun e => (k, v, e.2.2)) fun y hy => ⟨hk, hv⟩))⟩
      unfold Instr.mapUpdate
      have hget : ((es.map (renE f)).toArray[i]?).map (·.key) = some (ren f x.1) := by simp [b4, renE]
      simp only [Sem.run_bind, run_underlying' hd, Result.andThen_ok, ren, run_getObj_map h2, run_checkKey hd' hkk, hf, Option.map_some, hget, Option.getD_some, keyThatStays_run hkk hk hx.1 b6, run_setObj_map _ h2]
      rw [modify_map es i (fun e => (k, v, e.2.2))]
      intro y _
      rfl
    | none =>
      cases e
      refine ⟨_, ?_, Step.put r (H.mp_get hes) rfl rfl (.map (es := es ++ [(k, v, c)]) (c := c + 1) fun y hy => ?_)⟩
      · unfold Instr.mapUpdate
        simp only [Sem.run_bind, run_underlying' hd, Result.andThen_ok, ren, run_getObj_map h2, run_checkKey hd' hkk, hf, Option.map_none, run_setObj_map _ h2]
        congr 2
        simp [renE]
      · rcases List.mem_append.1 hy with hy | hy
        · exact h3 y hy
        · simp at hy; subst hy; exact ⟨hk, hv⟩
  · cases e

theorem mapEntryT_sound (r : Rel f h w) {t : TypeId} {m k v : CV} {h' : H} (e : mapEntryT P h t m k = some (v, h')) (hk : ok h.nx k) :
    ∃ w', (Instr.mapEntry t (ren f m) (ren f k)).run P w = .ok (ren f v) w' ∧ Step f h w f h' w' ∧ ok h.nx v := by
  unfold mapEntryT at e
  replace e := bind_some.1 e; obtain ⟨d, hd, e⟩ := e
  split at e
  · rename_i kt et id
    replace e := cond_some e; obtain ⟨hc, e⟩ := e
    obtain ⟨d', hd', hkk⟩ := keyOk_spec hc
    replace e := bind_some.1 e; obtain ⟨⟨es, c⟩, hes, e⟩ := e
    simp only at e
    replace e := bind_some.1 e; obtain ⟨q, hq, e⟩ := e
    obtain ⟨h1, h2, h3⟩ := r.mp hes
    have hf := run_findKey (P := P) (w := w) (f := f) hd' hkk hk h3 hq
    obtain ⟨_, n2⟩ := findNow_eq (f := f) hkk hk h3 hq
    cases q with
    | some iv =>
      obtain ⟨i, u⟩ := iv
      simp only at e
      replace e := bind_some.1 e; obtain ⟨y, hy, e⟩ := e
      cases e
      obtain ⟨_, b2, b3, x, b4, b5, b6⟩ := n2 _ rfl
      simp only [Nat.sub_zero] at b4
      rw [nth_eq, b4] at hy
      have hy := Option.some.inj hy
      subst hy
      have hx := h3 x (List.mem_of_getElem? b4)
      refine ⟨_, ?_, Step.put r (H.mp_get hes) rfl rfl (.map (modAt_ok h3 (i := i) (g := fun e => (k, e.2)) fun y hy => ⟨hk, (h3 y hy).2⟩)), by simp [ok, okL, b3]⟩
      unfold Instr.mapEntry
      have hget : ((es.map (renE f)).toArray[i]?).map (·.key) = some (ren f x.1) := by simp [b4, renE]
      simp only [Sem.run_bind, run_underlying' hd, Result.andThen_ok, ren, run_getObj_map h2, run_checkKey hd' hkk, hf, Option.map_some, hget, Option.getD_some, keyThatStays_run hkk hk hx.1 b6, run_setObj_map _ h2, Sem.run_pure]
      rw [modify_map es i (fun e => (k, e.2))]
      · simp [renL, ren, goInt, b4, renE]
      · intro y _
        rfl
    | none =>
      simp only at e
      replace e := bind_some.1 e; obtain ⟨z, hz, e⟩ := e
      cases e
      obtain ⟨z1, z2⟩ := run_zero' (P := P) (w := w) (f := f) (n := h.nx) hz
      refine ⟨_, ?_, Step.put r (H.mp_get hes) rfl rfl (.map (es := es ++ [(k, z, c)]) (c := c + 1) fun y hy => ?_), by simp [ok, okL, z2]⟩
      · unfold Instr.mapEntry
        simp only [Sem.run_bind, run_underlying' hd, Result.andThen_ok, ren, run_getObj_map h2, run_checkKey hd' hkk, hf, Option.map_none, z1, run_setObj_map _ h2, Sem.run_pure]
        simp [renE, renL, ren, goInt]
      · rcases List.mem_append.1 hy with hy | hy
        · exact h3 y hy
        · simp at hy; subst hy; exact ⟨hk, z2⟩
  · cases e

theorem findIdx_map (es : List (CV × CV × Nat)) (n : Int) : (es.map (renE f)).toArray.findIdx? (fun e => (e.born : Int) == n) = es.findIdx? (fun e => (e.2.2 : Int) == n) := by
  simp [List.findIdx?_map, Function.comp_def, renE]

theorem entryStoreT_sound (r : Rel f h w) {t : TypeId} {m s v : CV} {h' : H} (e : entryStoreT h m s v = some h') (hv : ok h.nx v) :
    ∃ w', (Instr.entryStore t (ren f m) (ren f s) (ren f v)).run P w = .ok () w' ∧ Step f h w f h' w' := by
  unfold entryStoreT at e
  split at e
  · rename_i id k n
    replace e := bind_some.1 e; obtain ⟨⟨es, c⟩, hes, e⟩ := e
    simp only at e
    split at e
    · rename_i i hi
      cases e
      obtain ⟨h1, h2, h3⟩ := r.mp hes
      refine ⟨_, ?_, Step.put r (H.mp_get hes) rfl rfl (.map (modAt_ok h3 (i := i) (g := fun e => (e.1, v, e.2.2)) fun y hy => ⟨(h3 y hy).1, hv⟩))⟩
      unfold Instr.entryStore
      simp only [Sem.run_bind, Result.andThen_ok, ren, run_getObj_map h2, asInt, asIntOf, Sem.run_pure, findIdx_map, hi, run_setObj_map _ h2]
      rw [modify_map es i (fun e => (e.1, v, e.2.2))]
      intro y _
      rfl
    · cases e
  · cases e

theorem deleteT_sound (r : Rel f h w) {t : TypeId} {ats : Array TypeId} {args : Array Value} {ty : TypeId} {m k : CV} {h' : H} (ha0 : ats[0]? = some t) (hv0 : args[0]? = some (ren f m)) (hv1 : args[1]? = some (ren f k))
    (e : deleteT P h t m k = some h') (hk : ok h.nx k) :
    ∃ w', (Builtin.delete_ ats ty args).run P w = .ok (ren f und) w' ∧ Step f h w f h' w' := by
  unfold deleteT at e
  replace e := bind_some.1 e; obtain ⟨d, hd, e⟩ := e
  cases d <;> simp only [reduceCtorEq] at e
  rename_i kt et
  replace e := cond_some e; obtain ⟨hc, e⟩ := e
  obtain ⟨d', hd', hkk⟩ := keyOk_spec hc
  cases m <;> simp only [reduceCtorEq, Option.some.injEq] at e
  · subst e
    refine ⟨w, ?_, Step.refl r⟩
    unfold Builtin.delete_
    simp only [ren] at hv0
    simp only [ha0, hv0, hv1, Sem.run_bind, run_underlying' hd, Result.andThen_ok, run_checkKey hd' hkk, Sem.run_pure, und, ren, renL]
  · rename_i id
    replace e := bind_some.1 e; obtain ⟨⟨es, c⟩, hes, e⟩ := e
    simp only at e
    replace e := bind_some.1 e; obtain ⟨q, hq, e⟩ := e
    obtain ⟨h1, h2, h3⟩ := r.mp hes
    have hf := run_findKey (P := P) (w := w) (f := f) hd' hkk hk h3 hq
    simp only [ren] at hv0
    cases q with
    | some iv =>
      obtain ⟨i, u⟩ := iv
      cases e
      refine ⟨_, ?_, Step.put r (H.mp_get hes) rfl rfl (.map (es := es.eraseIdx i) (c := c) fun y hy => h3 y (List.mem_of_mem_eraseIdx hy))⟩
      unfold Builtin.delete_
      simp only [ha0, hv0, hv1, Sem.run_bind, run_underlying' hd, Result.andThen_ok, run_checkKey hd' hkk, Sem.run_pure, run_getObj_map h2, hf, Option.map_some, run_setObj_map _ h2, und, ren, renL]
      congr 2
      simp [List.eraseIdx_eq_take_drop_succ, List.map_take, List.map_drop]
    | none =>
      cases e
      refine ⟨_, ?_, Step.put r (H.mp_get hes) rfl rfl (.map h3)⟩
      unfold Builtin.delete_
      simp only [ha0, hv0, hv1, Sem.run_bind, run_underlying' hd, Result.andThen_ok, run_checkKey hd' hkk, Sem.run_pure, run_getObj_map h2, hf, Option.map_none, run_setObj_map _ h2, und, ren, renL]

/-! ### iterators -/
theorem rangeT_sound (r : Rel f h w) {t : TypeId} {x v : CV} {h' : H} (e : rangeT P h t x = some (v, h')) (hx : ok h.nx x) :
    ∃ f' w', (Instr.range t (ren f x)).run P w = .ok (ren f' v) w' ∧ Step f h w f' h' w' ∧ ok h'.nx v := by
  unfold rangeT at e
  replace e := bind_some.1 e; obtain ⟨d, hd, e⟩ := e
  split at e
  · rename_i s
    cases e
    simp only [ok] at hx
    have hs := Step.alloc r (.strIter s 0) (.stringIter (strV s) 0) 0 (.strIter (by simp) hx)
    exact ⟨_, _, by simp [Instr.range, run_underlying' hd, ren, adr], hs, by simp [ok, H.alloc]⟩
  · cases e
    have hs := Step.alloc r (.mapIter none 0 [] 0) (.mapIter none 0 #[] 0) 0 (.mapIter (m := none) (seen := []) (by simp) (by simp))
    exact ⟨_, _, by simp [Instr.range, run_underlying' hd, ren, adr], hs, by simp [ok, H.alloc]⟩
  · rename_i id
    replace e := bind_some.1 e; obtain ⟨⟨es, c⟩, hes, e⟩ := e
    cases e
    obtain ⟨h1, h2, h3⟩ := r.mp hes
    have hs := Step.alloc r (.mapIter (some id) c [] c) (.mapIter (some (f.blk id)) c #[] c) 0 (by
      have : (some id).map (f.add h.nx w.heap.size 0 0).blk = some (f.blk id) := by simp [Val.add, Nat.ne_of_lt h1]
      rw [← this]
      exact .mapIter (m := some id) (seen := []) (by simp) (fun i hi => by cases hi; omega))
    refine ⟨_, _, ?_, hs, by simp [ok, H.alloc]⟩
    simp only [Instr.range, run_underlying' hd, ren, adr, Sem.run_bind, Result.andThen_ok, run_getObj_map h2, Sem.run_pure, run_newObj]
    simp
  · cases e

theorem decodeL_eq {s : List Nat} (hs : ∀ x ∈ s, x < 256) {i : Nat} (hi : i < s.length) : Utf8.decode (strV s) i = decodeL s i := by
  have at_ : ∀ k, i + k < s.length → ((strV s).get! (i + k)).toNat = (nth s (i + k)).getD 0 := by
    intro k hk
    have hm : s[i + k] < 256 := hs _ (List.getElem_mem hk)
    rw [nth_eq, List.getElem?_eq_getElem hk]
    simp [strV, ByteArray.get!, hk, UInt8.toNat_ofNat_of_lt' hm]
  have a0 := at_ 0 (by omega)
  have cont : ∀ k, (decide (i + k < (strV s).size) && ((strV s).get! (i + k)).toNat / 64 == 2) = (decide (i + k < s.length) && (nth s (i + k)).getD 0 / 64 == 2) := by
    intro k
    rw [strV_size]
    by_cases hk : i + k < s.length
    · rw [at_ k hk]
    · simp [hk]
  unfold Utf8.decode decodeL
  simp only [cont, a0]
  by_cases c1 : i + 1 < s.length
  · by_cases c2 : i + 2 < s.length
    · by_cases c3 : i + 3 < s.length
      · rw [at_ 1 c1, at_ 2 c2, at_ 3 c3]
      · rw [at_ 1 c1, at_ 2 c2]; simp [c3]
    · rw [at_ 1 c1]; simp [c2, show ¬ (i + 3 < s.length) by omega]
  · simp [c1, show ¬ (i + 2 < s.length) by omega, show ¬ (i + 3 < s.length) by omega]

end
end
end Go.Cl

namespace Go.Cl
noncomputable section
open Go Go.RowKit

section
variable {P : Program} {w : World} {f : Val} {h : H}

theorem filter_map_renE (es : List (CV × CV × Nat)) (p : MapEntry → Bool) (q : CV × CV × Nat → Bool) (hpq : ∀ e, p (renE f e) = q e) : (es.map (renE f)).filter p = (es.filter q).map (renE f) := by
  rw [List.filter_map]
  congr 1
  exact List.filter_congr fun e _ => hpq e

theorem nextT_sound (r : Rel f h w) {it v : CV} {isStr : Bool} {h' : H} {ty : TypeId} (e : nextT h it isStr = some (v, h')) :
    ∃ w', (Instr.next (ren f it) isStr ty).run P w = .ok (ren f v) w' ∧ Step f h w f h' w' ∧ ok h'.nx v := by
  unfold nextT at e
  split at e
  · rename_i id
    split at e
    · -- a string
      rename_i s pos hg
      obtain ⟨h1, O, h2, h3⟩ := r.obj _ _ hg
      cases h3 with
      | strIter hb0 hs =>
        cases hlt : Nat.blt pos s.length with
        | true =>
          rw [hlt] at e; cases e
          have hlt := Nat.blt_eq.mp hlt
          have hd := decodeL_eq hs hlt
          refine ⟨_, ?_, Step.put r hg rfl rfl (.strIter hb0 hs), by simp [ok, okL]⟩
          simp only [Instr.next, ren, adr, hb0, Nat.add_zero, Sem.run_bind]
          have : (getObj (f.blk id)).run P w = .ok (.stringIter (strV s) pos) w := by simp [getObj, Sem.run, h2]
          simp only [this, Result.andThen_ok, strV_size, hlt, if_true, hd]
          have hset : (setObj (f.blk id) (.stringIter (strV s) (pos + (decodeL s pos).2))).run P w = .ok () (w.putObj (f.blk id) (.stringIter (strV s) (pos + (decodeL s pos).2))) := by simp [setObj, Sem.run, h2, World.putObj]
          simp only [Sem.run_bind, hset, Result.andThen_ok, Sem.run_pure]
          simp [renL, ren, goInt]
        | false =>
          rw [hlt] at e; cases e
          have hlt := blt_false hlt
          refine ⟨w, ?_, Step.refl r, by simp [ok, okL]⟩
          have : (getObj (f.blk id)).run P w = .ok (.stringIter (strV s) pos) w := by simp [getObj, Sem.run, h2]
          simp only [Instr.next, ren, adr, hb0, Nat.add_zero, Sem.run_bind, this, Result.andThen_ok, strV_size, show ¬ (pos < s.length) by omega, if_false, Sem.run_pure]
          simp [renL, ren]
    · rename_i since seen st hg
      obtain ⟨h1, O, h2, h3⟩ := r.obj _ _ hg
      cases e
      generalize hm : (none : Option Nat) = m at hg h3
      cases h3 with
      | mapIter hb0 hmm =>
        subst hm
        have : (getObj (f.blk id)).run P w = .ok (.mapIter none since seen.toArray st) w := by simp [getObj, Sem.run, h2]
        refine ⟨w, ?_, Step.refl r, by simp [ok, okL]⟩
        simp only [Instr.next, ren, adr, hb0, Nat.add_zero, Sem.run_bind, this, Result.andThen_ok, Sem.run_pure]
        simp [renL, ren]
    · rename_i m since seen last hg
      obtain ⟨h1, O, h2, h3⟩ := r.obj _ _ hg
      generalize hm : some m = mo at hg h3
      cases h3 with
      | mapIter hb0 hmm =>
        subst hm
        have hgo : (getObj (f.blk id)).run P w = .ok (.mapIter (some (f.blk m)) since seen.toArray last) w := by simp [getObj, Sem.run, h2]
        replace e := bind_some.1 e; obtain ⟨⟨es, c⟩, hes, e⟩ := e
        simp only at e
        replace e := cond_none e; obtain ⟨hg1, e⟩ := e
        obtain ⟨k1, k2, k3⟩ := r.mp hes
        have hgm := run_getObj_map (P := P) k2
        have hfil : (es.map (renE f)).filter (fun e => !seen.toArray.contains e.born) = (es.filter fun e => !seen.contains e.2.2).map (renE f) :=
          filter_map_renE es _ _ fun e => by simp [renE]
        have hfilA : (es.map (renE f)).toArray.filter (fun e => !seen.toArray.contains e.born) = ((es.filter fun e => !seen.contains e.2.2).map (renE f)).toArray := by
          rw [List.filter_toArray, hfil]
        have hcond : (!seen.toArray.isEmpty && !(es.map (renE f)).toArray.isEmpty && (es.map (renE f)).toArray.all (fun e => decide (e.born ≥ last))) = false := by
          rw [← hg1]
          cases seen <;> cases es <;> simp [renE, List.all_map, Function.comp_def] <;> rfl
        have pre : (Instr.next (ren f (.ptr id 0)) false ty).run P w =
            (let left := ((es.filter fun e => !seen.contains e.2.2).map (renE f)).toArray
             let old := left.filter (·.born < since)
             let new := left.filter (·.born ≥ since)
             let candidates := (if old.isEmpty then #[none] else #[]) ++ (old ++ new).map some
             ((choose (.mapNext candidates.size)).run P w).andThen fun k w' => (match candidates[k]? with
              | some (some e) => do
                setObj (f.blk id) (.mapIter (some (f.blk m)) since (seen.toArray.push e.born) c)
                pure (.tuple #[.bool true, e.key, e.val])
              | some none => pure (.tuple #[.bool false])
              | none => stuck "Next: no such candidate" : Sem Value).run P w') := by
          simp only [Instr.next, ren, adr, hb0, Nat.add_zero, Sem.run_bind, hgo, Result.andThen_ok, hgm, hcond, Bool.false_eq_true, if_false]
          rw [hfilA]
          rfl
        rw [pre]
        split at e
        · rename_i hf0
          cases e
          refine ⟨w, ?_, Step.refl r, by simp [ok, okL]⟩
          simp only [hf0]
          simp [Question.forced, renL, ren]
        · rename_i x hf1
          replace e := cond_some e; obtain ⟨hlt, e⟩ := e
          cases e
          have hlt := Nat.blt_eq.mp hlt
          have hx : x ∈ es := (List.mem_filter.1 (by rw [hf1]; simp : x ∈ es.filter fun e => !seen.contains e.2.2)).1
          have hnew : ObjOk h.nx f id (.mapIter (some m) since (seen ++ [x.2.2]) c) (.mapIter (some (f.blk m)) since (seen.toArray.push x.2.2) c) := by
            have : seen.toArray.push x.2.2 = (seen ++ [x.2.2]).toArray := by simp
            rw [this]
            exact .mapIter (m := some m) hb0 hmm
          refine ⟨_, ?_, Step.put r hg rfl rfl hnew, by simp [ok, okL, k3 x hx, H.put]⟩
          have hset : ∀ o, (setObj (f.blk id) o).run P w = .ok () (w.putObj (f.blk id) o) := fun o => by simp [setObj, Sem.run, h2, World.putObj]
          simp only [hf1]
          have hb2 : ¬ (since ≤ x.2.2) := by omega
          simp [Question.forced, hlt, hb2, hset, renL, ren, renE]
        · cases e
    · cases e
  · cases e

theorem entryT_sound (r : Rel f h w) {it v : CV} (e : entryT h it = some v) :
    (Instr.entry (ren f it)).run P w = .ok (ren f v) w ∧ ok h.nx v := by
  unfold entryT at e
  split at e
  · rename_i id
    split at e
    · rename_i m since seen st hg
      obtain ⟨h1, O, h2, h3⟩ := r.obj _ _ hg
      generalize hm : some m = mo at hg h3
      cases h3 with
      | mapIter hb0 hmm =>
        subst hm
        have hgo : (getObj (f.blk id)).run P w = .ok (.mapIter (some (f.blk m)) since seen.toArray st) w := by simp [getObj, Sem.run, h2]
        replace e := bind_some.1 e; obtain ⟨⟨es, c⟩, hes, e⟩ := e
        simp only at e
        replace e := cond_some e; obtain ⟨hc, e⟩ := e
        replace e := bind_some.1 e; obtain ⟨s, hs, e⟩ := e
        obtain ⟨x, hx, rfl⟩ := Option.map_eq_some_iff.1 e
        obtain ⟨k1, k2, k3⟩ := r.mp hes
        have hgm := run_getObj_map (P := P) k2
        have hc := Nat.eq_of_beq_eq_true hc
        have hback : seen.toArray.back? = some s := by rw [← hs]; simp [Array.back?, List.getLast?_eq_getElem?]
        have hfind : (es.map (renE f)).toArray.find? (fun e => e.born == s) = some (renE f x) := by
          rw [List.find?_toArray, List.find?_map]
          have : (fun e : MapEntry => e.born == s) ∘ renE f = fun e => Nat.beq e.2.2 s := by
            funext e; show (e.2.2 == s) = Nat.beq e.2.2 s; rw [Bool.eq_iff_iff, beq_iff_eq, Nat.beq_eq]
          rw [this, hx]; rfl
        have hxm := List.mem_of_find?_eq_some hx
        refine ⟨?_, by simp [ok, okL, k3 x hxm]⟩
        simp only [Instr.entry, ren, adr, hb0, Nat.add_zero, Sem.run_bind, hgo, Result.andThen_ok, hgm, hback, hc, bne_self_eq_false, Bool.false_eq_true, if_false, hfind, Sem.run_pure]
        simp [renL, renE]
    · cases e
  · cases e

end
end
end Go.Cl

namespace Go.Cl
noncomputable section
open Go Go.RowKit

section
variable {P : Program} {w : World} {f : Val} {h : H}

/-! ### comparisons -/
theorem kind_eq {k k' : IntKind} (e : (k == k') = true) : k = k' := by simpa using e

theorem eqFields_sound {nx d : Nat} {xs ys : List CV} {fuel : Nat} (ox : okL nx xs) (oy : okL nx ys)
    (ih : ∀ t x y b, ok nx x → ok nx y → eqIn P fuel t x y = some b → (Op.equalIn d t (ren f x) (ren f y)).run P w = .ok b w) : ∀ {fs : List Field} {b : Bool},
    allF (fun fd => cond (fd.name == "_") (some true) ((partT P fd.type xs fd.offset).bind fun a => (partT P fd.type ys fd.offset).bind fun b => eqIn P fuel fd.type a b)) fs = some b →
    (Op.eqFields d (renL f xs).toArray (renL f ys).toArray fs).run P w = .ok b w
  | [], b, e => by cases e; simp [Op.eqFields]
  | fd :: fs, b, e => by
    simp only [allF, bind_some] at e
    obtain ⟨r, hr, e⟩ := e
    by_cases hn : fd.name = "_"
    · have : (fd.name == "_") = true := by simpa using hn
      rw [this] at hr
      cases hr
      simp only [Op.eqFields, hn, ne_eq, not_true_eq_false, if_false]
      exact eqFields_sound ox oy ih e
    · have : (fd.name == "_") = false := by simpa using hn
      rw [this] at hr
      simp only [cond_false, bind_some] at hr
      obtain ⟨a, ha, c, hc, hr⟩ := hr
      obtain ⟨p1, p2⟩ := partT_sound (f := f) (w := w) ha ox
      obtain ⟨q1, q2⟩ := partT_sound (f := f) (w := w) hc oy
      have h3 := ih _ _ _ _ p2 q2 hr
      simp only [Op.eqFields, hn, ne_eq, not_false_eq_true, if_true, Sem.run_bind, p1, q1, h3, Result.andThen_ok]
      cases r with
      | true => simp only [cond_true] at e; simpa using eqFields_sound ox oy ih e
      | false => simp at e; subst e; simp

theorem eqArr_sound {nx d : Nat} {xs ys : List CV} {fuel s : Nat} {elem : TypeId} (ox : okL nx xs) (oy : okL nx ys)
    (ih : ∀ t x y b, ok nx x → ok nx y → eqIn P fuel t x y = some b → (Op.equalIn d t (ren f x) (ren f y)).run P w = .ok b w) : ∀ {n i : Nat} {b : Bool},
    allN (fun i => (partT P elem xs (i * s)).bind fun a => (partT P elem ys (i * s)).bind fun b => eqIn P fuel elem a b) n i = some b →
    (forIn (List.range' i n) ((none, ()) : Option Bool × Unit) (fun i _ => (do
      let a ← part elem (renL f xs).toArray (i * s)
      let b ← part elem (renL f ys).toArray (i * s)
      let r ← Op.equalIn d elem a b
      if (!r) = true then pure (ForInStep.done (some false, ())) else pure (ForInStep.yield (none, ())) : Sem (ForInStep (Option Bool × Unit))))).run P w = .ok (if b then (none, ()) else (some false, ())) w
  | 0, i, b, e => by cases e; simp
  | n + 1, i, b, e => by
    simp only [allN, bind_some] at e
    obtain ⟨r, ⟨a, ha, c, hc, hr⟩, e⟩ := e
    obtain ⟨p1, p2⟩ := partT_sound (f := f) (w := w) ha ox
    obtain ⟨q1, q2⟩ := partT_sound (f := f) (w := w) hc oy
    have h3 := ih _ _ _ _ p2 q2 hr
    simp only [List.range'_succ, List.forIn_cons, Sem.run_bind, p1, q1, h3, Result.andThen_ok]
    cases r with
    | true =>
      simp only [cond_true] at e
      have := eqArr_sound ox oy ih e
      simp only [Bool.not_true, Bool.false_eq_true, if_false, Sem.run_pure, Result.andThen_ok]
      exact this
    | false => simp at e; subst e; simp

theorem eqSl1 {d : Nat} {t e : TypeId} (htd : P.underlying t = some (.slice e)) (x : Option Addr) (a b m n : Nat) :
    (Op.equalIn (d + 1) t (.slice none a b) (.slice x m n)).run P w = .ok x.isNone w := by
  simp only [Op.equalIn, Sem.run_bind, run_underlying' htd, Result.andThen_ok, Sem.run_pure]
theorem eqSl2 {d : Nat} {t e : TypeId} (htd : P.underlying t = some (.slice e)) (x : Addr) (a b m n : Nat) :
    (Op.equalIn (d + 1) t (.slice (some x) a b) (.slice none m n)).run P w = .ok false w := by
  simp only [Op.equalIn, Sem.run_bind, run_underlying' htd, Result.andThen_ok, Sem.run_pure]
theorem eqMap1 {d : Nat} {t e k : TypeId} (htd : P.underlying t = some (.map k e)) (x : Option Nat) :
    (Op.equalIn (d + 1) t (.map none) (.map x)).run P w = .ok x.isNone w := by
  simp only [Op.equalIn, Sem.run_bind, run_underlying' htd, Result.andThen_ok, Sem.run_pure]
theorem eqMap2 {d : Nat} {t e k : TypeId} (htd : P.underlying t = some (.map k e)) (x : Nat) :
    (Op.equalIn (d + 1) t (.map (some x)) (.map none)).run P w = .ok false w := by
  simp only [Op.equalIn, Sem.run_bind, run_underlying' htd, Result.andThen_ok, Sem.run_pure]
theorem eqFn0 {d : Nat} {t : TypeId} {a : Array TypeId} {b : Array TypeId} {c : Bool} (htd : P.underlying t = some (.func a b c)) :
    (Op.equalIn (d + 1) t .nilFunc .nilFunc).run P w = .ok true w := by
  simp only [Op.equalIn, Sem.run_bind, run_underlying' htd, Result.andThen_ok, Sem.run_pure]
theorem eqFn1 {d : Nat} {t : TypeId} {a : Array TypeId} {b : Array TypeId} {c : Bool} (htd : P.underlying t = some (.func a b c)) (g : Fn) (x y : Array Value) :
    (Op.equalIn (d + 1) t .nilFunc (.func g x y)).run P w = .ok false w := by
  simp only [Op.equalIn, Sem.run_bind, run_underlying' htd, Result.andThen_ok, Sem.run_pure]
theorem eqFn2 {d : Nat} {t : TypeId} {a : Array TypeId} {b : Array TypeId} {c : Bool} (htd : P.underlying t = some (.func a b c)) (g : Fn) (x y : Array Value) :
    (Op.equalIn (d + 1) t (.func g x y) .nilFunc).run P w = .ok false w := by
  simp only [Op.equalIn, Sem.run_bind, run_underlying' htd, Result.andThen_ok, Sem.run_pure]

theorem eqIn_sound {nx : Nat} : ∀ (fuel d : Nat) (t : TypeId) (x y : CV) (b : Bool), fuel ≤ d → ok nx x → ok nx y → eqIn P fuel t x y = some b →
    (Op.equalIn d t (ren f x) (ren f y)).run P w = .ok b w
  | 0, _, _, _, _, _, _, _, _, e => by cases e
  | fuel + 1, d, t, x, y, b, hd, ox, oy, e => by
    obtain ⟨d, rfl⟩ : ∃ m, d = m + 1 := ⟨d - 1, by omega⟩
    have ih : ∀ t x y b, ok nx x → ok nx y → eqIn P fuel t x y = some b → (Op.equalIn d t (ren f x) (ren f y)).run P w = .ok b w :=
      fun t x y b h1 h2 h3 => eqIn_sound fuel d t x y b (by omega) h1 h2 h3
    simp only [eqIn, bind_some] at e
    obtain ⟨td, htd, e⟩ := e
    split at e
    · cases e; simp [Op.equalIn, run_underlying' htd, ren]
    · replace e := cond_some e; obtain ⟨hk, e⟩ := e
      have := kind_eq hk; subst this
      cases e; simp [Op.equalIn, run_underlying' htd, ren]
    · cases e
      simp only [ok] at ox oy
      simp [Op.equalIn, run_underlying' htd, ren, strV_beq ox oy]
    · cases e; simp [Op.equalIn, run_underlying' htd, ren]
    · cases e; simp [Op.equalIn, run_underlying' htd, ren]
    · cases e; simp [Op.equalIn, run_underlying' htd, ren]
    · cases e; simp [Op.equalIn, run_underlying' htd, ren]
    · cases e; simp [Op.equalIn, run_underlying' htd, ren]
    · cases e; simp [Op.equalIn, run_underlying' htd, ren]
    · rename_i tx vx ty vy
      simp only [ok] at ox oy
      by_cases ht : tx = ty
      · subst ht
        have : Nat.beq tx tx = true := Nat.beq_refl tx
        rw [this] at e
        simp only [cond_true] at e
        replace e := bind_some.1 e; obtain ⟨i, hi, e⟩ := e
        replace e := cond_some e; obtain ⟨hc, e⟩ := e
        have h3 := ih _ _ _ _ ox oy e
        simp [Op.equalIn, run_underlying' htd, ren, typeInfo, hi, hc, h3]
      · rw [nbeq_false ht] at e
        cases e
        simp [Op.equalIn, run_underlying' htd, ren, ht]
    · rename_i fs xs ys
      simp only [ok] at ox oy
      replace e := cond_none e; obtain ⟨hst, e⟩ := e
      have hf : P.fieldsOf t = fs := by simp [Program.fieldsOf, htd]
      simp only [ren]
      rw [run_equalIn_struct w d t _ _ (by rw [hf]; exact htd) hst, hf]
      exact eqFields_sound ox oy ih e
    · rename_i n elem xs ys
      simp only [ok] at ox oy
      replace e := bind_some.1 e; obtain ⟨s, hs, e⟩ := e
      have := eqArr_sound ox oy ih e
      simp only [Op.equalIn, ren, Sem.run_bind, run_underlying' htd, Result.andThen_ok, run_sizeOf' hs, Std.Legacy.Range.forIn_eq_forIn_range', Std.Legacy.Range.size, Nat.sub_zero, Nat.add_sub_cancel, Nat.div_one]
      rw [this]
      cases b <;> simp
    · cases e; simp only [ren]; rw [eqSl1 htd]; rfl
    · rename_i id off len c
      cases e; cases c <;> (simp only [ren]; rw [eqSl1 htd]; rfl)
    · rename_i id off len c
      cases e; cases c <;> (simp only [ren]; rw [eqSl2 htd])
    · cases e; simp only [ren]; rw [eqSl2 htd]
    · cases e; simp only [ren]; rw [eqSl2 htd]
    · cases e; simp only [ren]; rw [eqMap1 htd]; rfl
    · cases e; simp only [ren]; rw [eqMap1 htd]; rfl
    · cases e; simp only [ren]; rw [eqMap2 htd]
    · cases e; simp only [ren]; rw [eqFn0 htd]
    · cases e; simp only [ren]; rw [eqFn1 htd]
    · cases e; simp only [ren]; rw [eqFn2 htd]
    · cases e

theorem eqIn_no_string {fuel : Nat} {t : TypeId} {x y : CV} {b : Bool} (e : eqIn P fuel t x y = some b) (hx : ∀ k n, x ≠ .int k n) (hs : ∀ s, x ≠ .str s) :
    (∀ k n, ren f x ≠ .int k n) ∧ (∀ s, ren f x ≠ .string s) := by
  constructor
  · intro k n
    cases x <;> simp only [ren, ne_eq, reduceCtorEq, not_false_eq_true]
    · exact fun _ => hx _ _ rfl
    · rename_i c; cases c <;> simp [ren]
  · intro s
    cases x <;> simp only [ren, ne_eq, reduceCtorEq, not_false_eq_true]
    · exact fun _ => hs _ rfl
    · rename_i c; cases c <;> simp [ren]

end
end
end Go.Cl

namespace Go.Cl
noncomputable section
open Go Go.RowKit

section
variable {P : Program} {w : World} {f : Val} {h : H}

theorem guard_other {op : BinOp} {t : TypeId} {xo yo : Operand} {a b : Value} (h1 : ∀ c, a ≠ .agg c) (h2 : a ≠ .nilIface) : (eqGuard op t xo yo a b).run P w = .ok () w := by
  cases a <;> first | exact absurd rfl h2 | exact absurd rfl (h1 _) | (cases op <;> simp [eqGuard])

theorem ren_nilIface {x : CV} (e : ren f x = .nilIface) : x = .nili := by
  cases x <;> first | rfl | (simp [ren] at e; done) | (rename_i c; cases c <;> simp [ren] at e)
theorem ren_agg {x : CV} {c : Array Value} (e : ren f x = .agg c) : ∃ cs, x = .agg cs := by
  cases x <;> first | exact ⟨_, rfl⟩ | (simp [ren] at e; done) | (rename_i c; cases c <;> simp [ren] at e)

theorem run_eqGuard_sound {op : BinOp} {t : TypeId} {xo yo : Operand} {x y : CV} (e : eqOk P t xo yo x y = true) :
    (eqGuard op t xo yo (ren f x) (ren f y)).run P w = .ok () w := by
  by_cases h1 : x = .nili
  · subst h1
    by_cases h2 : y = .nili
    · subst h2
      simp only [eqOk, Bool.or_eq_true] at e
      rcases e with e | e
      · cases xo <;> simp [isConstO] at e
        cases op <;> simp [eqGuard, ren]
      · cases yo <;> simp [isConstO] at e
        cases op <;> simp [eqGuard, ren]
    · have : ren f y ≠ .nilIface := fun h => h2 (ren_nilIface h)
      generalize ren f y = b at *
      cases b <;> first | exact absurd rfl this | (cases op <;> simp [eqGuard, ren])
  · by_cases h3 : ∃ cs, x = .agg cs
    · obtain ⟨cs, rfl⟩ := h3
      by_cases h4 : ∃ ds, y = .agg ds
      · obtain ⟨ds, rfl⟩ := h4
        simp only [eqOk, Bool.not_eq_true'] at e
        cases op <;> simp [eqGuard, ren, e]
      · have : ∀ c, ren f y ≠ .agg c := fun c h => h4 (ren_agg h)
        generalize ren f y = b at *
        cases b <;> first | exact absurd rfl (this _) | (cases op <;> simp [eqGuard, ren])
    · exact guard_other (fun c h => h3 (ren_agg h)) (fun h => h1 (ren_nilIface h))

theorem strV_append (a b : List Nat) : strV a ++ strV b = strV (a ++ b) := by
  apply ByteArray.ext
  simp [strV, ByteArray.data_append]

theorem strV_eqb {a b : List Nat} (ha : ∀ x ∈ a, x < 256) (hb : ∀ x ∈ b, x < 256) : ((strV a).toList == (strV b).toList) = (a == b) := by
  rw [ByteArray.toList_eq, ByteArray.toList_eq]
  by_cases e : a = b
  · subst e; simp
  · have h1 : (a == b) = false := by simpa using e
    have h2 : (strV a).data.toList ≠ (strV b).data.toList := fun h => e (strV_inj ha hb (ByteArray.ext (Array.toList_inj.1 h)))
    rw [h1]; simpa using h2

theorem binOp_eq {t : TypeId} {a c : Value} (h1 : ∀ k n k' n', ¬ (a = .int k n ∧ c = .int k' n')) (h2 : ∀ s s', ¬ (a = .string s ∧ c = .string s'))
    (h3 : ∀ k n k' n', ¬ (a = .float k n ∧ c = .float k' n')) (h4 : ∀ k n m k' n' m', ¬ (a = .complex k n m ∧ c = .complex k' n' m')) :
    binOp .eql t a c = (do pure (.bool (← Op.equal t a c))) ∧ binOp .neq t a c = (do pure (.bool (!(← Op.equal t a c)))) := by
  cases a <;> cases c <;> first | exact ⟨rfl, rfl⟩ | exact absurd ⟨rfl, rfl⟩ (h1 _ _ _ _) | exact absurd ⟨rfl, rfl⟩ (h2 _ _) | exact absurd ⟨rfl, rfl⟩ (h3 _ _ _ _) | exact absurd ⟨rfl, rfl⟩ (h4 _ _ _ _ _ _)

theorem run_eql {t : TypeId} {a c : Value} {b : Bool} (e : (Op.equal t a c).run P w = .ok b w) (h1 : ∀ k n k' n', ¬ (a = .int k n ∧ c = .int k' n')) (h2 : ∀ s s', ¬ (a = .string s ∧ c = .string s'))
    (h3 : ∀ k n k' n', ¬ (a = .float k n ∧ c = .float k' n')) (h4 : ∀ k n m k' n' m', ¬ (a = .complex k n m ∧ c = .complex k' n' m')) :
    (binOp .eql t a c).run P w = .ok (.bool b) w ∧ (binOp .neq t a c).run P w = .ok (.bool (!b)) w := by
  rw [(binOp_eq h1 h2 h3 h4).1, (binOp_eq h1 h2 h3 h4).2]
  simp [e]

theorem ren_no_float (x : CV) : (∀ k n, ren f x ≠ .float k n) ∧ (∀ k n m, ren f x ≠ .complex k n m) := by
  cases x <;> simp only [ren, ne_eq, reduceCtorEq, not_false_eq_true, implies_true, and_self]
  rename_i c; cases c <;> simp [ren]
theorem ren_int {x : CV} {k : IntKind} {n : Int} (e : ren f x = .int k n) : x = .int k n := by
  cases x <;> first | (simp [ren] at e; done) | (simp only [ren, Value.int.injEq] at e; rw [e.1, e.2]) | (rename_i c; cases c <;> simp [ren] at e)
theorem ren_str {x : CV} {b : ByteArray} (e : ren f x = .string b) : ∃ s, x = .str s := by
  cases x <;> first | exact ⟨_, rfl⟩ | (simp [ren] at e; done) | (rename_i c; cases c <;> simp [ren] at e)

theorem binT_sound {nx : Nat} {op : BinOp} {t : TypeId} {xo yo : Operand} {x y v : CV} (e : binT P op t xo yo x y = some v) (ox : ok nx x) (oy : ok nx y) :
    (do eqGuard op t xo yo (ren f x) (ren f y); binOp op t (ren f x) (ren f y) : Sem Value).run P w = .ok (ren f v) w ∧ ok nx v := by
  unfold binT at e
  split at e
  · cases e
    rename_i k a k' n
    refine ⟨?_, by simp [ok]⟩
    rw [Sem.run_bind, guard_other (by simp [ren]) (by simp [ren])]
    have : ¬ ((n : Int) < 0) := by omega
    simp [ren, binOp, Op.shift, this]
  · cases e
    rename_i k a k' n
    refine ⟨?_, by simp [ok]⟩
    rw [Sem.run_bind, guard_other (by simp [ren]) (by simp [ren])]
    have : ¬ ((n : Int) < 0) := by omega
    simp [ren, binOp, Op.shift, this]
  · rename_i k a k' b h1 h2
    replace e := cond_some e; obtain ⟨hk, e⟩ := e
    have := kind_eq hk; subst this
    rw [Sem.run_bind, guard_other (by simp [ren]) (by simp [ren])]
    simp only [Result.andThen_ok, ren]
    cases op <;> simp only [reduceCtorEq] at e
    case quo =>
      replace e := cond_none e; obtain ⟨hb, e⟩ := e
      have hb : b ≠ 0 := by simpa using hb
      cases e; exact ⟨by simp [binOp, Op.intDiv, hb, ren], by simp [ok]⟩
    case rem =>
      replace e := cond_none e; obtain ⟨hb, e⟩ := e
      have hb : b ≠ 0 := by simpa using hb
      cases e; exact ⟨by simp [binOp, Op.intDiv, hb, ren], by simp [ok]⟩
    all_goals (cases e; exact ⟨by simp [binOp, Op.intArith, Op.intBits, Op.intCmp, ren], by simp [ok]⟩)
  · rename_i a b
    rw [Sem.run_bind, guard_other (by simp [ren]) (by simp [ren])]
    simp only [ok] at ox oy
    simp only [Result.andThen_ok, ren]
    cases op <;> simp only [reduceCtorEq] at e
    case add =>
      replace e := cond_some e; obtain ⟨hl, e⟩ := e
      have hl := Nat.ble_eq.mp hl
      cases e
      have h1 : ¬ (((a.length + b.length : Nat) : Int) > IntKind.i64.max) := by
        have : IntKind.i64.max = 9223372036854775807 := by decide
        rw [this]; omega
      refine ⟨?_, ?_⟩
      · simp only [binOp, Op.stringOp, strV_size, h1, if_false, ren, strV_append, Sem.run_pure]
      · simp only [ok]
        intro x hx
        rcases List.mem_append.1 hx with hx | hx
        · exact ox x hx
        · exact oy x hx
    case eql => cases e; exact ⟨by simp [binOp, Op.stringOp, strV_eqb ox oy, ren], by simp [ok]⟩
    case neq => cases e; exact ⟨by simp [binOp, Op.stringOp, strV_eqb ox oy, ren], by simp [ok]⟩
  · rename_i h1 h2 h3 h4
    replace e := cond_some e; obtain ⟨hg, e⟩ := e
    obtain ⟨b, hb, rfl⟩ := Option.map_eq_some_iff.1 e
    have heq := eqIn_sound (w := w) (f := f) 100 Op.maxDepth t x y b (by decide) ox oy hb
    refine ⟨?_, by simp [ok]⟩
    rw [Sem.run_bind, run_eqGuard_sound hg, Result.andThen_ok]
    exact (run_eql heq (fun k n k' n' hh => by
      have := ren_int hh.1; have := ren_int hh.2; subst_vars; exact h3 _ _ _ _ rfl rfl) (fun s s' hh => by
      obtain ⟨_, rfl⟩ := ren_str hh.1; obtain ⟨_, rfl⟩ := ren_str hh.2; exact h4 _ _ rfl rfl) (fun k n _ _ hh => (ren_no_float x).1 k n hh.1) (fun k n m _ _ _ hh => (ren_no_float x).2 k n m hh.1)).1
  · rename_i h1 h2 h3 h4
    replace e := cond_some e; obtain ⟨hg, e⟩ := e
    obtain ⟨b, hb, rfl⟩ := Option.map_eq_some_iff.1 e
    have heq := eqIn_sound (w := w) (f := f) 100 Op.maxDepth t x y b (by decide) ox oy hb
    refine ⟨?_, by simp [ok]⟩
    rw [Sem.run_bind, run_eqGuard_sound hg, Result.andThen_ok]
    exact (run_eql heq (fun k n k' n' hh => by
      have := ren_int hh.1; have := ren_int hh.2; subst_vars; exact h3 _ _ _ _ rfl rfl) (fun s s' hh => by
      obtain ⟨_, rfl⟩ := ren_str hh.1; obtain ⟨_, rfl⟩ := ren_str hh.2; exact h4 _ _ rfl rfl) (fun k n _ _ hh => (ren_no_float x).1 k n hh.1) (fun k n m _ _ _ hh => (ren_no_float x).2 k n m hh.1)).2
  · cases e

theorem unT_sound {nx : Nat} {op : UnOp} {x v : CV} (e : unT op x = some v) : (Op.unary op (ren f x)).run P w = .ok (ren f v) w ∧ ok nx v := by
  unfold unT at e
  split at e
  · cases e; exact ⟨by simp [Op.unary, Op.intArith, ren], by simp [ok]⟩
  · cases e; exact ⟨by simp [Op.unary, Op.intBits, ren], by simp [ok]⟩
  · cases e; exact ⟨by simp [Op.unary, ren], by simp [ok]⟩
  · cases e

/-- a block's object is exchanged for one that is related alike -/
theorem Step.poke {w' : World} (r : Rel f h w) {id : Nat} {o : CObj} {O' : Obj} (ho : h.t.get id = some o) (hro : o.ro = false)
    (hw : w' = w.putObj (f.blk id) O') (hO : ObjOk h.nx f id o O') : Step f h w f h w' := by
  subst hw
  have hlt := r.lt ho
  refine ⟨⟨fun i p hp => ?_, r.inj, r.glob⟩, Agree.refl _ _, Nat.le_refl _, rfl, rfl, rfl, rfl, by simp, fun k hk hn => ?_, fun i p hp => .inl ⟨i, p, hp, fun h => h, rfl⟩, Nat.le_refl _, fun i hi hl => rfl⟩
  · by_cases e : i = id
    · subst e
      rw [ho] at hp; cases hp
      exact ⟨(r.obj _ o ho).1, O', World.putObj_heap_same hlt, hO⟩
    · obtain ⟨h1, O, h2, h3⟩ := r.obj i p hp
      refine ⟨h1, O, ?_, h3⟩
      rw [World.putObj_heap_other (fun e' => e (r.inj _ _ _ _ ho hp hro e'.symm).symm)]
      exact h2
  · exact World.putObj_heap_other (fun e => hn id o ho hro e.symm)

theorem bytesOf_spec : ∀ {cs : List CV} {l : List Nat}, bytesOf cs = some l → cs = l.map (fun n => .int .u8 (Int.ofNat n)) ∧ ∀ x ∈ l, x < 256
  | [], l, e => by cases e; simp
  | c :: cs, l, e => by
    unfold bytesOf at e
    split at e
    · rename_i heq; cases heq
    · rename_i n l' heq
      cases heq
      replace e := cond_some e; obtain ⟨hn, e⟩ := e
      replace e := bind_some.1 e; obtain ⟨r, hr, e⟩ := e
      cases e
      obtain ⟨h1, h2⟩ := bytesOf_spec hr
      refine ⟨by rw [h1]; rfl, fun x hx => ?_⟩
      rcases List.mem_cons.1 hx with rfl | hx
      · exact Nat.blt_eq.mp hn
      · exact h2 x hx
    · cases e

theorem foldl_push : ∀ (l : List Nat) (s : ByteArray), ((l.map fun n => (Int.ofNat n)).foldl (fun (r : ByteArray) (n : Int) => r.push (UInt8.ofNat n.toNat)) s) = s ++ strV l
  | [], s => by
    apply ByteArray.ext
    simp [strV, ByteArray.data_append]
  | n :: l, s => by
    simp only [List.map_cons, List.foldl_cons]
    rw [foldl_push l]
    apply ByteArray.ext
    simp [strV, ByteArray.data_append, ByteArray.data_push]

end
end
end Go.Cl

namespace Go.Cl
noncomputable section
open Go Go.RowKit

section
variable {P : Program} {w : World} {f : Val} {h : H}

/-- an operation that yields a value -/
def ValOk (P : Program) (s : Sem Value) (f : Val) (h : H) (w : World) : Out → Prop
  | .val v => ∃ w', s.run P w = .ok (ren f v) w' ∧ Step f h w f h w' ∧ ok h.nx v
  | .upd v h' => ∃ f' w', s.run P w = .ok (ren f' v) w' ∧ Step f h w f' h' w' ∧ ok h'.nx v
  | _ => False

theorem freeze_put {k : Nat} {cs : Array Value} {t : TypeId} {fr : Nat × Nat} (e : w.heap[k]? = some (.cells cs t fr)) :
    w.freeze ⟨k, cs.size, none⟩ 1 = w.putObj k (.cells cs t (if fr.1 == fr.2 then (cs.size, cs.size + 1) else (min fr.1 cs.size, max fr.2 (cs.size + 1)))) := by
  have hlt := (Array.getElem?_eq_some_iff.1 e).1
  unfold World.freeze World.putObj
  simp only [Nat.succ_ne_zero, if_false]
  congr 1
  apply Array.ext_getElem?
  intro i
  rw [Array.getElem?_modify, Array.getElem?_setIfInBounds]
  by_cases hi : k = i
  · subst hi
    have e' : w.heap[k] = .cells cs t fr := by
      rw [Array.getElem?_eq_getElem hlt] at e; exact Option.some.inj e
    obtain ⟨lo, hi⟩ := fr
    simp [hlt, e']
  · simp [hi]

theorem convT_sound (r : Rel f h w) {src dst : TypeId} {x : CV} {o : Out} (e : convT P h src dst x = some o) (ox : ok h.nx x) :
    ValOk P (convert src dst (ren f x)) f h w o := by
  unfold convT at e
  replace e := bind_some.1 e; obtain ⟨sd, hsd, e⟩ := e
  replace e := bind_some.1 e; obtain ⟨dd, hdd, e⟩ := e
  have same := Step.refl r
  split at e
  · cases e; exact ⟨w, by simp [convert, run_underlying' hsd, run_underlying' hdd, ren, Conv.intToInt], same, by simp [ok]⟩
  · cases e; exact ⟨w, by simp [convert, run_underlying' hsd, run_underlying' hdd, ren], same, ox⟩
  · rename_i el s
    replace e := bind_some.1 e; obtain ⟨ed, hed, e⟩ := e
    split at e
    · cases e
      simp only [ok] at ox
      have hrun := Lib.run_convert_string_bytes (P := P) w src dst el (strV s) hsd hdd hed
      have hge : s.length ≤ grownCap w s.length 0 el := by simp [grownCap, Question.cut]
      have hbs : (Lib.bytesCells w el (strV s)).size = grownCap w s.length 0 el := by
        have h1 : (strV s).data.size = s.length := by simp [strV]
        have h2 : (strV s).size = s.length := strV_size s
        unfold Lib.bytesCells
        rw [h2]
        simp [h1]
        omega
      obtain ⟨O, hO⟩ : ∃ O, O = Obj.cells (Lib.bytesCells w el (strV s)) el := ⟨_, rfl⟩
      have hd := Step.keeps r (Keeps.drew w)
      have hal := Step.alloc hd.rel (.cells (fillB s.length (s.map fun b => .int .u8 (Int.ofNat b)))) (.cells (Lib.bytesCells w el (strV s)) el) (grownCap w s.length 0 el) (.cells (ht := TyOk.none (fillB_ty _ _)) (by
        refine ⟨.inr (.inl rfl), by simp [hge, fillB_n], by simp [hbs], fun i hi => ?_⟩
        have hi : i < s.length := by rw [fillB_n] at hi; exact hi
        refine ⟨.int .u8 (Int.ofNat s[i]), ?_, rfl, by simp [ok], ?_⟩
        · rw [fill_get (by simp)]
          simp [hi]
        · have h256 := ox _ (List.getElem_mem hi)
          simp [Lib.bytesCells, Array.getElem?_append, strV, hi, ren]
          omega))
      have hal2 := Step.poke (w' := Lib.bytesWorld w el (strV s)) (O' := .cells (Lib.bytesCells w el (strV s)) el ((Lib.bytesCells w el (strV s)).size, (Lib.bytesCells w el (strV s)).size + 1)) hal.rel (id := h.nx)
        (o := .cells (fillB s.length (s.map fun b => .int .u8 (Int.ofNat b)))) (by simp [H.alloc, T.get_set]) (fillB_ro _ _) (by
          unfold Lib.bytesWorld
          rw [freeze_put (t := el) (fr := (0, 0))]
          · simp
          · exact World.alloc_heap_new _ _) (by
          obtain ⟨_, Q, hQ, hok⟩ := hal.rel.obj h.nx (.cells (fillB s.length (s.map fun b => .int .u8 (Int.ofNat b)))) (by simp [H.alloc, T.get_set])
          rw [Val.add_blk] at hQ
          have : ((w.drew).alloc (.cells (Lib.bytesCells w el (strV s)) el)).heap[w.heap.size]? = some (.cells (Lib.bytesCells w el (strV s)) el) := World.alloc_heap_new w.drew _
          have hQ' : Q = .cells (Lib.bytesCells w el (strV s)) el := by
            have h2 := hQ
            exact Option.some.inj (h2.symm.trans this)
          subst hQ'
          cases hok with
          | cells hb _ => exact .cells ⟨.inr (.inr (Nat.le_refl _)), hb.ext, hb.room, hb.cell⟩ (TyOk.none (fillB_ty _ _)))
      refine ⟨_, _, ?_, hd.trans (hal.trans hal2), by simp [ok, H.alloc]⟩
      rw [show ren f (.str s) = .string (strV s) from rfl, hrun]
      simp [ren, adr, strV_size]
    · cases e
  · rename_i el id off len c
    replace e := bind_some.1 e; obtain ⟨ed, hed, e⟩ := e
    split at e
    · replace e := cond_some e; obtain ⟨hsd', e⟩ := e
      have := Nat.eq_of_beq_eq_true hsd'; subst this
      replace e := bind_some.1 e; obtain ⟨b, hb, e⟩ := e
      replace e := cond_none e; obtain ⟨hro, e⟩ := e
      cases e
      obtain ⟨_, cs, t, fr, hw, hbo, hbt⟩ := r.blkT hb
      have hst := Step.poke (w' := w.freeze ⟨f.blk id, cs.size, none⟩ 1) r (H.blk_get hb) hro (freeze_put hw) (.cells (ht := hbt) ⟨.inr <| by
        rcases hbo.free.resolve_left (by simp [hro]) with hf | hf
        · simp [hf]
        · by_cases c : fr.1 = fr.2
          · simp [c]
          · simp [c]; omega, hbo.ext, hbo.room, hbo.cell⟩)
      rw [hsd] at hdd; cases hdd
      refine ⟨_, ?_, hst, ox⟩
      have hsh : w.shape? (f.blk id) = some (t, cs.size) := by simp [World.shape?, hw]
      cases c <;> simp [convert, run_underlying' hsd, run_underlying' hed, ren, markStringish, hsh, adr]
    · cases e
  · rename_i el _ _ _
    replace e := bind_some.1 e; obtain ⟨ed, hed, e⟩ := e
    split at e
    · rename_i id off len cp
      replace e := bind_some.1 e; obtain ⟨b, hb, e⟩ := e
      replace e := bind_some.1 e; obtain ⟨cs, hcs, e⟩ := e
      obtain ⟨l, hl, rfl⟩ := Option.map_eq_some_iff.1 e
      obtain ⟨h1, h2⟩ := bytesOf_spec hl
      obtain ⟨_, arr, t, fr, hw, hbo⟩ := r.blk hb
      obtain ⟨a1, a2, a3⟩ := load_cells (P := P) hw hbo hcs
      refine ⟨w, ?_, same, by simpa [ok] using h2⟩
      have hlc : (loadCells (adr f id off) len).run P w = .ok ((l.map fun n => Int.ofNat n).map (Value.int .u8)).toArray w := by
        rw [a1, h1]
        simp [renL_eq, ren, Function.comp_def]
      have key : ∀ cap, (convert src dst (.slice (some (adr f id off)) len cap)).run P w = .ok (.string (strV l)) w := by
        intro cap
        rw [run_convert_bytes_string w src dst _ _ _ _ hsd hed hdd, run_bytesToString w _ _ _ _ hlc, foldl_push]
        congr 2
      cases cp <;> simp only [ren] <;> exact key _
    · cases e
      refine ⟨w, ?_, same, by simp [ok]⟩
      simp only [ren]
      rw [run_convert_bytes_string w src dst _ _ _ _ hsd hed hdd]
      simp [Conv.bytesToString, strV]; rfl
    · cases e
      refine ⟨w, ?_, same, by simp [ok]⟩
      simp only [ren]
      rw [run_convert_bytes_string w src dst _ _ _ _ hsd hed hdd]
      rw [run_bytesToString (ns := []) w _ _ _ (by simp [loadCells, loadCellsFrom])]
      rfl
    · cases e
      refine ⟨w, ?_, same, by simp [ok]⟩
      simp only [ren]
      rw [run_convert_bytes_string w src dst _ _ _ _ hsd hed hdd]
      rw [run_bytesToString (ns := []) w _ _ _ (by simp [loadCells, loadCellsFrom])]
      rfl
    · cases e
  · cases e

end
end
end Go.Cl

namespace Go.Cl
noncomputable section
open Go Go.RowKit

section
variable {P : Program} {w : World} {f : Val} {h : H}

theorem ValOk.upd_uv {s : Sem Value} {r : Option (CV × H)} {o : Out} (e : uv r = some o) (hs : ∀ v h', r = some (v, h') → ∃ f' w', s.run P w = .ok (ren f' v) w' ∧ Step f h w f' h' w' ∧ ok h'.nx v) : ValOk P s f h w o := by
  obtain ⟨p, hp, rfl⟩ := Option.map_eq_some_iff.1 e
  exact hs _ _ hp

theorem ren_len_slice {x : CV} {n : Nat} (e : lenC x = some n) (hs : ∀ s, x ≠ .str s) : ∃ b c, ren f x = .slice b n c := by
  cases x <;> simp only [lenC, reduceCtorEq, Option.some.injEq] at e
  · exact absurd rfl (hs _)
  · subst e; exact ⟨_, _, rfl⟩
  · rename_i c; subst e; cases c <;> exact ⟨_, _, rfl⟩
  · subst e; exact ⟨_, _, rfl⟩
  · subst e; exact ⟨_, _, rfl⟩

theorem builtinT_sound (r : Rel f h w) {b : Builtin} {ats : Array TypeId} {ty : TypeId} {cs : Array Bool} {args : List CV} {o : Out} (e : builtinT P h b ats.toList args = some o) (oa : okL h.nx args) :
    ∃ s : Sem Value, builtin b ats ty cs (renL f args).toArray = (do pure (.value (← s))) ∧ ValOk P s f h w o := by
  have same := Step.refl r
  unfold builtinT at e
  split at e
  · -- len
    rename_i b ats' t tl x xl heq
    simp only [okL] at oa
    refine ⟨_, rfl, ?_⟩
    have ha0 : ats[0]? = some t := by rw [← Array.getElem?_toList, heq]; rfl
    have hv0 : (renL f (x :: xl)).toArray[0]? = some (ren f x) := by simp [renL]
    replace e := bind_some.1 e; obtain ⟨d, hd, e⟩ := e
    split at e
    · cases e; rename_i s; exact ⟨w, by simp [Builtin.len_, ha0, hv0, run_underlying' hd, ren, goInt, strV_size], same, by simp [ok]⟩
    · cases e; exact ⟨w, by simp [Builtin.len_, ha0, hv0, run_underlying' hd, ren, goInt], same, by simp [ok]⟩
    · cases e
    · rename_i hns
      obtain ⟨n, hn, rfl⟩ := Option.map_eq_some_iff.1 e
      obtain ⟨b, c, hr⟩ := ren_len_slice (f := f) hn hns
      exact ⟨w, by simp [Builtin.len_, ha0, hv0, run_underlying' hd, hr, goInt, ren], same, by simp [ok]⟩
    · replace e := bind_some.1 e; obtain ⟨d', hd', e⟩ := e
      split at e
      · cases e; exact ⟨w, by simp [Builtin.len_, ha0, hv0, run_underlying' hd, run_underlying' hd', ren, goInt], same, by simp [ok]⟩
      · cases e
    · cases e; exact ⟨w, by simp [Builtin.len_, ha0, hv0, run_underlying' hd, ren, goInt], same, by simp [ok]⟩
    · obtain ⟨⟨es, c⟩, hm, rfl⟩ := Option.map_eq_some_iff.1 e
      obtain ⟨h1, h2, h3⟩ := r.mp hm
      exact ⟨w, by simp [Builtin.len_, ha0, hv0, run_underlying' hd, ren, goInt, run_getObj_map h2], same, by simp [ok]⟩
    · cases e
  · -- cap
    rename_i b ats' t tl x xl heq
    refine ⟨_, rfl, ?_⟩
    have ha0 : ats[0]? = some t := by rw [← Array.getElem?_toList, heq]; rfl
    have hv0 : (renL f (x :: xl)).toArray[0]? = some (ren f x) := by simp [renL]
    replace e := bind_some.1 e; obtain ⟨d, hd, e⟩ := e
    split at e
    · cases e; exact ⟨w, by simp [Builtin.cap_, ha0, hv0, run_underlying' hd, ren, goInt], same, by simp [ok]⟩
    · cases e; exact ⟨w, by simp [Builtin.cap_, ha0, hv0, run_underlying' hd, ren, goInt], same, by simp [ok]⟩
    · cases e
  · -- append
    rename_i b ats' t t2 tl s x xl heq
    simp only [okL] at oa
    refine ⟨_, rfl, ?_⟩
    have ha0 : ats[0]? = some t := by rw [← Array.getElem?_toList, heq]; rfl
    have ha1 : ats[1]? = some t2 := by rw [← Array.getElem?_toList, heq]; rfl
    have hv0 : (renL f (s :: x :: xl)).toArray[0]? = some (ren f s) := by simp [renL]
    have hv1 : (renL f (s :: x :: xl)).toArray[1]? = some (ren f x) := by simp [renL]
    replace e := bind_some.1 e; obtain ⟨d2, hd2, e⟩ := e
    split at e
    · replace e := bind_some.1 e; obtain ⟨d, hd, e⟩ := e
      split at e
      · replace e := bind_some.1 e; obtain ⟨z, hz, e⟩ := e
        replace e := cond_some e; obtain ⟨hn, e⟩ := e
        exact ValOk.upd_uv e fun v h' he => appendZ_sound r ha0 ha1 hv0 (by rw [hv1]; rfl) hd2 hd hz (Nat.ble_eq.mp hn) oa.1 he
      · cases e
    · cases e
    · rename_i hna
      exact ValOk.upd_uv e fun v h' he => appendT_sound r ha0 ha1 hv0 hv1 (.inl ⟨_, hd2⟩) (fun l hl => hna l hl) oa.1 oa.2.1 he
    · rename_i hna
      exact ValOk.upd_uv e fun v h' he => appendT_sound r ha0 ha1 hv0 hv1 (.inr hd2) (fun l hl => hna l hl) oa.1 oa.2.1 he
    · cases e
  · -- copy
    rename_i b ats' t tl s x xl heq
    simp only [okL] at oa
    refine ⟨_, rfl, ?_⟩
    have ha0 : ats[0]? = some t := by rw [← Array.getElem?_toList, heq]; rfl
    have hv0 : (renL f (s :: x :: xl)).toArray[0]? = some (ren f s) := by simp [renL]
    have hv1 : (renL f (s :: x :: xl)).toArray[1]? = some (ren f x) := by simp [renL]
    refine ValOk.upd_uv e fun v h' he => copyT_sound r ha0 hv0 hv1 oa.2.1 ?_ he
    rintro l rfl
    unfold copyT at he
    replace he := bind_some.1 he; obtain ⟨d, hd, he⟩ := he
    cases d <;> simp only [reduceCtorEq] at he
    replace he := bind_some.1 he; obtain ⟨_, _, he⟩ := he
    simp [lenC] at he
  · -- delete
    rename_i b ats' t tl m k xl heq
    simp only [okL] at oa
    refine ⟨_, rfl, ?_⟩
    have ha0 : ats[0]? = some t := by rw [← Array.getElem?_toList, heq]; rfl
    have hv0 : (renL f (m :: k :: xl)).toArray[0]? = some (ren f m) := by simp [renL]
    have hv1 : (renL f (m :: k :: xl)).toArray[1]? = some (ren f k) := by simp [renL]
    obtain ⟨h', hh', rfl⟩ := Option.map_eq_some_iff.1 e
    obtain ⟨w', h1, h2⟩ := deleteT_sound (P := P) (ty := ty) r ha0 hv0 hv1 hh' oa.2.1
    exact ⟨f, w', h1, h2, by simp [ok, und, okL]⟩
  · cases e
    refine ⟨_, rfl, w, ?_, same, by simp [ok]⟩
    simp [Builtin.min_, renL, ren, Builtin.min2]
  · cases e
    refine ⟨_, rfl, w, ?_, same, by simp [ok]⟩
    simp [Builtin.max_, renL, ren, Builtin.max2]
  · -- clear
    rename_i b ats' t tl x xl heq
    simp only [okL] at oa
    refine ⟨_, rfl, ?_⟩
    have ha0 : ats[0]? = some t := by rw [← Array.getElem?_toList, heq]; rfl
    have hv0 : (renL f (x :: xl)).toArray[0]? = some (ren f x) := by simp [renL]
    replace e := bind_some.1 e; obtain ⟨d, hd, e⟩ := e
    split at e
    · cases e; exact ⟨w, by simp [Builtin.clear_, ha0, hv0, run_underlying' hd, ren, und, renL], same, by simp [ok, und, okL]⟩
    · cases e; exact ⟨w, by simp [Builtin.clear_, ha0, hv0, run_underlying' hd, ren, und, renL], same, by simp [ok, und, okL]⟩
    · cases e; exact ⟨w, by simp [Builtin.clear_, ha0, hv0, run_underlying' hd, ren, und, renL], same, by simp [ok, und, okL]⟩
    · cases e; exact ⟨w, by simp [Builtin.clear_, ha0, hv0, run_underlying' hd, ren, und, renL], same, by simp [ok, und, okL]⟩
    · rename_i el id off n cp
      by_cases hn : n = 0
      · subst hn
        cases e
        have : ∃ a c, ren f (.sl id off 0 cp) = .slice (some a) 0 c := by cases cp <;> exact ⟨_, _, rfl⟩
        obtain ⟨a, c, hr⟩ := this
        rw [hr] at hv0
        exact ⟨w, by simp [Builtin.clear_, ha0, hv0, run_underlying' hd, hr, ren, und, renL], same, by simp [ok, und, okL]⟩
      · rw [nbeq_false hn] at e
        simp only [cond_false] at e
        replace e := bind_some.1 e; obtain ⟨z, hz, e⟩ := e
        replace e := bind_some.1 e; obtain ⟨b, hb, e⟩ := e
        replace e := cond_none e; obtain ⟨hro, e⟩ := e
        simp only [Bool.or_eq_false_iff] at hro
        obtain ⟨b', hb', rfl⟩ := Option.map_eq_some_iff.1 e
        obtain ⟨z1, z2⟩ := run_zero' (P := P) (w := w) (f := f) (n := h.nx) hz
        have hzl : 0 < z.cells.length := by
          cases hzc : z.cells with
          | nil => simp [hzc] at hro
          | cons => simp
        obtain ⟨w', hst, hstep⟩ := store_sound (P := P) r hb hro.1 hb' (okL_repl (ok_cells z2) n)
        have hcells : (Builtin.zeroCells (ren f z).cells n).toList = renL f (repl z.cells n) := by
          have : (ren f z).cells = (renL f z.cells).toArray := by rw [← ren_cells]
          rw [this, pat_repl f hzl n]
        have : ∃ c, ren f (.sl id off n cp) = .slice (some (adr f id off)) n c := by cases cp <;> exact ⟨_, rfl⟩
        obtain ⟨c, hr⟩ := this
        rw [hr] at hv0
        refine ⟨f, w', ?_, hstep, by simp [ok, und, okL]⟩
        unfold Builtin.clear_
        simp only [ha0, hv0, Sem.run_bind, run_underlying' hd, Result.andThen_ok, z1, hcells, hst, Sem.run_pure]
        simp [ren, und, renL]
    · obtain ⟨⟨es, c⟩, hm, rfl⟩ := Option.map_eq_some_iff.1 e
      obtain ⟨h1, h2, h3⟩ := r.mp hm
      have hs := Step.put (w' := w.putObj _ (.map #[] c)) r (o' := .map [] c) (H.mp_get hm) rfl rfl (.map (es := []) (by simp))
      exact ⟨f, _, by simp [Builtin.clear_, ha0, hv0, run_underlying' hd, ren, und, renL, run_getObj_map h2, run_setObj_map _ h2], hs, by simp [ok, und, okL]⟩
    · cases e
  · cases e

end
end
end Go.Cl

namespace Go.Cl
noncomputable section
open Go Go.RowKit

/-- what is asked of the program: no function with a body goes by the name that the model keeps for itself -/
def Plain (P : Program) : Prop := ∀ (f : FuncId) (fn : Func), P.funcs[f]? = some fn → fn.body.isSome = true → (fn.name == "runtime.NumGoroutine") = false

section
variable {P : Program} {w : World} {f : Val} {h : H}

def NextOk (P : Program) (s : Sem Next) (f : Val) (h : H) (w : World) : Out → Prop
  | .val v => ∃ w', s.run P w = .ok (.value (ren f v)) w' ∧ Step f h w f h w' ∧ ok h.nx v
  | .upd v h' => ∃ f' w' x, s.run P w = .ok x w' ∧ (x = .value (ren f' v) ∨ (x = .skip ∧ v = und)) ∧ Step f h w f' h' w' ∧ ok h'.nx v
  | .enter g args => s.run P w = .ok (.enter g (renL f args).toArray) w ∧ okL h.nx args
  | .round l args => s.run P w = (Instr.yield (f.blk l) (renL f args).toArray).run P w ∧ l < h.nx ∧ okL h.nx args

theorem NextOk.pureVal {v : CV} (r : Rel f h w) {s : Sem Value} (e : s.run P w = .ok (ren f v) w) (o : ok h.nx v) : NextOk P (do pure (.value (← s))) f h w (.val v) :=
  ⟨w, by simp [e], Step.refl r, o⟩

theorem NextOk.vv {r' : Option CV} {o : Out} (r : Rel f h w) {s : Sem Value} (e : vv r' = some o) (hs : ∀ v, r' = some v → s.run P w = .ok (ren f v) w ∧ ok h.nx v) : NextOk P (do pure (.value (← s))) f h w o := by
  obtain ⟨v, hv, rfl⟩ := Option.map_eq_some_iff.1 e
  exact .pureVal r (hs v hv).1 (hs v hv).2

theorem NextOk.uv {r' : Option (CV × H)} {o : Out} {s : Sem Value} (e : uv r' = some o) (hs : ∀ v h', r' = some (v, h') → ∃ f' w', s.run P w = .ok (ren f' v) w' ∧ Step f h w f' h' w' ∧ ok h'.nx v) :
    NextOk P (do pure (.value (← s))) f h w o := by
  obtain ⟨p, hp, rfl⟩ := Option.map_eq_some_iff.1 e
  obtain ⟨f', w', h1, h2, h3⟩ := hs _ _ hp
  exact ⟨f', w', _, by simp [h1], .inl rfl, h2, h3⟩

theorem NextOk.hh {r' : Option H} {o : Out} {s : Sem Unit} (e : hh r' = some o) (hs : ∀ h', r' = some h' → ∃ w', s.run P w = .ok () w' ∧ Step f h w f h' w') :
    NextOk P (do s; pure .skip) f h w o := by
  obtain ⟨p, hp, rfl⟩ := Option.map_eq_some_iff.1 e
  obtain ⟨w', h1, h2⟩ := hs _ hp
  exact ⟨f, w', .skip, by simp [h1], .inr ⟨rfl, rfl⟩, h2, by simp [und, ok, okL]⟩

theorem NextOk.ofVal {s : Sem Value} {o : Out} (hs : ValOk P s f h w o) : NextOk P (do pure (.value (← s))) f h w o := by
  cases o with
  | val v => obtain ⟨w', h1, h2, h3⟩ := hs; exact ⟨w', by simp [h1], h2, h3⟩
  | upd v h' => obtain ⟨f', w', h1, h2, h3⟩ := hs; exact ⟨f', w', _, by simp [h1], .inl rfl, h2, h3⟩
  | enter => exact hs.elim
  | round => exact hs.elim

theorem opt_sound {n : Nat} {env : T CV} {a : Act} (r : Rel f h w) (he : EnvAt h.nx f n env a.tmps) {x : Option Operand} {v : Option CV} (e : optO h env x = some v) :
    x.map a.eval = v.map (ren f) := by
  cases x with
  | none => cases e; rfl
  | some x =>
    obtain ⟨c, hc, rfl⟩ := Option.map_eq_some_iff.1 e
    simp [(ev_sound r he hc).1]

theorem callFn_sound (hP : Plain P) {g : FuncId} {args : List CV} {o : Out} (e : callFn P g args = some o) (oa : okL h.nx args) : NextOk P (callFunc g (renL f args).toArray) f h w o := by
  obtain ⟨u, hu, rfl⟩ := Option.map_eq_some_iff.1 e
  unfold isTextO at hu
  replace hu := bind_some.1 hu; obtain ⟨fn, hfn, hu⟩ := hu
  obtain ⟨hb, _⟩ := cond_some hu
  have hf : P.funcs[g]? = some fn := by rw [nth_eq, Array.getElem?_toList] at hfn; exact hfn
  refine ⟨?_, oa⟩
  have h1 : ¬ (fn.name = "runtime.NumGoroutine") := by simpa using hP g fn hf hb
  have h2 : ¬ (fn.body = none) := by intro h; simp [h] at hb
  simp [callFunc, hf, h1, h2]

theorem callV_sound (hP : Plain P) {fv : CV} {args : List CV} {o : Out} (e : callV P fv args = some o) (of : ok h.nx fv) (oa : okL h.nx args) :
    NextOk P (do let d ← Deferred.ofValue (ren f fv) (renL f args).toArray; invoke d.target d.args) f h w o := by
  unfold callV at e
  split at e
  · rename_i g first cap
    simp only [ok] at of
    have := callFn_sound (w := w) (f := f) hP e (okL_append.2 ⟨okL_append.2 ⟨of.2.1, oa⟩, of.2.2⟩)
    have e1 : (do let d ← Deferred.ofValue (ren f (.fn (.func g) first cap)) (renL f args).toArray; invoke d.target d.args : Sem Next) = callFunc g (renL f (first ++ args ++ cap)).toArray := by
      simp only [ren, renFn, Deferred.ofValue, pure_bind, invoke, renL_append]
      congr 1
      simp
    rw [e1]; exact this
  · rename_i l cap
    cases e
    simp only [ok, okF] at of
    refine ⟨?_, of.1, oa⟩
    simp [ren, renFn, Deferred.ofValue, invoke, renL]
  · cases e

theorem cop_sound (hP : Plain P) (r : Rel f h w) {n : Nat} {env : T CV} {a : Act} (he : EnvAt h.nx f n env a.tmps) {o : Oper} {out : Out} (e : cop P h env o = some out) :
    NextOk P (execOp a.eval o) f h w out := by
  unfold cop at e
  unfold execOp
  split at e <;> rename_i hop <;> try (rw [hop]; dsimp only)
  · -- move
    obtain ⟨v, hv, rfl⟩ := Option.map_eq_some_iff.1 e
    obtain ⟨h1, h2⟩ := ev_sound r he hv
    exact ⟨w, by simp [h1], Step.refl r, h2⟩
  · obtain ⟨v, hv, rfl⟩ := Option.map_eq_some_iff.1 e
    obtain ⟨h1, h2⟩ := ev_sound r he hv
    exact ⟨w, by simp [h1], Step.refl r, h2⟩
  · -- pick
    replace e := bind_some.1 e; obtain ⟨c, hc, e⟩ := e
    replace e := bind_some.1 e; obtain ⟨x, hx, e⟩ := e
    replace e := bind_some.1 e; obtain ⟨y, hy, e⟩ := e
    split at e
    · rename_i t
      cases e
      have h0 := (ev_sound r he hc).1
      cases t with
      | true => exact ⟨w, by simp [h0, ren, asBool, (ev_sound r he hx).1], Step.refl r, (ev_sound r he hx).2⟩
      | false => exact ⟨w, by simp [h0, ren, asBool, (ev_sound r he hy).1], Step.refl r, (ev_sound r he hy).2⟩
    · cases e
  · -- alloc
    rename_i el
    replace e := bind_some.1 e; obtain ⟨z, hz, e⟩ := e
    replace e := cond_some e; obtain ⟨h1, e⟩ := e
    cases e
    obtain ⟨z1, z2⟩ := run_zero' (P := P) (w := w) (f := f) (n := h.nx) hz
    obtain ⟨f', w', hv, hs⟩ := newVar_sound (P := P) r el (all_one h1) z2
    exact ⟨f', w', _, by simp [Instr.alloc, z1, hv]; rfl, .inl (by simp [ren]), hs, by simp [ok, H.alloc]⟩
  · -- box
    rename_i el x
    replace e := bind_some.1 e; obtain ⟨z, hz, e⟩ := e
    replace e := cond_some e; obtain ⟨h1, e⟩ := e
    cases e
    obtain ⟨z1, z2⟩ := ev_sound r he hz
    obtain ⟨f', w', hv, hs⟩ := newVar_sound (P := P) r el (all_one h1) z2
    exact ⟨f', w', _, by simp [Instr.box, z1, hv]; rfl, .inl (by simp [ren]), hs, by simp [ok, H.alloc]⟩
  · -- build
    rename_i t ps
    replace e := bind_some.1 e; obtain ⟨l, hl, e⟩ := e
    obtain ⟨h1, h2⟩ := evParts_sound r he hl
    exact NextOk.vv r e fun v hv => buildT_sound hv h2 _ (by simpa using h1)
  · -- buildSlice
    rename_i t n ps
    replace e := bind_some.1 e; obtain ⟨l, hl, e⟩ := e
    obtain ⟨h1, h2⟩ := evParts_sound r he hl
    exact NextOk.uv e fun v h' hv => buildSliceT_sound r hv h2 _ (by simpa using h1)
  · -- load
    replace e := bind_some.1 e; obtain ⟨x, hx, e⟩ := e
    split at e
    · obtain ⟨h1, h2⟩ := ev_sound r he hx
      exact NextOk.vv r e fun v hv => by
        rw [h1]
        simpa [Instr.loadAt, Instr.sureAddr, ren] using loadT_sound (P := P) r hv
    · cases e
  · -- store
    replace e := bind_some.1 e; obtain ⟨x, hx, e⟩ := e
    replace e := bind_some.1 e; obtain ⟨v, hv, e⟩ := e
    split at e
    · obtain ⟨h1, h2⟩ := ev_sound r he hx
      obtain ⟨h3, h4⟩ := ev_sound r he hv
      exact NextOk.hh e fun h' hh' => by
        obtain ⟨w', a1, a2⟩ := storeT_sound (P := P) r hh' h4
        exact ⟨w', by simp [Instr.storeAt, Instr.sureAddr, h1, h3, ren, a1], a2⟩
    · cases e
  · -- nilCheck
    replace e := bind_some.1 e; obtain ⟨x, hx, e⟩ := e
    obtain ⟨h1, h2⟩ := ev_sound r he hx
    rw [h1]
    cases x
    case nilp => cases e
    case nili => cases e
    case nilf => cases e
    case sl id off len c => cases e; cases c <;> exact ⟨w, by simp [ren], Step.refl r, h2⟩
    case fn fn a b =>
      cases fn <;> first | (cases e; done) | (cases e; exact ⟨w, by simp [ren, renFn], Step.refl r, h2⟩)
    all_goals (cases e; exact ⟨w, by simp [ren], Step.refl r, h2⟩)
  · -- binOp
    replace e := bind_some.1 e; obtain ⟨x, hx, e⟩ := e
    replace e := bind_some.1 e; obtain ⟨y, hy, e⟩ := e
    obtain ⟨h1, h2⟩ := ev_sound r he hx
    obtain ⟨h3, h4⟩ := ev_sound r he hy
    rw [h1, h3]
    exact NextOk.vv r e fun v hv => binT_sound hv h2 h4
  · -- unOp
    replace e := bind_some.1 e; obtain ⟨x, hx, e⟩ := e
    obtain ⟨h1, h2⟩ := ev_sound r he hx
    rw [h1]
    exact NextOk.vv r e fun v hv => unT_sound hv
  · -- convert
    replace e := bind_some.1 e; obtain ⟨x, hx, e⟩ := e
    obtain ⟨h1, h2⟩ := ev_sound r he hx
    rw [h1]
    exact NextOk.ofVal (convT_sound r e h2)
  · -- makeInterface
    replace e := bind_some.1 e; obtain ⟨x, hx, e⟩ := e
    replace e := bind_some.1 e; obtain ⟨d, hd, e⟩ := e
    obtain ⟨h1, h2⟩ := ev_sound r he hx
    rw [h1]
    split at e
    · cases e
    · rename_i hni
      cases e
      refine NextOk.pureVal r ?_ (by simpa [ok] using h2)
      simp only [Instr.makeInterface, Sem.run_bind, run_underlying' hd, Result.andThen_ok, ren, Sem.run_pure]
  · -- makeFunc
    rename_i fn first cap
    replace e := bind_some.1 e; obtain ⟨u, hu, e⟩ := e
    replace e := bind_some.1 e; obtain ⟨x, hx, e⟩ := e
    replace e := bind_some.1 e; obtain ⟨y, hy, e⟩ := e
    cases e
    obtain ⟨h1, h2⟩ := evs_sound r he hx
    obtain ⟨h3, h4⟩ := evs_sound r he hy
    have e1 : first.map a.eval = (renL f x).toArray := by apply Array.ext'; simpa using h1
    have e2 : cap.map a.eval = (renL f y).toArray := by apply Array.ext'; simpa using h3
    rw [e1, e2]
    cases fn <;> first | (cases hu; done) | exact NextOk.pureVal r (by simp [Instr.makeFunc, ren, renFn]) ⟨trivial, h2, h4⟩
  · -- makeMap
    rename_i t rs
    replace e := bind_some.1 e; obtain ⟨u, hu, e⟩ := e
    cases e
    have hs := Step.alloc r (.map [] 0) (.map #[] 0) 0 (.map (es := []) (by simp))
    refine ⟨_, _, _, ?_, .inl rfl, hs, by simp [ok, H.alloc]⟩
    cases rs with
    | none => simp [Instr.makeMap, ren]
    | some x =>
      simp only at hu
      replace hu := bind_some.1 hu; obtain ⟨v, hv, hu⟩ := hu
      replace hu := bind_some.1 hu; obtain ⟨d, hd, hu⟩ := hu
      split at hu
      · simp [Instr.makeMap, run_underlying' hd, (ev_sound r he hv).1, ren, asInt, asIntOf]
      · cases hu
  · -- makeSlice
    replace e := bind_some.1 e; obtain ⟨l, hl, e⟩ := e
    replace e := bind_some.1 e; obtain ⟨c, hc, e⟩ := e
    rw [(ev_sound r he hl).1, (ev_sound r he hc).1]
    exact NextOk.uv e fun v h' hv => makeSliceT_sound r hv
  · -- slice
    replace e := bind_some.1 e; obtain ⟨x, hx, e⟩ := e
    replace e := bind_some.1 e; obtain ⟨lo, hlo, e⟩ := e
    replace e := bind_some.1 e; obtain ⟨hi, hhi, e⟩ := e
    replace e := bind_some.1 e; obtain ⟨mx, hmx, e⟩ := e
    rw [(ev_sound r he hx).1, opt_sound r he hlo, opt_sound r he hhi, opt_sound r he hmx]
    exact NextOk.vv r e fun v hv => sliceT_sound r hv (ev_sound r he hx).2
  · replace e := bind_some.1 e; obtain ⟨x, hx, e⟩ := e
    rw [(ev_sound r he hx).1]
    exact NextOk.vv r e fun v hv => fieldAddrT_sound hv (ev_sound r he hx).2
  · replace e := bind_some.1 e; obtain ⟨x, hx, e⟩ := e
    rw [(ev_sound r he hx).1]
    exact NextOk.vv r e fun v hv => fieldT_sound hv (ev_sound r he hx).2
  · replace e := bind_some.1 e; obtain ⟨x, hx, e⟩ := e
    replace e := bind_some.1 e; obtain ⟨i, hi, e⟩ := e
    rw [(ev_sound r he hx).1, (ev_sound r he hi).1]
    exact NextOk.vv r e fun v hv => indexAddrT_sound hv (ev_sound r he hx).2
  · replace e := bind_some.1 e; obtain ⟨x, hx, e⟩ := e
    replace e := bind_some.1 e; obtain ⟨i, hi, e⟩ := e
    rw [(ev_sound r he hx).1, (ev_sound r he hi).1]
    exact NextOk.vv r e fun v hv => indexT_sound hv (ev_sound r he hx).2
  · replace e := bind_some.1 e; obtain ⟨x, hx, e⟩ := e
    replace e := bind_some.1 e; obtain ⟨i, hi, e⟩ := e
    rw [(ev_sound r he hx).1, (ev_sound r he hi).1]
    exact NextOk.vv r e fun v hv => lookupT_sound r hv (ev_sound r he hi).2
  · replace e := bind_some.1 e; obtain ⟨x, hx, e⟩ := e
    replace e := bind_some.1 e; obtain ⟨k, hk, e⟩ := e
    replace e := bind_some.1 e; obtain ⟨v, hv, e⟩ := e
    rw [(ev_sound r he hx).1, (ev_sound r he hk).1, (ev_sound r he hv).1]
    exact NextOk.hh e fun h' hh' => mapUpdateT_sound r hh' (ev_sound r he hk).2 (ev_sound r he hv).2
  · replace e := bind_some.1 e; obtain ⟨x, hx, e⟩ := e
    replace e := bind_some.1 e; obtain ⟨k, hk, e⟩ := e
    replace e := bind_some.1 e; obtain ⟨v, hv, e⟩ := e
    rw [(ev_sound r he hx).1, (ev_sound r he hk).1, (ev_sound r he hv).1]
    exact NextOk.hh e fun h' hh' => mapUpdateT_sound r hh' (ev_sound r he hk).2 (ev_sound r he hv).2
  · replace e := bind_some.1 e; obtain ⟨x, hx, e⟩ := e
    replace e := bind_some.1 e; obtain ⟨k, hk, e⟩ := e
    rw [(ev_sound r he hx).1, (ev_sound r he hk).1]
    exact NextOk.uv e fun v h' hv => by
      obtain ⟨w', a1, a2, a3⟩ := mapEntryT_sound (P := P) r hv (ev_sound r he hk).2
      exact ⟨f, w', a1, a2, ok_mono a2.nx _ a3⟩
  · replace e := bind_some.1 e; obtain ⟨x, hx, e⟩ := e
    replace e := bind_some.1 e; obtain ⟨k, hk, e⟩ := e
    replace e := bind_some.1 e; obtain ⟨v, hv, e⟩ := e
    rw [(ev_sound r he hx).1, (ev_sound r he hk).1, (ev_sound r he hv).1]
    exact NextOk.hh e fun h' hh' => entryStoreT_sound r hh' (ev_sound r he hv).2
  · replace e := bind_some.1 e; obtain ⟨x, hx, e⟩ := e
    rw [(ev_sound r he hx).1]
    exact NextOk.uv e fun v h' hv => rangeT_sound r hv (ev_sound r he hx).2
  · replace e := bind_some.1 e; obtain ⟨x, hx, e⟩ := e
    rw [(ev_sound r he hx).1]
    exact NextOk.uv e fun v h' hv => by
      obtain ⟨w', a1, a2, a3⟩ := nextT_sound (P := P) r (ty := o.type) hv
      exact ⟨f, w', a1, a2, a3⟩
  · replace e := bind_some.1 e; obtain ⟨x, hx, e⟩ := e
    rw [(ev_sound r he hx).1]
    exact NextOk.vv r e fun v hv => entryT_sound r hv
  · -- typeAssert
    rename_i xt t okk
    replace e := bind_some.1 e; obtain ⟨x, hx, e⟩ := e
    replace e := bind_some.1 e; obtain ⟨d, hd, e⟩ := e
    obtain ⟨h1, h2⟩ := ev_sound r he hx
    rw [h1]
    split at e
    · cases e
    · rename_i hni
      replace e := cond_some e; obtain ⟨hok, e⟩ := e
      subst hok
      replace e := bind_some.1 e; obtain ⟨z, hz, e⟩ := e
      cases e
      obtain ⟨z1, z2⟩ := run_zero' (P := P) (w := w) (f := f) (n := h.nx) hz
      refine NextOk.pureVal r ?_ (by simp [ok, okL, z2])
      simp only [Instr.typeAssert, Sem.run_bind, run_underlying' hd, Result.andThen_ok, ren]
      simp [z1, renL, ren]
    · rename_i t' v hni
      simp only [ok] at h2
      by_cases ht : t = t'
      · subst ht
        rw [Nat.beq_refl] at e
        cases e
        refine NextOk.pureVal r ?_ (by cases okk <;> simp [ok, okL, h2])
        simp only [Instr.typeAssert, Sem.run_bind, run_underlying' hd, Result.andThen_ok, ren]
        cases okk <;> simp [renL, ren]
      · rw [nbeq_false ht] at e
        replace e := cond_some e; obtain ⟨hok, e⟩ := e
        subst hok
        replace e := bind_some.1 e; obtain ⟨z, hz, e⟩ := e
        cases e
        obtain ⟨z1, z2⟩ := run_zero' (P := P) (w := w) (f := f) (n := h.nx) hz
        refine NextOk.pureVal r ?_ (by simp [ok, okL, z2])
        simp only [Instr.typeAssert, Sem.run_bind, run_underlying' hd, Result.andThen_ok, ren]
        simp [z1, renL, ren, Ne.symm ht]
    · cases e
  · -- extract
    replace e := bind_some.1 e; obtain ⟨x, hx, e⟩ := e
    obtain ⟨h1, h2⟩ := ev_sound r he hx
    rw [h1]
    split at e
    · rename_i i vs
      refine NextOk.vv r e fun v hv => ?_
      rw [nth_eq] at hv
      simp only [ok] at h2
      refine ⟨?_, (okL_iff _ _).1 h2 _ (List.mem_of_getElem? hv)⟩
      simp [Instr.extract, ren, renL_eq, hv]
    · cases e
  · -- call
    rename_i c
    replace e := bind_some.1 e; obtain ⟨args, hargs, e⟩ := e
    obtain ⟨h1, h2⟩ := evs_sound r he hargs
    have e1 : c.args.map a.eval = (renL f args).toArray := by apply Array.ext'; simpa using h1
    unfold resolve
    simp only [e1]
    split at e
    · rename_i hc
      simp only [hc, pure_bind, invoke]
      generalize Array.map _ c.args = cs
      obtain ⟨s, hs, hv⟩ := builtinT_sound (P := P) (ty := o.type) (cs := cs) r e h2
      rw [hs]
      exact NextOk.ofVal hv
    · rename_i hc
      replace e := bind_some.1 e; obtain ⟨fv, hfv, e⟩ := e
      simp only [hc, (ev_sound r he hfv).1]
      exact callV_sound hP e (ev_sound r he hfv).2 h2
    · cases e
  · cases e

end
end
end Go.Cl
