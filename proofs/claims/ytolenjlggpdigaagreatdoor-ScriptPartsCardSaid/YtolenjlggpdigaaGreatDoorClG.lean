/- Arguments that a statement hands in, and a table that its row lists, as the evaluator's values over read-only blocks; a run that answers true gives the statement's contract. No conditions but those in the theorems. -/
import Derived.ChangeArms
import Derived.OpenShut
import Derived.ChangeSame
import Derived.Carry
import Derived.LaidMore
import Derived.FnData
import Derived.Test.YtolenjlggpdigaaGreatDoorClF
set_option linter.all false
namespace Go.Cl
noncomputable section
open Go Go.RowKit

/-- field offsets stand one behind the other -/
def consec (P : Program) : List Field → Nat → Option Nat
  | [], off => some off
  | f :: fs, off => cond (Nat.beq f.offset off) (consec P fs (off + P.cellsOf f.type)) none

/-- a type of numbers, strings, slices, structs and arrays alone -/
def plainT (P : Program) : Nat → TypeId → Bool
  | 0, _ => false
  | n + 1, t => match P.underlying t with
    | some .bool | some (.int _) | some .string => true
    | some (.slice e) => Nat.blt 0 (P.cellsOf e) && plainT P n e
    | some (.struct fs) => (fs.toList.all fun f => plainT P n f.type) && (consec P fs.toList 0 == some (P.cellsOf t))
    | some (.array k e) => plainT P n e && Nat.beq (k * P.cellsOf e) (P.cellsOf t)
    | _ => false

inductive Rd (P : Program) (h : H) : TypeId → List CV → Prop
  | bool {t : TypeId} (b : Bool) (ht : P.underlying t = some .bool) : Rd P h t [.bool b]
  | int {t : TypeId} (k : IntKind) (n : Int) (ht : P.underlying t = some (.int k)) (h1 : k.min ≤ n) (h2 : n ≤ k.max) : Rd P h t [.int k n]
  | str {t : TypeId} (s : List Nat) (ht : P.underlying t = some .string) (h1 : ∀ x ∈ s, x < 256) (h2 : s.length ≤ maxLen) : Rd P h t [.str s]
  | nils {t e : TypeId} (ht : P.underlying t = some (.slice e)) : Rd P h t [.nils]
  | sl0 {t e : TypeId} (id : Nat) (ht : P.underlying t = some (.slice e)) (hid : id < h.nx) : Rd P h t [.sl0 id 0 0 0]
  | sl {t e : TypeId} (id len cap : Nat) (b : Blk) (xs : Nat → List CV) (ht : P.underlying t = some (.slice e)) (hid : id < h.nx) (hl : len ≤ cap) (hc : cap ≤ maxLen) (hb : h.blk id = some b) (hro : b.ro = true)
      (hxl : ∀ i, i < len → (xs i).length = P.cellsOf e) (hxg : ∀ i j x, i < len → nth (xs i) j = some x → b.get (i * P.cellsOf e + j) = some x) (hx : ∀ i, i < len → Rd P h e (xs i)) : Rd P h t [.sl id 0 len (.exact cap)]
  | struct {t : TypeId} (fs : Array Field) (cs : List CV) (ht : P.underlying t = some (.struct fs)) (hl : cs.length = P.cellsOf t) (hf : ∀ f ∈ fs.toList, Rd P h f.type ((cs.drop f.offset).take (P.cellsOf f.type))) : Rd P h t cs
  | array {t e : TypeId} (k : Nat) (cs : List CV) (ht : P.underlying t = some (.array k e)) (hl : cs.length = P.cellsOf t) (hf : ∀ i, i < k → Rd P h e ((cs.drop (i * P.cellsOf e)).take (P.cellsOf e))) : Rd P h t cs

/-- laid besides what stood: read-only blocks alone -/
structure Grows (h : H) (f : Val) (h' : H) (f' : Val) : Prop where
  nx : h.nx ≤ h'.nx
  gn : h'.gn = h.gn
  agree : Agree h.nx f f'
  old : ∀ k, k < h.nx → h'.t.get k = h.t.get k
  new : ∀ k o, h.nx ≤ k → h'.t.get k = some o → o.ro = true

theorem Grows.refl (h : H) (f : Val) (hh : ∀ k o, h.t.get k = some o → k < h.nx) : Grows h f h f := ⟨Nat.le_refl _, rfl, Agree.refl _ _, fun _ _ => rfl, fun k o hk ho => absurd (hh k o ho) (by omega)⟩
theorem Grows.trans {h1 h2 h3 : H} {f1 f2 f3 : Val} (a : Grows h1 f1 h2 f2) (b : Grows h2 f2 h3 f3) : Grows h1 f1 h3 f3 where
  nx := Nat.le_trans a.nx b.nx
  gn := b.gn.trans a.gn
  agree := a.agree.trans b.agree a.nx
  old := fun k hk => (b.old k (by have := a.nx; omega)).trans (a.old k hk)
  new := fun k o hk ho => by
    by_cases c : k < h2.nx
    · rw [b.old k c] at ho; exact a.new k o hk ho
    · exact b.new k o (by omega) ho

theorem Grows.all {h h' : H} {f f' : Val} (e : Grows h f h' f') (ha : ∀ id o, h.t.get id = some o → o.ro = true) : ∀ id o, h'.t.get id = some o → o.ro = true := fun id o ho => by
  by_cases c : id < h.nx
  · rw [e.old id c] at ho; exact ha id o ho
  · exact e.new id o (by omega) ho

theorem Rd.mono {P : Program} {h h' : H} {t : TypeId} {cs : List CV} (r : Rd P h t cs) (hn : h.nx ≤ h'.nx) (ho : ∀ k, k < h.nx → h'.t.get k = h.t.get k) : Rd P h' t cs := by
  induction r with
  | bool b ht => exact .bool b ht
  | int k n ht h1 h2 => exact .int k n ht h1 h2
  | str s ht h1 h2 => exact .str s ht h1 h2
  | nils ht => exact .nils ht
  | sl0 id ht hid => exact .sl0 id ht (by omega)
  | sl id len cap b xs ht hid hl hc hb hro hxl hxg hx ih => exact .sl id len cap b xs ht (by omega) hl hc ((blk_eq (ho id hid)).trans hb) hro hxl hxg ih
  | struct fs cs ht hl hf ih => exact .struct fs cs ht hl ih
  | array k cs ht hl hf ih => exact .array k cs ht hl ih

inductive All2 {α β : Type} (R : α → β → Prop) : List α → List β → Prop
  | nil : All2 R [] []
  | cons {a : α} {b : β} {as : List α} {bs : List β} (h : R a b) (t : All2 R as bs) : All2 R (a :: as) (b :: bs)

structure Laid (P : Program) (h : H) (f : Val) (t : TypeId) (vs : List Value) (cs : List CV) : Prop where
  ren : renL f cs = vs
  ok : okL h.nx cs
  one : ∀ c ∈ cs, c.one = true
  rd : Rd P h t cs

theorem Laid.mono {P : Program} {h h' : H} {f f' : Val} {t : TypeId} {vs : List Value} {cs : List CV} (l : Laid P h f t vs cs) (e : Grows h f h' f') : Laid P h' f' t vs cs :=
  ⟨by rw [← renL_congr e.agree cs l.ok]; exact l.ren, okL_mono e.nx cs l.ok, l.one, l.rd.mono e.nx e.old⟩

section
variable {D : Type} {enc : TypeId × Value → D} {P : Program} {W : World}

abbrev Trods (enc : TypeId × Value → D) (P : Program) (W : World) (t : TypeId) (vs : List Value) : Prop := ∃ fuel x, DataW.trod enc P W 0 (fun _ => true) true fuel t vs = some x

theorem layList {n : Nat} (ih : ∀ t, plainT P n t = true → ∀ vs, Trods enc P W t vs → ∀ h f, Rel f h W → (∀ id o, h.t.get id = some o → o.ro = true) → ∃ h' f' cs, Rel f' h' W ∧ Grows h f h' f' ∧ Laid P h' f' t vs cs) :
    ∀ (ps : List (TypeId × List Value)), (∀ p ∈ ps, plainT P n p.1 = true ∧ Trods enc P W p.1 p.2) → ∀ h f, Rel f h W → (∀ id o, h.t.get id = some o → o.ro = true) →
      ∃ h' f' css, Rel f' h' W ∧ Grows h f h' f' ∧ All2 (fun (p : TypeId × List Value) cs => Laid P h' f' p.1 p.2 cs) ps css
  | [], _, h, f, r, _ => ⟨h, f, [], r, Grows.refl h f fun k o ho => (r.obj k o ho).1, .nil⟩
  | p :: ps, hp, h, f, r, ha => by
    obtain ⟨h1, f1, cs, r1, e1, l1⟩ := ih p.1 (hp p (by simp)).1 p.2 (hp p (by simp)).2 h f r ha
    obtain ⟨h2, f2, css, r2, e2, l2⟩ := layList ih ps (fun q hq => hp q (by simp [hq])) h1 f1 r1 (e1.all ha)
    exact ⟨h2, f2, cs :: css, r2, e1.trans e2, .cons (l1.mono e2) l2⟩

theorem All2.len {α β : Type} {R : α → β → Prop} {as : List α} {bs : List β} (h : All2 R as bs) : as.length = bs.length := by
  induction h with
  | nil => rfl
  | cons _ _ ih => simp [ih]
theorem All2.get {α β : Type} {R : α → β → Prop} {as : List α} {bs : List β} (h : All2 R as bs) : ∀ (i : Nat) (a : α), as[i]? = some a → ∃ b, bs[i]? = some b ∧ R a b := by
  induction h with
  | nil => intro i a h; simp at h
  | cons h _ ih =>
    intro i a ha
    cases i with
    | zero => simp at ha; subst ha; exact ⟨_, rfl, h⟩
    | succ i => simp at ha; obtain ⟨b, hb, hr⟩ := ih i a ha; exact ⟨b, by simpa using hb, hr⟩

theorem okL_app {n : Nat} {a b : List CV} (ha : okL n a) (hb : okL n b) : okL n (a ++ b) := by
  rw [okL_iff] at *
  intro c hc
  rcases List.mem_append.1 hc with h | h
  · exact ha c h
  · exact hb c h

/-- the pieces behind one another -/
theorem All2.flat {h : H} {f : Val} {ps : List (TypeId × List Value)} {css : List (List CV)} (a : All2 (fun (p : TypeId × List Value) cs => Laid P h f p.1 p.2 cs) ps css) :
    renL f css.flatten = (ps.map Prod.snd).flatten ∧ okL h.nx css.flatten ∧ (∀ c ∈ css.flatten, c.one = true) ∧ css.map List.length = ps.map fun p => p.2.length := by
  induction a with
  | nil => exact ⟨rfl, trivial, by simp, rfl⟩
  | cons l _ ih =>
    obtain ⟨h1, h2, h3, h4⟩ := ih
    refine ⟨?_, ?_, ?_, ?_⟩
    · simp only [List.flatten_cons, List.map_cons, renL_append, l.ren, h1]
    · exact okL_app l.ok h2
    · intro c hc
      simp only [List.flatten_cons, List.mem_append] at hc
      exact hc.elim (l.one c) (h3 c)
    · simp only [List.map_cons, h4, ← l.ren, renL_eq, List.length_map]

/-- pieces of one length -/
theorem piece {α : Type} {s : Nat} : ∀ (l : List (List α)) (i : Nat) (x : List α), (∀ y ∈ l, y.length = s) → l[i]? = some x → (l.flatten.drop (i * s)).take s = x
  | [], i, x, _, h => by simp at h
  | y :: l, 0, x, hl, h => by
    simp at h; subst h
    have := hl y (by simp)
    simp [← this]
  | y :: l, i + 1, x, hl, h => by
    have h1 := hl y (by simp)
    have := piece l i x (fun z hz => hl z (by simp [hz])) (by simpa using h)
    rw [List.flatten_cons, show (i + 1) * s = y.length + i * s by rw [h1, Nat.add_mul]; omega, ← List.drop_drop, List.drop_left]
    exact this

/-- pieces of fields -/
theorem fields {α : Type} (P : Program) : ∀ (fs : List Field) (off : Nat) (tot : Nat) (l : List (List α)) (pre : List α), consec P fs off = some tot → pre.length = off → l.map List.length = fs.map (fun f => P.cellsOf f.type) →
    tot = off + l.flatten.length ∧ ∀ (i : Nat) (f : Field) (x : List α), fs[i]? = some f → l[i]? = some x → ((pre ++ l.flatten).drop f.offset).take (P.cellsOf f.type) = x
  | [], off, tot, l, pre, h, hp, hl => by
    simp at hl; subst hl
    simp [consec] at h
    exact ⟨by simp [h], fun i f x h => by simp at h⟩
  | g :: fs, off, tot, [], pre, h, hp, hl => by simp at hl
  | g :: fs, off, tot, y :: l, pre, h, hp, hl => by
    simp only [List.map_cons, List.cons.injEq] at hl
    simp only [consec] at h
    cases e : Nat.beq g.offset off
    · rw [e] at h; cases h
    · rw [e, cond_true] at h
      have e' := Nat.eq_of_beq_eq_true e
      obtain ⟨h1, h2⟩ := fields P fs (off + P.cellsOf g.type) tot l (pre ++ y) h (by simp [hp, hl.1]) hl.2
      refine ⟨by rw [h1, List.flatten_cons, List.length_append, hl.1]; omega, fun i f x hf hx => ?_⟩
      cases i with
      | zero =>
        simp at hf hx; subst hf; subst hx
        rw [e', ← hp, List.drop_left, List.flatten_cons, ← hl.1, List.take_left]
      | succ i =>
        have := h2 i f x (by simpa using hf) (by simpa using hx)
        rwa [List.append_assoc] at this

/-- the whole out of its pieces -/
theorem cut_all {α : Type} {s : Nat} (k : Nat) (vs : List α) (h : vs.length = k * s) : ((List.range k).map fun i => (vs.drop (i * s)).take s).flatten = vs := by
  induction k generalizing vs with
  | zero => simp at h; subst h; rfl
  | succ k ih =>
    have hk : (k + 1) * s = k * s + s := Nat.succ_mul k s
    rw [List.range_succ, List.map_append, List.flatten_append]
    have h1 := ih (vs.take (k * s)) (by rw [List.length_take, h, hk]; omega)
    have h2 : (List.range k).map (fun i => ((vs.take (k * s)).drop (i * s)).take s) = (List.range k).map fun i => (vs.drop (i * s)).take s := by
      apply List.map_congr_left
      intro i hi
      have hi' : i < k := by simpa using hi
      have : i * s + s ≤ k * s := by rw [← Nat.succ_mul]; exact Nat.mul_le_mul_right s hi'
      rw [List.drop_take, List.take_take, Nat.min_eq_left (by omega)]
    rw [h2] at h1
    rw [h1]
    simp only [List.map_cons, List.map_nil, List.flatten_cons, List.flatten_nil, List.append_nil]
    rw [List.take_of_length_le (l := vs.drop (k * s)) (by rw [List.length_drop, h, hk]; omega), List.take_append_drop]

theorem cut_fields {α : Type} (P : Program) : ∀ (fs : List Field) (off tot : Nat) (vs : List α), consec P fs off = some tot → vs.length = tot → off ≤ tot →
    (fs.map fun f => (vs.drop f.offset).take (P.cellsOf f.type)).flatten = vs.drop off ∧ ∀ f ∈ fs, ((vs.drop f.offset).take (P.cellsOf f.type)).length = P.cellsOf f.type
  | [], off, tot, vs, h, hv, _ => by
    simp [consec] at h
    refine ⟨?_, by simp⟩
    rw [List.drop_of_length_le (by omega)]; rfl
  | g :: fs, off, tot, vs, h, hv, ho => by
    simp only [consec] at h
    cases e : Nat.beq g.offset off
    · rw [e] at h; cases h
    · rw [e, cond_true] at h
      have e' := Nat.eq_of_beq_eq_true e
      have hle : ∀ (fs : List Field) (off tot : Nat), consec P fs off = some tot → off ≤ tot := by
        intro fs
        induction fs with
        | nil => intro off tot h; simp [consec] at h; omega
        | cons f fs ih =>
          intro off tot h
          simp only [consec] at h
          cases e : Nat.beq f.offset off
          · rw [e] at h; cases h
          · rw [e, cond_true] at h
            have := ih _ _ h; omega
      have h3 := hle _ _ _ h
      obtain ⟨h1, h2⟩ := cut_fields P fs (off + P.cellsOf g.type) tot vs h hv h3
      refine ⟨?_, ?_⟩
      · rw [List.map_cons, List.flatten_cons, h1, e', ← List.drop_drop]
        exact List.take_append_drop _ _
      · intro f hf
        rcases List.mem_cons.1 hf with rfl | hf
        · rw [List.length_take, List.length_drop, e', hv]; omega
        · exact h2 f hf

theorem cells_obj {a : Addr} {n : Nat} {vs : List Value} (h : W.cells? 0 a n = some vs) (hn : 0 < n) : vs.length = n ∧ a.spot = none ∧ ∃ cs t fr, W.heap[a.block]? = some (.cells cs t fr) ∧ ∀ i, i < n → cs[a.off + i]? = vs[i]? := by
  obtain ⟨_, hl, hg⟩ := World.cells?_some h
  have key : ∀ i, i < n → ∃ cs t fr, W.heap[a.block]? = some (.cells cs t fr) ∧ (a.add i).spot = none ∧ cs[a.off + i]? = vs[i]? := by
    intro i hi
    have := hg i hi
    have hv : vs[i]? ≠ none := by simp [hl, hi]
    rw [← this] at hv
    unfold World.cell? at hv this
    have hb : (a.add i).block = a.block := by unfold Addr.add; split <;> rfl
    have ho : (a.add i).off = a.off + i := by unfold Addr.add; split <;> simp_all
    rw [hb, ho] at hv this
    cases hc : W.heap[a.block]? with
    | none => rw [hc] at hv; simp at hv
    | some o =>
      rw [hc] at hv this
      cases o with
      | cells c t fr =>
        simp only at hv this
        cases hs : (a.add i).spot with
        | some s => simp [hs] at hv
        | none => rw [hs] at this; exact ⟨c, t, fr, rfl, rfl, by simpa using this⟩
      | _ => simp at hv
  obtain ⟨cs, t, fr, h1, h2, h3⟩ := key 0 hn
  refine ⟨hl, by simpa [Addr.add] using h2, cs, t, fr, h1, fun i hi => ?_⟩
  obtain ⟨cs', t', fr', h1', _, h3'⟩ := key i hi
  rw [h1] at h1'; cases h1'
  exact h3'

/-- a read-only block more -/
theorem Rel.ro {f : Val} {h : H} (r : Rel f h W) (hall : ∀ id o, h.t.get id = some o → o.ro = true) (b : Blk) (hro : b.ro = true) (hty : b.ty = none) (base : Nat) (blk : Nat) {cs : Array Value} {t : TypeId} {fr : Nat × Nat} (hw : W.heap[blk]? = some (.cells cs t fr)) (hroom : base + b.n ≤ cs.size)
    (hc : ∀ i, i < b.n → ∃ v, b.get i = some v ∧ v.one = true ∧ ok h.nx v ∧ cs[base + i]? = some (ren f v)) :
    Rel (f.add h.nx blk base b.n) (h.alloc (.cells b)) W ∧ Grows h f (h.alloc (.cells b)) (f.add h.nx blk base b.n) := by
  have hag := Val.add_agree f h.nx blk base b.n
  refine ⟨⟨fun id o ho => ?_, fun id id' o o' ho ho' hr e => ?_, fun g hg => ?_⟩, ⟨by rw [alloc_nx]; omega, rfl, hag, fun k hk => alloc_get_ne _ _ _ (by omega), fun k o hk ho => ?_⟩⟩
  · rw [alloc_get] at ho
    split at ho
    · rename_i e; subst e; cases ho
      refine ⟨by rw [alloc_nx]; omega, _, by rw [Val.add_blk]; exact hw, .cells (ht := TyOk.none hty) ⟨.inl hro, by rw [Val.add_ext]; exact Nat.le_refl _, by rw [Val.add_ext, Val.add_base]; exact hroom, fun i hi => ?_⟩⟩
      obtain ⟨v, h1, h2, h3, h4⟩ := hc i hi
      exact ⟨v, h1, h2, ok_mono (by rw [alloc_nx]; omega) v h3, by rw [Val.add_base, ← ren_congr hag v h3]; exact h4⟩
    · obtain ⟨hlt, O, hO, hk⟩ := r.obj id o ho
      exact ⟨by rw [alloc_nx]; omega, O, by rw [← (hag id hlt).1]; exact hO, hk.mono hag (by rw [alloc_nx]; omega) hlt⟩
  · rw [alloc_get] at ho ho'
    split at ho
    · cases ho; exact absurd hr (by simp [CObj.ro, hro])
    · have hlt := (r.obj id o ho).1
      exact absurd hr (by simp [hall id o ho])
  · obtain ⟨h1, h2, h3⟩ := r.glob g hg
    exact ⟨by rw [alloc_nx]; omega, by rw [← (hag g h1).1]; exact h2, by rw [← (hag g h1).2.1]; exact h3⟩
  · rw [alloc_get] at ho
    split at ho
    · cases ho; exact hro
    · have := (r.obj k o ho).1; omega

theorem lay : ∀ (n : Nat) (t : TypeId), plainT P n t = true → ∀ vs, Trods enc P W t vs → ∀ h f, Rel f h W → (∀ id o, h.t.get id = some o → o.ro = true) → ∃ h' f' cs, Rel f' h' W ∧ Grows h f h' f' ∧ Laid P h' f' t vs cs
  | 0, t, hp, _, _, _, _, _, _ => by simp [plainT] at hp
  | n + 1, t, hp, vs, ⟨fuel, x, hx⟩, h, f, r, ha => by
    have gr := Grows.refl h f fun k o ho => (r.obj k o ho).1
    cases hu : P.underlying t with
    | none => simp [plainT, hu] at hp
    | some d =>
      cases d with
      | bool =>
        obtain ⟨b, rfl, _⟩ := DataW.trod_bool hu hx
        exact ⟨h, f, [.bool b], r, gr, ⟨rfl, by simp [okL, ok], by simp [CV.one], .bool b hu⟩⟩
      | int k =>
        obtain ⟨m, rfl, _, hw⟩ := DataW.trod_int hu hx
        simp only [Lit.wf, Bool.and_eq_true, decide_eq_true_eq] at hw
        exact ⟨h, f, [.int k m], r, gr, ⟨rfl, by simp [okL, ok], by simp [CV.one], .int k m hu hw.1 hw.2⟩⟩
      | string =>
        obtain ⟨s, rfl, _, hs⟩ := DataW.trod_string hu hx
        refine ⟨h, f, [.str (s.data.toList.map UInt8.toNat)], r, gr, ⟨?_, ?_, by simp [CV.one], .str _ hu ?_ ?_⟩⟩
        · simp only [renL, ren, strV, List.map_map]
          congr 1
          congr 1
          have : (UInt8.ofNat ∘ UInt8.toNat) = id := by funext u; simp
          rw [this]; simp
        · simp only [okL, ok, List.mem_map, and_true]
          rintro _ ⟨u, _, rfl⟩
          exact u.toNat_lt
        · simp only [List.mem_map]
          rintro _ ⟨u, _, rfl⟩
          exact u.toNat_lt
        · rw [List.length_map]; exact hs
      | slice e =>
        simp only [plainT, hu, Bool.and_eq_true] at hp
        have hsz : 0 < P.cellsOf e := Nat.blt_eq.mp hp.1
        rcases DataW.trod_slice hu hx with ⟨rfl, _⟩ | ⟨a, len, cap, elems, rest, m, _, rfl, _, _, hlc, hcap, hel, hE, hR, _⟩
        · exact ⟨h, f, [.nils], r, gr, ⟨rfl, by simp [okL, ok], by simp [CV.one], .nils hu⟩⟩
        · by_cases hc0 : cap = 0
          · have hl0 : len = 0 := by omega
            subst hc0; subst hl0
            have hag : Agree h.nx f { f with odd := fun i => if i = h.nx then a else f.odd i } := fun i hi => by simp [Nat.ne_of_lt hi]
            refine ⟨{ h with nx := h.nx + 1 }, { f with odd := fun i => if i = h.nx then a else f.odd i }, [.sl0 h.nx 0 0 0], ⟨fun id o ho => ?_, r.inj, fun g hg => ?_⟩, ⟨by simp, rfl, hag, fun k hk => rfl, fun k o hk ho => ?_⟩, ⟨?_, ?_, by simp [CV.one], .sl0 _ hu (by simp)⟩⟩
            · obtain ⟨h1, O, h2, h3⟩ := r.obj id o ho
              exact ⟨by simp; omega, O, h2, h3.mono hag (by simp) h1⟩
            · obtain ⟨h1, h2, h3⟩ := r.glob g hg
              exact ⟨by simp; omega, h2, h3⟩
            · exact absurd (r.obj k o ho).1 (by omega)
            · simp [renL, ren]
            · simp [okL, ok]
          · obtain ⟨hr1, hR⟩ := hR rfl
            have hall : ∀ i, i < cap → ∃ vs, W.cells? 0 (a.add (i * P.cellsOf e)) (P.cellsOf e) = some vs ∧ Trods enc P W e vs := by
              intro i hi
              by_cases hil : i < len
              · have := hE i hil
                have he : elems[i]? = some elems[i] := List.getElem?_eq_getElem (by omega)
                rw [he] at this
                obtain ⟨v, h1, h2⟩ := Option.bind_eq_some_iff.1 this
                exact ⟨v, h1, m, _, h2⟩
              · have := hR (i - len) (by omega)
                have he : rest[i - len]? = some rest[i - len] := List.getElem?_eq_getElem (by omega)
                rw [he, show len + (i - len) = i by omega] at this
                obtain ⟨v, h1, h2⟩ := Option.bind_eq_some_iff.1 this
                exact ⟨v, h1, m, _, h2⟩
            have hfn : ∃ V : Nat → List Value, ∀ i, i < cap → W.cells? 0 (a.add (i * P.cellsOf e)) (P.cellsOf e) = some (V i) ∧ Trods enc P W e (V i) :=
              ⟨fun i => if hi : i < cap then Classical.choose (hall i hi) else [], fun i hi => by
                simp only [dif_pos hi]; exact Classical.choose_spec (hall i hi)⟩
            obtain ⟨V, hV⟩ := hfn
            obtain ⟨h1, f1, css, r1, g1, al⟩ := layList (fun t hp vs hT h f r ha => lay n t hp vs hT h f r ha) ((List.range cap).map fun i => (e, V i)) (by
              intro p hp'
              simp only [List.mem_map, List.mem_range] at hp'
              obtain ⟨i, hi, rfl⟩ := hp'
              exact ⟨hp.2, (hV i hi).2⟩) h f r ha
            obtain ⟨hren, hok, hone, hlen⟩ := al.flat
            obtain ⟨hl0, hsp, cells, te, fr, hW0, hg0⟩ := cells_obj (hV 0 (by omega)).1 hsz
            have hsp' : a.spot = none := by simpa [Addr.add] using hsp
            have ha0 : (a.add (0 * P.cellsOf e)) = a := by simp [Addr.add]
            rw [ha0] at hW0
            have hVl : ∀ i, i < cap → (V i).length = P.cellsOf e := fun i hi => (cells_obj (hV i hi).1 hsz).1
            have hcl : ∀ c ∈ css, c.length = P.cellsOf e := by
              intro c hc
              obtain ⟨i, hi, rfl⟩ := List.getElem_of_mem hc
              have hi' : i < cap := by have := al.len; simp at this; omega
              have := congrArg (fun l => l[i]?) hlen
              simp [hi, hi', hVl i hi'] at this
              exact this
            have hfl : css.flatten.length = cap * P.cellsOf e := by
              have := congrArg List.length hren
              rw [renL_eq, List.length_map] at this
              rw [this]
              have : ∀ k, k ≤ cap → ((((List.range k).map fun i => (e, V i)).map Prod.snd).flatten).length = k * P.cellsOf e := by
                intro k
                induction k with
                | zero => intro _; simp
                | succ k ih => intro hk; rw [List.range_succ]; simp only [List.map_append, List.flatten_append, List.length_append, ih (by omega)]; simp [hVl k (by omega), Nat.succ_mul]
              exact this cap (Nat.le_refl _)
            have hcss : css.length = cap := by have := al.len; simp at this; omega
            have hbget : ∀ i, (Blk.mk css.flatten.length css.flatten .nil true none).get i = nth css.flatten i := fun i => by rw [get_list rfl, nth_eq]
            have hat : ∀ i j x, i < cap → nth (css[i]?.getD []) j = some x → (Blk.mk css.flatten.length css.flatten .nil true none).get (i * P.cellsOf e + j) = some x := by
              intro i j x hi hx
              have hci : css[i]? = some css[i] := List.getElem?_eq_getElem (by omega)
              rw [hci, Option.getD_some] at hx
              have hj : j < P.cellsOf e := by
                have : j < css[i].length := by
                  rw [nth_eq] at hx
                  exact (List.getElem?_eq_some_iff.1 hx).1
                rwa [hcl _ (List.getElem_mem _)] at this
              rw [hbget, nth_eq]
              have := piece css i css[i] hcl hci
              rw [nth_eq, ← this, List.getElem?_take, if_pos hj, List.getElem?_drop] at hx
              exact hx
            have hcell : ∀ i, i < cap → ∀ j, j < P.cellsOf e → cells[a.off + (i * P.cellsOf e + j)]? = (V i)[j]? := by
              intro i hi j hj
              obtain ⟨_, _, cs', t', fr', hw', hg'⟩ := cells_obj (hV i hi).1 hsz
              have hb : (a.add (i * P.cellsOf e)).block = a.block := by unfold Addr.add; split <;> rfl
              have ho : (a.add (i * P.cellsOf e)).off = a.off + i * P.cellsOf e := by unfold Addr.add; split <;> simp_all
              rw [hb, hW0] at hw'; cases hw'
              have := hg' j hj
              rw [ho] at this
              rw [← Nat.add_assoc]; exact this
            have hroom : a.off + css.flatten.length ≤ cells.size := by
              have h2 := hcell (cap - 1) (by omega) (P.cellsOf e - 1) (by omega)
              have h3 : (V (cap - 1))[P.cellsOf e - 1]? ≠ none := by simp [hVl (cap - 1) (by omega)]; omega
              rw [← h2] at h3
              have h4 : a.off + ((cap - 1) * P.cellsOf e + (P.cellsOf e - 1)) < cells.size := by
                by_cases q : a.off + ((cap - 1) * P.cellsOf e + (P.cellsOf e - 1)) < cells.size
                · exact q
                · exact absurd (Array.getElem?_eq_none (by omega)) h3
              have h5 : (cap - 1) * P.cellsOf e + P.cellsOf e = cap * P.cellsOf e := by rw [← Nat.succ_mul]; congr 1; omega
              omega
            obtain ⟨r2, g2⟩ := Rel.ro r1 (g1.all ha) (Blk.mk css.flatten.length css.flatten .nil true none) rfl rfl a.off a.block hW0 hroom (fun i hi => by
              have hi' : i < css.flatten.length := hi
              have hgi : (Blk.mk css.flatten.length css.flatten .nil true none).get i = css.flatten[i]? := (hbget i).trans (nth_eq _ _)
              refine ⟨css.flatten[i], by rw [hgi]; exact List.getElem?_eq_getElem hi', hone _ (List.getElem_mem hi'), (okL_iff _ _).1 hok _ (List.getElem_mem hi'), ?_⟩
              have hq : i / P.cellsOf e < cap := (Nat.div_lt_iff_lt_mul hsz).2 (by rw [← hfl]; exact hi')
              have hm : i % P.cellsOf e < P.cellsOf e := Nat.mod_lt _ hsz
              have hdm : i / P.cellsOf e * P.cellsOf e + i % P.cellsOf e = i := by rw [Nat.mul_comm]; exact Nat.div_add_mod i _
              have h6 := hcell _ hq _ hm
              rw [hdm] at h6
              rw [h6]
              have h7 : (renL f1 css.flatten)[i]? = some (ren f1 css.flatten[i]) := by rw [renL_eq, List.getElem?_map, List.getElem?_eq_getElem hi']; rfl
              rw [hren] at h7
              have h8 := piece (((List.range cap).map fun i => (e, V i)).map Prod.snd) (i / P.cellsOf e) (V (i / P.cellsOf e)) (by
                intro y hy
                simp only [List.map_map, List.mem_map, List.mem_range] at hy
                obtain ⟨q, hq', rfl⟩ := hy
                exact hVl q hq') (by rw [List.map_map, List.getElem?_map, List.getElem?_range hq]; rfl)
              rw [← h8, List.getElem?_take, if_pos hm, List.getElem?_drop, hdm]
              exact h7)
            refine ⟨_, _, [.sl h1.nx 0 len (.exact cap)], r2, g1.trans g2, ⟨?_, ?_, by simp [CV.one], ?_⟩⟩
            · simp only [renL, ren, adr, Val.add_blk, Val.add_base, Nat.add_zero]
              have : (⟨a.block, a.off, none⟩ : Addr) = a := by cases a; simp_all
              rw [this]
            · simp only [okL, ok, alloc_nx, and_true]; omega
            · refine .sl h1.nx len cap _ (fun i => css[i]?.getD []) hu (by rw [alloc_nx]; omega) hlc hcap (alloc_blk_same _ _ _ rfl) rfl (fun i hi => ?_) (fun i j x hi hx => hat i j x (by omega) hx) (fun i hi => ?_)
              · have hci : css[i]? = some css[i] := List.getElem?_eq_getElem (by omega)
                simp only [hci, Option.getD_some]
                exact hcl _ (List.getElem_mem _)
              · obtain ⟨c, hc, hl⟩ := al.get i (e, V i) (by rw [List.getElem?_map, List.getElem?_range (by omega)]; rfl)
                simp only [hc, Option.getD_some]
                exact hl.rd.mono g2.nx g2.old
      | struct fs =>
        simp only [plainT, hu, Bool.and_eq_true, List.all_eq_true, beq_iff_eq] at hp
        obtain ⟨xs, m, _, _, hlen, hxl, hf⟩ := DataW.trod_struct hu hx
        obtain ⟨hcut, hcutl⟩ := cut_fields P fs.toList 0 (P.cellsOf t) vs hp.2 hlen (Nat.zero_le _)
        obtain ⟨h1, f1, css, r1, g1, al⟩ := layList (fun t hp vs hT h f r ha => lay n t hp vs hT h f r ha) (fs.toList.map fun fd => (fd.type, (vs.drop fd.offset).take (P.cellsOf fd.type))) (by
          intro p hp'
          simp only [List.mem_map] at hp'
          obtain ⟨fd, hfd, rfl⟩ := hp'
          refine ⟨hp.1 fd hfd, ?_⟩
          obtain ⟨i, hi, rfl⟩ := List.getElem_of_mem hfd
          have := hf i fs[i] (by simp at hi; simp [hi])
          have hi2 : i < xs.length := by rw [hxl]; simpa using hi
          have hxi : xs[i]? = some xs[i] := List.getElem?_eq_getElem hi2
          rw [hxi] at this
          exact ⟨m, _, by simpa using this⟩) h f r ha
        obtain ⟨hren, hok, hone, hl⟩ := al.flat
        have hmap : css.map List.length = fs.toList.map fun f => P.cellsOf f.type := by
          rw [hl, List.map_map]
          exact List.map_congr_left fun fd hfd => hcutl fd hfd
        obtain ⟨htot, hfl⟩ := fields P fs.toList 0 (P.cellsOf t) css [] hp.2 rfl hmap
        refine ⟨h1, f1, css.flatten, r1, g1, ⟨?_, hok, hone, .struct fs _ hu (by omega) fun fd hfd => ?_⟩⟩
        · rw [hren, List.map_map]
          exact hcut.trans (by simp)
        · obtain ⟨i, hi, rfl⟩ := List.getElem_of_mem hfd
          obtain ⟨c, hc, hL⟩ := al.get i (fs.toList[i].type, (vs.drop fs.toList[i].offset).take (P.cellsOf fs.toList[i].type)) (by simp at hi; simp [hi])
          have := hfl i fs.toList[i] c (List.getElem?_eq_getElem hi) hc
          rw [List.nil_append] at this
          rw [this]
          exact hL.rd
      | array k e =>
        simp only [plainT, hu, Bool.and_eq_true] at hp
        have hke := Nat.eq_of_beq_eq_true hp.2
        obtain ⟨xs, m, _, _, hlen, hxl, hf⟩ := DataW.trod_array hu hx
        obtain ⟨h1, f1, css, r1, g1, al⟩ := layList (fun t hp vs hT h f r ha => lay n t hp vs hT h f r ha) ((List.range k).map fun i => (e, (vs.drop (i * P.cellsOf e)).take (P.cellsOf e))) (by
          intro p hp'
          simp only [List.mem_map, List.mem_range] at hp'
          obtain ⟨i, hi, rfl⟩ := hp'
          refine ⟨hp.1, ?_⟩
          have := hf i hi
          have hxi : xs[i]? = some xs[i] := List.getElem?_eq_getElem (by omega)
          rw [hxi] at this
          exact ⟨m, _, this⟩) h f r ha
        obtain ⟨hren, hok, hone, hl⟩ := al.flat
        have hall : renL f1 css.flatten = vs := by
          rw [hren, List.map_map]
          exact cut_all k vs (by omega)
        have hcl : ∀ c ∈ css, c.length = P.cellsOf e := by
          intro c hc
          obtain ⟨i, hi, rfl⟩ := List.getElem_of_mem hc
          have hi' : i < k := by have := al.len; simp at this; omega
          have := congrArg (fun l => l[i]?) hl
          simp [hi, hi'] at this
          rw [this, hlen, ← hke]
          have : i * P.cellsOf e + P.cellsOf e ≤ k * P.cellsOf e := by rw [← Nat.succ_mul]; exact Nat.mul_le_mul_right _ hi'
          omega
        refine ⟨h1, f1, css.flatten, r1, g1, ⟨hall, hok, hone, .array k _ hu ?_ fun i hi => ?_⟩⟩
        · have := congrArg List.length hall
          rw [renL_eq, List.length_map] at this
          omega
        · obtain ⟨c, hc, hL⟩ := al.get i (e, (vs.drop (i * P.cellsOf e)).take (P.cellsOf e)) (by rw [List.getElem?_map, List.getElem?_range hi]; rfl)
          rw [piece css i c hcl hc]
          exact hL.rd
      | _ => simp [plainT, hu] at hp
end
end
end Go.Cl

namespace Go.Cl
noncomputable section
open Go Go.RowKit

/-- told: closed functions that answer a value -/
def tell (g : FuncId) (v : CV) : Sums := fun f a _ => cond (Nat.beq f g && a.isEmpty) (some (v, none)) none

theorem tell_ok {P : Program} {k : Nat} {g : FuncId} {v : CV} (hP : plainB P = true) (hm : P.follows .mixedOrders = true) (e : (callK P noSums k g [] (h0 0)).map Prod.fst = some v) (ov : okB 0 v = true) : SumOk P (tell g v) := by
  intro f a h w x ht
  unfold tell at ht
  cases hc : (Nat.beq f g && a.isEmpty) with
  | false => rw [hc] at ht; cases ht
  | true =>
    rw [hc] at ht
    simp only [cond_true, Option.some.injEq, Prod.mk.injEq] at ht
    obtain ⟨rfl, rfl⟩ := ht
    simp only [Bool.and_eq_true] at hc
    have := Nat.eq_of_beq_eq_true hc.1
    subst this
    have ha : a = [] := by simpa using hc.2
    subst ha
    rw [callK_eq] at e
    cases hq : callC P noSums k f [] (h0 0) with
    | none => rw [hq] at e; cases e
    | some p =>
      rw [hq] at e
      obtain ⟨v', x'⟩ := p
      simp only [Option.map_some, Option.some.injEq] at e
      subst e
      obtain ⟨h1, h2⟩ := closed_sum hP hm hq ov
      exact ⟨h1, fun fv w rel _ => h2 h fv w rel⟩

theorem tell_other {g : FuncId} {v : CV} : ∀ f a h, f ≠ g → tell g v f a h = none := fun f a h hne => by
  unfold tell
  rw [beq_eq', decide_eq_false hne]; rfl
theorem tell_self {P : Program} {g : FuncId} {v : CV} (h : H) : (lim P (tell g v)).call g [] h = some (v, none) := by
  rw [lim_call]
  unfold callF tell
  rw [beq_eq', decide_eq_true rfl]; rfl

theorem open_calls {P : Program} {σ : Sums} {g : FuncId} {W : World} {h : H} {f : Val} {args : List CV} (hP : plainB P = true) (hm : P.follows .mixedOrders = true) (hσ : SumOk P σ) (rel : Rel f h W)
    (hall : ∀ id o, h.t.get id = some o → o.ro = true) (oa : okL h.nx args) (e : Tru ((lim P σ).call g args h)) :
    Calls P g (renL f args).toArray W fun e W' => e = .returned (.bool true) ∧ Below W.heap.size W W' := by
  obtain ⟨x, e⟩ := e
  obtain ⟨k, hk⟩ := lim_call_some e
  have := callC_sound hσ (plain_of hP) hm hk rel oa
  refine Calls.mono this fun e' W' hp => ?_
  obtain ⟨f', rfl, st, _, _⟩ := hp
  refine ⟨by simp [ren], st.os, st.tape, st.output, st.size, fun j hj => st.frame j hj fun id o ho hro => ?_⟩
  rw [hall id o ho] at hro; cases hro

/-- what a value of a type reads -/
structure Arg (P : Program) (h : H) (t : TypeId) (c : CV) : Prop where
  rd : Rd P h t c.cells
  one : (∃ fs, P.underlying t = some (.struct fs)) ∨ (∃ n e, P.underlying t = some (.array n e)) ∨ c.one = true
  ok : ok h.nx c
  all : c.cells.all CV.one = true

theorem Arg.mono {P : Program} {h h' : H} {t : TypeId} {c : CV} {f f' : Val} (a : Arg P h t c) (g : Grows h f h' f') : Arg P h' t c :=
  ⟨a.rd.mono g.nx g.old, a.one, ok_mono g.nx c a.ok, a.all⟩

section
variable {D : Type} {enc : TypeId × Value → D} {P : Program} {W : World}

theorem layArg {n : Nat} {t : TypeId} {v : Value} {d : DataW D} {ps : List MemPlace} {base : Nat} (hp : plainT P n t = true) (hval : Value.okWide P W .any base t v) (hd : DataW.Trod enc P W 0 (fun _ => true) true t v d ps)
    {h : H} {f : Val} (r : Rel f h W) (ha : ∀ id o, h.t.get id = some o → o.ro = true) : ∃ h' f' c, Rel f' h' W ∧ Grows h f h' f' ∧ ren f' c = v ∧ Arg P h' t c := by
  obtain ⟨fuel, hf⟩ := hd
  obtain ⟨h', f', cs, r', g, l⟩ := lay n t hp v.cells.toList ⟨fuel, _, hf⟩ h f r ha
  by_cases hg : (∃ fs, P.underlying t = some (.struct fs)) ∨ (∃ n e, P.underlying t = some (.array n e))
  · have hv : ∃ cs, v = .agg cs := by
      unfold Value.okWide at hval
      rcases hg with ⟨fs, hu⟩ | ⟨n, e, hu⟩ <;> rw [hu] at hval <;> obtain ⟨cs, h1, _⟩ := hval <;> exact ⟨cs, h1⟩
    obtain ⟨vs, rfl⟩ := hv
    refine ⟨h', f', .agg cs, r', g, ?_, ⟨l.rd, by rcases hg with h | h; exact .inl h; exact .inr (.inl h), by simpa [ok] using l.ok, List.all_eq_true.2 l.one⟩⟩
    have := l.ren
    simp only [Value.cells] at this
    simp only [ren, this]
  · have hv : v.cells = #[v] := by
      cases v with
      | agg vs =>
        exfalso
        unfold Value.okWide at hval
        split at hval
        · rename_i fs hu; exact hg (.inl ⟨fs, hu⟩)
        · rename_i a b hu; exact hg (.inr ⟨a, b, hu⟩)
        · unfold Cell.okWide Cell.ok at hval
          split at hval <;> first | (simp_all; done) | skip
          all_goals (rename_i heq; first | cases heq | skip)
          all_goals simp_all
      | _ => rfl
    have h1 := l.ren
    rw [hv] at h1
    have hl : cs.length = 1 := by have := congrArg List.length h1; simpa [renL_eq] using this
    match cs, hl with
    | [c], _ =>
      have hone := l.one c (by simp)
      have hc : c.cells = [c] := by cases c <;> first | rfl | cases hone
      refine ⟨h', f', c, r', g, by simpa [renL] using h1, ⟨by rw [hc]; exact l.rd, .inr (.inr hone), by simpa [okL] using l.ok, by rw [hc]; simp [hone]⟩⟩

theorem agg_of {c : CV} (h : c.cells.length ≠ 1) : ∃ cs, c = .agg cs := by
  cases c <;> first | exact ⟨_, rfl⟩ | exact absurd rfl h
theorem cells_one {c : CV} (h : c.one = true) : c.cells = [c] := by cases c <;> first | rfl | cases h

theorem Rd.int_inv {h : H} {t : TypeId} {k : IntKind} {cs : List CV} (r : Rd P h t cs) (hu : P.underlying t = some (.int k)) : ∃ n, cs = [.int k n] ∧ k.min ≤ n ∧ n ≤ k.max := by
  cases r with
  | int k' n ht h1 h2 => rw [hu] at ht; cases ht; exact ⟨n, rfl, h1, h2⟩
  | _ => simp_all
theorem Rd.bool_inv {h : H} {t : TypeId} {cs : List CV} (r : Rd P h t cs) (hu : P.underlying t = some .bool) : ∃ b, cs = [.bool b] := by
  cases r with
  | bool b ht => exact ⟨b, rfl⟩
  | _ => simp_all
theorem Rd.str_inv {h : H} {t : TypeId} {cs : List CV} (r : Rd P h t cs) (hu : P.underlying t = some .string) : ∃ s, cs = [.str s] ∧ (∀ x ∈ s, x < 256) ∧ s.length ≤ maxLen := by
  cases r with
  | str s ht h1 h2 => exact ⟨s, rfl, h1, h2⟩
  | _ => simp_all
theorem Rd.struct_inv {h : H} {t : TypeId} {fs : Array Field} {cs : List CV} (r : Rd P h t cs) (hu : P.underlying t = some (.struct fs)) : cs.length = P.cellsOf t ∧ ∀ f ∈ fs.toList, Rd P h f.type ((cs.drop f.offset).take (P.cellsOf f.type)) := by
  cases r with
  | struct fs' cs ht hl hf => rw [hu] at ht; cases ht; exact ⟨hl, hf⟩
  | _ => simp_all
theorem Rd.array_inv {h : H} {t e : TypeId} {k : Nat} {cs : List CV} (r : Rd P h t cs) (hu : P.underlying t = some (.array k e)) : cs.length = P.cellsOf t ∧ ∀ i, i < k → Rd P h e ((cs.drop (i * P.cellsOf e)).take (P.cellsOf e)) := by
  cases r with
  | array k' cs ht hl hf => rw [hu] at ht; cases ht; exact ⟨hl, hf⟩
  | _ => simp_all

theorem Arg.int_inv {h : H} {t : TypeId} {k : IntKind} {c : CV} (a : Arg P h t c) (hu : P.underlying t = some (.int k)) : ∃ n, c = .int k n ∧ k.min ≤ n ∧ n ≤ k.max := by
  have h1 : c.one = true := by rcases a.one with ⟨_, h⟩ | ⟨_, _, h⟩ | h; rw [hu] at h; cases h; rw [hu] at h; cases h; exact h
  have := a.rd
  rw [cells_one h1] at this
  obtain ⟨n, h2, h3⟩ := this.int_inv hu
  exact ⟨n, by simpa using h2, h3⟩
theorem Arg.bool_inv {h : H} {t : TypeId} {c : CV} (a : Arg P h t c) (hu : P.underlying t = some .bool) : ∃ b, c = .bool b := by
  have h1 : c.one = true := by rcases a.one with ⟨_, h⟩ | ⟨_, _, h⟩ | h; rw [hu] at h; cases h; rw [hu] at h; cases h; exact h
  have := a.rd
  rw [cells_one h1] at this
  obtain ⟨n, h2⟩ := this.bool_inv hu
  exact ⟨n, by simpa using h2⟩
theorem Arg.str_inv {h : H} {t : TypeId} {c : CV} (a : Arg P h t c) (hu : P.underlying t = some .string) : ∃ s, c = .str s ∧ (∀ x ∈ s, x < 256) ∧ s.length ≤ maxLen := by
  have h1 : c.one = true := by rcases a.one with ⟨_, h⟩ | ⟨_, _, h⟩ | h; rw [hu] at h; cases h; rw [hu] at h; cases h; exact h
  have := a.rd
  rw [cells_one h1] at this
  obtain ⟨n, h2, h3⟩ := this.str_inv hu
  exact ⟨n, by simpa using h2, h3⟩
theorem Arg.agg_inv {h : H} {t : TypeId} {fs : Array Field} {c : CV} (a : Arg P h t c) (hu : P.underlying t = some (.struct fs)) : Rd P h t c.cells := a.rd

/-- a slice's value: how long, what the elements read -/
theorem Rd.slice_inv {h : H} {t e : TypeId} {s : Nat} {v : CV} (r : Rd P h t [v]) (hu : P.underlying t = some (.slice e)) (hs : szOf P e = some s) :
    ∃ (n : Nat) (xs : Nat → List CV), n ≤ maxLen ∧ (∀ i, i < n → (xs i).length = s ∧ Rd P h e (xs i)) ∧
      ∀ cs : List CV, (∀ i j x, i < n → j < s → nth cs (i * s + j) = some x → nth (xs i) j = some x) → Sl P t h v s n cs := by
  have hc : P.cellsOf e = s := by unfold Program.cellsOf; unfold szOf at hs; rw [hs]; rfl
  generalize hcs : [v] = cs at r
  cases r with
  | nils ht =>
    simp at hcs; subst hcs
    refine ⟨0, fun _ => [], Nat.zero_le _, fun i hi => absurd hi (by omega), fun cs _ => ⟨fun h' ts az => ?_, fun i hi => absurd hi (by omega)⟩⟩
    simp [builtinT, hu, lenC]
  | sl0 id ht hid =>
    simp at hcs; subst hcs
    refine ⟨0, fun _ => [], Nat.zero_le _, fun i hi => absurd hi (by omega), fun cs _ => ⟨fun h' ts az => ?_, fun i hi => absurd hi (by omega)⟩⟩
    simp [builtinT, hu, lenC]
  | sl id len cap b xs ht hid hl hcap hb hro hxl hxg hx =>
    simp at hcs; subst hcs
    rw [hu] at ht; cases ht
    refine ⟨len, xs, by omega, fun i hi => ⟨(hxl i hi).trans hc, hx i hi⟩, fun cs hcs => ⟨fun h' ts az => ?_, fun i hi => ⟨id, i * s, b, fun kd => ?_, hid, hb, hro, fun j x hj hjx => ?_⟩⟩⟩
    · simp [builtinT, hu, lenC]
    · simp only [indexAddrT, hu, Option.bind_some, hs, blt_eq', decide_eq_true hi, cond_true, Nat.zero_add]
    · have := hxg i j x hi (hcs i j x hi hj hjx)
      rwa [hc] at this
  | _ => simp_all

theorem list_of {α : Type} {Q : Nat → α → Prop} : ∀ (n : Nat), (∀ i, i < n → ∃ a, Q i a) → ∃ l : List α, l.length = n ∧ ∀ i a, l[i]? = some a → Q i a
  | 0, _ => ⟨[], rfl, fun i a h => by simp at h⟩
  | n + 1, h => by
    obtain ⟨l, h1, h2⟩ := list_of n fun i hi => h i (by omega)
    obtain ⟨a, ha⟩ := h n (by omega)
    refine ⟨l ++ [a], by simp [h1], fun i b hb => ?_⟩
    rw [List.getElem?_append] at hb
    split at hb
    · exact h2 i b hb
    · have : i = n := by
        have := (List.getElem?_eq_some_iff.1 hb).1
        simp at this; omega
      subst this
      simp [h1] at hb
      subst hb; exact ha
end
end
end Go.Cl

namespace Go.Cl
noncomputable section
open Go Go.RowKit
variable {P : Program} {W : World}

/-- a table of whole numbers, laid as the row says -/
theorem table_of {n : String} {vals : List Int} {g : Nat} {t e : TypeId} {k : IntKind} {N : Nat} (hL : laidMet P [(n, .agg (vals.map fun x => .lit (.int k x)))] W) (hg : P.globalNamed n = some g) (ht : (P.globals[g]?).map (·.type) = some t)
    (hu : P.underlying t = some (.array N e)) (he : P.underlying e = some (.int k)) (hc : P.cellsOf e = 1) (hN : vals.length = N) : ∃ cs ct fr, W.heap[g]? = some (.cells cs ct fr) ∧ N ≤ cs.size ∧ ∀ (i : Nat) (x : Int), vals[i]? = some x → cs[i]? = some (Value.int k x) := by
  obtain ⟨ps, ⟨g0, t0, cs, f0, p0, q0, hg0, ht0, hv, hd, _, _⟩, _, _⟩ := hL
  obtain rfl := Option.some.inj (hg.symm.trans hg0)
  obtain rfl := Option.some.inj (ht.symm.trans ht0)
  have hh : ∃ ct fr, W.heap[g]? = some (.cells cs ct fr) := by
    simp only [World.var?, hg, Option.bind_some] at hv
    split at hv
    · rename_i cs' ct fr hq
      cases hv
      exact ⟨ct, fr, hq⟩
    · cases hv
  obtain ⟨ct, fr, hh⟩ := hh
  obtain ⟨xs, m, rfl, hx, hlen, hn, hel⟩ := DataW.trod_array hu hd
  simp only [Prod.mk.injEq, DataW.agg.injEq] at hx
  have hx1 := hx.1
  have key : ∀ (i : Nat) (x : Int), vals[i]? = some x → cs[i]? = some (Value.int k x) := by
    intro i x hi
    have hil : i < N := by have := (List.getElem?_eq_some_iff.1 hi).1; omega
    obtain ⟨y, hy⟩ : ∃ y, xs[i]? = some y := ⟨_, List.getElem?_eq_getElem (by omega)⟩
    have h1 := hel i hil
    rw [hy, hc] at h1
    obtain ⟨r, e1, e2, _⟩ := DataW.trod_int he h1
    have h2 : (xs.map (·.1))[i]? = some y.1 := by rw [List.getElem?_map, hy]; rfl
    rw [← hx1, List.getElem?_map, hi] at h2
    have h3 : r = x := by
      have : DataW.lit (.int k x) = y.1 := Option.some.inj h2
      rw [e2] at this
      simpa using this.symm
    have h4 : (cs.toList.drop (i * 1)).take 1 = [Value.int k r] := by simpa using e1
    have h5 : cs.toList[i]? = some (Value.int k r) := by
      have : ((cs.toList.drop (i * 1)).take 1)[0]? = some (Value.int k r) := by rw [h4]; rfl
      rw [List.getElem?_take, if_pos (by decide), List.getElem?_drop, Nat.mul_one, Nat.add_zero] at this
      exact this
    rw [← h3, ← Array.getElem?_toList]; exact h5
  refine ⟨cs, ct, fr, hh, ?_, key⟩
  rcases Nat.eq_zero_or_pos N with h0 | h0
  · omega
  · obtain ⟨x, hx⟩ : ∃ x, vals[N - 1]? = some x := ⟨_, List.getElem?_eq_getElem (by omega)⟩
    have := key _ _ hx
    have := (Array.getElem?_eq_some_iff.1 this).1
    omega

/-- the heap with one table -/
def tabB (k : IntKind) (vals : List Int) : Blk := { n := vals.length, d := vals.map fun x => CV.int k x, t := .nil, ro := true }
def tabH (k : IntKind) (vals : List Int) : H := { ((h0 0).alloc (.cells (tabB k vals))) with gn := 1 }
theorem rel1 {k : IntKind} {vals : List Int} {cs : Array Value} {ct : TypeId} {fr : Nat × Nat} (hh : W.heap[0]? = some (.cells cs ct fr)) (hn : vals.length ≤ cs.size) (hv : ∀ (i : Nat) (x : Int), vals[i]? = some x → cs[i]? = some (Value.int k x)) :
    ∃ f, Rel f (tabH k vals) W ∧ (∀ id o, (tabH k vals).t.get id = some o → o.ro = true) ∧ (tabH k vals).blk 0 = some (tabB k vals) := by
  have a0 : ∀ id o, (h0 0).t.get id = some o → o.ro = true := fun id o ho => by rw [show (h0 0).t = T.nil from rfl, T.get_nil] at ho; cases ho
  obtain ⟨r, g⟩ := (rel0 W).ro a0 (tabB k vals) rfl rfl 0 0 hh (by simp [tabB]; exact hn) (fun i hi => by
    have hi' : i < vals.length := hi
    obtain ⟨x, hx⟩ : ∃ x, vals[i]? = some x := ⟨_, List.getElem?_eq_getElem hi'⟩
    refine ⟨.int k x, ?_, rfl, by simp [ok], ?_⟩
    · show (tabB k vals).get i = _
      unfold tabB
      rw [get_list (by simp), List.getElem?_map, hx]; rfl
    · rw [Nat.zero_add, hv i x hx]; simp [ren])
  refine ⟨_, ⟨r.obj, r.inj, fun g hg => ?_⟩, g.all a0, by show ((h0 0).alloc (.cells (tabB k vals))).blk 0 = _; exact alloc_blk_same _ _ _ rfl⟩
  have : g = 0 := by
    have : g < 1 := hg
    omega
  subst this
  exact ⟨by simp [tabH, H.alloc, h0], by simp [Val.add, h0], by simp [Val.add, h0]⟩
theorem tab_load (k : IntKind) (vals : List Int) : (tabB k vals).loadN 0 vals.length = some (vals.map fun x => CV.int k x) := loadN_of _ _ _ (by simp) fun i v hv => by
  unfold tabB
  rw [Nat.zero_add, get_list (by simp), ← hv, nth_eq]
end
end Go.Cl
