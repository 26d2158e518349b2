/- A call with no arguments that the evaluator sees answer true: every run of it returns true, and leaves what stood; calls that read one block of plain cells are run once and told. Conditions as in ClD. -/
import Derived.ChangeSame
import Derived.JoinedOf
import Derived.JoinedAt
import Derived.JoinedStill
import Derived.RowKit
import Derived.ProofKit
import Derived.Test.YteencmkompkkjaaClD
set_option linter.all false
/- A call with no arguments that the evaluator sees answer true: every run of it returns true, and leaves what stood. -/
namespace Go.Cl
open Go Go.RowKit

def plainB (P : Program) : Bool := P.funcs.toList.all fun fn => fn.body.isNone || !(fn.name == "runtime.NumGoroutine")

theorem plain_of {P : Program} (h : plainB P = true) : Plain P := fun f fn hf hb => by
  have hm : fn ∈ P.funcs.toList := by
    rw [← Array.getElem?_toList] at hf
    exact List.mem_of_getElem? hf
  have := List.all_eq_true.1 h fn hm
  simp only [Bool.or_eq_true, Bool.not_eq_true'] at this
  rcases this with h1 | h1
  · cases hq : fn.body with
    | none => rw [hq] at hb; cases hb
    | some _ => rw [hq] at h1; cases h1
  · exact h1

def saysTrue (r : Option (CV × Option H)) : Bool := match r with
  | some (.bool true, _) => true
  | _ => false

def val0 : Val := ⟨fun i => i, fun _ => 0, fun _ => 0, fun _ => ⟨0, 0, none⟩⟩

theorem rel0 (W : World) : Rel val0 (h0 0) W where
  obj := fun i o ho => by
    rw [show (h0 0).t = T.nil from rfl, T.get_nil] at ho; cases ho
  inj := fun i j o o' ho _ _ _ => by
    rw [show (h0 0).t = T.nil from rfl, T.get_nil] at ho; cases ho
  glob := fun g hg => by cases hg

theorem closed_calls {P : Program} {k : Nat} {g : FuncId} (hP : plainB P = true) (hm : P.follows .mixedOrders = true) (e : saysTrue (callK P noSums k g [] (h0 0)) = true) (W : World) :
    Calls P g #[] W fun e W' => e = .returned (.bool true) ∧ Below W.heap.size W W' := by
  rw [callK_eq] at e
  unfold saysTrue at e
  split at e
  · rename_i x hx
    have := callC_sound (noSums_ok P) (plain_of hP) hm hx (rel0 W) (by simp [okL])
    refine Calls.mono this fun e' W' hp => ?_
    obtain ⟨f', rfl, st, _, _⟩ := hp
    refine ⟨by simp [ren], st.os, st.tape, st.output, st.size, fun j hj => st.frame j hj fun id o ho => ?_⟩
    rw [show (h0 0).t = T.nil from rfl, T.get_nil] at ho; cases ho
  · cases e

/-- a call with no arguments that the evaluator sees answer a value that names no block: what it answers, told of it, holds -/
theorem closed_sum {P : Program} {k : Nat} {g : FuncId} {v : CV} {x : Option H} (hP : plainB P = true) (hm : P.follows .mixedOrders = true) (e : callC P noSums k g [] (h0 0) = some (v, x)) (ov : okB 0 v = true) :
    (∃ fn, P.funcs[g]? = some fn ∧ fn.body.isSome = true) ∧ ∀ (h : H) (f : Val) (w : World), Rel f h w → CallsIn Fence.wide 0 P g #[] w (CallPost f h w v none) := by
  obtain ⟨h1, h2⟩ := (all_sound (noSums_ok P) (plain_of hP) hm k).2.2.1 g [] (h0 0) v x e
  refine ⟨h1, fun h f w rel => ?_⟩
  refine CallsIn.mono (h2 val0 w (rel0 w) (by simp [okL])) fun e' w' hp => ?_
  obtain ⟨f', rfl, st, _, _⟩ := hp
  have o0 := ok_of_okB _ ov
  have hk : Keeps w w' := ⟨st.os, st.tape, st.output, st.size, fun j hj => st.frame j hj fun id o ho => by
    rw [show (h0 0).t = T.nil from rfl, T.get_nil] at ho; cases ho⟩
  refine ⟨f, ?_, Step.keeps rel hk, ok_mono (Nat.zero_le _) _ o0, fun _ => rfl⟩
  rw [ren_congr (f := f') (g := f) (n := 0) (fun i hi => by omega) v o0]
end Go.Cl

/- Calls that read one block of plain cells, or none: each is run once, and told where it comes up again. -/
namespace Go.Cl
open Go Go.RowKit

/-- a list told by its cells, and how often each stands there -/
def rl : List (CV × Nat) → List CV
  | [] => []
  | p :: l => List.replicate p.2 p.1 ++ rl l
/-- a call: its function, the cells of the block that its first argument names (none: it names no block), its arguments (over block 0), what it answers -/
structure ME where
  f : FuncId
  cont : List CV
  args : List CV
  v : CV
def hOf (cont : List CV) : H := match cont with
  | [] => h0 0
  | c :: l => { h0 0 with nx := 1, t := T.nil.set 0 (.cells { newBlk (c :: l) with ro := true }) }
def contOf (h : H) : List CV → Option (List CV × List CV)
  | .sl id off l c :: rest => (h.blk id).bind fun b => (b.loadN 0 b.n).bind fun cs => some (cs, .sl 0 off l c :: rest)
  | args => some ([], args)
def matchM (e : ME) (args : List CV) (h : H) : Bool := match contOf h args with
  | some p => beqCL p.2 e.args && beqCL p.1 e.cont
  | none => false
def memoM : List ME → FuncId → List CV → H → Option CV
  | [], _, _, _ => none
  | e :: l, f, a, h => cond (Nat.beq f e.f) (cond (matchM e a h) (some e.v) (memoM l f a h)) (memoM l f a h)
def memoL (L : List ME) : Sums := fun f args h => (memoM L f args h).map fun v => (v, none)
def okM (P : Program) (σ : Sums) (k : Nat) (e : ME) : Bool :=
  (match callK P σ k e.f e.args (hOf e.cont) with
   | some (v, _) => beqC v e.v
   | none => false) && okBL 0 e.cont && okB 0 e.v && (match e.args with | .sl id _ _ _ :: rest => Nat.beq id 0 && okBL 0 rest && !e.cont.isEmpty | args => okBL 0 args && e.cont.isEmpty)
def MsOk (P : Program) (σ : Sums) (k : Nat) : List ME → Prop
  | [] => True
  | e :: l => okM P σ k e = true ∧ MsOk P σ k l
theorem memoM_mem {P : Program} {σ : Sums} {k : Nat} : ∀ {L : List ME} {f : FuncId} {a : List CV} {h : H} {v : CV}, MsOk P σ k L → memoM L f a h = some v → ∃ e : ME, e.f = f ∧ matchM e a h = true ∧ e.v = v ∧ okM P σ k e = true
  | [], _, _, _, _, _, h => by cases h
  | e :: l, f, a, h, v, m, q => by
    simp only [memoM] at q
    cases h1 : Nat.beq f e.f with
    | false => rw [h1] at q; exact memoM_mem m.2 q
    | true =>
      rw [h1, cond_true] at q
      cases h2 : matchM e a h with
      | false => rw [h2] at q; exact memoM_mem m.2 q
      | true =>
        rw [h2, cond_true] at q
        cases q
        exact ⟨e, (Nat.eq_of_beq_eq_true h1).symm, h2, rfl, m.1⟩
def fOf (f : Val) (id : Nat) : Val := ⟨fun _ => f.blk id, fun _ => f.base id, fun _ => f.ext id, f.odd⟩
theorem newBlk_loaded {b : Blk} {cs : List CV} (hl : b.loadN 0 b.n = some cs) : (newBlk cs).n = b.n ∧ ∀ i, i < b.n → (newBlk cs).get i = b.get i := by
  obtain ⟨h1, h2⟩ := loadN_spec hl
  refine ⟨by rw [newBlk_n, h1], fun i hi => ?_⟩
  have := h2 i hi
  rw [Nat.zero_add] at this
  rw [get_new, this]
theorem rel_of {f : Val} {h : H} {w : World} (r : Rel f h w) {id : Nat} {b : Blk} {cs : List CV} (hb : h.blk id = some b) (hl : b.loadN 0 b.n = some cs) (hc : okBL 0 cs = true) (hne : cs ≠ []) :
    Rel (fOf f id) (hOf cs) w ∧ ∀ i o, (hOf cs).t.get i = some o → o.ro = true := by
  have ht : h.t.get id = some (.cells b) := by
    unfold H.blk at hb
    split at hb
    · rename_i q; cases hb; exact q
    · cases hb
  obtain ⟨_, O, hw, hO⟩ := r.obj id _ ht
  obtain ⟨n1, n2⟩ := newBlk_loaded hl
  have oc := okL_of_okB _ hc
  obtain ⟨_, hget⟩ := loadN_spec hl
  have hh : ∀ i o, (hOf cs).t.get i = some o → i = 0 ∧ o = .cells { newBlk cs with ro := true } := fun i o ho => by
    cases cs with
    | nil => exact absurd rfl hne
    | cons c l =>
      have ho : (T.nil.set 0 (CObj.cells { newBlk (c :: l) with ro := true })).get i = some o := ho
      rw [T.get_set] at ho
      split at ho
      · rename_i q; cases ho; exact ⟨q, rfl⟩
      · rw [T.get_nil] at ho; cases ho
  have hnx : (hOf cs).nx = 1 := by cases cs with | nil => exact absurd rfl hne | cons c l => rfl
  have hgn : (hOf cs).gn = 0 := by cases cs with | nil => rfl | cons c l => rfl
  refine ⟨⟨fun i o ho => ?_, fun i j o o' ho ho' hro _ => ?_, fun g hg => ?_⟩, fun i o ho => ?_⟩
  · obtain ⟨rfl, rfl⟩ := hh i o ho
    refine ⟨by rw [hnx]; exact Nat.one_pos, O, hw, ?_⟩
    cases hO with
    | cells B =>
      refine .cells ⟨.inl rfl, ?_, B.room, fun i hi => ?_⟩
      · show (newBlk cs).n ≤ f.ext id
        rw [n1]; exact B.ext
      · have hi : i < b.n := by rw [← n1]; exact hi
        obtain ⟨v, q1, q2, q3, q4⟩ := B.cell i hi
        have hv : cs[i]? = some v := by
          have := hget i hi
          rw [Nat.zero_add] at this
          rw [← this]; exact q1
        have ov : ok 0 v := (okL_iff 0 _).1 oc v (List.mem_of_getElem? hv)
        refine ⟨v, ?_, q2, ok_mono (Nat.zero_le _) _ ov, ?_⟩
        · show (newBlk cs).get i = some v
          rw [n2 i hi]; exact q1
        · rw [ren_congr (f := fOf f id) (g := f) (n := 0) (fun i hi => absurd hi (Nat.not_lt_zero i)) v ov]
          exact q4
  · rw [(hh i o ho).1, (hh j o' ho').1]
  · rw [hgn] at hg; exact absurd hg (Nat.not_lt_zero g)
  · rw [(hh i o ho).2]; rfl
theorem memoL_ok {P : Program} {σ : Sums} {k : Nat} {L : List ME} (hP : plainB P = true) (hm : P.follows .mixedOrders = true) (hσ : SumOk P σ) (hL : MsOk P σ k L) : SumOk P (memoL L) := by
  intro g args h v x e
  unfold memoL at e
  cases hq : memoM L g args h with
  | none => rw [hq] at e; cases e
  | some v0 =>
    rw [hq] at e
    cases e
    obtain ⟨en, rfl, hma, rfl, hok⟩ := memoM_mem hL hq
    unfold okM at hok
    simp only [Bool.and_eq_true] at hok
    obtain ⟨⟨⟨h1, h2⟩, h3⟩, h4⟩ := hok
    cases hc : callK P σ k en.f en.args (hOf en.cont) with
    | none => rw [hc] at h1; cases h1
    | some p =>
      obtain ⟨v1, x1⟩ := p
      rw [hc] at h1
      have := beqC_eq _ _ h1
      subst this
      rw [callK_eq] at hc
      obtain ⟨a1, a2⟩ := (all_sound hσ (plain_of hP) hm k).2.2.1 _ _ _ _ _ hc
      refine ⟨a1, fun f w r oa => ?_⟩
      have ov := ok_of_okB _ h3
      obtain ⟨f1, r1, hro, hr, o1⟩ : ∃ f1, Rel f1 (hOf en.cont) w ∧ (∀ i o, (hOf en.cont).t.get i = some o → o.ro = true) ∧ renL f1 en.args = renL f args ∧ okL (hOf en.cont).nx en.args := by
        unfold matchM at hma
        cases hco : contOf h args with
        | none => rw [hco] at hma; cases hma
        | some p =>
          rw [hco] at hma
          simp only [Bool.and_eq_true] at hma
          obtain ⟨m1, m2⟩ := hma
          have m1 := beqCL_eq _ _ m1
          have m2 := beqCL_eq _ _ m2
          have plain : ∀ (a : List CV), args = a → p = ([], a) → okBL 0 a = true → ∃ f1, Rel f1 (hOf en.cont) w ∧ (∀ i o, (hOf en.cont).t.get i = some o → o.ro = true) ∧ renL f1 en.args = renL f args ∧ okL (hOf en.cont).nx en.args := fun a ha hp hoa => by
            subst ha
            rw [hp] at m1 m2
            have o0 := okL_of_okB _ hoa
            rw [← m1, ← m2]
            refine ⟨val0, rel0 w, fun i o ho => ?_, renL_congr (n := 0) (fun i hi => absurd hi (Nat.not_lt_zero i)) _ o0, okL_mono (Nat.zero_le _) _ o0⟩
            have ho : (h0 0).t.get i = some o := ho
            rw [show (h0 0).t = T.nil from rfl, T.get_nil] at ho; cases ho
          unfold contOf at hco
          split at hco
          · rename_i id off l c rest
            cases hb : h.blk id with
            | none => rw [hb] at hco; cases hco
            | some b =>
              rw [hb] at hco
              simp only [Option.bind_some] at hco
              cases hl : b.loadN 0 b.n with
              | none => rw [hl] at hco; cases hco
              | some cs =>
                rw [hl] at hco
                simp only [Option.bind_some] at hco
                cases hco
                rw [← m1] at h4
                simp only [Bool.and_eq_true] at h4
                obtain ⟨⟨_, h5⟩, h6⟩ := h4
                have hne : cs ≠ [] := fun q => by
                  rw [← m2] at h6
                  rw [q] at h6
                  cases h6
                simp only at m2
                rw [← m2] at h2
                obtain ⟨R, hro⟩ := rel_of r hb hl h2 hne
                rw [← m2]
                have o0 := okL_of_okB _ h5
                have hnx : (hOf cs).nx = 1 := by cases cs with | nil => exact absurd rfl hne | cons c l => rfl
                refine ⟨fOf f id, R, hro, ?_, ?_⟩
                · rw [← m1]
                  simp only [renL]
                  rw [renL_congr (f := fOf f id) (g := f) (n := 0) (fun i hi => absurd hi (Nat.not_lt_zero i)) _ o0]
                  congr 1
                  cases c <;> rfl
                · rw [← m1, hnx]
                  exact ⟨Nat.one_pos, okL_mono (Nat.zero_le _) _ o0⟩
          · rename_i hno
            cases hco
            rw [← m1] at h4
            split at h4
            · rename_i id off l c rest q
              exact absurd q (hno id off l c rest)
            · simp only [Bool.and_eq_true] at h4
              exact plain _ rfl rfl h4.1
      have c := a2 f1 w r1 o1
      rw [hr] at c
      refine CallsIn.mono c fun e' w' hp => ?_
      obtain ⟨f', rfl, st, _, _⟩ := hp
      have hk : Keeps w w' := ⟨st.os, st.tape, st.output, st.size, fun j hj => st.frame j hj fun id o ho hr' => by
        rw [hro id o ho] at hr'; cases hr'⟩
      refine ⟨f, ?_, Step.keeps r hk, ok_mono (Nat.zero_le _) _ ov, fun _ => rfl⟩
      rw [ren_congr (f := f') (g := f) (n := 0) (fun i hi => absurd hi (Nat.not_lt_zero i)) _ ov]
theorem closed_callsS {P : Program} {σ : Sums} {k : Nat} {g : FuncId} (hσ : SumOk P σ) (hP : plainB P = true) (hm : P.follows .mixedOrders = true) (e : saysTrue (callK P σ k g [] (h0 0)) = true) (W : World) :
    Calls P g #[] W fun e W' => e = .returned (.bool true) ∧ Below W.heap.size W W' := by
  rw [callK_eq] at e
  unfold saysTrue at e
  split at e
  · rename_i x hx
    have := callC_sound hσ (plain_of hP) hm hx (rel0 W) (by simp [okL])
    refine Calls.mono this fun e' W' hp => ?_
    obtain ⟨f', rfl, st, _, _⟩ := hp
    refine ⟨by simp [ren], st.os, st.tape, st.output, st.size, fun j hj => st.frame j hj fun id o ho => ?_⟩
    rw [show (h0 0).t = T.nil from rfl, T.get_nil] at ho; cases ho
  · cases e
end Go.Cl
