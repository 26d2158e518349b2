/- gemel, the law ArbiterMeans: the given statement 'ArbiterMeansSaid': whatever the steps, the call returns true in every run, and the argument reads as it did. Conditions: none.
   How: the evaluator's run by rewriting (the texts before), the arguments laid (ClArg), and callC_sound. -/
import Derived.Test.YtbdokmhibgpjhaaRows
import Derived.Test.YtbdokmhibgpjhaaClH
set_option linter.all false
open Go Go.Cl Go.Proofs
namespace Go.Cl.A
variable {σ : Sums}

/-- the cells of grants -/
def gcells : List (Int × Bool) → List CV
  | [] => []
  | g :: l => .int .i64 g.1 :: .bool g.2 :: gcells l
theorem gcells_len : ∀ l, (gcells l).length = l.length * 2
  | [] => rfl
  | g :: l => by simp [gcells, gcells_len l]; omega
theorem gcells_app : ∀ l k, gcells (l ++ k) = gcells l ++ gcells k
  | [], k => rfl
  | g :: l, k => by simp [gcells, gcells_app l k]

structure ArbAt (h : H) (a lid : Nat) (tk : Bool) (ho : Int) (gs : List (Int × Bool)) : Prop where
  lt : a < h.nx
  ne : gs.length ≠ 0 → a ≠ lid
  blk : ∃ b v, h.blk a = some b ∧ b.ro = false ∧ b.n = 4 ∧ b.get 0 = some (.bool true) ∧ b.get 1 = some (.bool tk) ∧ b.get 2 = some (.int .i64 ho) ∧ b.get 3 = some v ∧ Lst h 2 v lid gs.length (gcells gs)

/-- what a method leaves besides: blocks other than these -/
structure Fr (h h' : H) (a lid : Nat) : Prop where
  nx : h.nx ≤ h'.nx
  gn : h'.gn = h.gn
  old : ∀ id, id < h.nx → id ≠ a → id ≠ lid → h'.t.get id = h.t.get id

theorem Fr.refl (h : H) (a lid : Nat) : Fr h h a lid := ⟨Nat.le_refl _, rfl, fun _ _ _ _ => rfl⟩

theorem none_run (hσ : ∀ f a h, f ≠ 9 → σ f a h = none) {h : H} {a : Nat} {b : Blk} (hb : h.blk a = some b) (h0 : b.get 0 = some (.bool true)) :
    (lim Try.prog σ).call 45 [.ptr a 0] h = some (.bool false, none) := by
  rw [call_eq (hσ _ _ _ (by decide)) fn_45 rfl rfl, Try.ntmps45, Try.results45]
  simp only [go_sem, Nat.reduceLT, Nat.reduceLeDiff, Nat.reduceEqDiff, Nat.reduceAdd, Nat.reduceSub, Nat.reduceMul, reduceCtorEq, Int.reduceBEq, Int.reduceLT, Int.reduceLE, Int.reduceAdd, Int.reduceSub, Int.reduceEq, Int.reduceNeg, Int.reduceToNat, Int.reduceGT, Int.reduceGE, hb, h0]
  rw [fin_q _ _ _ rfl rfl]

theorem asked_run (hσ : ∀ f a h, f ≠ 9 → σ f a h = none) {h : H} {a : Nat} {b : Blk} (hb : h.blk a = some b) (h0 : b.get 0 = some (.bool true)) (node : Int) :
    (lim Try.prog σ).call 44 [.ptr a 0, .int .i64 node] h = some (.int .i64 (if node = 0 ∨ node = 1 then 0 else 2), none) := by
  rw [call_eq (hσ _ _ _ (by decide)) fn_44 rfl rfl, Try.ntmps44, Try.results44]
  have e := none_run hσ (h := h.lo) (a := a) hb h0
  by_cases h1 : node = 0
  · simp only [go_sem, Nat.reduceLT, Nat.reduceLeDiff, Nat.reduceEqDiff, Nat.reduceAdd, Nat.reduceSub, Nat.reduceMul, reduceCtorEq, Int.reduceBEq, Int.reduceLT, Int.reduceLE, Int.reduceAdd, Int.reduceSub, Int.reduceEq, Int.reduceNeg, Int.reduceToNat, Int.reduceGT, Int.reduceGE, e, h1, true_or, if_true]
    rw [fin_q _ _ _ rfl rfl]
  · by_cases h2 : node = 1
    · simp only [go_sem, Nat.reduceLT, Nat.reduceLeDiff, Nat.reduceEqDiff, Nat.reduceAdd, Nat.reduceSub, Nat.reduceMul, reduceCtorEq, Int.reduceBEq, Int.reduceLT, Int.reduceLE, Int.reduceAdd, Int.reduceSub, Int.reduceEq, Int.reduceNeg, Int.reduceToNat, Int.reduceGT, Int.reduceGE, e, h1, h2, or_true, if_true]
      rw [fin_q _ _ _ rfl rfl]
    · simp only [go_sem, Nat.reduceLT, Nat.reduceLeDiff, Nat.reduceEqDiff, Nat.reduceAdd, Nat.reduceSub, Nat.reduceMul, reduceCtorEq, Int.reduceBEq, Int.reduceLT, Int.reduceLE, Int.reduceAdd, Int.reduceSub, Int.reduceEq, Int.reduceNeg, Int.reduceToNat, Int.reduceGT, Int.reduceGE, e, h1, h2, or_self, if_false]
      rw [fin_q _ _ _ rfl rfl]

def TakeOk (h : H) (a lid : Nat) (tk : Bool) (ho : Int) (gs : List (Int × Bool)) (node : Int) (r : Option (CV × Option H)) : Prop :=
    ∃ c e x tk' ho' gs' lid', r = some (.tup [.bool c, .int .i64 e], x) ∧ ArbAt (x.getD h) a lid' tk' ho' gs' ∧ Fr h (x.getD h) a lid ∧ (lid' = lid ∨ h.nx ≤ lid') ∧
      (c, e, tk', ho', gs') = (if node = 0 ∨ node = 1 then (if tk then (if ho = node then (false, 0, tk, ho, gs) else (false, 12, tk, ho, gs)) else (true, 0, true, node, gs ++ [(node, true)])) else (false, 2, tk, ho, gs))

theorem take_run (hσ : ∀ f a h, f ≠ 9 → σ f a h = none) {h : H} {a lid : Nat} {tk : Bool} {ho : Int} {gs : List (Int × Bool)} (A : ArbAt h a lid tk ho gs) (node : Int) (room : gs.length < 1000000) :
    TakeOk h a lid tk ho gs node ((lim Try.prog σ).call 11 [.ptr a 0, .int .i64 node] h) := by
  obtain ⟨b, v, hb, hro, hn, h0, h1, h2, h3, hl⟩ := A.blk
  have e := asked_run hσ (h := h.lo) (a := a) hb h0 node
  have ha : a ≠ h.nx := Nat.ne_of_lt A.lt
  have hlt := A.lt
  rw [call_eq (hσ _ _ _ (by decide)) fn_11 rfl rfl, Try.ntmps11, Try.results11]
  by_cases hnode : node = 0 ∨ node = 1
  · rw [if_pos hnode] at e
    cases tk
    · simp only [go_sem, Nat.reduceLT, Nat.reduceLeDiff, Nat.reduceEqDiff, Nat.reduceAdd, Nat.reduceSub, Nat.reduceMul, reduceCtorEq, Int.reduceBEq, Int.reduceLT, Int.reduceLE, Int.reduceAdd, Int.reduceSub, Int.reduceEq, Int.reduceNeg, Int.reduceToNat, Int.reduceGT, Int.reduceGE, e, hb, h0, h1, h2, h3, hro, hn, ha]
      have hX : ∀ o o1 o2, Lst (((h.lo.put a o).put a o1).alloc o2) 2 v lid gs.length (gcells gs) := fun o o1 o2 => by
        refine hl.mono (by first | (simp only [go_sem, Nat.reduceLT, Nat.reduceLeDiff, Nat.reduceEqDiff, Nat.reduceAdd, Nat.reduceSub, Nat.reduceMul, reduceCtorEq, Int.reduceBEq, Int.reduceLT, Int.reduceLE, Int.reduceAdd, Int.reduceSub, Int.reduceEq, Int.reduceNeg, Int.reduceToNat, Int.reduceGT, Int.reduceGE]; omega) | simp only [go_sem, Nat.reduceLT, Nat.reduceLeDiff, Nat.reduceEqDiff, Nat.reduceAdd, Nat.reduceSub, Nat.reduceMul, reduceCtorEq, Int.reduceBEq, Int.reduceLT, Int.reduceLE, Int.reduceAdd, Int.reduceSub, Int.reduceEq, Int.reduceNeg, Int.reduceToNat, Int.reduceGT, Int.reduceGE]) fun hne => ?_
        have h1 := A.ne hne
        have h2 : lid < h.nx := by rcases hl.val with ⟨h, _⟩ | ⟨_, _, h, _⟩
                                   · omega
                                   · exact h
        have h3 : lid ≠ a := fun q => h1 q.symm
        have h4 : lid ≠ h.nx := Nat.ne_of_lt h2
        simp only [go_sem, Nat.reduceLT, Nat.reduceLeDiff, Nat.reduceEqDiff, Nat.reduceAdd, Nat.reduceSub, Nat.reduceMul, reduceCtorEq, Int.reduceBEq, Int.reduceLT, Int.reduceLE, Int.reduceAdd, Int.reduceSub, Int.reduceEq, Int.reduceNeg, Int.reduceToNat, Int.reduceGT, Int.reduceGE, h3, h4]
      refine app_step (Q := TakeOk h a lid false ho gs node) (m := 1) (by_ := 16) (hX _ _ _) ?_ ?_ ?_ ?_ ?_ ?_ ?_ ?_
      · decide
      · rfl
      · rfl
      · rfl
      · decide
      · omega
      · omega
      intro h' l' hnx hgn hold hlow hlow2
      simp only [go_sem, Nat.reduceLT, Nat.reduceLeDiff, Nat.reduceEqDiff, Nat.reduceAdd, Nat.reduceSub, Nat.reduceMul, reduceCtorEq, Int.reduceBEq, Int.reduceLT, Int.reduceLE, Int.reduceAdd, Int.reduceSub, Int.reduceEq, Int.reduceNeg, Int.reduceToNat, Int.reduceGT, Int.reduceGE] at l' hnx hgn hold hlow
      have hb' := blk_eq (hold a (by omega) A.ne)
      have ha' : a ≠ h.nx + 1 := by omega
      simp only [go_sem, Nat.reduceLT, Nat.reduceLeDiff, Nat.reduceEqDiff, Nat.reduceAdd, Nat.reduceSub, Nat.reduceMul, reduceCtorEq, Int.reduceBEq, Int.reduceLT, Int.reduceLE, Int.reduceAdd, Int.reduceSub, Int.reduceEq, Int.reduceNeg, Int.reduceToNat, Int.reduceGT, Int.reduceGE, ha] at hb'
      have hlow3 : (min h'.low a) < h.nx := by omega
      simp only [go_sem, Nat.reduceLT, Nat.reduceLeDiff, Nat.reduceEqDiff, Nat.reduceAdd, Nat.reduceSub, Nat.reduceMul, reduceCtorEq, Int.reduceBEq, Int.reduceLT, Int.reduceLE, Int.reduceAdd, Int.reduceSub, Int.reduceEq, Int.reduceNeg, Int.reduceToNat, Int.reduceGT, Int.reduceGE, hb', hro, hn, l'.one]
      rw [fin_l _ _ _ (by first | (simp only [go_sem, Nat.reduceLT, Nat.reduceLeDiff, Nat.reduceEqDiff, Nat.reduceAdd, Nat.reduceSub, Nat.reduceMul, reduceCtorEq, Int.reduceBEq, Int.reduceLT, Int.reduceLE, Int.reduceAdd, Int.reduceSub, Int.reduceEq, Int.reduceNeg, Int.reduceToNat, Int.reduceGT, Int.reduceGE]; omega) | simp only [go_sem, Nat.reduceLT, Nat.reduceLeDiff, Nat.reduceEqDiff, Nat.reduceAdd, Nat.reduceSub, Nat.reduceMul, reduceCtorEq, Int.reduceBEq, Int.reduceLT, Int.reduceLE, Int.reduceAdd, Int.reduceSub, Int.reduceEq, Int.reduceNeg, Int.reduceToNat, Int.reduceGT, Int.reduceGE])]
      refine ⟨_, _, _, true, node, gs ++ [(node, true)], h.nx + 1, rfl, ?_, ?_, .inr (by omega), by rw [if_pos hnode]; rfl⟩
      · simp only [go_sem, Nat.reduceLT, Nat.reduceLeDiff, Nat.reduceEqDiff, Nat.reduceAdd, Nat.reduceSub, Nat.reduceMul, reduceCtorEq, Int.reduceBEq, Int.reduceLT, Int.reduceLE, Int.reduceAdd, Int.reduceSub, Int.reduceEq, Int.reduceNeg, Int.reduceToNat, Int.reduceGT, Int.reduceGE]
        refine ⟨by first | (simp only [go_sem, Nat.reduceLT, Nat.reduceLeDiff, Nat.reduceEqDiff, Nat.reduceAdd, Nat.reduceSub, Nat.reduceMul, reduceCtorEq, Int.reduceBEq, Int.reduceLT, Int.reduceLE, Int.reduceAdd, Int.reduceSub, Int.reduceEq, Int.reduceNeg, Int.reduceToNat, Int.reduceGT, Int.reduceGE]; omega) | simp only [go_sem, Nat.reduceLT, Nat.reduceLeDiff, Nat.reduceEqDiff, Nat.reduceAdd, Nat.reduceSub, Nat.reduceMul, reduceCtorEq, Int.reduceBEq, Int.reduceLT, Int.reduceLE, Int.reduceAdd, Int.reduceSub, Int.reduceEq, Int.reduceNeg, Int.reduceToNat, Int.reduceGT, Int.reduceGE], fun _ => (by omega : a ≠ h.nx + 1), _, _, put_blk_same _ _ _, by simp only [go_sem, Nat.reduceLT, Nat.reduceLeDiff, Nat.reduceEqDiff, Nat.reduceAdd, Nat.reduceSub, Nat.reduceMul, reduceCtorEq, Int.reduceBEq, Int.reduceLT, Int.reduceLE, Int.reduceAdd, Int.reduceSub, Int.reduceEq, Int.reduceNeg, Int.reduceToNat, Int.reduceGT, Int.reduceGE, hro], by simp only [go_sem, Nat.reduceLT, Nat.reduceLeDiff, Nat.reduceEqDiff, Nat.reduceAdd, Nat.reduceSub, Nat.reduceMul, reduceCtorEq, Int.reduceBEq, Int.reduceLT, Int.reduceLE, Int.reduceAdd, Int.reduceSub, Int.reduceEq, Int.reduceNeg, Int.reduceToNat, Int.reduceGT, Int.reduceGE, hn], ?_, ?_, ?_, by simp only [go_sem, Nat.reduceLT, Nat.reduceLeDiff, Nat.reduceEqDiff, Nat.reduceAdd, Nat.reduceSub, Nat.reduceMul, reduceCtorEq, Int.reduceBEq, Int.reduceLT, Int.reduceLE, Int.reduceAdd, Int.reduceSub, Int.reduceEq, Int.reduceNeg, Int.reduceToNat, Int.reduceGT, Int.reduceGE, hn]; rfl, ?_⟩
        · simp only [go_sem, Nat.reduceLT, Nat.reduceLeDiff, Nat.reduceEqDiff, Nat.reduceAdd, Nat.reduceSub, Nat.reduceMul, reduceCtorEq, Int.reduceBEq, Int.reduceLT, Int.reduceLE, Int.reduceAdd, Int.reduceSub, Int.reduceEq, Int.reduceNeg, Int.reduceToNat, Int.reduceGT, Int.reduceGE, h0]
        · simp only [go_sem, Nat.reduceLT, Nat.reduceLeDiff, Nat.reduceEqDiff, Nat.reduceAdd, Nat.reduceSub, Nat.reduceMul, reduceCtorEq, Int.reduceBEq, Int.reduceLT, Int.reduceLE, Int.reduceAdd, Int.reduceSub, Int.reduceEq, Int.reduceNeg, Int.reduceToNat, Int.reduceGT, Int.reduceGE, hn]
        · simp only [go_sem, Nat.reduceLT, Nat.reduceLeDiff, Nat.reduceEqDiff, Nat.reduceAdd, Nat.reduceSub, Nat.reduceMul, reduceCtorEq, Int.reduceBEq, Int.reduceLT, Int.reduceLE, Int.reduceAdd, Int.reduceSub, Int.reduceEq, Int.reduceNeg, Int.reduceToNat, Int.reduceGT, Int.reduceGE, hn]
        · rw [List.length_append, gcells_app]
          exact Lst.mono (h := h') l' (by first | (simp only [go_sem, Nat.reduceLT, Nat.reduceLeDiff, Nat.reduceEqDiff, Nat.reduceAdd, Nat.reduceSub, Nat.reduceMul, reduceCtorEq, Int.reduceBEq, Int.reduceLT, Int.reduceLE, Int.reduceAdd, Int.reduceSub, Int.reduceEq, Int.reduceNeg, Int.reduceToNat, Int.reduceGT, Int.reduceGE]; omega) | simp only [go_sem, Nat.reduceLT, Nat.reduceLeDiff, Nat.reduceEqDiff, Nat.reduceAdd, Nat.reduceSub, Nat.reduceMul, reduceCtorEq, Int.reduceBEq, Int.reduceLT, Int.reduceLE, Int.reduceAdd, Int.reduceSub, Int.reduceEq, Int.reduceNeg, Int.reduceToNat, Int.reduceGT, Int.reduceGE]) fun _ => by simp only [go_sem, Nat.reduceLT, Nat.reduceLeDiff, Nat.reduceEqDiff, Nat.reduceAdd, Nat.reduceSub, Nat.reduceMul, reduceCtorEq, Int.reduceBEq, Int.reduceLT, Int.reduceLE, Int.reduceAdd, Int.reduceSub, Int.reduceEq, Int.reduceNeg, Int.reduceToNat, Int.reduceGT, Int.reduceGE, ha'.symm]
      · simp only [go_sem, Nat.reduceLT, Nat.reduceLeDiff, Nat.reduceEqDiff, Nat.reduceAdd, Nat.reduceSub, Nat.reduceMul, reduceCtorEq, Int.reduceBEq, Int.reduceLT, Int.reduceLE, Int.reduceAdd, Int.reduceSub, Int.reduceEq, Int.reduceNeg, Int.reduceToNat, Int.reduceGT, Int.reduceGE]
        refine ⟨by first | (simp only [go_sem, Nat.reduceLT, Nat.reduceLeDiff, Nat.reduceEqDiff, Nat.reduceAdd, Nat.reduceSub, Nat.reduceMul, reduceCtorEq, Int.reduceBEq, Int.reduceLT, Int.reduceLE, Int.reduceAdd, Int.reduceSub, Int.reduceEq, Int.reduceNeg, Int.reduceToNat, Int.reduceGT, Int.reduceGE]; omega) | simp only [go_sem, Nat.reduceLT, Nat.reduceLeDiff, Nat.reduceEqDiff, Nat.reduceAdd, Nat.reduceSub, Nat.reduceMul, reduceCtorEq, Int.reduceBEq, Int.reduceLT, Int.reduceLE, Int.reduceAdd, Int.reduceSub, Int.reduceEq, Int.reduceNeg, Int.reduceToNat, Int.reduceGT, Int.reduceGE], by simp only [go_sem, Nat.reduceLT, Nat.reduceLeDiff, Nat.reduceEqDiff, Nat.reduceAdd, Nat.reduceSub, Nat.reduceMul, reduceCtorEq, Int.reduceBEq, Int.reduceLT, Int.reduceLE, Int.reduceAdd, Int.reduceSub, Int.reduceEq, Int.reduceNeg, Int.reduceToNat, Int.reduceGT, Int.reduceGE, hgn], fun id h1 h2 h3 => ?_⟩
        simp only [go_sem, Nat.reduceLT, Nat.reduceLeDiff, Nat.reduceEqDiff, Nat.reduceAdd, Nat.reduceSub, Nat.reduceMul, reduceCtorEq, Int.reduceBEq, Int.reduceLT, Int.reduceLE, Int.reduceAdd, Int.reduceSub, Int.reduceEq, Int.reduceNeg, Int.reduceToNat, Int.reduceGT, Int.reduceGE]
        rw [put_get_ne _ _ _ _ h2, hold id (by omega) fun _ => h3, alloc_get_ne _ _ _ (by first | (simp only [go_sem, Nat.reduceLT, Nat.reduceLeDiff, Nat.reduceEqDiff, Nat.reduceAdd, Nat.reduceSub, Nat.reduceMul, reduceCtorEq, Int.reduceBEq, Int.reduceLT, Int.reduceLE, Int.reduceAdd, Int.reduceSub, Int.reduceEq, Int.reduceNeg, Int.reduceToNat, Int.reduceGT, Int.reduceGE]; omega) | simp only [go_sem, Nat.reduceLT, Nat.reduceLeDiff, Nat.reduceEqDiff, Nat.reduceAdd, Nat.reduceSub, Nat.reduceMul, reduceCtorEq, Int.reduceBEq, Int.reduceLT, Int.reduceLE, Int.reduceAdd, Int.reduceSub, Int.reduceEq, Int.reduceNeg, Int.reduceToNat, Int.reduceGT, Int.reduceGE]), put_get_ne _ _ _ _ h2, put_get_ne _ _ _ _ h2]
        rfl
    · by_cases hh : ho = node
      · simp only [go_sem, Nat.reduceLT, Nat.reduceLeDiff, Nat.reduceEqDiff, Nat.reduceAdd, Nat.reduceSub, Nat.reduceMul, reduceCtorEq, Int.reduceBEq, Int.reduceLT, Int.reduceLE, Int.reduceAdd, Int.reduceSub, Int.reduceEq, Int.reduceNeg, Int.reduceToNat, Int.reduceGT, Int.reduceGE, e, hb, h0, h1, h2, h3, hh]
        rw [fin_q _ _ _ rfl rfl]
        exact ⟨_, _, _, _, _, _, lid, rfl, A, Fr.refl _ _ _, .inl rfl, by rw [if_pos hnode]; simp [hh]⟩
      · simp only [go_sem, Nat.reduceLT, Nat.reduceLeDiff, Nat.reduceEqDiff, Nat.reduceAdd, Nat.reduceSub, Nat.reduceMul, reduceCtorEq, Int.reduceBEq, Int.reduceLT, Int.reduceLE, Int.reduceAdd, Int.reduceSub, Int.reduceEq, Int.reduceNeg, Int.reduceToNat, Int.reduceGT, Int.reduceGE, e, hb, h0, h1, h2, h3, hh]
        rw [fin_q _ _ _ rfl rfl]
        exact ⟨_, _, _, _, _, _, lid, rfl, A, Fr.refl _ _ _, .inl rfl, by rw [if_pos hnode, if_pos rfl, if_neg hh]⟩
  · rw [if_neg hnode] at e
    simp only [go_sem, Nat.reduceLT, Nat.reduceLeDiff, Nat.reduceEqDiff, Nat.reduceAdd, Nat.reduceSub, Nat.reduceMul, reduceCtorEq, Int.reduceBEq, Int.reduceLT, Int.reduceLE, Int.reduceAdd, Int.reduceSub, Int.reduceEq, Int.reduceNeg, Int.reduceToNat, Int.reduceGT, Int.reduceGE, e]
    rw [fin_q _ _ _ rfl rfl]
    exact ⟨_, _, _, _, _, _, lid, rfl, A, Fr.refl _ _ _, .inl rfl, by rw [if_neg hnode]⟩

def RelOk (h : H) (a lid : Nat) (tk : Bool) (ho : Int) (gs : List (Int × Bool)) (node : Int) (r : Option (CV × Option H)) : Prop :=
    ∃ c e x tk' ho' gs' lid', r = some (.tup [.bool c, .int .i64 e], x) ∧ ArbAt (x.getD h) a lid' tk' ho' gs' ∧ Fr h (x.getD h) a lid ∧ (lid' = lid ∨ h.nx ≤ lid') ∧
      (c, e, tk', ho', gs') = (if node = 0 ∨ node = 1 then (if tk ∧ ho = node then (true, 0, false, 0, gs ++ [(node, false)]) else (false, 0, tk, ho, gs)) else (false, 2, tk, ho, gs))

theorem release_run (hσ : ∀ f a h, f ≠ 9 → σ f a h = none) {h : H} {a lid : Nat} {tk : Bool} {ho : Int} {gs : List (Int × Bool)} (A : ArbAt h a lid tk ho gs) (node : Int) (room : gs.length < 1000000) :
    RelOk h a lid tk ho gs node ((lim Try.prog σ).call 12 [.ptr a 0, .int .i64 node] h) := by
  obtain ⟨b, v, hb, hro, hn, h0, h1, h2, h3, hl⟩ := A.blk
  have e := asked_run hσ (h := h.lo) (a := a) hb h0 node
  have ha : a ≠ h.nx := Nat.ne_of_lt A.lt
  have hlt := A.lt
  rw [call_eq (hσ _ _ _ (by decide)) fn_12 rfl rfl, Try.ntmps12, Try.results12]
  by_cases hnode : node = 0 ∨ node = 1
  · rw [if_pos hnode] at e
    cases tk
    · simp only [go_sem, Nat.reduceLT, Nat.reduceLeDiff, Nat.reduceEqDiff, Nat.reduceAdd, Nat.reduceSub, Nat.reduceMul, reduceCtorEq, Int.reduceBEq, Int.reduceLT, Int.reduceLE, Int.reduceAdd, Int.reduceSub, Int.reduceEq, Int.reduceNeg, Int.reduceToNat, Int.reduceGT, Int.reduceGE, e, hb, h0, h1, h2, h3]
      rw [fin_q _ _ _ rfl rfl]
      exact ⟨_, _, _, _, _, _, lid, rfl, A, Fr.refl _ _ _, .inl rfl, by rw [if_pos hnode]; simp⟩
    · by_cases hh : ho = node
      · subst hh
        simp only [go_sem, Nat.reduceLT, Nat.reduceLeDiff, Nat.reduceEqDiff, Nat.reduceAdd, Nat.reduceSub, Nat.reduceMul, reduceCtorEq, Int.reduceBEq, Int.reduceLT, Int.reduceLE, Int.reduceAdd, Int.reduceSub, Int.reduceEq, Int.reduceNeg, Int.reduceToNat, Int.reduceGT, Int.reduceGE, e, hb, h0, h1, h2, h3, hro, hn, ha]
        have hX : ∀ o o1 o2, Lst (((h.lo.put a o).put a o1).alloc o2) 2 v lid gs.length (gcells gs) := fun o o1 o2 => by
          refine hl.mono (by first | (simp only [go_sem, Nat.reduceLT, Nat.reduceLeDiff, Nat.reduceEqDiff, Nat.reduceAdd, Nat.reduceSub, Nat.reduceMul, reduceCtorEq, Int.reduceBEq, Int.reduceLT, Int.reduceLE, Int.reduceAdd, Int.reduceSub, Int.reduceEq, Int.reduceNeg, Int.reduceToNat, Int.reduceGT, Int.reduceGE]; omega) | simp only [go_sem, Nat.reduceLT, Nat.reduceLeDiff, Nat.reduceEqDiff, Nat.reduceAdd, Nat.reduceSub, Nat.reduceMul, reduceCtorEq, Int.reduceBEq, Int.reduceLT, Int.reduceLE, Int.reduceAdd, Int.reduceSub, Int.reduceEq, Int.reduceNeg, Int.reduceToNat, Int.reduceGT, Int.reduceGE]) fun hne => ?_
          have h1 := A.ne hne
          have h2 : lid < h.nx := by rcases hl.val with ⟨h, _⟩ | ⟨_, _, h, _⟩
                                     · omega
                                     · exact h
          have h3 : lid ≠ a := fun q => h1 q.symm
          have h4 : lid ≠ h.nx := Nat.ne_of_lt h2
          simp only [go_sem, Nat.reduceLT, Nat.reduceLeDiff, Nat.reduceEqDiff, Nat.reduceAdd, Nat.reduceSub, Nat.reduceMul, reduceCtorEq, Int.reduceBEq, Int.reduceLT, Int.reduceLE, Int.reduceAdd, Int.reduceSub, Int.reduceEq, Int.reduceNeg, Int.reduceToNat, Int.reduceGT, Int.reduceGE, h3, h4]
        refine app_step (Q := RelOk h a lid true ho gs ho) (m := 1) (by_ := 16) (hX _ _ _) ?_ ?_ ?_ ?_ ?_ ?_ ?_ ?_
        · decide
        · rfl
        · rfl
        · rfl
        · decide
        · omega
        · omega
        intro h' l' hnx hgn hold hlow hlow2
        simp only [go_sem, Nat.reduceLT, Nat.reduceLeDiff, Nat.reduceEqDiff, Nat.reduceAdd, Nat.reduceSub, Nat.reduceMul, reduceCtorEq, Int.reduceBEq, Int.reduceLT, Int.reduceLE, Int.reduceAdd, Int.reduceSub, Int.reduceEq, Int.reduceNeg, Int.reduceToNat, Int.reduceGT, Int.reduceGE] at l' hnx hgn hold hlow
        have hb' := blk_eq (hold a (by omega) A.ne)
        have ha' : a ≠ h.nx + 1 := by omega
        simp only [go_sem, Nat.reduceLT, Nat.reduceLeDiff, Nat.reduceEqDiff, Nat.reduceAdd, Nat.reduceSub, Nat.reduceMul, reduceCtorEq, Int.reduceBEq, Int.reduceLT, Int.reduceLE, Int.reduceAdd, Int.reduceSub, Int.reduceEq, Int.reduceNeg, Int.reduceToNat, Int.reduceGT, Int.reduceGE, ha] at hb'
        have hlow3 : (min h'.low a) < h.nx := by omega
        simp only [go_sem, Nat.reduceLT, Nat.reduceLeDiff, Nat.reduceEqDiff, Nat.reduceAdd, Nat.reduceSub, Nat.reduceMul, reduceCtorEq, Int.reduceBEq, Int.reduceLT, Int.reduceLE, Int.reduceAdd, Int.reduceSub, Int.reduceEq, Int.reduceNeg, Int.reduceToNat, Int.reduceGT, Int.reduceGE, hb', hro, hn, l'.one]
        rw [fin_l _ _ _ (by first | (simp only [go_sem, Nat.reduceLT, Nat.reduceLeDiff, Nat.reduceEqDiff, Nat.reduceAdd, Nat.reduceSub, Nat.reduceMul, reduceCtorEq, Int.reduceBEq, Int.reduceLT, Int.reduceLE, Int.reduceAdd, Int.reduceSub, Int.reduceEq, Int.reduceNeg, Int.reduceToNat, Int.reduceGT, Int.reduceGE]; omega) | simp only [go_sem, Nat.reduceLT, Nat.reduceLeDiff, Nat.reduceEqDiff, Nat.reduceAdd, Nat.reduceSub, Nat.reduceMul, reduceCtorEq, Int.reduceBEq, Int.reduceLT, Int.reduceLE, Int.reduceAdd, Int.reduceSub, Int.reduceEq, Int.reduceNeg, Int.reduceToNat, Int.reduceGT, Int.reduceGE])]
        refine ⟨_, _, _, false, 0, gs ++ [(ho, false)], h.nx + 1, rfl, ?_, ?_, .inr (by omega), by rw [if_pos hnode]; simp⟩
        · simp only [go_sem, Nat.reduceLT, Nat.reduceLeDiff, Nat.reduceEqDiff, Nat.reduceAdd, Nat.reduceSub, Nat.reduceMul, reduceCtorEq, Int.reduceBEq, Int.reduceLT, Int.reduceLE, Int.reduceAdd, Int.reduceSub, Int.reduceEq, Int.reduceNeg, Int.reduceToNat, Int.reduceGT, Int.reduceGE]
          refine ⟨by first | (simp only [go_sem, Nat.reduceLT, Nat.reduceLeDiff, Nat.reduceEqDiff, Nat.reduceAdd, Nat.reduceSub, Nat.reduceMul, reduceCtorEq, Int.reduceBEq, Int.reduceLT, Int.reduceLE, Int.reduceAdd, Int.reduceSub, Int.reduceEq, Int.reduceNeg, Int.reduceToNat, Int.reduceGT, Int.reduceGE]; omega) | simp only [go_sem, Nat.reduceLT, Nat.reduceLeDiff, Nat.reduceEqDiff, Nat.reduceAdd, Nat.reduceSub, Nat.reduceMul, reduceCtorEq, Int.reduceBEq, Int.reduceLT, Int.reduceLE, Int.reduceAdd, Int.reduceSub, Int.reduceEq, Int.reduceNeg, Int.reduceToNat, Int.reduceGT, Int.reduceGE], fun _ => (by omega : a ≠ h.nx + 1), _, _, put_blk_same _ _ _, by simp only [go_sem, Nat.reduceLT, Nat.reduceLeDiff, Nat.reduceEqDiff, Nat.reduceAdd, Nat.reduceSub, Nat.reduceMul, reduceCtorEq, Int.reduceBEq, Int.reduceLT, Int.reduceLE, Int.reduceAdd, Int.reduceSub, Int.reduceEq, Int.reduceNeg, Int.reduceToNat, Int.reduceGT, Int.reduceGE, hro], by simp only [go_sem, Nat.reduceLT, Nat.reduceLeDiff, Nat.reduceEqDiff, Nat.reduceAdd, Nat.reduceSub, Nat.reduceMul, reduceCtorEq, Int.reduceBEq, Int.reduceLT, Int.reduceLE, Int.reduceAdd, Int.reduceSub, Int.reduceEq, Int.reduceNeg, Int.reduceToNat, Int.reduceGT, Int.reduceGE, hn], ?_, ?_, ?_, by simp only [go_sem, Nat.reduceLT, Nat.reduceLeDiff, Nat.reduceEqDiff, Nat.reduceAdd, Nat.reduceSub, Nat.reduceMul, reduceCtorEq, Int.reduceBEq, Int.reduceLT, Int.reduceLE, Int.reduceAdd, Int.reduceSub, Int.reduceEq, Int.reduceNeg, Int.reduceToNat, Int.reduceGT, Int.reduceGE, hn]; rfl, ?_⟩
          · simp only [go_sem, Nat.reduceLT, Nat.reduceLeDiff, Nat.reduceEqDiff, Nat.reduceAdd, Nat.reduceSub, Nat.reduceMul, reduceCtorEq, Int.reduceBEq, Int.reduceLT, Int.reduceLE, Int.reduceAdd, Int.reduceSub, Int.reduceEq, Int.reduceNeg, Int.reduceToNat, Int.reduceGT, Int.reduceGE, h0]
          · simp only [go_sem, Nat.reduceLT, Nat.reduceLeDiff, Nat.reduceEqDiff, Nat.reduceAdd, Nat.reduceSub, Nat.reduceMul, reduceCtorEq, Int.reduceBEq, Int.reduceLT, Int.reduceLE, Int.reduceAdd, Int.reduceSub, Int.reduceEq, Int.reduceNeg, Int.reduceToNat, Int.reduceGT, Int.reduceGE, hn]
          · simp only [go_sem, Nat.reduceLT, Nat.reduceLeDiff, Nat.reduceEqDiff, Nat.reduceAdd, Nat.reduceSub, Nat.reduceMul, reduceCtorEq, Int.reduceBEq, Int.reduceLT, Int.reduceLE, Int.reduceAdd, Int.reduceSub, Int.reduceEq, Int.reduceNeg, Int.reduceToNat, Int.reduceGT, Int.reduceGE, hn]
          · rw [List.length_append, gcells_app]
            exact Lst.mono (h := h') l' (by first | (simp only [go_sem, Nat.reduceLT, Nat.reduceLeDiff, Nat.reduceEqDiff, Nat.reduceAdd, Nat.reduceSub, Nat.reduceMul, reduceCtorEq, Int.reduceBEq, Int.reduceLT, Int.reduceLE, Int.reduceAdd, Int.reduceSub, Int.reduceEq, Int.reduceNeg, Int.reduceToNat, Int.reduceGT, Int.reduceGE]; omega) | simp only [go_sem, Nat.reduceLT, Nat.reduceLeDiff, Nat.reduceEqDiff, Nat.reduceAdd, Nat.reduceSub, Nat.reduceMul, reduceCtorEq, Int.reduceBEq, Int.reduceLT, Int.reduceLE, Int.reduceAdd, Int.reduceSub, Int.reduceEq, Int.reduceNeg, Int.reduceToNat, Int.reduceGT, Int.reduceGE]) fun _ => by simp only [go_sem, Nat.reduceLT, Nat.reduceLeDiff, Nat.reduceEqDiff, Nat.reduceAdd, Nat.reduceSub, Nat.reduceMul, reduceCtorEq, Int.reduceBEq, Int.reduceLT, Int.reduceLE, Int.reduceAdd, Int.reduceSub, Int.reduceEq, Int.reduceNeg, Int.reduceToNat, Int.reduceGT, Int.reduceGE, ha'.symm]
        · simp only [go_sem, Nat.reduceLT, Nat.reduceLeDiff, Nat.reduceEqDiff, Nat.reduceAdd, Nat.reduceSub, Nat.reduceMul, reduceCtorEq, Int.reduceBEq, Int.reduceLT, Int.reduceLE, Int.reduceAdd, Int.reduceSub, Int.reduceEq, Int.reduceNeg, Int.reduceToNat, Int.reduceGT, Int.reduceGE]
          refine ⟨by first | (simp only [go_sem, Nat.reduceLT, Nat.reduceLeDiff, Nat.reduceEqDiff, Nat.reduceAdd, Nat.reduceSub, Nat.reduceMul, reduceCtorEq, Int.reduceBEq, Int.reduceLT, Int.reduceLE, Int.reduceAdd, Int.reduceSub, Int.reduceEq, Int.reduceNeg, Int.reduceToNat, Int.reduceGT, Int.reduceGE]; omega) | simp only [go_sem, Nat.reduceLT, Nat.reduceLeDiff, Nat.reduceEqDiff, Nat.reduceAdd, Nat.reduceSub, Nat.reduceMul, reduceCtorEq, Int.reduceBEq, Int.reduceLT, Int.reduceLE, Int.reduceAdd, Int.reduceSub, Int.reduceEq, Int.reduceNeg, Int.reduceToNat, Int.reduceGT, Int.reduceGE], by simp only [go_sem, Nat.reduceLT, Nat.reduceLeDiff, Nat.reduceEqDiff, Nat.reduceAdd, Nat.reduceSub, Nat.reduceMul, reduceCtorEq, Int.reduceBEq, Int.reduceLT, Int.reduceLE, Int.reduceAdd, Int.reduceSub, Int.reduceEq, Int.reduceNeg, Int.reduceToNat, Int.reduceGT, Int.reduceGE, hgn], fun id h1 h2 h3 => ?_⟩
          simp only [go_sem, Nat.reduceLT, Nat.reduceLeDiff, Nat.reduceEqDiff, Nat.reduceAdd, Nat.reduceSub, Nat.reduceMul, reduceCtorEq, Int.reduceBEq, Int.reduceLT, Int.reduceLE, Int.reduceAdd, Int.reduceSub, Int.reduceEq, Int.reduceNeg, Int.reduceToNat, Int.reduceGT, Int.reduceGE]
          rw [put_get_ne _ _ _ _ h2, hold id (by omega) fun _ => h3, alloc_get_ne _ _ _ (by first | (simp only [go_sem, Nat.reduceLT, Nat.reduceLeDiff, Nat.reduceEqDiff, Nat.reduceAdd, Nat.reduceSub, Nat.reduceMul, reduceCtorEq, Int.reduceBEq, Int.reduceLT, Int.reduceLE, Int.reduceAdd, Int.reduceSub, Int.reduceEq, Int.reduceNeg, Int.reduceToNat, Int.reduceGT, Int.reduceGE]; omega) | simp only [go_sem, Nat.reduceLT, Nat.reduceLeDiff, Nat.reduceEqDiff, Nat.reduceAdd, Nat.reduceSub, Nat.reduceMul, reduceCtorEq, Int.reduceBEq, Int.reduceLT, Int.reduceLE, Int.reduceAdd, Int.reduceSub, Int.reduceEq, Int.reduceNeg, Int.reduceToNat, Int.reduceGT, Int.reduceGE]), put_get_ne _ _ _ _ h2, put_get_ne _ _ _ _ h2]
          rfl
      · simp only [go_sem, Nat.reduceLT, Nat.reduceLeDiff, Nat.reduceEqDiff, Nat.reduceAdd, Nat.reduceSub, Nat.reduceMul, reduceCtorEq, Int.reduceBEq, Int.reduceLT, Int.reduceLE, Int.reduceAdd, Int.reduceSub, Int.reduceEq, Int.reduceNeg, Int.reduceToNat, Int.reduceGT, Int.reduceGE, e, hb, h0, h1, h2, h3, hh]
        rw [fin_q _ _ _ rfl rfl]
        exact ⟨_, _, _, _, _, _, lid, rfl, A, Fr.refl _ _ _, .inl rfl, by rw [if_pos hnode]; simp [hh]⟩
  · rw [if_neg hnode] at e
    simp only [go_sem, Nat.reduceLT, Nat.reduceLeDiff, Nat.reduceEqDiff, Nat.reduceAdd, Nat.reduceSub, Nat.reduceMul, reduceCtorEq, Int.reduceBEq, Int.reduceLT, Int.reduceLE, Int.reduceAdd, Int.reduceSub, Int.reduceEq, Int.reduceNeg, Int.reduceToNat, Int.reduceGT, Int.reduceGE, e]
    rw [fin_q _ _ _ rfl rfl]
    exact ⟨_, _, _, _, _, _, lid, rfl, A, Fr.refl _ _ _, .inl rfl, by rw [if_neg hnode]⟩

theorem new_run (hσ : ∀ f a h, f ≠ 9 → σ f a h = none) (h : H) : ∃ h', (lim Try.prog σ).call 10 [] h = some (.ptr h.nx 0, some h') ∧ ArbAt h' h.nx h.nx false 0 [] ∧ h'.nx = h.nx + 1 ∧ h'.gn = h.gn ∧ ∀ k, k < h.nx → h'.t.get k = h.t.get k := by
  rw [call_eq (hσ _ _ _ (by decide)) fn_10 rfl rfl, Try.ntmps10, Try.results10]
  simp only [go_sem, Nat.reduceLT, Nat.reduceLeDiff, Nat.reduceEqDiff, Nat.reduceAdd, Nat.reduceSub, Nat.reduceMul, reduceCtorEq, Int.reduceBEq, Int.reduceLT, Int.reduceLE, Int.reduceAdd, Int.reduceSub, Int.reduceEq, Int.reduceNeg, Int.reduceToNat, Int.reduceGT, Int.reduceGE]
  rw [fin_new _ _ _ (by simp only [go_sem, Nat.reduceLT, Nat.reduceLeDiff, Nat.reduceEqDiff, Nat.reduceAdd, Nat.reduceSub, Nat.reduceMul, reduceCtorEq, Int.reduceBEq, Int.reduceLT, Int.reduceLE, Int.reduceAdd, Int.reduceSub, Int.reduceEq, Int.reduceNeg, Int.reduceToNat, Int.reduceGT, Int.reduceGE]; exact decide_eq_false (by omega))]
  refine ⟨_, rfl, ⟨by first | (simp only [go_sem, Nat.reduceLT, Nat.reduceLeDiff, Nat.reduceEqDiff, Nat.reduceAdd, Nat.reduceSub, Nat.reduceMul, reduceCtorEq, Int.reduceBEq, Int.reduceLT, Int.reduceLE, Int.reduceAdd, Int.reduceSub, Int.reduceEq, Int.reduceNeg, Int.reduceToNat, Int.reduceGT, Int.reduceGE]; omega) | simp only [go_sem, Nat.reduceLT, Nat.reduceLeDiff, Nat.reduceEqDiff, Nat.reduceAdd, Nat.reduceSub, Nat.reduceMul, reduceCtorEq, Int.reduceBEq, Int.reduceLT, Int.reduceLE, Int.reduceAdd, Int.reduceSub, Int.reduceEq, Int.reduceNeg, Int.reduceToNat, Int.reduceGT, Int.reduceGE], fun h => absurd rfl h, _, _, alloc_blk_same _ _ _ rfl, rfl, rfl, rfl, rfl, rfl, rfl, Lst.nil _ _ _⟩, by simp only [go_sem, Nat.reduceLT, Nat.reduceLeDiff, Nat.reduceEqDiff, Nat.reduceAdd, Nat.reduceSub, Nat.reduceMul, reduceCtorEq, Int.reduceBEq, Int.reduceLT, Int.reduceLE, Int.reduceAdd, Int.reduceSub, Int.reduceEq, Int.reduceNeg, Int.reduceToNat, Int.reduceGT, Int.reduceGE], by simp only [go_sem, Nat.reduceLT, Nat.reduceLeDiff, Nat.reduceEqDiff, Nat.reduceAdd, Nat.reduceSub, Nat.reduceMul, reduceCtorEq, Int.reduceBEq, Int.reduceLT, Int.reduceLE, Int.reduceAdd, Int.reduceSub, Int.reduceEq, Int.reduceNeg, Int.reduceToNat, Int.reduceGT, Int.reduceGE], fun k hk => ?_⟩
  simp only [go_sem, Nat.reduceLT, Nat.reduceLeDiff, Nat.reduceEqDiff, Nat.reduceAdd, Nat.reduceSub, Nat.reduceMul, reduceCtorEq, Int.reduceBEq, Int.reduceLT, Int.reduceLE, Int.reduceAdd, Int.reduceSub, Int.reduceEq, Int.reduceNeg, Int.reduceToNat, Int.reduceGT, Int.reduceGE]
  rw [alloc_get_ne _ _ _ (by first | (simp only [go_sem, Nat.reduceLT, Nat.reduceLeDiff, Nat.reduceEqDiff, Nat.reduceAdd, Nat.reduceSub, Nat.reduceMul, reduceCtorEq, Int.reduceBEq, Int.reduceLT, Int.reduceLE, Int.reduceAdd, Int.reduceSub, Int.reduceEq, Int.reduceNeg, Int.reduceToNat, Int.reduceGT, Int.reduceGE]; omega) | simp only [go_sem, Nat.reduceLT, Nat.reduceLeDiff, Nat.reduceEqDiff, Nat.reduceAdd, Nat.reduceSub, Nat.reduceMul, reduceCtorEq, Int.reduceBEq, Int.reduceLT, Int.reduceLE, Int.reduceAdd, Int.reduceSub, Int.reduceEq, Int.reduceNeg, Int.reduceToNat, Int.reduceGT, Int.reduceGE])]
  rfl

theorem holder_run (hσ : ∀ f a h, f ≠ 9 → σ f a h = none) {h : H} {a lid : Nat} {tk : Bool} {ho : Int} {gs : List (Int × Bool)} (A : ArbAt h a lid tk ho gs) :
    (lim Try.prog σ).call 14 [.ptr a 0] h = some (.tup [.int .i64 ho, .bool tk], none) := by
  obtain ⟨b, v, hb, hro, hn, h0, h1, h2, h3, hl⟩ := A.blk
  have e := none_run hσ (h := h.lo) (a := a) hb h0
  rw [call_eq (hσ _ _ _ (by decide)) fn_14 rfl rfl, Try.ntmps14, Try.results14]
  simp only [go_sem, Nat.reduceLT, Nat.reduceLeDiff, Nat.reduceEqDiff, Nat.reduceAdd, Nat.reduceSub, Nat.reduceMul, reduceCtorEq, Int.reduceBEq, Int.reduceLT, Int.reduceLE, Int.reduceAdd, Int.reduceSub, Int.reduceEq, Int.reduceNeg, Int.reduceToNat, Int.reduceGT, Int.reduceGE, e, hb, h1, h2]
  rw [cnd_closed]
  · simp only [go_sem, Nat.reduceLT, Nat.reduceLeDiff, Nat.reduceEqDiff, Nat.reduceAdd, Nat.reduceSub, Nat.reduceMul, reduceCtorEq, Int.reduceBEq, Int.reduceLT, Int.reduceLE, Int.reduceAdd, Int.reduceSub, Int.reduceEq, Int.reduceNeg, Int.reduceToNat, Int.reduceGT, Int.reduceGE, e, hb, h1, h2]
    rw [fin_q _ _ _ rfl rfl]
  · kernel_rfl

theorem len_run (hσ : ∀ f a h, f ≠ 9 → σ f a h = none) {h : H} {a lid : Nat} {tk : Bool} {ho : Int} {gs : List (Int × Bool)} (A : ArbAt h a lid tk ho gs) :
    (lim Try.prog σ).call 15 [.ptr a 0] h = some (.int .i64 gs.length, none) := by
  obtain ⟨b, v, hb, hro, hn, h0, h1, h2, h3, hl⟩ := A.blk
  have e := none_run hσ (h := h.lo) (a := a) hb h0
  rw [call_eq (hσ _ _ _ (by decide)) fn_15 rfl rfl, Try.ntmps15, Try.results15]
  rcases hl.val with ⟨hg, rfl⟩ | ⟨_, rfl, _⟩
  · simp only [go_sem, Nat.reduceLT, Nat.reduceLeDiff, Nat.reduceEqDiff, Nat.reduceAdd, Nat.reduceSub, Nat.reduceMul, reduceCtorEq, Int.reduceBEq, Int.reduceLT, Int.reduceLE, Int.reduceAdd, Int.reduceSub, Int.reduceEq, Int.reduceNeg, Int.reduceToNat, Int.reduceGT, Int.reduceGE, e, hb, h3, hg]
    rw [fin_q _ _ _ rfl rfl]
    try rfl
  · simp only [go_sem, Nat.reduceLT, Nat.reduceLeDiff, Nat.reduceEqDiff, Nat.reduceAdd, Nat.reduceSub, Nat.reduceMul, reduceCtorEq, Int.reduceBEq, Int.reduceLT, Int.reduceLE, Int.reduceAdd, Int.reduceSub, Int.reduceEq, Int.reduceNeg, Int.reduceToNat, Int.reduceGT, Int.reduceGE, e, hb, h3]
    rw [fin_q _ _ _ rfl rfl]
    try rfl

theorem num_run (hσ : ∀ f a h, f ≠ 9 → σ f a h = none) (h : H) (n : Int) : (lim Try.prog σ).call 13 [.int .i64 n] h = some (.int .i64 n, none) := by
  rw [call_eq (hσ _ _ _ (by decide)) fn_13 rfl rfl, Try.ntmps13, Try.results13]
  simp only [go_sem, Nat.reduceLT, Nat.reduceLeDiff, Nat.reduceEqDiff, Nat.reduceAdd, Nat.reduceSub, Nat.reduceMul, reduceCtorEq, Int.reduceBEq, Int.reduceLT, Int.reduceLE, Int.reduceAdd, Int.reduceSub, Int.reduceEq, Int.reduceNeg, Int.reduceToNat, Int.reduceGT, Int.reduceGE]
  rw [fin_q _ _ _ rfl rfl]
end Go.Cl.A

namespace Go.Cl.A
variable {σ : Sums}

theorem gcells_at : ∀ (l : List (Int × Bool)) (i : Nat) (g : Int × Bool), l[i]? = some g → nth (gcells l) (i * 2) = some (.int .i64 g.1) ∧ nth (gcells l) (i * 2 + 1) = some (.bool g.2)
  | [], i, g, h => by simp at h
  | a :: l, 0, g, h => by simp at h; subst h; exact ⟨rfl, rfl⟩
  | a :: l, i + 1, g, h => by
    have := gcells_at l i g (by simpa using h)
    rw [show (i + 1) * 2 = i * 2 + 1 + 1 by omega]
    exact this

structure Inv (n0 : Nat) (h0 : H) (v1 v2 : CV) (node : Int) (h : H) (env : T CV) (tk : Bool) (ho : Int) (gs : List (Int × Bool)) : Prop where
  e0 : evT env 0 = v1
  e1 : evT env 1 = v2
  e2 : evT env 2 = .int .i64 node
  e7 : evT env 7 = .ptr n0 0
  arb : ∃ lid, n0 ≤ lid ∧ ArbAt h n0 lid tk ho gs
  old : ∀ k, k < n0 → h.t.get k = h0.t.get k
  nx : n0 ≤ h.nx

theorem Inv.step {n0 : Nat} {h0 : H} {v1 v2 : CV} {node : Int} {h : H} {env : T CV} {tk tk' : Bool} {ho ho' : Int} {gs gs' : List (Int × Bool)} (I : Inv n0 h0 v1 v2 node h env tk ho gs) {h' : H} {env' : T CV} {lid lid' : Nat}
    (hlid : n0 ≤ lid) (A' : ArbAt h' n0 lid' tk' ho' gs') (F : Fr h h' n0 lid) (hl : lid' = lid ∨ h.nx ≤ lid') (e0 : evT env' 0 = evT env 0) (e1 : evT env' 1 = evT env 1) (e2 : evT env' 2 = evT env 2) (e7 : evT env' 7 = evT env 7) :
    Inv n0 h0 v1 v2 node h' env' tk' ho' gs' :=
  ⟨e0.trans I.e0, e1.trans I.e1, e2.trans I.e2, e7.trans I.e7, ⟨lid', by have := I.nx; omega, A'⟩,
    fun k hk => (F.old k (by have := I.nx; omega) (by omega) (by omega)).trans (I.old k hk), Nat.le_trans I.nx F.nx⟩

theorem take_facts {c : Bool} {e : Int} {tk tk' : Bool} {ho ho' : Int} {gs gs' : List (Int × Bool)} {node : Int}
    (heq : (c, e, tk', ho', gs') = (if node = 0 ∨ node = 1 then (if tk then (if ho = node then (false, 0, tk, ho, gs) else (false, 12, tk, ho, gs)) else (true, 0, true, node, gs ++ [(node, true)])) else (false, 2, tk, ho, gs))) :
    gs'.length ≤ gs.length + 1 ∧ ((tk = true → ho = 0 ∨ ho = 1) → tk' = true → ho' = 0 ∨ ho' = 1) := by
  revert heq
  repeat' split
  all_goals
    intro heq
    simp only [Prod.mk.injEq] at heq
    obtain ⟨_, _, rfl, rfl, rfl⟩ := heq
    refine ⟨by simp, fun q w => ?_⟩
    first | exact q w | assumption
theorem rel_facts {c : Bool} {e : Int} {tk tk' : Bool} {ho ho' : Int} {gs gs' : List (Int × Bool)} {node : Int}
    (heq : (c, e, tk', ho', gs') = (if node = 0 ∨ node = 1 then (if tk ∧ ho = node then (true, 0, false, 0, gs ++ [(node, false)]) else (false, 0, tk, ho, gs)) else (false, 2, tk, ho, gs))) :
    gs'.length ≤ gs.length + 1 ∧ ((tk = true → ho = 0 ∨ ho = 1) → tk' = true → ho' = 0 ∨ ho' = 1) := by
  revert heq
  repeat' split
  all_goals
    intro heq
    simp only [Prod.mk.injEq] at heq
    obtain ⟨_, _, rfl, rfl, rfl⟩ := heq
    refine ⟨by simp, fun q w => ?_⟩
    first | exact q w | cases w

set_option maxRecDepth 100000 in
theorem holds_run (hσ : ∀ f a h, f ≠ 9 → σ f a h = none) (hk : ∀ h, (lim Try.prog σ).call 9 [] h = some (.bool true, none)) {h : H} {v1 v2 : CV} {steps : List (Int × Bool)} {more : List Bool} (node : Int)
    (S1 : Sl Try.prog 22 h v1 2 steps.length (gcells steps)) (S2 : Sl Try.prog 23 h v2 1 more.length (more.map .bool)) : Tru ((lim Try.prog σ).call 3 [v1, v2, .int .i64 node] h) := by
  rw [call_eq (hσ _ _ _ (by decide)) fn_3 rfl rfl, Try.ntmps3, Try.results3]
  by_cases h1 : Int.ofNat steps.length > 40
  · simp only [go_sem, Nat.reduceLT, Nat.reduceLeDiff, Nat.reduceEqDiff, Nat.reduceAdd, Nat.reduceSub, Nat.reduceMul, reduceCtorEq, Int.reduceBEq, Int.reduceLT, Int.reduceLE, Int.reduceAdd, Int.reduceSub, Int.reduceEq, Int.reduceNeg, Int.reduceToNat, Int.reduceGT, Int.reduceGE, S1.len, h1, hk, tru_fin]
  by_cases h2 : Int.ofNat more.length > 40
  · simp only [go_sem, Nat.reduceLT, Nat.reduceLeDiff, Nat.reduceEqDiff, Nat.reduceAdd, Nat.reduceSub, Nat.reduceMul, reduceCtorEq, Int.reduceBEq, Int.reduceLT, Int.reduceLE, Int.reduceAdd, Int.reduceSub, Int.reduceEq, Int.reduceNeg, Int.reduceToNat, Int.reduceGT, Int.reduceGE, S1.len, S2.len, h1, h2, hk, tru_fin]
  by_cases h3 : node < 0
  · simp only [go_sem, Nat.reduceLT, Nat.reduceLeDiff, Nat.reduceEqDiff, Nat.reduceAdd, Nat.reduceSub, Nat.reduceMul, reduceCtorEq, Int.reduceBEq, Int.reduceLT, Int.reduceLE, Int.reduceAdd, Int.reduceSub, Int.reduceEq, Int.reduceNeg, Int.reduceToNat, Int.reduceGT, Int.reduceGE, S1.len, S2.len, h1, h2, h3, hk, tru_fin]
  by_cases h4 : node > 1
  · simp only [go_sem, Nat.reduceLT, Nat.reduceLeDiff, Nat.reduceEqDiff, Nat.reduceAdd, Nat.reduceSub, Nat.reduceMul, reduceCtorEq, Int.reduceBEq, Int.reduceLT, Int.reduceLE, Int.reduceAdd, Int.reduceSub, Int.reduceEq, Int.reduceNeg, Int.reduceToNat, Int.reduceGT, Int.reduceGE, S1.len, S2.len, h1, h2, h3, h4, hk, tru_fin]
  have hnode : node = 0 ∨ node = 1 := by omega
  have hsl : steps.length ≤ 40 := by have := h1; simp at this; omega
  have hml : more.length ≤ 40 := by have := h2; simp at this; omega
  obtain ⟨hN, eN, AN, nxN, gnN, oldN⟩ := new_run hσ h.lo
  simp only [go_sem, Nat.reduceLT, Nat.reduceLeDiff, Nat.reduceEqDiff, Nat.reduceAdd, Nat.reduceSub, Nat.reduceMul, reduceCtorEq, Int.reduceBEq, Int.reduceLT, Int.reduceLE, Int.reduceAdd, Int.reduceSub, Int.reduceEq, Int.reduceNeg, Int.reduceToNat, Int.reduceGT, Int.reduceGE] at AN nxN gnN oldN eN
  simp only [go_sem, Nat.reduceLT, Nat.reduceLeDiff, Nat.reduceEqDiff, Nat.reduceAdd, Nat.reduceSub, Nat.reduceMul, reduceCtorEq, Int.reduceBEq, Int.reduceLT, Int.reduceLE, Int.reduceAdd, Int.reduceSub, Int.reduceEq, Int.reduceNeg, Int.reduceToNat, Int.reduceGT, Int.reduceGE, S1.len, S2.len, h1, h2, h3, h4, eN]
  refine loop_ind (Q := Tru) (fun i env h' => evT env 8 = .int .i64 (Int.ofNat i) ∧ ∃ tk ho gs, Inv h.nx h v1 v2 node h' env tk ho gs ∧ gs.length ≤ i ∧ (tk = true → ho = 0 ∨ ho = 1)) steps.length 0 ?_ (Nat.zero_le _) ?_ ?_
  · refine ⟨by simp only [go_sem, Nat.reduceLT, Nat.reduceLeDiff, Nat.reduceEqDiff, Nat.reduceAdd, Nat.reduceSub, Nat.reduceMul, reduceCtorEq, Int.reduceBEq, Int.reduceLT, Int.reduceLE, Int.reduceAdd, Int.reduceSub, Int.reduceEq, Int.reduceNeg, Int.reduceToNat, Int.reduceGT, Int.reduceGE]; rfl, false, 0, [], ⟨by simp only [go_sem, Nat.reduceLT, Nat.reduceLeDiff, Nat.reduceEqDiff, Nat.reduceAdd, Nat.reduceSub, Nat.reduceMul, reduceCtorEq, Int.reduceBEq, Int.reduceLT, Int.reduceLE, Int.reduceAdd, Int.reduceSub, Int.reduceEq, Int.reduceNeg, Int.reduceToNat, Int.reduceGT, Int.reduceGE], by simp only [go_sem, Nat.reduceLT, Nat.reduceLeDiff, Nat.reduceEqDiff, Nat.reduceAdd, Nat.reduceSub, Nat.reduceMul, reduceCtorEq, Int.reduceBEq, Int.reduceLT, Int.reduceLE, Int.reduceAdd, Int.reduceSub, Int.reduceEq, Int.reduceNeg, Int.reduceToNat, Int.reduceGT, Int.reduceGE], by simp only [go_sem, Nat.reduceLT, Nat.reduceLeDiff, Nat.reduceEqDiff, Nat.reduceAdd, Nat.reduceSub, Nat.reduceMul, reduceCtorEq, Int.reduceBEq, Int.reduceLT, Int.reduceLE, Int.reduceAdd, Int.reduceSub, Int.reduceEq, Int.reduceNeg, Int.reduceToNat, Int.reduceGT, Int.reduceGE], by simp only [go_sem, Nat.reduceLT, Nat.reduceLeDiff, Nat.reduceEqDiff, Nat.reduceAdd, Nat.reduceSub, Nat.reduceMul, reduceCtorEq, Int.reduceBEq, Int.reduceLT, Int.reduceLE, Int.reduceAdd, Int.reduceSub, Int.reduceEq, Int.reduceNeg, Int.reduceToNat, Int.reduceGT, Int.reduceGE], ⟨_, Nat.le_refl _, AN⟩, oldN, by omega⟩, by simp, by simp⟩
  · rintro i env h' ⟨e8, tk, ho, gs, I, hgs, hho⟩ hi next
    obtain ⟨lid, hlid, A⟩ := I.arb
    obtain ⟨id, off, b, hix, hid, hb, hro, hget⟩ := S1.elt i hi
    have hb' : h'.blk id = some b := (blk_eq (I.old id hid)).trans hb
    obtain ⟨g, hg⟩ : ∃ g, steps[i]? = some g := ⟨_, List.getElem?_eq_getElem hi⟩
    have hc := gcells_at steps i g hg
    have g0 := hget 0 _ (by decide) hc.1
    have g1 := hget 1 _ (by decide) hc.2
    have hlt := ofNat_lt hi
    have hw : IntKind.wrap .i64 (Int.ofNat i + 1) = Int.ofNat (i + 1) := wrap_succ (by omega)
    rw [Nat.add_zero] at g0
    cases hg2 : g.2
    · rw [hg2] at g1
      obtain ⟨c, e, x, tk', ho', gs', lid', hr, A', F', hl', heq⟩ := release_run hσ A g.1 (by omega)
      simp only [go_sem, Nat.reduceLT, Nat.reduceLeDiff, Nat.reduceEqDiff, Nat.reduceAdd, Nat.reduceSub, Nat.reduceMul, reduceCtorEq, Int.reduceBEq, Int.reduceLT, Int.reduceLE, Int.reduceAdd, Int.reduceSub, Int.reduceEq, Int.reduceNeg, Int.reduceToNat, Int.reduceGT, Int.reduceGE, I.e0, I.e1, I.e2, I.e7, e8, S1.len, hix, hb', g0, g1, hlt, hr, hw]
      refine next _ _ ⟨by simp only [go_sem, Nat.reduceLT, Nat.reduceLeDiff, Nat.reduceEqDiff, Nat.reduceAdd, Nat.reduceSub, Nat.reduceMul, reduceCtorEq, Int.reduceBEq, Int.reduceLT, Int.reduceLE, Int.reduceAdd, Int.reduceSub, Int.reduceEq, Int.reduceNeg, Int.reduceToNat, Int.reduceGT, Int.reduceGE], tk', ho', gs', I.step hlid A' F' hl' (by simp only [go_sem, Nat.reduceLT, Nat.reduceLeDiff, Nat.reduceEqDiff, Nat.reduceAdd, Nat.reduceSub, Nat.reduceMul, reduceCtorEq, Int.reduceBEq, Int.reduceLT, Int.reduceLE, Int.reduceAdd, Int.reduceSub, Int.reduceEq, Int.reduceNeg, Int.reduceToNat, Int.reduceGT, Int.reduceGE]) (by simp only [go_sem, Nat.reduceLT, Nat.reduceLeDiff, Nat.reduceEqDiff, Nat.reduceAdd, Nat.reduceSub, Nat.reduceMul, reduceCtorEq, Int.reduceBEq, Int.reduceLT, Int.reduceLE, Int.reduceAdd, Int.reduceSub, Int.reduceEq, Int.reduceNeg, Int.reduceToNat, Int.reduceGT, Int.reduceGE]) (by simp only [go_sem, Nat.reduceLT, Nat.reduceLeDiff, Nat.reduceEqDiff, Nat.reduceAdd, Nat.reduceSub, Nat.reduceMul, reduceCtorEq, Int.reduceBEq, Int.reduceLT, Int.reduceLE, Int.reduceAdd, Int.reduceSub, Int.reduceEq, Int.reduceNeg, Int.reduceToNat, Int.reduceGT, Int.reduceGE]) (by simp only [go_sem, Nat.reduceLT, Nat.reduceLeDiff, Nat.reduceEqDiff, Nat.reduceAdd, Nat.reduceSub, Nat.reduceMul, reduceCtorEq, Int.reduceBEq, Int.reduceLT, Int.reduceLE, Int.reduceAdd, Int.reduceSub, Int.reduceEq, Int.reduceNeg, Int.reduceToNat, Int.reduceGT, Int.reduceGE]), ?_, ?_⟩
      · have := (rel_facts heq).1; omega
      · exact (rel_facts heq).2 hho
    · rw [hg2] at g1
      obtain ⟨c, e, x, tk', ho', gs', lid', hr, A', F', hl', heq⟩ := take_run hσ A g.1 (by omega)
      simp only [go_sem, Nat.reduceLT, Nat.reduceLeDiff, Nat.reduceEqDiff, Nat.reduceAdd, Nat.reduceSub, Nat.reduceMul, reduceCtorEq, Int.reduceBEq, Int.reduceLT, Int.reduceLE, Int.reduceAdd, Int.reduceSub, Int.reduceEq, Int.reduceNeg, Int.reduceToNat, Int.reduceGT, Int.reduceGE, I.e0, I.e1, I.e2, I.e7, e8, S1.len, hix, hb', g0, g1, hlt, hr, hw]
      refine next _ _ ⟨by simp only [go_sem, Nat.reduceLT, Nat.reduceLeDiff, Nat.reduceEqDiff, Nat.reduceAdd, Nat.reduceSub, Nat.reduceMul, reduceCtorEq, Int.reduceBEq, Int.reduceLT, Int.reduceLE, Int.reduceAdd, Int.reduceSub, Int.reduceEq, Int.reduceNeg, Int.reduceToNat, Int.reduceGT, Int.reduceGE], tk', ho', gs', I.step hlid A' F' hl' (by simp only [go_sem, Nat.reduceLT, Nat.reduceLeDiff, Nat.reduceEqDiff, Nat.reduceAdd, Nat.reduceSub, Nat.reduceMul, reduceCtorEq, Int.reduceBEq, Int.reduceLT, Int.reduceLE, Int.reduceAdd, Int.reduceSub, Int.reduceEq, Int.reduceNeg, Int.reduceToNat, Int.reduceGT, Int.reduceGE]) (by simp only [go_sem, Nat.reduceLT, Nat.reduceLeDiff, Nat.reduceEqDiff, Nat.reduceAdd, Nat.reduceSub, Nat.reduceMul, reduceCtorEq, Int.reduceBEq, Int.reduceLT, Int.reduceLE, Int.reduceAdd, Int.reduceSub, Int.reduceEq, Int.reduceNeg, Int.reduceToNat, Int.reduceGT, Int.reduceGE]) (by simp only [go_sem, Nat.reduceLT, Nat.reduceLeDiff, Nat.reduceEqDiff, Nat.reduceAdd, Nat.reduceSub, Nat.reduceMul, reduceCtorEq, Int.reduceBEq, Int.reduceLT, Int.reduceLE, Int.reduceAdd, Int.reduceSub, Int.reduceEq, Int.reduceNeg, Int.reduceToNat, Int.reduceGT, Int.reduceGE]) (by simp only [go_sem, Nat.reduceLT, Nat.reduceLeDiff, Nat.reduceEqDiff, Nat.reduceAdd, Nat.reduceSub, Nat.reduceMul, reduceCtorEq, Int.reduceBEq, Int.reduceLT, Int.reduceLE, Int.reduceAdd, Int.reduceSub, Int.reduceEq, Int.reduceNeg, Int.reduceToNat, Int.reduceGT, Int.reduceGE]), ?_, ?_⟩
      · have := (take_facts heq).1; omega
      · exact (take_facts heq).2 hho
  · rintro env h' ⟨e8, tk, ho, gs, I, hgs, hho⟩
    have hlt := ofNat_nlt (Nat.le_refl steps.length)
    obtain ⟨lid, hlid, A⟩ := I.arb
    obtain ⟨c, e, x, tk', ho', gs', lid', hr, A1, F1, hl1, heq⟩ := take_run hσ A node (by omega)
    rw [if_pos hnode] at heq
    have I' := fun env' => I.step (env' := env') hlid A1 F1 hl1
    by_cases hb : tk = true ∧ ho ≠ node
    · rw [if_pos hb.1, if_neg hb.2] at heq
      simp only [Prod.mk.injEq] at heq
      obtain ⟨rfl, rfl, rfl, rfl, rfl⟩ := heq
      have hh := hho hb.1
      have hw : IntKind.wrap .i64 (1 - node) = 1 - node := wrap_i64 (by omega) (by omega)
      have hq : ho' = 1 - node := by have := hb.2; omega
      simp only [go_sem, Nat.reduceLT, Nat.reduceLeDiff, Nat.reduceEqDiff, Nat.reduceAdd, Nat.reduceSub, Nat.reduceMul, reduceCtorEq, Int.reduceBEq, Int.reduceLT, Int.reduceLE, Int.reduceAdd, Int.reduceSub, Int.reduceEq, Int.reduceNeg, Int.reduceToNat, Int.reduceGT, Int.reduceGE, I.e0, I.e1, I.e2, I.e7, e8, S1.len, hlt, hr, num_run hσ, holder_run hσ A1, hb.1, hw, hq, hk, tru_fin]
    · have heq' : e = 0 ∧ tk' = true ∧ ho' = node ∧ gs'.length ≤ gs.length + 1 := by
        cases tk
        · simp only [Bool.false_eq_true, if_false, Prod.mk.injEq] at heq
          obtain ⟨rfl, rfl, rfl, rfl, rfl⟩ := heq
          simp
        · have : ho = node := by
            by_cases q : ho = node
            · exact q
            · exact absurd ⟨rfl, q⟩ hb
          rw [if_pos rfl, if_pos this] at heq
          simp only [Prod.mk.injEq] at heq
          obtain ⟨rfl, rfl, rfl, rfl, rfl⟩ := heq
          simp [this]
      obtain ⟨rfl, rfl, hq2, hgl⟩ := heq'
      have hgl2 : gs'.length ≤ 41 := by omega
      rw [hq2] at A1 I'
      simp only [go_sem, Nat.reduceLT, Nat.reduceLeDiff, Nat.reduceEqDiff, Nat.reduceAdd, Nat.reduceSub, Nat.reduceMul, reduceCtorEq, Int.reduceBEq, Int.reduceLT, Int.reduceLE, Int.reduceAdd, Int.reduceSub, Int.reduceEq, Int.reduceNeg, Int.reduceToNat, Int.reduceGT, Int.reduceGE, I.e0, I.e1, I.e2, I.e7, e8, S1.len, hlt, hr, num_run hσ, len_run hσ A1]
      have hn1 : 1 - node = 0 ∨ 1 - node = 1 := by omega
      have hn2 : node ≠ 1 - node := by omega
      have hw1 : IntKind.wrap .i64 (1 - node) = 1 - node := wrap_i64 (by omega) (by omega)
      refine loop_ind (Q := Tru) (fun i env h' => evT env 14 = .int .i64 (Int.ofNat i) ∧ evT env 13 = .int .i64 gs'.length ∧ Inv h.nx h v1 v2 node h' env true node gs') more.length 0 ?_ (Nat.zero_le _) ?_ ?_
      · exact ⟨by simp only [go_sem, Nat.reduceLT, Nat.reduceLeDiff, Nat.reduceEqDiff, Nat.reduceAdd, Nat.reduceSub, Nat.reduceMul, reduceCtorEq, Int.reduceBEq, Int.reduceLT, Int.reduceLE, Int.reduceAdd, Int.reduceSub, Int.reduceEq, Int.reduceNeg, Int.reduceToNat, Int.reduceGT, Int.reduceGE]; rfl, by simp only [go_sem, Nat.reduceLT, Nat.reduceLeDiff, Nat.reduceEqDiff, Nat.reduceAdd, Nat.reduceSub, Nat.reduceMul, reduceCtorEq, Int.reduceBEq, Int.reduceLT, Int.reduceLE, Int.reduceAdd, Int.reduceSub, Int.reduceEq, Int.reduceNeg, Int.reduceToNat, Int.reduceGT, Int.reduceGE], I' _ (by simp only [go_sem, Nat.reduceLT, Nat.reduceLeDiff, Nat.reduceEqDiff, Nat.reduceAdd, Nat.reduceSub, Nat.reduceMul, reduceCtorEq, Int.reduceBEq, Int.reduceLT, Int.reduceLE, Int.reduceAdd, Int.reduceSub, Int.reduceEq, Int.reduceNeg, Int.reduceToNat, Int.reduceGT, Int.reduceGE]) (by simp only [go_sem, Nat.reduceLT, Nat.reduceLeDiff, Nat.reduceEqDiff, Nat.reduceAdd, Nat.reduceSub, Nat.reduceMul, reduceCtorEq, Int.reduceBEq, Int.reduceLT, Int.reduceLE, Int.reduceAdd, Int.reduceSub, Int.reduceEq, Int.reduceNeg, Int.reduceToNat, Int.reduceGT, Int.reduceGE]) (by simp only [go_sem, Nat.reduceLT, Nat.reduceLeDiff, Nat.reduceEqDiff, Nat.reduceAdd, Nat.reduceSub, Nat.reduceMul, reduceCtorEq, Int.reduceBEq, Int.reduceLT, Int.reduceLE, Int.reduceAdd, Int.reduceSub, Int.reduceEq, Int.reduceNeg, Int.reduceToNat, Int.reduceGT, Int.reduceGE]) (by simp only [go_sem, Nat.reduceLT, Nat.reduceLeDiff, Nat.reduceEqDiff, Nat.reduceAdd, Nat.reduceSub, Nat.reduceMul, reduceCtorEq, Int.reduceBEq, Int.reduceLT, Int.reduceLE, Int.reduceAdd, Int.reduceSub, Int.reduceEq, Int.reduceNeg, Int.reduceToNat, Int.reduceGT, Int.reduceGE])⟩
      · rintro i env h' ⟨e14, e13, I⟩ hi next
        obtain ⟨lid, hlid, A⟩ := I.arb
        obtain ⟨id, off, b, hix, hid, hb, hro, hget⟩ := S2.elt i hi
        have hb' : h'.blk id = some b := (blk_eq (I.old id hid)).trans hb
        have g0 := hget 0 (.bool more[i]) (by decide) (by rw [nth_eq]; simp [hi])
        have hlt := ofNat_lt hi
        have hw : IntKind.wrap .i64 (Int.ofNat i + 1) = Int.ofNat (i + 1) := wrap_succ (by omega)
        rw [Nat.add_zero] at g0
        cases hg2 : more[i]
        · rw [hg2] at g0
          obtain ⟨c, e, x, tk', ho', gs2, lid', hr, A', F', hl', heq⟩ := release_run hσ A (1 - node) (by omega)
          rw [if_pos hn1, if_neg (fun q => hn2 q.2)] at heq
          simp only [Prod.mk.injEq] at heq
          obtain ⟨rfl, rfl, rfl, rfl, rfl⟩ := heq
          simp only [go_sem, Nat.reduceLT, Nat.reduceLeDiff, Nat.reduceEqDiff, Nat.reduceAdd, Nat.reduceSub, Nat.reduceMul, reduceCtorEq, Int.reduceBEq, Int.reduceLT, Int.reduceLE, Int.reduceAdd, Int.reduceSub, Int.reduceEq, Int.reduceNeg, Int.reduceToNat, Int.reduceGT, Int.reduceGE, I.e0, I.e1, I.e2, I.e7, e14, e13, S2.len, hix, hb', g0, hlt, hr, hw, hw1, num_run hσ]
          exact next _ _ ⟨by simp only [go_sem, Nat.reduceLT, Nat.reduceLeDiff, Nat.reduceEqDiff, Nat.reduceAdd, Nat.reduceSub, Nat.reduceMul, reduceCtorEq, Int.reduceBEq, Int.reduceLT, Int.reduceLE, Int.reduceAdd, Int.reduceSub, Int.reduceEq, Int.reduceNeg, Int.reduceToNat, Int.reduceGT, Int.reduceGE], by simp only [go_sem, Nat.reduceLT, Nat.reduceLeDiff, Nat.reduceEqDiff, Nat.reduceAdd, Nat.reduceSub, Nat.reduceMul, reduceCtorEq, Int.reduceBEq, Int.reduceLT, Int.reduceLE, Int.reduceAdd, Int.reduceSub, Int.reduceEq, Int.reduceNeg, Int.reduceToNat, Int.reduceGT, Int.reduceGE, e13], I.step hlid A' F' hl' (by simp only [go_sem, Nat.reduceLT, Nat.reduceLeDiff, Nat.reduceEqDiff, Nat.reduceAdd, Nat.reduceSub, Nat.reduceMul, reduceCtorEq, Int.reduceBEq, Int.reduceLT, Int.reduceLE, Int.reduceAdd, Int.reduceSub, Int.reduceEq, Int.reduceNeg, Int.reduceToNat, Int.reduceGT, Int.reduceGE]) (by simp only [go_sem, Nat.reduceLT, Nat.reduceLeDiff, Nat.reduceEqDiff, Nat.reduceAdd, Nat.reduceSub, Nat.reduceMul, reduceCtorEq, Int.reduceBEq, Int.reduceLT, Int.reduceLE, Int.reduceAdd, Int.reduceSub, Int.reduceEq, Int.reduceNeg, Int.reduceToNat, Int.reduceGT, Int.reduceGE]) (by simp only [go_sem, Nat.reduceLT, Nat.reduceLeDiff, Nat.reduceEqDiff, Nat.reduceAdd, Nat.reduceSub, Nat.reduceMul, reduceCtorEq, Int.reduceBEq, Int.reduceLT, Int.reduceLE, Int.reduceAdd, Int.reduceSub, Int.reduceEq, Int.reduceNeg, Int.reduceToNat, Int.reduceGT, Int.reduceGE]) (by simp only [go_sem, Nat.reduceLT, Nat.reduceLeDiff, Nat.reduceEqDiff, Nat.reduceAdd, Nat.reduceSub, Nat.reduceMul, reduceCtorEq, Int.reduceBEq, Int.reduceLT, Int.reduceLE, Int.reduceAdd, Int.reduceSub, Int.reduceEq, Int.reduceNeg, Int.reduceToNat, Int.reduceGT, Int.reduceGE])⟩
        · rw [hg2] at g0
          obtain ⟨c, e, x, tk', ho', gs2, lid', hr, A', F', hl', heq⟩ := take_run hσ A (1 - node) (by omega)
          rw [if_pos hn1, if_pos rfl, if_neg hn2] at heq
          simp only [Prod.mk.injEq] at heq
          obtain ⟨rfl, rfl, rfl, rfl, rfl⟩ := heq
          simp only [go_sem, Nat.reduceLT, Nat.reduceLeDiff, Nat.reduceEqDiff, Nat.reduceAdd, Nat.reduceSub, Nat.reduceMul, reduceCtorEq, Int.reduceBEq, Int.reduceLT, Int.reduceLE, Int.reduceAdd, Int.reduceSub, Int.reduceEq, Int.reduceNeg, Int.reduceToNat, Int.reduceGT, Int.reduceGE, I.e0, I.e1, I.e2, I.e7, e14, e13, S2.len, hix, hb', g0, hlt, hr, hw, hw1, num_run hσ]
          exact next _ _ ⟨by simp only [go_sem, Nat.reduceLT, Nat.reduceLeDiff, Nat.reduceEqDiff, Nat.reduceAdd, Nat.reduceSub, Nat.reduceMul, reduceCtorEq, Int.reduceBEq, Int.reduceLT, Int.reduceLE, Int.reduceAdd, Int.reduceSub, Int.reduceEq, Int.reduceNeg, Int.reduceToNat, Int.reduceGT, Int.reduceGE], by simp only [go_sem, Nat.reduceLT, Nat.reduceLeDiff, Nat.reduceEqDiff, Nat.reduceAdd, Nat.reduceSub, Nat.reduceMul, reduceCtorEq, Int.reduceBEq, Int.reduceLT, Int.reduceLE, Int.reduceAdd, Int.reduceSub, Int.reduceEq, Int.reduceNeg, Int.reduceToNat, Int.reduceGT, Int.reduceGE, e13], I.step hlid A' F' hl' (by simp only [go_sem, Nat.reduceLT, Nat.reduceLeDiff, Nat.reduceEqDiff, Nat.reduceAdd, Nat.reduceSub, Nat.reduceMul, reduceCtorEq, Int.reduceBEq, Int.reduceLT, Int.reduceLE, Int.reduceAdd, Int.reduceSub, Int.reduceEq, Int.reduceNeg, Int.reduceToNat, Int.reduceGT, Int.reduceGE]) (by simp only [go_sem, Nat.reduceLT, Nat.reduceLeDiff, Nat.reduceEqDiff, Nat.reduceAdd, Nat.reduceSub, Nat.reduceMul, reduceCtorEq, Int.reduceBEq, Int.reduceLT, Int.reduceLE, Int.reduceAdd, Int.reduceSub, Int.reduceEq, Int.reduceNeg, Int.reduceToNat, Int.reduceGT, Int.reduceGE]) (by simp only [go_sem, Nat.reduceLT, Nat.reduceLeDiff, Nat.reduceEqDiff, Nat.reduceAdd, Nat.reduceSub, Nat.reduceMul, reduceCtorEq, Int.reduceBEq, Int.reduceLT, Int.reduceLE, Int.reduceAdd, Int.reduceSub, Int.reduceEq, Int.reduceNeg, Int.reduceToNat, Int.reduceGT, Int.reduceGE]) (by simp only [go_sem, Nat.reduceLT, Nat.reduceLeDiff, Nat.reduceEqDiff, Nat.reduceAdd, Nat.reduceSub, Nat.reduceMul, reduceCtorEq, Int.reduceBEq, Int.reduceLT, Int.reduceLE, Int.reduceAdd, Int.reduceSub, Int.reduceEq, Int.reduceNeg, Int.reduceToNat, Int.reduceGT, Int.reduceGE])⟩
      · rintro env h' ⟨e14, e13, I⟩
        have hlt := ofNat_nlt (Nat.le_refl more.length)
        obtain ⟨lid, hlid, A⟩ := I.arb
        obtain ⟨c, e, x, tk', ho', gs2, lid', hr, A', F', hl', heq⟩ := release_run hσ A node (by omega)
        rw [if_pos hnode, if_pos ⟨rfl, rfl⟩] at heq
        simp only [Prod.mk.injEq] at heq
        obtain ⟨rfl, rfl, rfl, rfl, rfl⟩ := heq
        obtain ⟨c, e, x2, tk', ho', gs3, lid2, hr2, A2, F2, hl2, heq⟩ := take_run hσ A' (1 - node) (by simp; omega)
        rw [if_pos hn1, if_neg (by decide)] at heq
        simp only [Prod.mk.injEq] at heq
        obtain ⟨rfl, rfl, rfl, rfl, rfl⟩ := heq
        have hlen : (↑((gs' ++ [(node, false)]) ++ [(1 - node, true)]).length : Int) = IntKind.wrap .i64 (↑gs'.length + 2) := by
          rw [wrap_i64 (by omega) (by omega)]; simp
        simp only [go_sem, Nat.reduceLT, Nat.reduceLeDiff, Nat.reduceEqDiff, Nat.reduceAdd, Nat.reduceSub, Nat.reduceMul, reduceCtorEq, Int.reduceBEq, Int.reduceLT, Int.reduceLE, Int.reduceAdd, Int.reduceSub, Int.reduceEq, Int.reduceNeg, Int.reduceToNat, Int.reduceGT, Int.reduceGE, I.e0, I.e1, I.e2, I.e7, e14, e13, S2.len, hlt, hr, hr2, hw1, num_run hσ, holder_run hσ A, len_run hσ A2, hlen, hk, tru_fin]
end Go.Cl.A

namespace Go.Cl.A
variable {σ : Sums}

def CloneOk (h : H) (n : Nat) (cs : List CV) (r : Option (CV × Option H)) : Prop := ∃ v' x id', r = some (v', x) ∧ Lst (x.getD h) 2 v' id' n cs ∧ Ext h (x.getD h) ∧ (n ≠ 0 → h.nx ≤ id')

theorem clone_run (hσ : ∀ f a h, f ≠ 9 → σ f a h = none) {h : H} {v : CV} {lid n : Nat} {cs : List CV} (L : Lst h 2 v lid n cs) (hone : cs.all CV.one = true) (room : n < 1000000) :
    CloneOk h n cs ((lim Try.prog σ).call 46 [v] h) := by
  rw [call_eq (hσ _ _ _ (by decide)) fn_46 rfl rfl, Try.ntmps46, Try.results46]
  have L' := L
  rcases L.val with ⟨rfl, rfl⟩ | ⟨h0, rfl, hid, b, hb, hro, hbn, hbg⟩
  · simp only [go_sem, Nat.reduceLT, Nat.reduceLeDiff, Nat.reduceEqDiff, Nat.reduceAdd, Nat.reduceSub, Nat.reduceMul, reduceCtorEq, Int.reduceBEq, Int.reduceLT, Int.reduceLE, Int.reduceAdd, Int.reduceSub, Int.reduceEq, Int.reduceNeg, Int.reduceToNat, Int.reduceGT, Int.reduceGE]
    rw [fin_q _ _ _ rfl rfl]
    exact ⟨_, _, 0, rfl, ⟨L.len, .inl ⟨rfl, rfl⟩⟩, Ext.refl _, fun h => absurd rfl h⟩
  · have hne : lid ≠ h.nx := by omega
    have hl := L.load hb (by omega)
    have ha := fun o => appS_exact0 (X := h.lo.alloc (.cells o)) (id := h.nx) (by_ := 16) (alloc_blk_same _ _ _ rfl) h0 L.len hone (show 2 = 2 from rfl) (by decide) (by omega) (by omega)
    simp only [go_sem, Nat.reduceLT, Nat.reduceLeDiff, Nat.reduceEqDiff, Nat.reduceAdd, Nat.reduceSub, Nat.reduceMul, reduceCtorEq, Int.reduceBEq, Int.reduceLT, Int.reduceLE, Int.reduceAdd, Int.reduceSub, Int.reduceEq, Int.reduceNeg, Int.reduceToNat, Int.reduceGT, Int.reduceGE, hb, hne, hl, ha]
    rw [fin_new _ _ _ (by simp only [go_sem, Nat.reduceLT, Nat.reduceLeDiff, Nat.reduceEqDiff, Nat.reduceAdd, Nat.reduceSub, Nat.reduceMul, reduceCtorEq, Int.reduceBEq, Int.reduceLT, Int.reduceLE, Int.reduceAdd, Int.reduceSub, Int.reduceEq, Int.reduceNeg, Int.reduceToNat, Int.reduceGT, Int.reduceGE]; exact decide_eq_false (by omega))]
    have e : Ext h (((h.lo.alloc (.cells { n := 0, d := [.int .i64 0, .bool false], t := .nil })).alloc (.cells (fillB (n * 2) cs))).up (min h.low h.nx)) := ((Ext.lo h).trans (Ext.alloc _ _)).trans ((Ext.alloc _ _).trans (Ext.up _ _))
    refine ⟨_, _, h.nx + 1, rfl, ⟨L.len, .inr ⟨h0, rfl, by first | (simp only [go_sem, Nat.reduceLT, Nat.reduceLeDiff, Nat.reduceEqDiff, Nat.reduceAdd, Nat.reduceSub, Nat.reduceMul, reduceCtorEq, Int.reduceBEq, Int.reduceLT, Int.reduceLE, Int.reduceAdd, Int.reduceSub, Int.reduceEq, Int.reduceNeg, Int.reduceToNat, Int.reduceGT, Int.reduceGE]; omega) | simp only [go_sem, Nat.reduceLT, Nat.reduceLeDiff, Nat.reduceEqDiff, Nat.reduceAdd, Nat.reduceSub, Nat.reduceMul, reduceCtorEq, Int.reduceBEq, Int.reduceLT, Int.reduceLE, Int.reduceAdd, Int.reduceSub, Int.reduceEq, Int.reduceNeg, Int.reduceToNat, Int.reduceGT, Int.reduceGE], _, alloc_blk_same _ _ _ rfl, rfl, rfl, fun i => fillB_get _ _ _ L.len.symm⟩⟩, e, fun _ => by omega⟩

def HistR (h : H) (gs : List (Int × Bool)) (fv : CV) (x : Option H) : Prop :=
  ∃ c v id b, fv = .fn (.func 47) [] [.ptr c 0] ∧ Ext h (x.getD h) ∧ c < (x.getD h).nx ∧ h.nx ≤ c ∧ (x.getD h).blk c = some b ∧ b.get 0 = some v ∧ Lst (x.getD h) 2 v id gs.length (gcells gs) ∧ (gs.length ≠ 0 → h.nx < id)
def HistOk (h : H) (gs : List (Int × Bool)) (r : Option (CV × Option H)) : Prop := ∃ fv x, r = some (fv, x) ∧ HistR h gs fv x

theorem ArbAt.ext {h h' : H} {a lid : Nat} {tk : Bool} {ho : Int} {gs : List (Int × Bool)} (A : ArbAt h a lid tk ho gs) (e : Ext h h') : ArbAt h' a lid tk ho gs := by
  obtain ⟨b, v, h1, h2, h3, h4, h5, h6, h7, h8⟩ := A.blk
  exact ⟨Nat.lt_of_lt_of_le A.lt e.nx, A.ne, b, v, (e.blk A.lt).trans h1, h2, h3, h4, h5, h6, h7, h8.ext e⟩

theorem gcells_one : ∀ l, (gcells l).all CV.one = true
  | [] => rfl
  | g :: l => by simp [gcells, CV.one]; simpa [CV.one] using gcells_one l

theorem hist_run (hσ : ∀ f a h, f ≠ 9 → σ f a h = none) {h : H} {a lid : Nat} {tk : Bool} {ho : Int} {gs : List (Int × Bool)} (A : ArbAt h a lid tk ho gs) (room : gs.length < 1000000) :
    HistOk h gs ((lim Try.prog σ).call 16 [.ptr a 0] h) := by
  obtain ⟨b, v, hb, hro, hn, h0, h1, h2, h3, hl⟩ := A.blk
  have hlt := A.lt
  have ha : a ≠ h.nx := by omega
  rw [call_eq (hσ _ _ _ (by decide)) fn_16 rfl rfl, Try.ntmps16, Try.results16]
  have e := fun o => none_run hσ (h := h.lo.alloc o) (a := a) (by simp only [go_sem, Nat.reduceLT, Nat.reduceLeDiff, Nat.reduceEqDiff, Nat.reduceAdd, Nat.reduceSub, Nat.reduceMul, reduceCtorEq, Int.reduceBEq, Int.reduceLT, Int.reduceLE, Int.reduceAdd, Int.reduceSub, Int.reduceEq, Int.reduceNeg, Int.reduceToNat, Int.reduceGT, Int.reduceGE, hb, ha]) h0
  have eo : ∀ o, Ext h (h.lo.alloc o) := fun o => (Ext.lo h).trans (Ext.alloc _ _)
  obtain ⟨v', x, id', hr, L', E', hid'⟩ := clone_run hσ (h := h.lo.alloc (.cells (newBlk [.nils]))) (hl.ext (eo _)) (gcells_one gs) room
  simp only [go_sem, Nat.reduceLT, Nat.reduceLeDiff, Nat.reduceEqDiff, Nat.reduceAdd, Nat.reduceSub, Nat.reduceMul, reduceCtorEq, Int.reduceBEq, Int.reduceLT, Int.reduceLE, Int.reduceAdd, Int.reduceSub, Int.reduceEq, Int.reduceNeg, Int.reduceToNat, Int.reduceGT, Int.reduceGE, e, hb, h3, ha, hr]
  have hb2 : (x.getD (h.lo.alloc (.cells (newBlk [.nils])))).blk h.nx = some (newBlk [.nils]) := (E'.blk (by first | (simp only [go_sem, Nat.reduceLT, Nat.reduceLeDiff, Nat.reduceEqDiff, Nat.reduceAdd, Nat.reduceSub, Nat.reduceMul, reduceCtorEq, Int.reduceBEq, Int.reduceLT, Int.reduceLE, Int.reduceAdd, Int.reduceSub, Int.reduceEq, Int.reduceNeg, Int.reduceToNat, Int.reduceGT, Int.reduceGE]; omega) | simp only [go_sem, Nat.reduceLT, Nat.reduceLeDiff, Nat.reduceEqDiff, Nat.reduceAdd, Nat.reduceSub, Nat.reduceMul, reduceCtorEq, Int.reduceBEq, Int.reduceLT, Int.reduceLE, Int.reduceAdd, Int.reduceSub, Int.reduceEq, Int.reduceNeg, Int.reduceToNat, Int.reduceGT, Int.reduceGE])).trans (alloc_blk_same _ _ _ rfl)
  have hnx := E'.nx
  simp only [go_sem, Nat.reduceLT, Nat.reduceLeDiff, Nat.reduceEqDiff, Nat.reduceAdd, Nat.reduceSub, Nat.reduceMul, reduceCtorEq, Int.reduceBEq, Int.reduceLT, Int.reduceLE, Int.reduceAdd, Int.reduceSub, Int.reduceEq, Int.reduceNeg, Int.reduceToNat, Int.reduceGT, Int.reduceGE] at hnx
  simp only [go_sem, Nat.reduceLT, Nat.reduceLeDiff, Nat.reduceEqDiff, Nat.reduceAdd, Nat.reduceSub, Nat.reduceMul, reduceCtorEq, Int.reduceBEq, Int.reduceLT, Int.reduceLE, Int.reduceAdd, Int.reduceSub, Int.reduceEq, Int.reduceNeg, Int.reduceToNat, Int.reduceGT, Int.reduceGE, hb2, L'.one]
  rw [fin_new _ _ _ (by simp only [okB, okBL, okFB, go_sem, Nat.reduceLT, Nat.reduceLeDiff, Nat.reduceEqDiff, Nat.reduceAdd, Nat.reduceSub, Nat.reduceMul, reduceCtorEq, Int.reduceBEq, Int.reduceLT, Int.reduceLE, Int.reduceAdd, Int.reduceSub, Int.reduceEq, Int.reduceNeg, Int.reduceToNat, Int.reduceGT, Int.reduceGE]; exact decide_eq_false (by omega))]
  refine ⟨_, _, rfl, h.nx, v', id', _, rfl, ?_, by first | (simp only [go_sem, Nat.reduceLT, Nat.reduceLeDiff, Nat.reduceEqDiff, Nat.reduceAdd, Nat.reduceSub, Nat.reduceMul, reduceCtorEq, Int.reduceBEq, Int.reduceLT, Int.reduceLE, Int.reduceAdd, Int.reduceSub, Int.reduceEq, Int.reduceNeg, Int.reduceToNat, Int.reduceGT, Int.reduceGE]; omega) | simp only [go_sem, Nat.reduceLT, Nat.reduceLeDiff, Nat.reduceEqDiff, Nat.reduceAdd, Nat.reduceSub, Nat.reduceMul, reduceCtorEq, Int.reduceBEq, Int.reduceLT, Int.reduceLE, Int.reduceAdd, Int.reduceSub, Int.reduceEq, Int.reduceNeg, Int.reduceToNat, Int.reduceGT, Int.reduceGE], Nat.le_refl _, put_blk_same _ _ _, st_get_same _ _ _ (by decide), ?_, fun hne => by have h1 := hid' hne; simp only [go_sem, Nat.reduceLT, Nat.reduceLeDiff, Nat.reduceEqDiff, Nat.reduceAdd, Nat.reduceSub, Nat.reduceMul, reduceCtorEq, Int.reduceBEq, Int.reduceLT, Int.reduceLE, Int.reduceAdd, Int.reduceSub, Int.reduceEq, Int.reduceNeg, Int.reduceToNat, Int.reduceGT, Int.reduceGE] at h1; omega⟩
  · exact (((eo _).trans E').put _ (Nat.le_refl _)).trans (Ext.up _ _)
  · refine Lst.mono L' (by first | (simp only [go_sem, Nat.reduceLT, Nat.reduceLeDiff, Nat.reduceEqDiff, Nat.reduceAdd, Nat.reduceSub, Nat.reduceMul, reduceCtorEq, Int.reduceBEq, Int.reduceLT, Int.reduceLE, Int.reduceAdd, Int.reduceSub, Int.reduceEq, Int.reduceNeg, Int.reduceToNat, Int.reduceGT, Int.reduceGE]; omega) | simp only [go_sem, Nat.reduceLT, Nat.reduceLeDiff, Nat.reduceEqDiff, Nat.reduceAdd, Nat.reduceSub, Nat.reduceMul, reduceCtorEq, Int.reduceBEq, Int.reduceLT, Int.reduceLE, Int.reduceAdd, Int.reduceSub, Int.reduceEq, Int.reduceNeg, Int.reduceToNat, Int.reduceGT, Int.reduceGE]) fun hne => ?_
    have h1 := hid' hne
    simp only [go_sem, Nat.reduceLT, Nat.reduceLeDiff, Nat.reduceEqDiff, Nat.reduceAdd, Nat.reduceSub, Nat.reduceMul, reduceCtorEq, Int.reduceBEq, Int.reduceLT, Int.reduceLE, Int.reduceAdd, Int.reduceSub, Int.reduceEq, Int.reduceNeg, Int.reduceToNat, Int.reduceGT, Int.reduceGE] at h1
    have h2 : id' ≠ h.nx := by omega
    simp only [go_sem, Nat.reduceLT, Nat.reduceLeDiff, Nat.reduceEqDiff, Nat.reduceAdd, Nat.reduceSub, Nat.reduceMul, reduceCtorEq, Int.reduceBEq, Int.reduceLT, Int.reduceLE, Int.reduceAdd, Int.reduceSub, Int.reduceEq, Int.reduceNeg, Int.reduceToNat, Int.reduceGT, Int.reduceGE, h2]
end Go.Cl.A

namespace Go.Cl.A
variable {σ : Sums}

def IterOk (h : H) (I : Nat → H → Prop) (n : Nat) (r : Option (CV × Option H)) : Prop := ∃ x, r = some (.tup [], x) ∧ I n (x.getD h)

theorem iter_run (hσ : ∀ f a h, f ≠ 9 → σ f a h = none) {h : H} {c l lid : Nat} {cb : Blk} {v : CV} {gs : List (Int × Bool)} (hc : h.blk c = some cb) (hcv : cb.get 0 = some v) (L : Lst h 2 v lid gs.length (gcells gs)) (hl : l < h.nx)
    (I : Nat → H → Prop) (i0 : I 0 h) (ie : ∀ i h1 h2, I i h1 → Ext h1 h2 → I i h2) (il : ∀ i h1, I i h1 → h.nx ≤ h1.nx ∧ Lst h1 2 v lid gs.length (gcells gs)) (room : gs.length < 1000000)
    (round : ∀ i h1 g, I i h1 → gs[i]? = some g → ∃ h2, (lim Try.prog σ).round l [.int .i64 (Int.ofNat i), .agg [.int .i64 g.1, .bool g.2]] h1 = some (.bool true, some h2) ∧ I (i + 1) h2 ∧ h2.low ≤ l ∧ h1.nx ≤ h2.nx) :
    IterOk h I gs.length ((lim Try.prog σ).call 47 [.fn (.yield l) [] [], .ptr c 0] h) := by
  rw [call_eq (hσ _ _ _ (by decide)) fn_47 rfl rfl, Try.ntmps47, Try.results47]
  have hlen : ∀ h' ts az, builtinT Try.prog h' .len (43 :: ts) (v :: az) = some (.val (.int .i64 (Int.ofNat gs.length))) := by
    intro h' ts az
    rcases L.val with ⟨h0, rfl⟩ | ⟨_, rfl, _⟩
    · rw [len_43_n, h0]; rfl
    · rw [len_43]
  simp only [go_sem, Nat.reduceLT, Nat.reduceLeDiff, Nat.reduceEqDiff, Nat.reduceAdd, Nat.reduceSub, Nat.reduceMul, reduceCtorEq, Int.reduceBEq, Int.reduceLT, Int.reduceLE, Int.reduceAdd, Int.reduceSub, Int.reduceEq, Int.reduceNeg, Int.reduceToNat, Int.reduceGT, Int.reduceGE, hc, hcv, hlen]
  refine loop_ind (Q := IterOk h I gs.length) (fun i env h1 => evT env 0 = .fn (.yield l) [] [] ∧ evT env 5 = v ∧ evT env 6 = .int .i64 (Int.ofNat gs.length) ∧ evT env 7 = .int .i64 (Int.ofNat i) ∧ I i h1 ∧ (i = 0 → h1 = h.lo) ∧ (i ≠ 0 → h1.low ≤ l)) gs.length 0 ?_ (Nat.zero_le _) ?_ ?_
  · exact ⟨by simp only [go_sem, Nat.reduceLT, Nat.reduceLeDiff, Nat.reduceEqDiff, Nat.reduceAdd, Nat.reduceSub, Nat.reduceMul, reduceCtorEq, Int.reduceBEq, Int.reduceLT, Int.reduceLE, Int.reduceAdd, Int.reduceSub, Int.reduceEq, Int.reduceNeg, Int.reduceToNat, Int.reduceGT, Int.reduceGE], by simp only [go_sem, Nat.reduceLT, Nat.reduceLeDiff, Nat.reduceEqDiff, Nat.reduceAdd, Nat.reduceSub, Nat.reduceMul, reduceCtorEq, Int.reduceBEq, Int.reduceLT, Int.reduceLE, Int.reduceAdd, Int.reduceSub, Int.reduceEq, Int.reduceNeg, Int.reduceToNat, Int.reduceGT, Int.reduceGE], by simp only [go_sem, Nat.reduceLT, Nat.reduceLeDiff, Nat.reduceEqDiff, Nat.reduceAdd, Nat.reduceSub, Nat.reduceMul, reduceCtorEq, Int.reduceBEq, Int.reduceLT, Int.reduceLE, Int.reduceAdd, Int.reduceSub, Int.reduceEq, Int.reduceNeg, Int.reduceToNat, Int.reduceGT, Int.reduceGE], by simp only [go_sem, Nat.reduceLT, Nat.reduceLeDiff, Nat.reduceEqDiff, Nat.reduceAdd, Nat.reduceSub, Nat.reduceMul, reduceCtorEq, Int.reduceBEq, Int.reduceLT, Int.reduceLE, Int.reduceAdd, Int.reduceSub, Int.reduceEq, Int.reduceNeg, Int.reduceToNat, Int.reduceGT, Int.reduceGE]; rfl, ie _ _ _ i0 (Ext.lo h), fun _ => rfl, fun h => absurd rfl h⟩
  · rintro i env h1 ⟨e0, e5, e6, e7, hI, _, hlow⟩ hi next
    obtain ⟨hnx, L1⟩ := il i h1 hI
    have hpos : 0 < gs.length := by omega
    rcases L1.val with ⟨h0, _⟩ | ⟨_, hv, hid, b, hb, hro, hbn, hbg⟩
    · omega
    have hix : indexAddrT Try.prog 43 v (.int .i64 (Int.ofNat i)) = some (.ptr lid (i * 2)) := by
      rw [hv, ia_43, blt_eq', decide_eq_true hi, cond_true, Nat.zero_add]
    obtain ⟨g, hg⟩ : ∃ g, gs[i]? = some g := ⟨_, List.getElem?_eq_getElem hi⟩
    obtain ⟨g0, g1⟩ := gcells_at gs i g hg
    have hlt := ofNat_lt hi
    have hw : IntKind.wrap .i64 (Int.ofNat i + 1) = Int.ofNat (i + 1) := wrap_succ (by omega)
    have hb0 : b.get (i * 2) = some (.int .i64 g.1) := by rw [hbg, g0]
    have hb1 : b.get (i * 2 + 1) = some (.bool g.2) := by rw [hbg, g1]
    have hE : ∀ o o2, Ext h1 ((h1.alloc o).put h1.nx o2) := fun o o2 => (Ext.alloc _ _).put _ (Nat.le_refl _)
    obtain ⟨h2, hr, hI2, hlow2, hnx2⟩ := round i _ g (ie _ _ _ hI (hE (.cells (newBlk [.int .i64 0, .bool false])) (.cells (((newBlk [.int .i64 0, .bool false]).st 0 (.int .i64 g.1)).st 1 (.bool g.2))))) hg
    simp only [go_sem, Nat.reduceLT, Nat.reduceLeDiff, Nat.reduceEqDiff, Nat.reduceAdd, Nat.reduceSub, Nat.reduceMul, reduceCtorEq, Int.reduceBEq, Int.reduceLT, Int.reduceLE, Int.reduceAdd, Int.reduceSub, Int.reduceEq, Int.reduceNeg, Int.reduceToNat, Int.reduceGT, Int.reduceGE, e0, e5, e6, e7, hix, hlt, hb, hb0, hb1, hr, hw]
    exact next _ _ ⟨by simp only [go_sem, Nat.reduceLT, Nat.reduceLeDiff, Nat.reduceEqDiff, Nat.reduceAdd, Nat.reduceSub, Nat.reduceMul, reduceCtorEq, Int.reduceBEq, Int.reduceLT, Int.reduceLE, Int.reduceAdd, Int.reduceSub, Int.reduceEq, Int.reduceNeg, Int.reduceToNat, Int.reduceGT, Int.reduceGE, e0], by simp only [go_sem, Nat.reduceLT, Nat.reduceLeDiff, Nat.reduceEqDiff, Nat.reduceAdd, Nat.reduceSub, Nat.reduceMul, reduceCtorEq, Int.reduceBEq, Int.reduceLT, Int.reduceLE, Int.reduceAdd, Int.reduceSub, Int.reduceEq, Int.reduceNeg, Int.reduceToNat, Int.reduceGT, Int.reduceGE, e5], by simp only [go_sem, Nat.reduceLT, Nat.reduceLeDiff, Nat.reduceEqDiff, Nat.reduceAdd, Nat.reduceSub, Nat.reduceMul, reduceCtorEq, Int.reduceBEq, Int.reduceLT, Int.reduceLE, Int.reduceAdd, Int.reduceSub, Int.reduceEq, Int.reduceNeg, Int.reduceToNat, Int.reduceGT, Int.reduceGE, e6], by simp only [go_sem, Nat.reduceLT, Nat.reduceLeDiff, Nat.reduceEqDiff, Nat.reduceAdd, Nat.reduceSub, Nat.reduceMul, reduceCtorEq, Int.reduceBEq, Int.reduceLT, Int.reduceLE, Int.reduceAdd, Int.reduceSub, Int.reduceEq, Int.reduceNeg, Int.reduceToNat, Int.reduceGT, Int.reduceGE], hI2, fun h => by omega, fun _ => hlow2⟩
  · rintro env h1 ⟨e0, e5, e6, e7, hI, h0, hlow⟩
    have hlt := ofNat_nlt (Nat.le_refl gs.length)
    simp only [go_sem, Nat.reduceLT, Nat.reduceLeDiff, Nat.reduceEqDiff, Nat.reduceAdd, Nat.reduceSub, Nat.reduceMul, reduceCtorEq, Int.reduceBEq, Int.reduceLT, Int.reduceLE, Int.reduceAdd, Int.reduceSub, Int.reduceEq, Int.reduceNeg, Int.reduceToNat, Int.reduceGT, Int.reduceGE, e0, e5, e6, e7, hlt]
    by_cases hn : gs.length = 0
    · rw [h0 hn, fin_q _ _ _ rfl rfl]
      rw [hn]
      exact ⟨_, rfl, i0⟩
    · have := hlow hn
      rw [fin_l _ _ _ (by omega)]
      exact ⟨_, rfl, ie _ _ _ hI (Ext.up _ _)⟩
/-- what a round leaves -/
def RoundOk (l : Nat) (lo : CLoop) (v : CV) (lid : Nat) (gs : List (Int × Bool)) (J : Nat → H → Prop) (i : Nat) (h1 : H) (r : Option (CV × Option H)) : Prop :=
  ∃ h2, r = some (.bool true, some h2) ∧ h2.t.get l = some (.loop lo) ∧ Lst h2 2 v lid gs.length (gcells gs) ∧ J (i + 1) h2 ∧ h2.low ≤ l ∧ h1.nx ≤ h2.nx

theorem iter_law {β : Type} {Q : Option β → Prop} (hσ : ∀ f a h, f ≠ 9 → σ f a h = none) {Y : H} {lo : CLoop} {c lid : Nat} {cb : Blk} {v : CV} {gs : List (Int × Bool)} {K : CV → Option H → Option β}
    (hcl : c < Y.nx) (hc : Y.blk c = some cb) (hcv : cb.get 0 = some v) (L : Lst Y 2 v lid gs.length (gcells gs)) (J : Nat → H → Prop) (j0 : J 0 (Y.alloc (.loop lo))) (je : ∀ i h1 h2, J i h1 → Ext h1 h2 → J i h2) (room : gs.length < 1000000)
    (round : ∀ i h1 g, h1.t.get Y.nx = some (.loop lo) → Y.nx + 1 ≤ h1.nx → Lst h1 2 v lid gs.length (gcells gs) → J i h1 → gs[i]? = some g → RoundOk Y.nx lo v lid gs J i h1 ((lim Try.prog σ).round Y.nx [.int .i64 (Int.ofNat i), .agg [.int .i64 g.1, .bool g.2]] h1))
    (k : ∀ x Z, x.getD (Y.alloc (.loop lo)) = Z → Z.t.get Y.nx = some (.loop lo) → Y.nx + 1 ≤ Z.nx → J gs.length Z → Q (K (.tup []) x)) :
    Q (@thn _ β ((lim Try.prog σ).call 47 [.fn (.yield Y.nx) [] [], .ptr c 0] (Y.alloc (.loop lo))) ⟨KP K⟩) := by
  obtain ⟨x, hr, h1, h2, h3, h4⟩ := iter_run (h := Y.alloc (.loop lo)) hσ ((alloc_blk_ne _ _ _ (by omega)).trans hc) hcv (L.ext (Ext.alloc _ _)) (l := Y.nx) (by rw [alloc_nx]; omega)
    (fun i h1 => h1.t.get Y.nx = some (.loop lo) ∧ Y.nx + 1 ≤ h1.nx ∧ Lst h1 2 v lid gs.length (gcells gs) ∧ J i h1)
    ⟨alloc_get_same _ _ _ rfl, by rw [alloc_nx]; omega, L.ext (Ext.alloc _ _), j0⟩
    (fun i h1 h2 hI e => ⟨by rw [e.old _ (by omega)]; exact hI.1, Nat.le_trans hI.2.1 e.nx, hI.2.2.1.ext e, je i h1 h2 hI.2.2.2 e⟩)
    (fun i h1 hI => ⟨by rw [alloc_nx]; exact hI.2.1, hI.2.2.1⟩) room
    (fun i h1 g hI hg => by
      obtain ⟨h2, q1, q2, q3, q4, q5, q6⟩ := round i h1 g hI.1 hI.2.1 hI.2.2.1 hI.2.2.2 hg
      exact ⟨h2, q1, ⟨q2, by have := hI.2.1; omega, q3, q4⟩, q5, q6⟩)
  rw [hr]
  exact k x _ rfl h1 h2 h4
end Go.Cl.A

namespace Go.Cl.A
variable {σ : Sums}

/-- taken, and by whom, behind so many -/
def prev (gs : List (Int × Bool)) : Nat → Bool × Int
  | 0 => (false, 0)
  | i + 1 => match gs[i]? with | some g => (g.2, g.1) | none => (false, 0)
/-- each one fits the one ahead of it -/
def Fits (gs : List (Int × Bool)) : Prop := ∀ i g, gs[i]? = some g → g.2 ≠ (prev gs i).1 ∧ (g.2 = false → g.1 = (prev gs i).2) ∧ (g.1 = 0 ∨ g.1 = 1)

theorem prev_app (gs : List (Int × Bool)) (g : Int × Bool) : ∀ i, i ≤ gs.length → prev (gs ++ [g]) i = prev gs i
  | 0, _ => rfl
  | i + 1, h => by simp only [prev]; rw [List.getElem?_append_left (by omega)]
theorem prev_last (gs : List (Int × Bool)) (g : Int × Bool) : prev (gs ++ [g]) (gs ++ [g]).length = (g.2, g.1) := by
  simp [prev]
theorem fits_app {gs : List (Int × Bool)} {g : Int × Bool} (f : Fits gs) (h1 : g.2 ≠ (prev gs gs.length).1) (h2 : g.2 = false → g.1 = (prev gs gs.length).2) (h3 : g.1 = 0 ∨ g.1 = 1) : Fits (gs ++ [g]) := by
  intro i x hx
  by_cases c : i < gs.length
  · rw [List.getElem?_append_left c] at hx
    rw [prev_app gs g i (by omega)]
    exact f i x hx
  · have : i = gs.length := by
      have := (List.getElem?_eq_some_iff.1 hx).1
      simp at this; omega
    subst this
    simp at hx; subst hx
    rw [prev_app gs g gs.length (Nat.le_refl _)]
    exact ⟨h1, h2, h3⟩

/-- what is kept -/
structure Kept (gs : List (Int × Bool)) (tk : Bool) (ho : Int) : Prop where
  fits : Fits gs
  last : (prev gs gs.length).1 = tk
  by_ : tk = true → (prev gs gs.length).2 = ho

theorem good_take {c : Bool} {e : Int} {tk tk' : Bool} {ho ho' : Int} {gs gs' : List (Int × Bool)} {node : Int} (G : Kept gs tk ho)
    (heq : (c, e, tk', ho', gs') = (if node = 0 ∨ node = 1 then (if tk then (if ho = node then (false, 0, tk, ho, gs) else (false, 12, tk, ho, gs)) else (true, 0, true, node, gs ++ [(node, true)])) else (false, 2, tk, ho, gs))) :
    gs'.length ≤ gs.length + 1 ∧ Kept gs' tk' ho' := by
  by_cases hn : node = 0 ∨ node = 1
  · rw [if_pos hn] at heq
    cases tk
    · simp only [Bool.false_eq_true, if_false, Prod.mk.injEq] at heq
      obtain ⟨_, _, rfl, rfl, rfl⟩ := heq
      refine ⟨by simp, fits_app G.fits (by rw [G.last]; simp) (by simp) hn, by rw [prev_last], fun _ => by rw [prev_last]⟩
    · rw [if_pos rfl] at heq
      split at heq <;> simp only [Prod.mk.injEq] at heq <;> obtain ⟨_, _, rfl, rfl, rfl⟩ := heq <;> exact ⟨by omega, G⟩
  · rw [if_neg hn] at heq
    simp only [Prod.mk.injEq] at heq
    obtain ⟨_, _, rfl, rfl, rfl⟩ := heq
    exact ⟨by omega, G⟩
theorem good_rel {c : Bool} {e : Int} {tk tk' : Bool} {ho ho' : Int} {gs gs' : List (Int × Bool)} {node : Int} (G : Kept gs tk ho)
    (heq : (c, e, tk', ho', gs') = (if node = 0 ∨ node = 1 then (if tk ∧ ho = node then (true, 0, false, 0, gs ++ [(node, false)]) else (false, 0, tk, ho, gs)) else (false, 2, tk, ho, gs))) :
    gs'.length ≤ gs.length + 1 ∧ Kept gs' tk' ho' := by
  by_cases hn : node = 0 ∨ node = 1
  · rw [if_pos hn] at heq
    split at heq
    · rename_i hh
      simp only [Prod.mk.injEq] at heq
      obtain ⟨_, _, rfl, rfl, rfl⟩ := heq
      refine ⟨by simp, fits_app G.fits (by rw [G.last, hh.1]; simp) (fun _ => by rw [G.by_ hh.1, hh.2]) hn, by rw [prev_last], fun h => by cases h⟩
    · simp only [Prod.mk.injEq] at heq
      obtain ⟨_, _, rfl, rfl, rfl⟩ := heq
      exact ⟨by omega, G⟩
  · rw [if_neg hn] at heq
    simp only [Prod.mk.injEq] at heq
    obtain ⟨_, _, rfl, rfl, rfl⟩ := heq
    exact ⟨by omega, G⟩

/-- a cell of one's own -/
def Cell (h : H) (c : Nat) (v : CV) : Prop := c < h.nx ∧ ∃ b, h.blk c = some b ∧ b.ro = false ∧ b.n = 1 ∧ b.get 0 = some v
theorem Cell.put_ne {h : H} {c id : Nat} {v : CV} {o : CObj} (k : Cell h c v) (e : c ≠ id) : Cell (h.put id o) c v := ⟨k.1, by rw [put_blk_ne _ _ _ _ e]; exact k.2⟩
theorem Cell.put {h : H} {c : Nat} {v : CV} {b : Blk} (k : c < h.nx) (hro : b.ro = false) (hn : b.n = 1) : Cell (h.put c (.cells (b.st 0 v))) c v := ⟨k, _, put_blk_same _ _ _, hro, hn, st_get_same _ _ _ (by omega)⟩
theorem Cell.ext {h h' : H} {c : Nat} {v : CV} (k : Cell h c v) (e : Ext h h') : Cell h' c v := ⟨Nat.lt_of_lt_of_le k.1 e.nx, by rw [e.blk k.1]; exact k.2⟩

theorem ArbAt.same {h h' : H} {a lid : Nat} {tk : Bool} {ho : Int} {gs : List (Int × Bool)} (A : ArbAt h a lid tk ho gs) (hn : h.nx ≤ h'.nx) (ha : h'.t.get a = h.t.get a) (hl : gs.length ≠ 0 → h'.t.get lid = h.t.get lid) : ArbAt h' a lid tk ho gs := by
  obtain ⟨b, v, h1, h2, h3, h4, h5, h6, h7, h8⟩ := A.blk
  exact ⟨Nat.lt_of_lt_of_le A.lt hn, A.ne, b, v, (blk_eq ha).trans h1, h2, h3, h4, h5, h6, h7, h8.mono hn fun q => blk_eq (hl q)⟩

structure InvM (n0 : Nat) (h0 : H) (v1 : CV) (h : H) (env : T CV) (tk : Bool) (ho : Int) (gs : List (Int × Bool)) : Prop where
  e0 : evT env 0 = v1
  e2 : evT env 2 = .ptr n0 0
  e3 : evT env 3 = .ptr (n0 + 1) 0
  cell : Cell h n0 (.bool false)
  arb : ∃ lid, n0 + 1 ≤ lid ∧ ArbAt h (n0 + 1) lid tk ho gs
  old : ∀ k, k < n0 → h.t.get k = h0.t.get k
  nx : n0 + 1 < h.nx

theorem InvM.step {n0 : Nat} {h0 : H} {v1 : CV} {h : H} {env : T CV} {tk tk' : Bool} {ho ho' : Int} {gs gs' : List (Int × Bool)} (I : InvM n0 h0 v1 h env tk ho gs) {h' : H} {env' : T CV} {lid lid' : Nat}
    (hlid : n0 + 1 ≤ lid) (A' : ArbAt h' (n0 + 1) lid' tk' ho' gs') (F : Fr h h' (n0 + 1) lid) (hl : lid' = lid ∨ h.nx ≤ lid') (e0 : evT env' 0 = evT env 0) (e2 : evT env' 2 = evT env 2) (e3 : evT env' 3 = evT env 3) :
    InvM n0 h0 v1 h' env' tk' ho' gs' :=
  ⟨e0.trans I.e0, e2.trans I.e2, e3.trans I.e3, ⟨by have := F.nx; have := I.nx; omega, by rw [blk_eq (F.old n0 (by have := I.nx; omega) (by omega) (by omega))]; exact I.cell.2⟩, ⟨lid', by have := I.nx; omega, A'⟩,
    fun k hk => (F.old k (by have := I.nx; omega) (by omega) (by omega)).trans (I.old k hk), Nat.lt_of_lt_of_le I.nx F.nx⟩

set_option maxRecDepth 100000 in
theorem means_run (hσ : ∀ f a h, f ≠ 9 → σ f a h = none) (hk : ∀ h, (lim Try.prog σ).call 9 [] h = some (.bool true, none)) {h : H} {v1 : CV} {steps : List (Int × Bool)}
    (S1 : Sl Try.prog 22 h v1 2 steps.length (gcells steps)) : Tru ((lim Try.prog σ).call 4 [v1] h) := by
  rw [call_eq (hσ _ _ _ (by decide)) fn_4 rfl rfl, Try.ntmps4, Try.results4]
  have hE0 : Ext h (h.lo.alloc (.cells (newBlk [.bool false]))) := (Ext.lo h).trans (Ext.alloc _ _)
  by_cases h1 : Int.ofNat steps.length > 60
  · simp only [go_sem, Nat.reduceLT, Nat.reduceLeDiff, Nat.reduceEqDiff, Nat.reduceAdd, Nat.reduceSub, Nat.reduceMul, reduceCtorEq, Int.reduceBEq, Int.reduceLT, Int.reduceLE, Int.reduceAdd, Int.reduceSub, Int.reduceEq, Int.reduceNeg, Int.reduceToNat, Int.reduceGT, Int.reduceGE, S1.len, h1, hk, tru_fin]
  have hsl : steps.length ≤ 60 := by have := h1; simp at this; omega
  obtain ⟨hN, eN, AN, nxN, gnN, oldN⟩ := new_run hσ (h.lo.alloc (.cells (newBlk [.bool false])))
  simp only [go_sem, Nat.reduceLT, Nat.reduceLeDiff, Nat.reduceEqDiff, Nat.reduceAdd, Nat.reduceSub, Nat.reduceMul, reduceCtorEq, Int.reduceBEq, Int.reduceLT, Int.reduceLE, Int.reduceAdd, Int.reduceSub, Int.reduceEq, Int.reduceNeg, Int.reduceToNat, Int.reduceGT, Int.reduceGE] at AN nxN gnN oldN eN
  simp only [go_sem, Nat.reduceLT, Nat.reduceLeDiff, Nat.reduceEqDiff, Nat.reduceAdd, Nat.reduceSub, Nat.reduceMul, reduceCtorEq, Int.reduceBEq, Int.reduceLT, Int.reduceLE, Int.reduceAdd, Int.reduceSub, Int.reduceEq, Int.reduceNeg, Int.reduceToNat, Int.reduceGT, Int.reduceGE, S1.len, h1, hk, eN]
  refine loop_ind (Q := Tru) (fun i env h' => evT env 4 = .int .i64 (Int.ofNat i) ∧ ∃ tk ho gs, InvM h.nx h v1 h' env tk ho gs ∧ gs.length ≤ i ∧ Kept gs tk ho) steps.length 0 ?_ (Nat.zero_le _) ?_ ?_
  · refine ⟨by simp only [go_sem, Nat.reduceLT, Nat.reduceLeDiff, Nat.reduceEqDiff, Nat.reduceAdd, Nat.reduceSub, Nat.reduceMul, reduceCtorEq, Int.reduceBEq, Int.reduceLT, Int.reduceLE, Int.reduceAdd, Int.reduceSub, Int.reduceEq, Int.reduceNeg, Int.reduceToNat, Int.reduceGT, Int.reduceGE]; rfl, false, 0, [], ⟨by simp only [go_sem, Nat.reduceLT, Nat.reduceLeDiff, Nat.reduceEqDiff, Nat.reduceAdd, Nat.reduceSub, Nat.reduceMul, reduceCtorEq, Int.reduceBEq, Int.reduceLT, Int.reduceLE, Int.reduceAdd, Int.reduceSub, Int.reduceEq, Int.reduceNeg, Int.reduceToNat, Int.reduceGT, Int.reduceGE], by simp only [go_sem, Nat.reduceLT, Nat.reduceLeDiff, Nat.reduceEqDiff, Nat.reduceAdd, Nat.reduceSub, Nat.reduceMul, reduceCtorEq, Int.reduceBEq, Int.reduceLT, Int.reduceLE, Int.reduceAdd, Int.reduceSub, Int.reduceEq, Int.reduceNeg, Int.reduceToNat, Int.reduceGT, Int.reduceGE], by simp only [go_sem, Nat.reduceLT, Nat.reduceLeDiff, Nat.reduceEqDiff, Nat.reduceAdd, Nat.reduceSub, Nat.reduceMul, reduceCtorEq, Int.reduceBEq, Int.reduceLT, Int.reduceLE, Int.reduceAdd, Int.reduceSub, Int.reduceEq, Int.reduceNeg, Int.reduceToNat, Int.reduceGT, Int.reduceGE], ?_, ⟨_, Nat.le_refl _, AN⟩, fun k hk => ?_, by omega⟩, by simp, ⟨fun i g h => by simp at h, rfl, fun h => by cases h⟩⟩
    · exact ⟨by omega, _, (blk_eq (oldN h.nx (by omega))).trans (alloc_blk_same _ _ _ rfl), rfl, rfl, rfl⟩
    · rw [oldN k (by omega)]; exact hE0.old k hk
  · rintro i env h' ⟨e4, tk, ho, gs, I, hgs, G⟩ hi next
    obtain ⟨lid, hlid, A⟩ := I.arb
    obtain ⟨id, off, b, hix, hid, hb, hro, hget⟩ := S1.elt i hi
    have hb' : h'.blk id = some b := (blk_eq (I.old id hid)).trans hb
    obtain ⟨g, hg⟩ : ∃ g, steps[i]? = some g := ⟨_, List.getElem?_eq_getElem hi⟩
    have hc := gcells_at steps i g hg
    have g0 := hget 0 _ (by decide) hc.1
    have g1 := hget 1 _ (by decide) hc.2
    have hlt := ofNat_lt hi
    have hw : IntKind.wrap .i64 (Int.ofNat i + 1) = Int.ofNat (i + 1) := wrap_succ (by omega)
    rw [Nat.add_zero] at g0
    cases hg2 : g.2
    · rw [hg2] at g1
      obtain ⟨c, e, x, tk', ho', gs', lid', hr, A', F', hl', heq⟩ := release_run hσ A g.1 (by omega)
      obtain ⟨q1, q2⟩ := good_rel G heq
      simp only [go_sem, Nat.reduceLT, Nat.reduceLeDiff, Nat.reduceEqDiff, Nat.reduceAdd, Nat.reduceSub, Nat.reduceMul, reduceCtorEq, Int.reduceBEq, Int.reduceLT, Int.reduceLE, Int.reduceAdd, Int.reduceSub, Int.reduceEq, Int.reduceNeg, Int.reduceToNat, Int.reduceGT, Int.reduceGE, I.e0, I.e2, I.e3, e4, S1.len, hix, hb', g0, g1, hlt, hr, hw]
      exact next _ _ ⟨by simp only [go_sem, Nat.reduceLT, Nat.reduceLeDiff, Nat.reduceEqDiff, Nat.reduceAdd, Nat.reduceSub, Nat.reduceMul, reduceCtorEq, Int.reduceBEq, Int.reduceLT, Int.reduceLE, Int.reduceAdd, Int.reduceSub, Int.reduceEq, Int.reduceNeg, Int.reduceToNat, Int.reduceGT, Int.reduceGE], tk', ho', gs', I.step hlid A' F' hl' (by simp only [go_sem, Nat.reduceLT, Nat.reduceLeDiff, Nat.reduceEqDiff, Nat.reduceAdd, Nat.reduceSub, Nat.reduceMul, reduceCtorEq, Int.reduceBEq, Int.reduceLT, Int.reduceLE, Int.reduceAdd, Int.reduceSub, Int.reduceEq, Int.reduceNeg, Int.reduceToNat, Int.reduceGT, Int.reduceGE]) (by simp only [go_sem, Nat.reduceLT, Nat.reduceLeDiff, Nat.reduceEqDiff, Nat.reduceAdd, Nat.reduceSub, Nat.reduceMul, reduceCtorEq, Int.reduceBEq, Int.reduceLT, Int.reduceLE, Int.reduceAdd, Int.reduceSub, Int.reduceEq, Int.reduceNeg, Int.reduceToNat, Int.reduceGT, Int.reduceGE]) (by simp only [go_sem, Nat.reduceLT, Nat.reduceLeDiff, Nat.reduceEqDiff, Nat.reduceAdd, Nat.reduceSub, Nat.reduceMul, reduceCtorEq, Int.reduceBEq, Int.reduceLT, Int.reduceLE, Int.reduceAdd, Int.reduceSub, Int.reduceEq, Int.reduceNeg, Int.reduceToNat, Int.reduceGT, Int.reduceGE]), by omega, q2⟩
    · rw [hg2] at g1
      obtain ⟨c, e, x, tk', ho', gs', lid', hr, A', F', hl', heq⟩ := take_run hσ A g.1 (by omega)
      obtain ⟨q1, q2⟩ := good_take G heq
      simp only [go_sem, Nat.reduceLT, Nat.reduceLeDiff, Nat.reduceEqDiff, Nat.reduceAdd, Nat.reduceSub, Nat.reduceMul, reduceCtorEq, Int.reduceBEq, Int.reduceLT, Int.reduceLE, Int.reduceAdd, Int.reduceSub, Int.reduceEq, Int.reduceNeg, Int.reduceToNat, Int.reduceGT, Int.reduceGE, I.e0, I.e2, I.e3, e4, S1.len, hix, hb', g0, g1, hlt, hr, hw]
      exact next _ _ ⟨by simp only [go_sem, Nat.reduceLT, Nat.reduceLeDiff, Nat.reduceEqDiff, Nat.reduceAdd, Nat.reduceSub, Nat.reduceMul, reduceCtorEq, Int.reduceBEq, Int.reduceLT, Int.reduceLE, Int.reduceAdd, Int.reduceSub, Int.reduceEq, Int.reduceNeg, Int.reduceToNat, Int.reduceGT, Int.reduceGE], tk', ho', gs', I.step hlid A' F' hl' (by simp only [go_sem, Nat.reduceLT, Nat.reduceLeDiff, Nat.reduceEqDiff, Nat.reduceAdd, Nat.reduceSub, Nat.reduceMul, reduceCtorEq, Int.reduceBEq, Int.reduceLT, Int.reduceLE, Int.reduceAdd, Int.reduceSub, Int.reduceEq, Int.reduceNeg, Int.reduceToNat, Int.reduceGT, Int.reduceGE]) (by simp only [go_sem, Nat.reduceLT, Nat.reduceLeDiff, Nat.reduceEqDiff, Nat.reduceAdd, Nat.reduceSub, Nat.reduceMul, reduceCtorEq, Int.reduceBEq, Int.reduceLT, Int.reduceLE, Int.reduceAdd, Int.reduceSub, Int.reduceEq, Int.reduceNeg, Int.reduceToNat, Int.reduceGT, Int.reduceGE]) (by simp only [go_sem, Nat.reduceLT, Nat.reduceLeDiff, Nat.reduceEqDiff, Nat.reduceAdd, Nat.reduceSub, Nat.reduceMul, reduceCtorEq, Int.reduceBEq, Int.reduceLT, Int.reduceLE, Int.reduceAdd, Int.reduceSub, Int.reduceEq, Int.reduceNeg, Int.reduceToNat, Int.reduceGT, Int.reduceGE]), by omega, q2⟩
  · rintro env h' ⟨e4, tk, ho, gs, I, hgs, G⟩
    have hlt := ofNat_nlt (Nat.le_refl steps.length)
    obtain ⟨lid, hlid, A⟩ := I.arb
    simp only [go_sem, Nat.reduceLT, Nat.reduceLeDiff, Nat.reduceEqDiff, Nat.reduceAdd, Nat.reduceSub, Nat.reduceMul, reduceCtorEq, Int.reduceBEq, Int.reduceLT, Int.reduceLE, Int.reduceAdd, Int.reduceSub, Int.reduceEq, Int.reduceNeg, Int.reduceToNat, Int.reduceGT, Int.reduceGE, I.e0, I.e2, I.e3, e4, S1.len, hlt]
    obtain ⟨X, hX⟩ : ∃ X, X = (((h'.alloc (.cells (newBlk [.bool false]))).alloc (.cells (newBlk [.int .i64 0]))).put h'.nx (.cells ((newBlk [.bool false]).st 0 (.bool false)))).put (h'.nx + 1) (.cells ((newBlk [.int .i64 0]).st 0 (.int .i64 0))) := ⟨_, rfl⟩
    rw [← hX]
    have hI := I.nx
    have EX : Ext h' X := by rw [hX]; exact ((((Ext.refl _).alloc' _).alloc' _).put _ (by omega)).put _ (by omega)
    have C5 : Cell X h'.nx (.bool false) := by
      subst hX
      exact ⟨by first | (simp only [go_sem, Nat.reduceLT, Nat.reduceLeDiff, Nat.reduceEqDiff, Nat.reduceAdd, Nat.reduceSub, Nat.reduceMul, reduceCtorEq, Int.reduceBEq, Int.reduceLT, Int.reduceLE, Int.reduceAdd, Int.reduceSub, Int.reduceEq, Int.reduceNeg, Int.reduceToNat, Int.reduceGT, Int.reduceGE]; omega) | simp only [go_sem, Nat.reduceLT, Nat.reduceLeDiff, Nat.reduceEqDiff, Nat.reduceAdd, Nat.reduceSub, Nat.reduceMul, reduceCtorEq, Int.reduceBEq, Int.reduceLT, Int.reduceLE, Int.reduceAdd, Int.reduceSub, Int.reduceEq, Int.reduceNeg, Int.reduceToNat, Int.reduceGT, Int.reduceGE], _, (put_blk_ne _ _ _ _ (by omega)).trans (put_blk_same _ _ _), rfl, rfl, rfl⟩
    have C6 : Cell X (h'.nx + 1) (.int .i64 0) := by
      subst hX
      exact ⟨by first | (simp only [go_sem, Nat.reduceLT, Nat.reduceLeDiff, Nat.reduceEqDiff, Nat.reduceAdd, Nat.reduceSub, Nat.reduceMul, reduceCtorEq, Int.reduceBEq, Int.reduceLT, Int.reduceLE, Int.reduceAdd, Int.reduceSub, Int.reduceEq, Int.reduceNeg, Int.reduceToNat, Int.reduceGT, Int.reduceGE]; omega) | simp only [go_sem, Nat.reduceLT, Nat.reduceLeDiff, Nat.reduceEqDiff, Nat.reduceAdd, Nat.reduceSub, Nat.reduceMul, reduceCtorEq, Int.reduceBEq, Int.reduceLT, Int.reduceLE, Int.reduceAdd, Int.reduceSub, Int.reduceEq, Int.reduceNeg, Int.reduceToNat, Int.reduceGT, Int.reduceGE], _, put_blk_same _ _ _, rfl, rfl, rfl⟩
    clear hX
    refine call_step (hist_run hσ (A.ext EX) (by omega)) ?_
    rintro _ x1 ⟨c1, u1, id1, b1, rfl, E1, _, _, _, _, _, _⟩
    simp only [go_sem, Nat.reduceLT, Nat.reduceLeDiff, Nat.reduceEqDiff, Nat.reduceAdd, Nat.reduceSub, Nat.reduceMul, reduceCtorEq, Int.reduceBEq, Int.reduceLT, Int.reduceLE, Int.reduceAdd, Int.reduceSub, Int.reduceEq, Int.reduceNeg, Int.reduceToNat, Int.reduceGT, Int.reduceGE, I.e0, I.e2, I.e3, e4]
    refine call_step (hist_run hσ (A.ext (EX.trans E1)) (by omega)) ?_
    rintro _ x2 ⟨c2, u2, id2, b2, rfl, E2, hc2, hc2', hb2, hu2, L2, hid2⟩
    have EY := (EX.trans E1).trans E2
    have D5 := (C5.ext E1).ext E2
    have D6 := (C6.ext E1).ext E2
    have A2 := A.ext EY
    have hXn := EX.nx
    simp only [go_sem, Nat.reduceLT, Nat.reduceLeDiff, Nat.reduceEqDiff, Nat.reduceAdd, Nat.reduceSub, Nat.reduceMul, reduceCtorEq, Int.reduceBEq, Int.reduceLT, Int.reduceLE, Int.reduceAdd, Int.reduceSub, Int.reduceEq, Int.reduceNeg, Int.reduceToNat, Int.reduceGT, Int.reduceGE]
    generalize x2.getD (x1.getD X) = Y at *
    have K0 := I.cell.ext EY
    refine iter_law (Q := Tru) hσ (J := fun i h1 => Cell h1 h'.nx (.bool (prev gs i).1) ∧ Cell h1 (h'.nx + 1) (.int .i64 (prev gs i).2) ∧ Y.nx ≤ h1.nx ∧ ∀ k, k < Y.nx → k ≠ h'.nx → k ≠ h'.nx + 1 → h1.t.get k = Y.t.get k) hc2 hb2 hu2 L2 ?_ ?_ (by omega) ?_ ?_
    · exact ⟨D5.ext (Ext.alloc _ _), D6.ext (Ext.alloc _ _), (Ext.alloc _ _).nx, fun k hk _ _ => (Ext.alloc _ _).old k hk⟩
    · rintro i h1 h2 ⟨j1, j2, j3, j4⟩ e
      exact ⟨j1.ext e, j2.ext e, Nat.le_trans j3 e.nx, fun k hk q1 q2 => (e.old k (by omega)).trans (j4 k hk q1 q2)⟩
    · rintro i h1 g hl hn L1 ⟨⟨q5, b5, hb5, ro5, n5, g5⟩, ⟨q6, b6, hb6, ro6, n6, g6⟩, j3, j4⟩ hg
      obtain ⟨f1, f2, f3⟩ := G.fits i g hg
      have w1 : Y.nx ≠ h1.nx := by omega
      have w2 : h'.nx ≠ h1.nx := by omega
      have w3 : h'.nx + 1 ≠ h1.nx := by omega
      have w4 : h'.nx ≠ Y.nx := by have := D5.1; omega
      have w5 : h'.nx + 1 ≠ Y.nx := by have := D6.1; omega
      have w6 : h1.nx ≠ Y.nx := by omega
      have w7 : Y.nx ≠ h'.nx := by omega
      have w8 : Y.nx ≠ h'.nx + 1 := by omega
      have w9 : h1.nx ≠ h'.nx := by omega
      have w10 : h1.nx ≠ h'.nx + 1 := by omega
      have f4 : ¬ g.1 < 0 := by omega
      have f5 : ¬ g.1 > 1 := by omega
      have hpv : prev gs (i + 1) = (g.2, g.1) := by simp [prev, hg]
      cases hp : (prev gs i).1
      · have hg2 : g.2 = true := by rw [hp] at f1; simpa using f1
        rw [hp] at g5
        rw [hg2] at hpv ⊢
        simp only [round_eq, hl, go_sem, Nat.reduceLT, Nat.reduceLeDiff, Nat.reduceEqDiff, Nat.reduceAdd, Nat.reduceSub, Nat.reduceMul, reduceCtorEq, Int.reduceBEq, Int.reduceLT, Int.reduceLE, Int.reduceAdd, Int.reduceSub, Int.reduceEq, Int.reduceNeg, Int.reduceToNat, Int.reduceGT, Int.reduceGE, I.e0, I.e2, I.e3, e4, hb5, hb6, g5, g6, ro5, ro6, n5, n6, w1, w2, w3, w4, w5, w6, w7, w8, w9, w10, eq_4, f4, f5]
        rw [cnd_closed]
        rotate_left
        · kernel_rfl
        simp only [go_sem, Nat.reduceLT, Nat.reduceLeDiff, Nat.reduceEqDiff, Nat.reduceAdd, Nat.reduceSub, Nat.reduceMul, reduceCtorEq, Int.reduceBEq, Int.reduceLT, Int.reduceLE, Int.reduceAdd, Int.reduceSub, Int.reduceEq, Int.reduceNeg, Int.reduceToNat, Int.reduceGT, Int.reduceGE, hb5, hb6, g5, g6, ro5, ro6, n5, n6, w1, w2, w3, w4, w5, w6, w7, w8, w9, w10]
        rw [cnd_closed]
        rotate_left
        · kernel_rfl
        simp only [go_sem, Nat.reduceLT, Nat.reduceLeDiff, Nat.reduceEqDiff, Nat.reduceAdd, Nat.reduceSub, Nat.reduceMul, reduceCtorEq, Int.reduceBEq, Int.reduceLT, Int.reduceLE, Int.reduceAdd, Int.reduceSub, Int.reduceEq, Int.reduceNeg, Int.reduceToNat, Int.reduceGT, Int.reduceGE, hl, hb5, hb6, g5, g6, ro5, ro6, n5, n6, w1, w2, w3, w4, w5, w6, w7, w8, w9, w10]
        refine ⟨_, rfl, put_get_same _ _ _, ?_, ⟨?_, ?_, ?_, ?_⟩, ?_, ?_⟩
        · refine L1.mono (by first | (simp only [go_sem, Nat.reduceLT, Nat.reduceLeDiff, Nat.reduceEqDiff, Nat.reduceAdd, Nat.reduceSub, Nat.reduceMul, reduceCtorEq, Int.reduceBEq, Int.reduceLT, Int.reduceLE, Int.reduceAdd, Int.reduceSub, Int.reduceEq, Int.reduceNeg, Int.reduceToNat, Int.reduceGT, Int.reduceGE]; omega) | simp only [go_sem, Nat.reduceLT, Nat.reduceLeDiff, Nat.reduceEqDiff, Nat.reduceAdd, Nat.reduceSub, Nat.reduceMul, reduceCtorEq, Int.reduceBEq, Int.reduceLT, Int.reduceLE, Int.reduceAdd, Int.reduceSub, Int.reduceEq, Int.reduceNeg, Int.reduceToNat, Int.reduceGT, Int.reduceGE]) fun hne => ?_
          have v1 := hid2 hne
          have v2 := E1.nx
          have v3 := L1.lt hne
          have v4 := L2.lt hne
          have v5 : id2 ≠ Y.nx := by omega
          have v6 : id2 ≠ h'.nx := by omega
          have v7 : id2 ≠ h'.nx + 1 := by have := C6.1; omega
          have v8 : id2 ≠ h1.nx := by omega
          simp only [go_sem, Nat.reduceLT, Nat.reduceLeDiff, Nat.reduceEqDiff, Nat.reduceAdd, Nat.reduceSub, Nat.reduceMul, reduceCtorEq, Int.reduceBEq, Int.reduceLT, Int.reduceLE, Int.reduceAdd, Int.reduceSub, Int.reduceEq, Int.reduceNeg, Int.reduceToNat, Int.reduceGT, Int.reduceGE, v5, v6, v7, v8]
        · rw [hpv]; exact ((Cell.put (by first | (simp only [go_sem, Nat.reduceLT, Nat.reduceLeDiff, Nat.reduceEqDiff, Nat.reduceAdd, Nat.reduceSub, Nat.reduceMul, reduceCtorEq, Int.reduceBEq, Int.reduceLT, Int.reduceLE, Int.reduceAdd, Int.reduceSub, Int.reduceEq, Int.reduceNeg, Int.reduceToNat, Int.reduceGT, Int.reduceGE]; omega) | simp only [go_sem, Nat.reduceLT, Nat.reduceLeDiff, Nat.reduceEqDiff, Nat.reduceAdd, Nat.reduceSub, Nat.reduceMul, reduceCtorEq, Int.reduceBEq, Int.reduceLT, Int.reduceLE, Int.reduceAdd, Int.reduceSub, Int.reduceEq, Int.reduceNeg, Int.reduceToNat, Int.reduceGT, Int.reduceGE]) ro5 n5).put_ne (by omega)).put_ne w4
        · rw [hpv]; exact (Cell.put (by first | (simp only [go_sem, Nat.reduceLT, Nat.reduceLeDiff, Nat.reduceEqDiff, Nat.reduceAdd, Nat.reduceSub, Nat.reduceMul, reduceCtorEq, Int.reduceBEq, Int.reduceLT, Int.reduceLE, Int.reduceAdd, Int.reduceSub, Int.reduceEq, Int.reduceNeg, Int.reduceToNat, Int.reduceGT, Int.reduceGE]; omega) | simp only [go_sem, Nat.reduceLT, Nat.reduceLeDiff, Nat.reduceEqDiff, Nat.reduceAdd, Nat.reduceSub, Nat.reduceMul, reduceCtorEq, Int.reduceBEq, Int.reduceLT, Int.reduceLE, Int.reduceAdd, Int.reduceSub, Int.reduceEq, Int.reduceNeg, Int.reduceToNat, Int.reduceGT, Int.reduceGE]) ro6 n6).put_ne w5
        · first | (simp only [go_sem, Nat.reduceLT, Nat.reduceLeDiff, Nat.reduceEqDiff, Nat.reduceAdd, Nat.reduceSub, Nat.reduceMul, reduceCtorEq, Int.reduceBEq, Int.reduceLT, Int.reduceLE, Int.reduceAdd, Int.reduceSub, Int.reduceEq, Int.reduceNeg, Int.reduceToNat, Int.reduceGT, Int.reduceGE]; omega) | simp only [go_sem, Nat.reduceLT, Nat.reduceLeDiff, Nat.reduceEqDiff, Nat.reduceAdd, Nat.reduceSub, Nat.reduceMul, reduceCtorEq, Int.reduceBEq, Int.reduceLT, Int.reduceLE, Int.reduceAdd, Int.reduceSub, Int.reduceEq, Int.reduceNeg, Int.reduceToNat, Int.reduceGT, Int.reduceGE]
        · intro k hk z1 z2
          have z3 : k ≠ Y.nx := by omega
          have z4 : k ≠ h1.nx := by omega
          simp only [go_sem, Nat.reduceLT, Nat.reduceLeDiff, Nat.reduceEqDiff, Nat.reduceAdd, Nat.reduceSub, Nat.reduceMul, reduceCtorEq, Int.reduceBEq, Int.reduceLT, Int.reduceLE, Int.reduceAdd, Int.reduceSub, Int.reduceEq, Int.reduceNeg, Int.reduceToNat, Int.reduceGT, Int.reduceGE, z1, z2, z3, z4]
          exact j4 k hk z1 z2
        · simp only [go_sem, Nat.reduceLT, Nat.reduceLeDiff, Nat.reduceEqDiff, Nat.reduceAdd, Nat.reduceSub, Nat.reduceMul, reduceCtorEq, Int.reduceBEq, Int.reduceLT, Int.reduceLE, Int.reduceAdd, Int.reduceSub, Int.reduceEq, Int.reduceNeg, Int.reduceToNat, Int.reduceGT, Int.reduceGE]; omega
        · first | (simp only [go_sem, Nat.reduceLT, Nat.reduceLeDiff, Nat.reduceEqDiff, Nat.reduceAdd, Nat.reduceSub, Nat.reduceMul, reduceCtorEq, Int.reduceBEq, Int.reduceLT, Int.reduceLE, Int.reduceAdd, Int.reduceSub, Int.reduceEq, Int.reduceNeg, Int.reduceToNat, Int.reduceGT, Int.reduceGE]; omega) | simp only [go_sem, Nat.reduceLT, Nat.reduceLeDiff, Nat.reduceEqDiff, Nat.reduceAdd, Nat.reduceSub, Nat.reduceMul, reduceCtorEq, Int.reduceBEq, Int.reduceLT, Int.reduceLE, Int.reduceAdd, Int.reduceSub, Int.reduceEq, Int.reduceNeg, Int.reduceToNat, Int.reduceGT, Int.reduceGE]
      · have hg2 : g.2 = false := by rw [hp] at f1; simpa using f1
        have hby := (f2 hg2).symm
        rw [hp] at g5
        rw [hby] at g6
        rw [hg2] at hpv ⊢
        simp only [round_eq, hl, go_sem, Nat.reduceLT, Nat.reduceLeDiff, Nat.reduceEqDiff, Nat.reduceAdd, Nat.reduceSub, Nat.reduceMul, reduceCtorEq, Int.reduceBEq, Int.reduceLT, Int.reduceLE, Int.reduceAdd, Int.reduceSub, Int.reduceEq, Int.reduceNeg, Int.reduceToNat, Int.reduceGT, Int.reduceGE, I.e0, I.e2, I.e3, e4, hb5, hb6, g5, g6, ro5, ro6, n5, n6, w1, w2, w3, w4, w5, w6, w7, w8, w9, w10, eq_4, f4, f5]
        rw [cnd_closed]
        rotate_left
        · kernel_rfl
        simp only [go_sem, Nat.reduceLT, Nat.reduceLeDiff, Nat.reduceEqDiff, Nat.reduceAdd, Nat.reduceSub, Nat.reduceMul, reduceCtorEq, Int.reduceBEq, Int.reduceLT, Int.reduceLE, Int.reduceAdd, Int.reduceSub, Int.reduceEq, Int.reduceNeg, Int.reduceToNat, Int.reduceGT, Int.reduceGE, hb5, hb6, g5, g6, ro5, ro6, n5, n6, w1, w2, w3, w4, w5, w6, w7, w8, w9, w10]
        rw [cnd_closed]
        rotate_left
        · kernel_rfl
        simp only [go_sem, Nat.reduceLT, Nat.reduceLeDiff, Nat.reduceEqDiff, Nat.reduceAdd, Nat.reduceSub, Nat.reduceMul, reduceCtorEq, Int.reduceBEq, Int.reduceLT, Int.reduceLE, Int.reduceAdd, Int.reduceSub, Int.reduceEq, Int.reduceNeg, Int.reduceToNat, Int.reduceGT, Int.reduceGE, hl, hb5, hb6, g5, g6, ro5, ro6, n5, n6, w1, w2, w3, w4, w5, w6, w7, w8, w9, w10]
        refine ⟨_, rfl, put_get_same _ _ _, ?_, ⟨?_, ?_, ?_, ?_⟩, ?_, ?_⟩
        · refine L1.mono (by first | (simp only [go_sem, Nat.reduceLT, Nat.reduceLeDiff, Nat.reduceEqDiff, Nat.reduceAdd, Nat.reduceSub, Nat.reduceMul, reduceCtorEq, Int.reduceBEq, Int.reduceLT, Int.reduceLE, Int.reduceAdd, Int.reduceSub, Int.reduceEq, Int.reduceNeg, Int.reduceToNat, Int.reduceGT, Int.reduceGE]; omega) | simp only [go_sem, Nat.reduceLT, Nat.reduceLeDiff, Nat.reduceEqDiff, Nat.reduceAdd, Nat.reduceSub, Nat.reduceMul, reduceCtorEq, Int.reduceBEq, Int.reduceLT, Int.reduceLE, Int.reduceAdd, Int.reduceSub, Int.reduceEq, Int.reduceNeg, Int.reduceToNat, Int.reduceGT, Int.reduceGE]) fun hne => ?_
          have v1 := hid2 hne
          have v2 := E1.nx
          have v3 := L1.lt hne
          have v4 := L2.lt hne
          have v5 : id2 ≠ Y.nx := by omega
          have v6 : id2 ≠ h'.nx := by omega
          have v7 : id2 ≠ h'.nx + 1 := by have := C6.1; omega
          have v8 : id2 ≠ h1.nx := by omega
          simp only [go_sem, Nat.reduceLT, Nat.reduceLeDiff, Nat.reduceEqDiff, Nat.reduceAdd, Nat.reduceSub, Nat.reduceMul, reduceCtorEq, Int.reduceBEq, Int.reduceLT, Int.reduceLE, Int.reduceAdd, Int.reduceSub, Int.reduceEq, Int.reduceNeg, Int.reduceToNat, Int.reduceGT, Int.reduceGE, v5, v6, v7, v8]
        · rw [hpv]; exact ((Cell.put (by first | (simp only [go_sem, Nat.reduceLT, Nat.reduceLeDiff, Nat.reduceEqDiff, Nat.reduceAdd, Nat.reduceSub, Nat.reduceMul, reduceCtorEq, Int.reduceBEq, Int.reduceLT, Int.reduceLE, Int.reduceAdd, Int.reduceSub, Int.reduceEq, Int.reduceNeg, Int.reduceToNat, Int.reduceGT, Int.reduceGE]; omega) | simp only [go_sem, Nat.reduceLT, Nat.reduceLeDiff, Nat.reduceEqDiff, Nat.reduceAdd, Nat.reduceSub, Nat.reduceMul, reduceCtorEq, Int.reduceBEq, Int.reduceLT, Int.reduceLE, Int.reduceAdd, Int.reduceSub, Int.reduceEq, Int.reduceNeg, Int.reduceToNat, Int.reduceGT, Int.reduceGE]) ro5 n5).put_ne (by omega)).put_ne w4
        · rw [hpv]; exact (Cell.put (by first | (simp only [go_sem, Nat.reduceLT, Nat.reduceLeDiff, Nat.reduceEqDiff, Nat.reduceAdd, Nat.reduceSub, Nat.reduceMul, reduceCtorEq, Int.reduceBEq, Int.reduceLT, Int.reduceLE, Int.reduceAdd, Int.reduceSub, Int.reduceEq, Int.reduceNeg, Int.reduceToNat, Int.reduceGT, Int.reduceGE]; omega) | simp only [go_sem, Nat.reduceLT, Nat.reduceLeDiff, Nat.reduceEqDiff, Nat.reduceAdd, Nat.reduceSub, Nat.reduceMul, reduceCtorEq, Int.reduceBEq, Int.reduceLT, Int.reduceLE, Int.reduceAdd, Int.reduceSub, Int.reduceEq, Int.reduceNeg, Int.reduceToNat, Int.reduceGT, Int.reduceGE]) ro6 n6).put_ne w5
        · first | (simp only [go_sem, Nat.reduceLT, Nat.reduceLeDiff, Nat.reduceEqDiff, Nat.reduceAdd, Nat.reduceSub, Nat.reduceMul, reduceCtorEq, Int.reduceBEq, Int.reduceLT, Int.reduceLE, Int.reduceAdd, Int.reduceSub, Int.reduceEq, Int.reduceNeg, Int.reduceToNat, Int.reduceGT, Int.reduceGE]; omega) | simp only [go_sem, Nat.reduceLT, Nat.reduceLeDiff, Nat.reduceEqDiff, Nat.reduceAdd, Nat.reduceSub, Nat.reduceMul, reduceCtorEq, Int.reduceBEq, Int.reduceLT, Int.reduceLE, Int.reduceAdd, Int.reduceSub, Int.reduceEq, Int.reduceNeg, Int.reduceToNat, Int.reduceGT, Int.reduceGE]
        · intro k hk z1 z2
          have z3 : k ≠ Y.nx := by omega
          have z4 : k ≠ h1.nx := by omega
          simp only [go_sem, Nat.reduceLT, Nat.reduceLeDiff, Nat.reduceEqDiff, Nat.reduceAdd, Nat.reduceSub, Nat.reduceMul, reduceCtorEq, Int.reduceBEq, Int.reduceLT, Int.reduceLE, Int.reduceAdd, Int.reduceSub, Int.reduceEq, Int.reduceNeg, Int.reduceToNat, Int.reduceGT, Int.reduceGE, z1, z2, z3, z4]
          exact j4 k hk z1 z2
        · simp only [go_sem, Nat.reduceLT, Nat.reduceLeDiff, Nat.reduceEqDiff, Nat.reduceAdd, Nat.reduceSub, Nat.reduceMul, reduceCtorEq, Int.reduceBEq, Int.reduceLT, Int.reduceLE, Int.reduceAdd, Int.reduceSub, Int.reduceEq, Int.reduceNeg, Int.reduceToNat, Int.reduceGT, Int.reduceGE]; omega
        · first | (simp only [go_sem, Nat.reduceLT, Nat.reduceLeDiff, Nat.reduceEqDiff, Nat.reduceAdd, Nat.reduceSub, Nat.reduceMul, reduceCtorEq, Int.reduceBEq, Int.reduceLT, Int.reduceLE, Int.reduceAdd, Int.reduceSub, Int.reduceEq, Int.reduceNeg, Int.reduceToNat, Int.reduceGT, Int.reduceGE]; omega) | simp only [go_sem, Nat.reduceLT, Nat.reduceLeDiff, Nat.reduceEqDiff, Nat.reduceAdd, Nat.reduceSub, Nat.reduceMul, reduceCtorEq, Int.reduceBEq, Int.reduceLT, Int.reduceLE, Int.reduceAdd, Int.reduceSub, Int.reduceEq, Int.reduceNeg, Int.reduceToNat, Int.reduceGT, Int.reduceGE]
    · rintro x Z hZ hl hn ⟨⟨q5, b5, hb5, ro5, n5, g5⟩, ⟨q6, b6, hb6, ro6, n6, g6⟩, j3, j4⟩
      have y1 : h'.nx < Y.nx := D5.1
      have y2 : h'.nx + 1 < Y.nx := D6.1
      obtain ⟨_, b0, hb0, ro0, n0, g0⟩ := K0
      simp only [go_sem, Nat.reduceLT, Nat.reduceLeDiff, Nat.reduceEqDiff, Nat.reduceAdd, Nat.reduceSub, Nat.reduceMul, reduceCtorEq, Int.reduceBEq, Int.reduceLT, Int.reduceLE, Int.reduceAdd, Int.reduceSub, Int.reduceEq, Int.reduceNeg, Int.reduceToNat, Int.reduceGT, Int.reduceGE, hZ, hl, I.e3]
      have A3 : ∀ o, ArbAt (Z.put Y.nx o) (h.nx + 1) lid tk ho gs := fun o => A2.same (by first | (simp only [go_sem, Nat.reduceLT, Nat.reduceLeDiff, Nat.reduceEqDiff, Nat.reduceAdd, Nat.reduceSub, Nat.reduceMul, reduceCtorEq, Int.reduceBEq, Int.reduceLT, Int.reduceLE, Int.reduceAdd, Int.reduceSub, Int.reduceEq, Int.reduceNeg, Int.reduceToNat, Int.reduceGT, Int.reduceGE]; omega) | simp only [go_sem, Nat.reduceLT, Nat.reduceLeDiff, Nat.reduceEqDiff, Nat.reduceAdd, Nat.reduceSub, Nat.reduceMul, reduceCtorEq, Int.reduceBEq, Int.reduceLT, Int.reduceLE, Int.reduceAdd, Int.reduceSub, Int.reduceEq, Int.reduceNeg, Int.reduceToNat, Int.reduceGT, Int.reduceGE])
        (by rw [put_get_ne _ _ _ _ (by omega)]; exact j4 _ (by omega) (by omega) (by omega))
        (fun hne => by
          obtain ⟨_, _, _, _, _, _, _, _, _, hL⟩ := A.blk
          have := hL.lt hne
          rw [put_get_ne _ _ _ _ (by omega)]; exact j4 _ (by omega) (by omega) (by omega))
      have hb0' : Z.blk h.nx = some b0 := (blk_eq (j4 _ (by omega) (by omega) (by omega))).trans hb0
      have z1 : h'.nx ≠ Y.nx := by omega
      have z2 : h'.nx + 1 ≠ Y.nx := by omega
      have z3 : h.nx ≠ Y.nx := by omega
      have gl := G.last
      rw [gl] at g5
      cases tk
      · simp only [go_sem, Nat.reduceLT, Nat.reduceLeDiff, Nat.reduceEqDiff, Nat.reduceAdd, Nat.reduceSub, Nat.reduceMul, reduceCtorEq, Int.reduceBEq, Int.reduceLT, Int.reduceLE, Int.reduceAdd, Int.reduceSub, Int.reduceEq, Int.reduceNeg, Int.reduceToNat, Int.reduceGT, Int.reduceGE, hZ, holder_run hσ (A3 _), I.e2, hb0', hb5, hb6, g5, g6, g0, ro0, n0, z1, z2, z3, eq_4]
        exact tru_fin _ _
      · rw [G.by_ rfl] at g6
        simp only [go_sem, Nat.reduceLT, Nat.reduceLeDiff, Nat.reduceEqDiff, Nat.reduceAdd, Nat.reduceSub, Nat.reduceMul, reduceCtorEq, Int.reduceBEq, Int.reduceLT, Int.reduceLE, Int.reduceAdd, Int.reduceSub, Int.reduceEq, Int.reduceNeg, Int.reduceToNat, Int.reduceGT, Int.reduceGE, hZ, holder_run hσ (A3 _), I.e2, hb0', hb5, hb6, g5, g6, g0, ro0, n0, z1, z2, z3, eq_4]
        exact tru_fin _ _
end Go.Cl.A

namespace Go.Cl.A

set_option maxRecDepth 100000 in
theorem step_of {h : H} {xs : List CV} (hl : xs.length = 2) (r : Rd Try.prog h 28 xs) : ∃ g : Int × Bool, xs = [.int .i64 g.1, .bool g.2] := by
  obtain ⟨_, hf⟩ := r.struct_inv Try.underlying28
  have h0 := hf _ (List.mem_cons_self)
  have h1 := hf _ (List.mem_cons_of_mem _ List.mem_cons_self)
  obtain ⟨n, e0, _⟩ := h0.int_inv Try.underlying3
  obtain ⟨b, e1⟩ := h1.bool_inv Try.underlying4
  rw [show Try.prog.cellsOf 3 = 1 from by kernel_rfl] at e0
  rw [show Try.prog.cellsOf 4 = 1 from by kernel_rfl] at e1
  match xs, hl with
  | [x, y], _ =>
    simp at e0 e1
    exact ⟨(n, b), by rw [e0, e1]⟩

theorem steps_of {h : H} {c : CV} (a : Arg Try.prog h 22 c) : ∃ steps : List (Int × Bool), Sl Try.prog 22 h c 2 steps.length (gcells steps) := by
  have h1 : c.one = true := by rcases a.one with ⟨_, h⟩ | ⟨_, _, h⟩ | h; rw [Try.underlying22] at h; cases h; rw [Try.underlying22] at h; cases h; exact h
  have r := a.rd
  rw [cells_one h1] at r
  obtain ⟨n, xs, _, hx, hs⟩ := r.slice_inv Try.underlying22 sz_28
  obtain ⟨l, hl, hq⟩ := list_of (Q := fun i (g : Int × Bool) => xs i = [.int .i64 g.1, .bool g.2]) n fun i hi => step_of (hx i hi).1 (hx i hi).2
  subst hl
  refine ⟨l, hs _ fun i j x hi hj hn => ?_⟩
  obtain ⟨g, hg⟩ : ∃ g, l[i]? = some g := ⟨_, List.getElem?_eq_getElem hi⟩
  obtain ⟨g0, g1⟩ := gcells_at l i g hg
  rw [hq i g hg]
  match j, hj with
  | 0, _ => rw [Nat.add_zero, g0] at hn; cases hn; rfl
  | 1, _ => rw [g1] at hn; cases hn; rfl

theorem bools_of {h : H} {c : CV} (a : Arg Try.prog h 23 c) : ∃ more : List Bool, Sl Try.prog 23 h c 1 more.length (more.map .bool) := by
  have h1 : c.one = true := by rcases a.one with ⟨_, h⟩ | ⟨_, _, h⟩ | h; rw [Try.underlying23] at h; cases h; rw [Try.underlying23] at h; cases h; exact h
  have r := a.rd
  rw [cells_one h1] at r
  obtain ⟨n, xs, _, hx, hs⟩ := r.slice_inv Try.underlying23 sz_4
  obtain ⟨l, hl, hq⟩ := list_of (Q := fun i (b : Bool) => xs i = [.bool b]) n fun i hi => by
    obtain ⟨b, hb⟩ := (hx i hi).2.bool_inv Try.underlying4
    exact ⟨b, hb⟩
  subst hl
  refine ⟨l, hs _ fun i j x hi hj hn => ?_⟩
  have : j = 0 := by omega
  subst this
  rw [Nat.mul_one, Nat.add_zero, nth_eq] at hn
  obtain ⟨g, hg⟩ : ∃ g, l[i]? = some g := ⟨_, List.getElem?_eq_getElem hi⟩
  rw [hq i g hg]
  simp [hg] at hn
  subst hn; rfl
end Go.Cl.A


namespace Go.Proofs.Ytbdokmhibgpjhaa
open Go.ChangeShapes Go.WideShapes Go.ChangeAt Go.RowKit Go.Cl Go.Cl.A

theorem arbiterMeans_own : ownKnob Try.prog.godebug = none := by kernel_rfl
theorem arbiterMeans_mixed : Try.prog.follows .mixedOrders = true := by kernel_rfl
theorem arbiterMeans_plain : plainB Try.prog = true := by kernel_rfl
theorem arbiterMeans_laidOut : laidOutB Try.prog = true := by kernel_rfl
set_option maxRecDepth 1000000 in
theorem arbiterMeans_known : (callK Try.prog noSums 10000000 9 [] (h0 0)).map Prod.fst = some (.bool true) := by kernel_rfl

set_option maxRecDepth 100000 in
theorem arbiterMeans_lifted (os : Os) (started : os.Started) (H : Type) (enc : TypeId × Value → H) :
    ReturnsInHanded {} Try.checked os 4 .any (Rows.arbiterMeansSpec.pre6 enc Try.prog Try.f4 Rows.arbiterMeansRow.domain false) (Rows.arbiterMeansSpec.post enc Try.prog Try.f4 false true false false) := by
  refine returnsInHanded_of_change (C := Try.checked) arbiterMeans_own started (by kernel_rfl) Try.func4
    (ChangeSpec.witness6 (enc := enc) (C := Try.checked) false ⟨#[], #[.slice none 0 0], []⟩ 8 (by kernel_rfl) (by kernel_rfl) (by kernel_rfl) (by kernel_rfl)) ?_
  intro W base args ds gs before hval hW _ _
  have hW' := hW
  obtain ⟨p, q, hA0, hV, hpq, hfz, _⟩ := hW
  have hlt := hW'.lt
  have hA : DataW.TrodAll enc Try.prog W 0 (fun _ => true) true Try.f4.params.toList args.toList ds p := hA0
  rw [Try.params4] at hA
  obtain ⟨v0, d0, rfl, rfl, t0⟩ := trodAll_one hA
  obtain ⟨rfl, rfl⟩ := trodVars_none hV
  subst hpq
  have hv : ∀ (j : Nat) t v, (#[22] : Array Nat)[j]? = some t → (#[v0] : Array Value)[j]? = some v → Value.okWide Try.prog W .any base t v := by
    intro j t v hj hvj
    exact hval j t v (by rw [Try.params4]; exact hj) hvj
  have rel := rel0 W
  have a0 : ∀ id o, (h0 0).t.get id = some o → o.ro = true := fun id o ho => by rw [show (h0 0).t = T.nil from rfl, T.get_nil] at ho; cases ho
  obtain ⟨h1, f1, c0, r1, g1, e0, A0⟩ := layArg (n := 8) (t := 22) (by kernel_rfl) (hv 0 22 v0 rfl rfl) t0 rel a0
  obtain ⟨steps, S0⟩ := steps_of A0
  have run := means_run (σ := tell 9 (.bool true)) tell_other tell_self (h := h1) S0
  have hc := open_calls arbiterMeans_plain arbiterMeans_mixed (tell_ok arbiterMeans_plain arbiterMeans_mixed arbiterMeans_known rfl) r1 (g1.all a0) (by simp only [okL]; exact ⟨A0.ok, trivial⟩) run
  have hr : (renL f1 [c0]).toArray = #[v0] := by
    rw [← e0]; rfl
  rw [hr] at hc
  refine hc.mono fun e W' ⟨he, hb⟩ => ?_
  subst he
  refine ⟨_, rfl, ?_⟩
  have hl : ∀ x ∈ p ++ [], x.block < W.heap.size := hW'.lt
  exact ⟨_, _, _, [], _, [], hW', trodAll_mk1 (shut_bool Try.underlying4 _),
    trodAll_mk1 (Below.trod arbiterMeans_laidOut (by kernel_rfl) (of_decide_eq_true (by kernel_rfl)) t0 hb fun x hx => hl x (by simp [hx])), rfl, hb.frame _, fun h => by cases h⟩

theorem arbiterMeans_holds : Rows.ArbiterMeansSaid :=
  OpenClaim.holds_of_wide 4 Try.f4 rfl rfl rfl rfl rfl rfl rfl ⟨rfl, rfl, rfl, rfl, rfl⟩ rfl rfl rfl rfl rfl (by kernel_rfl) Try.func4 (by kernel_rfl)
    (of_decide_eq_true (by kernel_rfl)) (by unfold Func.isWrapper; rw [if_neg (by decide +kernel)]; exact ⟨rfl, rfl⟩)
    (fun os started H enc _ => arbiterMeans_lifted os started H enc)
#print axioms arbiterMeans_holds
end Go.Proofs.Ytbdokmhibgpjhaa
