/- gemel, the law ArbiterHolds: the given statement 'ArbiterHoldsSaid': whatever the steps, the other node's takings, and the node, the call returns true in every run, and each argument reads as it did. Conditions: none.
   How: the evaluator's run by rewriting (the texts before), the arguments laid (ClArg), and callC_sound. -/
import Derived.Test.YtbdokmhibgpjhaaRows
import Derived.Test.YtbdokmhibgpjhaaClH
set_option linter.all false
open Go Go.Cl Go.Proofs
namespace Go.Cl.A
variable {σ : Sums}

/-- the cells of grants -/
def gcells : List (Int × Bool) → List CV
  | [] => []
  | g :: l => .int .i64 g.1 :: .bool g.2 :: gcells l
theorem gcells_len : ∀ l, (gcells l).length = l.length * 2
  | [] => rfl
  | g :: l => by simp [gcells, gcells_len l]; omega
theorem gcells_app : ∀ l k, gcells (l ++ k) = gcells l ++ gcells k
  | [], k => rfl
  | g :: l, k => by simp [gcells, gcells_app l k]

structure ArbAt (h : H) (a lid : Nat) (tk : Bool) (ho : Int) (gs : List (Int × Bool)) : Prop where
  lt : a < h.nx
  ne : gs.length ≠ 0 → a ≠ lid
  blk : ∃ b v, h.blk a = some b ∧ b.ro = false ∧ b.n = 4 ∧ b.get 0 = some (.bool true) ∧ b.get 1 = some (.bool tk) ∧ b.get 2 = some (.int .i64 ho) ∧ b.get 3 = some v ∧ Lst h 2 v lid gs.length (gcells gs)

/-- what a method leaves besides: blocks other than these -/
structure Fr (h h' : H) (a lid : Nat) : Prop where
  nx : h.nx ≤ h'.nx
  gn : h'.gn = h.gn
  old : ∀ id, id < h.nx → id ≠ a → id ≠ lid → h'.t.get id = h.t.get id

theorem Fr.refl (h : H) (a lid : Nat) : Fr h h a lid := ⟨Nat.le_refl _, rfl, fun _ _ _ _ => rfl⟩

theorem none_run (hσ : ∀ f a h, f ≠ 9 → σ f a h = none) {h : H} {a : Nat} {b : Blk} (hb : h.blk a = some b) (h0 : b.get 0 = some (.bool true)) :
    (lim Try.prog σ).call 45 [.ptr a 0] h = some (.bool false, none) := by
  rw [call_eq (hσ _ _ _ (by decide)) fn_45 rfl rfl, Try.ntmps45, Try.results45]
  simp only [go_sem, ne_eq, not_false_eq_true, not_true_eq_false, dec_t, dec_f, Nat.reduceLT, Nat.reduceLeDiff, Nat.reduceEqDiff, Nat.reduceAdd, Nat.reduceSub, Nat.reduceMul, beq_self_eq_true, bne_self_eq_false, reduceCtorEq, Int.reduceBEq, Int.reduceBNe, Int.reduceLT, Int.reduceLE, Int.reduceAdd, Int.reduceSub, Int.reduceEq, Int.reduceNeg, Int.reduceToNat, Nat.reduceBEq, and_true, true_and, eq_self, Int.cast_ofNat_Int, Int.reduceGT, Int.reduceGE, Nat.reduceGT, alloc_blk_same, alloc_blk_ne, put_blk_ne, kill_blk_ne, Nat.add_zero, Nat.sub_self, hb, h0]
  rw [fin_q _ _ _ rfl rfl]

theorem asked_run (hσ : ∀ f a h, f ≠ 9 → σ f a h = none) {h : H} {a : Nat} {b : Blk} (hb : h.blk a = some b) (h0 : b.get 0 = some (.bool true)) (node : Int) :
    (lim Try.prog σ).call 44 [.ptr a 0, .int .i64 node] h = some (.int .i64 (if node = 0 ∨ node = 1 then 0 else 2), none) := by
  rw [call_eq (hσ _ _ _ (by decide)) fn_44 rfl rfl, Try.ntmps44, Try.results44]
  have e := none_run hσ (h := h.lo) (a := a) hb h0
  by_cases h1 : node = 0
  · simp only [go_sem, ne_eq, not_false_eq_true, not_true_eq_false, dec_t, dec_f, Nat.reduceLT, Nat.reduceLeDiff, Nat.reduceEqDiff, Nat.reduceAdd, Nat.reduceSub, Nat.reduceMul, beq_self_eq_true, bne_self_eq_false, reduceCtorEq, Int.reduceBEq, Int.reduceBNe, Int.reduceLT, Int.reduceLE, Int.reduceAdd, Int.reduceSub, Int.reduceEq, Int.reduceNeg, Int.reduceToNat, Nat.reduceBEq, and_true, true_and, eq_self, Int.cast_ofNat_Int, Int.reduceGT, Int.reduceGE, Nat.reduceGT, alloc_blk_same, alloc_blk_ne, put_blk_ne, kill_blk_ne, Nat.add_zero, Nat.sub_self, e, h1, true_or, if_true]
    rw [fin_q _ _ _ rfl rfl]
  · by_cases h2 : node = 1
    · simp only [go_sem, ne_eq, not_false_eq_true, not_true_eq_false, dec_t, dec_f, Nat.reduceLT, Nat.reduceLeDiff, Nat.reduceEqDiff, Nat.reduceAdd, Nat.reduceSub, Nat.reduceMul, beq_self_eq_true, bne_self_eq_false, reduceCtorEq, Int.reduceBEq, Int.reduceBNe, Int.reduceLT, Int.reduceLE, Int.reduceAdd, Int.reduceSub, Int.reduceEq, Int.reduceNeg, Int.reduceToNat, Nat.reduceBEq, and_true, true_and, eq_self, Int.cast_ofNat_Int, Int.reduceGT, Int.reduceGE, Nat.reduceGT, alloc_blk_same, alloc_blk_ne, put_blk_ne, kill_blk_ne, Nat.add_zero, Nat.sub_self, e, h1, h2, or_true, if_true]
      rw [fin_q _ _ _ rfl rfl]
    · simp only [go_sem, ne_eq, not_false_eq_true, not_true_eq_false, dec_t, dec_f, Nat.reduceLT, Nat.reduceLeDiff, Nat.reduceEqDiff, Nat.reduceAdd, Nat.reduceSub, Nat.reduceMul, beq_self_eq_true, bne_self_eq_false, reduceCtorEq, Int.reduceBEq, Int.reduceBNe, Int.reduceLT, Int.reduceLE, Int.reduceAdd, Int.reduceSub, Int.reduceEq, Int.reduceNeg, Int.reduceToNat, Nat.reduceBEq, and_true, true_and, eq_self, Int.cast_ofNat_Int, Int.reduceGT, Int.reduceGE, Nat.reduceGT, alloc_blk_same, alloc_blk_ne, put_blk_ne, kill_blk_ne, Nat.add_zero, Nat.sub_self, e, h1, h2, or_self, if_false]
      rw [fin_q _ _ _ rfl rfl]

def TakeOk (h : H) (a lid : Nat) (tk : Bool) (ho : Int) (gs : List (Int × Bool)) (node : Int) (r : Option (CV × Option H)) : Prop :=
    ∃ c e x tk' ho' gs' lid', r = some (.tup [.bool c, .int .i64 e], x) ∧ ArbAt (x.getD h) a lid' tk' ho' gs' ∧ Fr h (x.getD h) a lid ∧ (lid' = lid ∨ h.nx ≤ lid') ∧
      (c, e, tk', ho', gs') = (if node = 0 ∨ node = 1 then (if tk then (if ho = node then (false, 0, tk, ho, gs) else (false, 12, tk, ho, gs)) else (true, 0, true, node, gs ++ [(node, true)])) else (false, 2, tk, ho, gs))

theorem take_run (hσ : ∀ f a h, f ≠ 9 → σ f a h = none) {h : H} {a lid : Nat} {tk : Bool} {ho : Int} {gs : List (Int × Bool)} (A : ArbAt h a lid tk ho gs) (node : Int) (room : gs.length < 1000000) :
    TakeOk h a lid tk ho gs node ((lim Try.prog σ).call 11 [.ptr a 0, .int .i64 node] h) := by
  obtain ⟨b, v, hb, hro, hn, h0, h1, h2, h3, hl⟩ := A.blk
  have e := asked_run hσ (h := h.lo) (a := a) hb h0 node
  have ha : a ≠ h.nx := Nat.ne_of_lt A.lt
  have hlt := A.lt
  rw [call_eq (hσ _ _ _ (by decide)) fn_11 rfl rfl, Try.ntmps11, Try.results11]
  by_cases hnode : node = 0 ∨ node = 1
  · rw [if_pos hnode] at e
    cases tk
    · simp only [go_sem, ne_eq, not_false_eq_true, not_true_eq_false, dec_t, dec_f, Nat.reduceLT, Nat.reduceLeDiff, Nat.reduceEqDiff, Nat.reduceAdd, Nat.reduceSub, Nat.reduceMul, beq_self_eq_true, bne_self_eq_false, reduceCtorEq, Int.reduceBEq, Int.reduceBNe, Int.reduceLT, Int.reduceLE, Int.reduceAdd, Int.reduceSub, Int.reduceEq, Int.reduceNeg, Int.reduceToNat, Nat.reduceBEq, and_true, true_and, eq_self, Int.cast_ofNat_Int, Int.reduceGT, Int.reduceGE, Nat.reduceGT, alloc_blk_same, alloc_blk_ne, put_blk_ne, kill_blk_ne, Nat.add_zero, Nat.sub_self, e, hb, h0, h1, h2, h3, hro, hn, ha]
      have hX : ∀ o o1 o2, Lst (((h.lo.put a o).put a o1).alloc o2) 2 v lid gs.length (gcells gs) := fun o o1 o2 => by
        refine hl.mono (by simp only [go_sem, ne_eq, not_false_eq_true, not_true_eq_false, dec_t, dec_f, Nat.reduceLT, Nat.reduceLeDiff, Nat.reduceEqDiff, Nat.reduceAdd, Nat.reduceSub, Nat.reduceMul, beq_self_eq_true, bne_self_eq_false, reduceCtorEq, Int.reduceBEq, Int.reduceBNe, Int.reduceLT, Int.reduceLE, Int.reduceAdd, Int.reduceSub, Int.reduceEq, Int.reduceNeg, Int.reduceToNat, Nat.reduceBEq, and_true, true_and, eq_self, Int.cast_ofNat_Int, Int.reduceGT, Int.reduceGE, Nat.reduceGT, alloc_blk_same, alloc_blk_ne, put_blk_ne, kill_blk_ne, Nat.add_zero, Nat.sub_self]; omega) fun hne => ?_
        have h1 := A.ne hne
        have h2 : lid < h.nx := by rcases hl.val with ⟨h, _⟩ | ⟨_, _, h, _⟩
                                   · omega
                                   · exact h
        have h3 : lid ≠ a := fun q => h1 q.symm
        have h4 : lid ≠ h.nx := Nat.ne_of_lt h2
        simp only [go_sem, ne_eq, not_false_eq_true, not_true_eq_false, dec_t, dec_f, Nat.reduceLT, Nat.reduceLeDiff, Nat.reduceEqDiff, Nat.reduceAdd, Nat.reduceSub, Nat.reduceMul, beq_self_eq_true, bne_self_eq_false, reduceCtorEq, Int.reduceBEq, Int.reduceBNe, Int.reduceLT, Int.reduceLE, Int.reduceAdd, Int.reduceSub, Int.reduceEq, Int.reduceNeg, Int.reduceToNat, Nat.reduceBEq, and_true, true_and, eq_self, Int.cast_ofNat_Int, Int.reduceGT, Int.reduceGE, Nat.reduceGT, alloc_blk_same, alloc_blk_ne, put_blk_ne, kill_blk_ne, Nat.add_zero, Nat.sub_self, h3, h4]
      refine app_step (Q := TakeOk h a lid false ho gs node) (m := 1) (by_ := 16) (hX _ _ _) ?_ ?_ ?_ ?_ ?_ ?_ ?_ ?_
      · decide
      · rfl
      · rfl
      · rfl
      · decide
      · omega
      · omega
      intro h' l' hnx hgn hold hlow hlow2
      simp only [go_sem, ne_eq, not_false_eq_true, not_true_eq_false, dec_t, dec_f, Nat.reduceLT, Nat.reduceLeDiff, Nat.reduceEqDiff, Nat.reduceAdd, Nat.reduceSub, Nat.reduceMul, beq_self_eq_true, bne_self_eq_false, reduceCtorEq, Int.reduceBEq, Int.reduceBNe, Int.reduceLT, Int.reduceLE, Int.reduceAdd, Int.reduceSub, Int.reduceEq, Int.reduceNeg, Int.reduceToNat, Nat.reduceBEq, and_true, true_and, eq_self, Int.cast_ofNat_Int, Int.reduceGT, Int.reduceGE, Nat.reduceGT, alloc_blk_same, alloc_blk_ne, put_blk_ne, kill_blk_ne, Nat.add_zero, Nat.sub_self] at l' hnx hgn hold hlow
      have hb' := blk_eq (hold a (by omega) A.ne)
      have ha' : a ≠ h.nx + 1 := by omega
      simp only [go_sem, ne_eq, not_false_eq_true, not_true_eq_false, dec_t, dec_f, Nat.reduceLT, Nat.reduceLeDiff, Nat.reduceEqDiff, Nat.reduceAdd, Nat.reduceSub, Nat.reduceMul, beq_self_eq_true, bne_self_eq_false, reduceCtorEq, Int.reduceBEq, Int.reduceBNe, Int.reduceLT, Int.reduceLE, Int.reduceAdd, Int.reduceSub, Int.reduceEq, Int.reduceNeg, Int.reduceToNat, Nat.reduceBEq, and_true, true_and, eq_self, Int.cast_ofNat_Int, Int.reduceGT, Int.reduceGE, Nat.reduceGT, alloc_blk_same, alloc_blk_ne, put_blk_ne, kill_blk_ne, Nat.add_zero, Nat.sub_self, ha] at hb'
      have hlow3 : (min h'.low a) < h.nx := by omega
      simp only [go_sem, ne_eq, not_false_eq_true, not_true_eq_false, dec_t, dec_f, Nat.reduceLT, Nat.reduceLeDiff, Nat.reduceEqDiff, Nat.reduceAdd, Nat.reduceSub, Nat.reduceMul, beq_self_eq_true, bne_self_eq_false, reduceCtorEq, Int.reduceBEq, Int.reduceBNe, Int.reduceLT, Int.reduceLE, Int.reduceAdd, Int.reduceSub, Int.reduceEq, Int.reduceNeg, Int.reduceToNat, Nat.reduceBEq, and_true, true_and, eq_self, Int.cast_ofNat_Int, Int.reduceGT, Int.reduceGE, Nat.reduceGT, alloc_blk_same, alloc_blk_ne, put_blk_ne, kill_blk_ne, Nat.add_zero, Nat.sub_self, hb', hro, hn, l'.one]
      rw [fin_l _ _ _ (by simp only [go_sem, ne_eq, not_false_eq_true, not_true_eq_false, dec_t, dec_f, Nat.reduceLT, Nat.reduceLeDiff, Nat.reduceEqDiff, Nat.reduceAdd, Nat.reduceSub, Nat.reduceMul, beq_self_eq_true, bne_self_eq_false, reduceCtorEq, Int.reduceBEq, Int.reduceBNe, Int.reduceLT, Int.reduceLE, Int.reduceAdd, Int.reduceSub, Int.reduceEq, Int.reduceNeg, Int.reduceToNat, Nat.reduceBEq, and_true, true_and, eq_self, Int.cast_ofNat_Int, Int.reduceGT, Int.reduceGE, Nat.reduceGT, alloc_blk_same, alloc_blk_ne, put_blk_ne, kill_blk_ne, Nat.add_zero, Nat.sub_self]; omega)]
      refine ⟨_, _, _, true, node, gs ++ [(node, true)], h.nx + 1, rfl, ?_, ?_, .inr (by omega), by rw [if_pos hnode]; rfl⟩
      · simp only [go_sem, ne_eq, not_false_eq_true, not_true_eq_false, dec_t, dec_f, Nat.reduceLT, Nat.reduceLeDiff, Nat.reduceEqDiff, Nat.reduceAdd, Nat.reduceSub, Nat.reduceMul, beq_self_eq_true, bne_self_eq_false, reduceCtorEq, Int.reduceBEq, Int.reduceBNe, Int.reduceLT, Int.reduceLE, Int.reduceAdd, Int.reduceSub, Int.reduceEq, Int.reduceNeg, Int.reduceToNat, Nat.reduceBEq, and_true, true_and, eq_self, Int.cast_ofNat_Int, Int.reduceGT, Int.reduceGE, Nat.reduceGT, alloc_blk_same, alloc_blk_ne, put_blk_ne, kill_blk_ne, Nat.add_zero, Nat.sub_self]
        refine ⟨by simp only [go_sem, ne_eq, not_false_eq_true, not_true_eq_false, dec_t, dec_f, Nat.reduceLT, Nat.reduceLeDiff, Nat.reduceEqDiff, Nat.reduceAdd, Nat.reduceSub, Nat.reduceMul, beq_self_eq_true, bne_self_eq_false, reduceCtorEq, Int.reduceBEq, Int.reduceBNe, Int.reduceLT, Int.reduceLE, Int.reduceAdd, Int.reduceSub, Int.reduceEq, Int.reduceNeg, Int.reduceToNat, Nat.reduceBEq, and_true, true_and, eq_self, Int.cast_ofNat_Int, Int.reduceGT, Int.reduceGE, Nat.reduceGT, alloc_blk_same, alloc_blk_ne, put_blk_ne, kill_blk_ne, Nat.add_zero, Nat.sub_self]; omega, fun _ => (by omega : a ≠ h.nx + 1), _, _, put_blk_same _ _ _, by simp only [go_sem, ne_eq, not_false_eq_true, not_true_eq_false, dec_t, dec_f, Nat.reduceLT, Nat.reduceLeDiff, Nat.reduceEqDiff, Nat.reduceAdd, Nat.reduceSub, Nat.reduceMul, beq_self_eq_true, bne_self_eq_false, reduceCtorEq, Int.reduceBEq, Int.reduceBNe, Int.reduceLT, Int.reduceLE, Int.reduceAdd, Int.reduceSub, Int.reduceEq, Int.reduceNeg, Int.reduceToNat, Nat.reduceBEq, and_true, true_and, eq_self, Int.cast_ofNat_Int, Int.reduceGT, Int.reduceGE, Nat.reduceGT, alloc_blk_same, alloc_blk_ne, put_blk_ne, kill_blk_ne, Nat.add_zero, Nat.sub_self, hro], by simp only [go_sem, ne_eq, not_false_eq_true, not_true_eq_false, dec_t, dec_f, Nat.reduceLT, Nat.reduceLeDiff, Nat.reduceEqDiff, Nat.reduceAdd, Nat.reduceSub, Nat.reduceMul, beq_self_eq_true, bne_self_eq_false, reduceCtorEq, Int.reduceBEq, Int.reduceBNe, Int.reduceLT, Int.reduceLE, Int.reduceAdd, Int.reduceSub, Int.reduceEq, Int.reduceNeg, Int.reduceToNat, Nat.reduceBEq, and_true, true_and, eq_self, Int.cast_ofNat_Int, Int.reduceGT, Int.reduceGE, Nat.reduceGT, alloc_blk_same, alloc_blk_ne, put_blk_ne, kill_blk_ne, Nat.add_zero, Nat.sub_self, hn], ?_, ?_, ?_, by simp only [go_sem, ne_eq, not_false_eq_true, not_true_eq_false, dec_t, dec_f, Nat.reduceLT, Nat.reduceLeDiff, Nat.reduceEqDiff, Nat.reduceAdd, Nat.reduceSub, Nat.reduceMul, beq_self_eq_true, bne_self_eq_false, reduceCtorEq, Int.reduceBEq, Int.reduceBNe, Int.reduceLT, Int.reduceLE, Int.reduceAdd, Int.reduceSub, Int.reduceEq, Int.reduceNeg, Int.reduceToNat, Nat.reduceBEq, and_true, true_and, eq_self, Int.cast_ofNat_Int, Int.reduceGT, Int.reduceGE, Nat.reduceGT, alloc_blk_same, alloc_blk_ne, put_blk_ne, kill_blk_ne, Nat.add_zero, Nat.sub_self, hn]; rfl, ?_⟩
        · simp only [go_sem, ne_eq, not_false_eq_true, not_true_eq_false, dec_t, dec_f, Nat.reduceLT, Nat.reduceLeDiff, Nat.reduceEqDiff, Nat.reduceAdd, Nat.reduceSub, Nat.reduceMul, beq_self_eq_true, bne_self_eq_false, reduceCtorEq, Int.reduceBEq, Int.reduceBNe, Int.reduceLT, Int.reduceLE, Int.reduceAdd, Int.reduceSub, Int.reduceEq, Int.reduceNeg, Int.reduceToNat, Nat.reduceBEq, and_true, true_and, eq_self, Int.cast_ofNat_Int, Int.reduceGT, Int.reduceGE, Nat.reduceGT, alloc_blk_same, alloc_blk_ne, put_blk_ne, kill_blk_ne, Nat.add_zero, Nat.sub_self, h0]
        · simp only [go_sem, ne_eq, not_false_eq_true, not_true_eq_false, dec_t, dec_f, Nat.reduceLT, Nat.reduceLeDiff, Nat.reduceEqDiff, Nat.reduceAdd, Nat.reduceSub, Nat.reduceMul, beq_self_eq_true, bne_self_eq_false, reduceCtorEq, Int.reduceBEq, Int.reduceBNe, Int.reduceLT, Int.reduceLE, Int.reduceAdd, Int.reduceSub, Int.reduceEq, Int.reduceNeg, Int.reduceToNat, Nat.reduceBEq, and_true, true_and, eq_self, Int.cast_ofNat_Int, Int.reduceGT, Int.reduceGE, Nat.reduceGT, alloc_blk_same, alloc_blk_ne, put_blk_ne, kill_blk_ne, Nat.add_zero, Nat.sub_self, hn]
        · simp only [go_sem, ne_eq, not_false_eq_true, not_true_eq_false, dec_t, dec_f, Nat.reduceLT, Nat.reduceLeDiff, Nat.reduceEqDiff, Nat.reduceAdd, Nat.reduceSub, Nat.reduceMul, beq_self_eq_true, bne_self_eq_false, reduceCtorEq, Int.reduceBEq, Int.reduceBNe, Int.reduceLT, Int.reduceLE, Int.reduceAdd, Int.reduceSub, Int.reduceEq, Int.reduceNeg, Int.reduceToNat, Nat.reduceBEq, and_true, true_and, eq_self, Int.cast_ofNat_Int, Int.reduceGT, Int.reduceGE, Nat.reduceGT, alloc_blk_same, alloc_blk_ne, put_blk_ne, kill_blk_ne, Nat.add_zero, Nat.sub_self, hn]
        · rw [List.length_append, gcells_app]
          exact Lst.mono (h := h') l' (by simp only [go_sem, ne_eq, not_false_eq_true, not_true_eq_false, dec_t, dec_f, Nat.reduceLT, Nat.reduceLeDiff, Nat.reduceEqDiff, Nat.reduceAdd, Nat.reduceSub, Nat.reduceMul, beq_self_eq_true, bne_self_eq_false, reduceCtorEq, Int.reduceBEq, Int.reduceBNe, Int.reduceLT, Int.reduceLE, Int.reduceAdd, Int.reduceSub, Int.reduceEq, Int.reduceNeg, Int.reduceToNat, Nat.reduceBEq, and_true, true_and, eq_self, Int.cast_ofNat_Int, Int.reduceGT, Int.reduceGE, Nat.reduceGT, alloc_blk_same, alloc_blk_ne, put_blk_ne, kill_blk_ne, Nat.add_zero, Nat.sub_self]; omega) fun _ => by simp only [go_sem, ne_eq, not_false_eq_true, not_true_eq_false, dec_t, dec_f, Nat.reduceLT, Nat.reduceLeDiff, Nat.reduceEqDiff, Nat.reduceAdd, Nat.reduceSub, Nat.reduceMul, beq_self_eq_true, bne_self_eq_false, reduceCtorEq, Int.reduceBEq, Int.reduceBNe, Int.reduceLT, Int.reduceLE, Int.reduceAdd, Int.reduceSub, Int.reduceEq, Int.reduceNeg, Int.reduceToNat, Nat.reduceBEq, and_true, true_and, eq_self, Int.cast_ofNat_Int, Int.reduceGT, Int.reduceGE, Nat.reduceGT, alloc_blk_same, alloc_blk_ne, put_blk_ne, kill_blk_ne, Nat.add_zero, Nat.sub_self, ha'.symm]
      · simp only [go_sem, ne_eq, not_false_eq_true, not_true_eq_false, dec_t, dec_f, Nat.reduceLT, Nat.reduceLeDiff, Nat.reduceEqDiff, Nat.reduceAdd, Nat.reduceSub, Nat.reduceMul, beq_self_eq_true, bne_self_eq_false, reduceCtorEq, Int.reduceBEq, Int.reduceBNe, Int.reduceLT, Int.reduceLE, Int.reduceAdd, Int.reduceSub, Int.reduceEq, Int.reduceNeg, Int.reduceToNat, Nat.reduceBEq, and_true, true_and, eq_self, Int.cast_ofNat_Int, Int.reduceGT, Int.reduceGE, Nat.reduceGT, alloc_blk_same, alloc_blk_ne, put_blk_ne, kill_blk_ne, Nat.add_zero, Nat.sub_self]
        refine ⟨by simp only [go_sem, ne_eq, not_false_eq_true, not_true_eq_false, dec_t, dec_f, Nat.reduceLT, Nat.reduceLeDiff, Nat.reduceEqDiff, Nat.reduceAdd, Nat.reduceSub, Nat.reduceMul, beq_self_eq_true, bne_self_eq_false, reduceCtorEq, Int.reduceBEq, Int.reduceBNe, Int.reduceLT, Int.reduceLE, Int.reduceAdd, Int.reduceSub, Int.reduceEq, Int.reduceNeg, Int.reduceToNat, Nat.reduceBEq, and_true, true_and, eq_self, Int.cast_ofNat_Int, Int.reduceGT, Int.reduceGE, Nat.reduceGT, alloc_blk_same, alloc_blk_ne, put_blk_ne, kill_blk_ne, Nat.add_zero, Nat.sub_self]; omega, by simp only [go_sem, ne_eq, not_false_eq_true, not_true_eq_false, dec_t, dec_f, Nat.reduceLT, Nat.reduceLeDiff, Nat.reduceEqDiff, Nat.reduceAdd, Nat.reduceSub, Nat.reduceMul, beq_self_eq_true, bne_self_eq_false, reduceCtorEq, Int.reduceBEq, Int.reduceBNe, Int.reduceLT, Int.reduceLE, Int.reduceAdd, Int.reduceSub, Int.reduceEq, Int.reduceNeg, Int.reduceToNat, Nat.reduceBEq, and_true, true_and, eq_self, Int.cast_ofNat_Int, Int.reduceGT, Int.reduceGE, Nat.reduceGT, alloc_blk_same, alloc_blk_ne, put_blk_ne, kill_blk_ne, Nat.add_zero, Nat.sub_self, hgn], fun id h1 h2 h3 => ?_⟩
        simp only [go_sem, ne_eq, not_false_eq_true, not_true_eq_false, dec_t, dec_f, Nat.reduceLT, Nat.reduceLeDiff, Nat.reduceEqDiff, Nat.reduceAdd, Nat.reduceSub, Nat.reduceMul, beq_self_eq_true, bne_self_eq_false, reduceCtorEq, Int.reduceBEq, Int.reduceBNe, Int.reduceLT, Int.reduceLE, Int.reduceAdd, Int.reduceSub, Int.reduceEq, Int.reduceNeg, Int.reduceToNat, Nat.reduceBEq, and_true, true_and, eq_self, Int.cast_ofNat_Int, Int.reduceGT, Int.reduceGE, Nat.reduceGT, alloc_blk_same, alloc_blk_ne, put_blk_ne, kill_blk_ne, Nat.add_zero, Nat.sub_self]
        rw [put_get_ne _ _ _ _ h2, hold id (by omega) fun _ => h3, alloc_get_ne _ _ _ (by simp only [go_sem, ne_eq, not_false_eq_true, not_true_eq_false, dec_t, dec_f, Nat.reduceLT, Nat.reduceLeDiff, Nat.reduceEqDiff, Nat.reduceAdd, Nat.reduceSub, Nat.reduceMul, beq_self_eq_true, bne_self_eq_false, reduceCtorEq, Int.reduceBEq, Int.reduceBNe, Int.reduceLT, Int.reduceLE, Int.reduceAdd, Int.reduceSub, Int.reduceEq, Int.reduceNeg, Int.reduceToNat, Nat.reduceBEq, and_true, true_and, eq_self, Int.cast_ofNat_Int, Int.reduceGT, Int.reduceGE, Nat.reduceGT, alloc_blk_same, alloc_blk_ne, put_blk_ne, kill_blk_ne, Nat.add_zero, Nat.sub_self]; omega), put_get_ne _ _ _ _ h2, put_get_ne _ _ _ _ h2]
        rfl
    · by_cases hh : ho = node
      · simp only [go_sem, ne_eq, not_false_eq_true, not_true_eq_false, dec_t, dec_f, Nat.reduceLT, Nat.reduceLeDiff, Nat.reduceEqDiff, Nat.reduceAdd, Nat.reduceSub, Nat.reduceMul, beq_self_eq_true, bne_self_eq_false, reduceCtorEq, Int.reduceBEq, Int.reduceBNe, Int.reduceLT, Int.reduceLE, Int.reduceAdd, Int.reduceSub, Int.reduceEq, Int.reduceNeg, Int.reduceToNat, Nat.reduceBEq, and_true, true_and, eq_self, Int.cast_ofNat_Int, Int.reduceGT, Int.reduceGE, Nat.reduceGT, alloc_blk_same, alloc_blk_ne, put_blk_ne, kill_blk_ne, Nat.add_zero, Nat.sub_self, e, hb, h0, h1, h2, h3, hh]
        rw [fin_q _ _ _ rfl rfl]
        exact ⟨_, _, _, _, _, _, lid, rfl, A, Fr.refl _ _ _, .inl rfl, by rw [if_pos hnode]; simp [hh]⟩
      · simp only [go_sem, ne_eq, not_false_eq_true, not_true_eq_false, dec_t, dec_f, Nat.reduceLT, Nat.reduceLeDiff, Nat.reduceEqDiff, Nat.reduceAdd, Nat.reduceSub, Nat.reduceMul, beq_self_eq_true, bne_self_eq_false, reduceCtorEq, Int.reduceBEq, Int.reduceBNe, Int.reduceLT, Int.reduceLE, Int.reduceAdd, Int.reduceSub, Int.reduceEq, Int.reduceNeg, Int.reduceToNat, Nat.reduceBEq, and_true, true_and, eq_self, Int.cast_ofNat_Int, Int.reduceGT, Int.reduceGE, Nat.reduceGT, alloc_blk_same, alloc_blk_ne, put_blk_ne, kill_blk_ne, Nat.add_zero, Nat.sub_self, e, hb, h0, h1, h2, h3, hh]
        rw [fin_q _ _ _ rfl rfl]
        exact ⟨_, _, _, _, _, _, lid, rfl, A, Fr.refl _ _ _, .inl rfl, by rw [if_pos hnode, if_pos rfl, if_neg hh]⟩
  · rw [if_neg hnode] at e
    simp only [go_sem, ne_eq, not_false_eq_true, not_true_eq_false, dec_t, dec_f, Nat.reduceLT, Nat.reduceLeDiff, Nat.reduceEqDiff, Nat.reduceAdd, Nat.reduceSub, Nat.reduceMul, beq_self_eq_true, bne_self_eq_false, reduceCtorEq, Int.reduceBEq, Int.reduceBNe, Int.reduceLT, Int.reduceLE, Int.reduceAdd, Int.reduceSub, Int.reduceEq, Int.reduceNeg, Int.reduceToNat, Nat.reduceBEq, and_true, true_and, eq_self, Int.cast_ofNat_Int, Int.reduceGT, Int.reduceGE, Nat.reduceGT, alloc_blk_same, alloc_blk_ne, put_blk_ne, kill_blk_ne, Nat.add_zero, Nat.sub_self, e]
    rw [fin_q _ _ _ rfl rfl]
    exact ⟨_, _, _, _, _, _, lid, rfl, A, Fr.refl _ _ _, .inl rfl, by rw [if_neg hnode]⟩

def RelOk (h : H) (a lid : Nat) (tk : Bool) (ho : Int) (gs : List (Int × Bool)) (node : Int) (r : Option (CV × Option H)) : Prop :=
    ∃ c e x tk' ho' gs' lid', r = some (.tup [.bool c, .int .i64 e], x) ∧ ArbAt (x.getD h) a lid' tk' ho' gs' ∧ Fr h (x.getD h) a lid ∧ (lid' = lid ∨ h.nx ≤ lid') ∧
      (c, e, tk', ho', gs') = (if node = 0 ∨ node = 1 then (if tk ∧ ho = node then (true, 0, false, 0, gs ++ [(node, false)]) else (false, 0, tk, ho, gs)) else (false, 2, tk, ho, gs))

theorem release_run (hσ : ∀ f a h, f ≠ 9 → σ f a h = none) {h : H} {a lid : Nat} {tk : Bool} {ho : Int} {gs : List (Int × Bool)} (A : ArbAt h a lid tk ho gs) (node : Int) (room : gs.length < 1000000) :
    RelOk h a lid tk ho gs node ((lim Try.prog σ).call 12 [.ptr a 0, .int .i64 node] h) := by
  obtain ⟨b, v, hb, hro, hn, h0, h1, h2, h3, hl⟩ := A.blk
  have e := asked_run hσ (h := h.lo) (a := a) hb h0 node
  have ha : a ≠ h.nx := Nat.ne_of_lt A.lt
  have hlt := A.lt
  rw [call_eq (hσ _ _ _ (by decide)) fn_12 rfl rfl, Try.ntmps12, Try.results12]
  by_cases hnode : node = 0 ∨ node = 1
  · rw [if_pos hnode] at e
    cases tk
    · simp only [go_sem, ne_eq, not_false_eq_true, not_true_eq_false, dec_t, dec_f, Nat.reduceLT, Nat.reduceLeDiff, Nat.reduceEqDiff, Nat.reduceAdd, Nat.reduceSub, Nat.reduceMul, beq_self_eq_true, bne_self_eq_false, reduceCtorEq, Int.reduceBEq, Int.reduceBNe, Int.reduceLT, Int.reduceLE, Int.reduceAdd, Int.reduceSub, Int.reduceEq, Int.reduceNeg, Int.reduceToNat, Nat.reduceBEq, and_true, true_and, eq_self, Int.cast_ofNat_Int, Int.reduceGT, Int.reduceGE, Nat.reduceGT, alloc_blk_same, alloc_blk_ne, put_blk_ne, kill_blk_ne, Nat.add_zero, Nat.sub_self, e, hb, h0, h1, h2, h3]
      rw [fin_q _ _ _ rfl rfl]
      exact ⟨_, _, _, _, _, _, lid, rfl, A, Fr.refl _ _ _, .inl rfl, by rw [if_pos hnode]; simp⟩
    · by_cases hh : ho = node
      · subst hh
        simp only [go_sem, ne_eq, not_false_eq_true, not_true_eq_false, dec_t, dec_f, Nat.reduceLT, Nat.reduceLeDiff, Nat.reduceEqDiff, Nat.reduceAdd, Nat.reduceSub, Nat.reduceMul, beq_self_eq_true, bne_self_eq_false, reduceCtorEq, Int.reduceBEq, Int.reduceBNe, Int.reduceLT, Int.reduceLE, Int.reduceAdd, Int.reduceSub, Int.reduceEq, Int.reduceNeg, Int.reduceToNat, Nat.reduceBEq, and_true, true_and, eq_self, Int.cast_ofNat_Int, Int.reduceGT, Int.reduceGE, Nat.reduceGT, alloc_blk_same, alloc_blk_ne, put_blk_ne, kill_blk_ne, Nat.add_zero, Nat.sub_self, e, hb, h0, h1, h2, h3, hro, hn, ha]
        have hX : ∀ o o1 o2, Lst (((h.lo.put a o).put a o1).alloc o2) 2 v lid gs.length (gcells gs) := fun o o1 o2 => by
          refine hl.mono (by simp only [go_sem, ne_eq, not_false_eq_true, not_true_eq_false, dec_t, dec_f, Nat.reduceLT, Nat.reduceLeDiff, Nat.reduceEqDiff, Nat.reduceAdd, Nat.reduceSub, Nat.reduceMul, beq_self_eq_true, bne_self_eq_false, reduceCtorEq, Int.reduceBEq, Int.reduceBNe, Int.reduceLT, Int.reduceLE, Int.reduceAdd, Int.reduceSub, Int.reduceEq, Int.reduceNeg, Int.reduceToNat, Nat.reduceBEq, and_true, true_and, eq_self, Int.cast_ofNat_Int, Int.reduceGT, Int.reduceGE, Nat.reduceGT, alloc_blk_same, alloc_blk_ne, put_blk_ne, kill_blk_ne, Nat.add_zero, Nat.sub_self]; omega) fun hne => ?_
          have h1 := A.ne hne
          have h2 : lid < h.nx := by rcases hl.val with ⟨h, _⟩ | ⟨_, _, h, _⟩
                                     · omega
                                     · exact h
          have h3 : lid ≠ a := fun q => h1 q.symm
          have h4 : lid ≠ h.nx := Nat.ne_of_lt h2
          simp only [go_sem, ne_eq, not_false_eq_true, not_true_eq_false, dec_t, dec_f, Nat.reduceLT, Nat.reduceLeDiff, Nat.reduceEqDiff, Nat.reduceAdd, Nat.reduceSub, Nat.reduceMul, beq_self_eq_true, bne_self_eq_false, reduceCtorEq, Int.reduceBEq, Int.reduceBNe, Int.reduceLT, Int.reduceLE, Int.reduceAdd, Int.reduceSub, Int.reduceEq, Int.reduceNeg, Int.reduceToNat, Nat.reduceBEq, and_true, true_and, eq_self, Int.cast_ofNat_Int, Int.reduceGT, Int.reduceGE, Nat.reduceGT, alloc_blk_same, alloc_blk_ne, put_blk_ne, kill_blk_ne, Nat.add_zero, Nat.sub_self, h3, h4]
        refine app_step (Q := RelOk h a lid true ho gs ho) (m := 1) (by_ := 16) (hX _ _ _) ?_ ?_ ?_ ?_ ?_ ?_ ?_ ?_
        · decide
        · rfl
        · rfl
        · rfl
        · decide
        · omega
        · omega
        intro h' l' hnx hgn hold hlow hlow2
        simp only [go_sem, ne_eq, not_false_eq_true, not_true_eq_false, dec_t, dec_f, Nat.reduceLT, Nat.reduceLeDiff, Nat.reduceEqDiff, Nat.reduceAdd, Nat.reduceSub, Nat.reduceMul, beq_self_eq_true, bne_self_eq_false, reduceCtorEq, Int.reduceBEq, Int.reduceBNe, Int.reduceLT, Int.reduceLE, Int.reduceAdd, Int.reduceSub, Int.reduceEq, Int.reduceNeg, Int.reduceToNat, Nat.reduceBEq, and_true, true_and, eq_self, Int.cast_ofNat_Int, Int.reduceGT, Int.reduceGE, Nat.reduceGT, alloc_blk_same, alloc_blk_ne, put_blk_ne, kill_blk_ne, Nat.add_zero, Nat.sub_self] at l' hnx hgn hold hlow
        have hb' := blk_eq (hold a (by omega) A.ne)
        have ha' : a ≠ h.nx + 1 := by omega
        simp only [go_sem, ne_eq, not_false_eq_true, not_true_eq_false, dec_t, dec_f, Nat.reduceLT, Nat.reduceLeDiff, Nat.reduceEqDiff, Nat.reduceAdd, Nat.reduceSub, Nat.reduceMul, beq_self_eq_true, bne_self_eq_false, reduceCtorEq, Int.reduceBEq, Int.reduceBNe, Int.reduceLT, Int.reduceLE, Int.reduceAdd, Int.reduceSub, Int.reduceEq, Int.reduceNeg, Int.reduceToNat, Nat.reduceBEq, and_true, true_and, eq_self, Int.cast_ofNat_Int, Int.reduceGT, Int.reduceGE, Nat.reduceGT, alloc_blk_same, alloc_blk_ne, put_blk_ne, kill_blk_ne, Nat.add_zero, Nat.sub_self, ha] at hb'
        have hlow3 : (min h'.low a) < h.nx := by omega
        simp only [go_sem, ne_eq, not_false_eq_true, not_true_eq_false, dec_t, dec_f, Nat.reduceLT, Nat.reduceLeDiff, Nat.reduceEqDiff, Nat.reduceAdd, Nat.reduceSub, Nat.reduceMul, beq_self_eq_true, bne_self_eq_false, reduceCtorEq, Int.reduceBEq, Int.reduceBNe, Int.reduceLT, Int.reduceLE, Int.reduceAdd, Int.reduceSub, Int.reduceEq, Int.reduceNeg, Int.reduceToNat, Nat.reduceBEq, and_true, true_and, eq_self, Int.cast_ofNat_Int, Int.reduceGT, Int.reduceGE, Nat.reduceGT, alloc_blk_same, alloc_blk_ne, put_blk_ne, kill_blk_ne, Nat.add_zero, Nat.sub_self, hb', hro, hn, l'.one]
        rw [fin_l _ _ _ (by simp only [go_sem, ne_eq, not_false_eq_true, not_true_eq_false, dec_t, dec_f, Nat.reduceLT, Nat.reduceLeDiff, Nat.reduceEqDiff, Nat.reduceAdd, Nat.reduceSub, Nat.reduceMul, beq_self_eq_true, bne_self_eq_false, reduceCtorEq, Int.reduceBEq, Int.reduceBNe, Int.reduceLT, Int.reduceLE, Int.reduceAdd, Int.reduceSub, Int.reduceEq, Int.reduceNeg, Int.reduceToNat, Nat.reduceBEq, and_true, true_and, eq_self, Int.cast_ofNat_Int, Int.reduceGT, Int.reduceGE, Nat.reduceGT, alloc_blk_same, alloc_blk_ne, put_blk_ne, kill_blk_ne, Nat.add_zero, Nat.sub_self]; omega)]
        refine ⟨_, _, _, false, 0, gs ++ [(ho, false)], h.nx + 1, rfl, ?_, ?_, .inr (by omega), by rw [if_pos hnode]; simp⟩
        · simp only [go_sem, ne_eq, not_false_eq_true, not_true_eq_false, dec_t, dec_f, Nat.reduceLT, Nat.reduceLeDiff, Nat.reduceEqDiff, Nat.reduceAdd, Nat.reduceSub, Nat.reduceMul, beq_self_eq_true, bne_self_eq_false, reduceCtorEq, Int.reduceBEq, Int.reduceBNe, Int.reduceLT, Int.reduceLE, Int.reduceAdd, Int.reduceSub, Int.reduceEq, Int.reduceNeg, Int.reduceToNat, Nat.reduceBEq, and_true, true_and, eq_self, Int.cast_ofNat_Int, Int.reduceGT, Int.reduceGE, Nat.reduceGT, alloc_blk_same, alloc_blk_ne, put_blk_ne, kill_blk_ne, Nat.add_zero, Nat.sub_self]
          refine ⟨by simp only [go_sem, ne_eq, not_false_eq_true, not_true_eq_false, dec_t, dec_f, Nat.reduceLT, Nat.reduceLeDiff, Nat.reduceEqDiff, Nat.reduceAdd, Nat.reduceSub, Nat.reduceMul, beq_self_eq_true, bne_self_eq_false, reduceCtorEq, Int.reduceBEq, Int.reduceBNe, Int.reduceLT, Int.reduceLE, Int.reduceAdd, Int.reduceSub, Int.reduceEq, Int.reduceNeg, Int.reduceToNat, Nat.reduceBEq, and_true, true_and, eq_self, Int.cast_ofNat_Int, Int.reduceGT, Int.reduceGE, Nat.reduceGT, alloc_blk_same, alloc_blk_ne, put_blk_ne, kill_blk_ne, Nat.add_zero, Nat.sub_self]; omega, fun _ => (by omega : a ≠ h.nx + 1), _, _, put_blk_same _ _ _, by simp only [go_sem, ne_eq, not_false_eq_true, not_true_eq_false, dec_t, dec_f, Nat.reduceLT, Nat.reduceLeDiff, Nat.reduceEqDiff, Nat.reduceAdd, Nat.reduceSub, Nat.reduceMul, beq_self_eq_true, bne_self_eq_false, reduceCtorEq, Int.reduceBEq, Int.reduceBNe, Int.reduceLT, Int.reduceLE, Int.reduceAdd, Int.reduceSub, Int.reduceEq, Int.reduceNeg, Int.reduceToNat, Nat.reduceBEq, and_true, true_and, eq_self, Int.cast_ofNat_Int, Int.reduceGT, Int.reduceGE, Nat.reduceGT, alloc_blk_same, alloc_blk_ne, put_blk_ne, kill_blk_ne, Nat.add_zero, Nat.sub_self, hro], by simp only [go_sem, ne_eq, not_false_eq_true, not_true_eq_false, dec_t, dec_f, Nat.reduceLT, Nat.reduceLeDiff, Nat.reduceEqDiff, Nat.reduceAdd, Nat.reduceSub, Nat.reduceMul, beq_self_eq_true, bne_self_eq_false, reduceCtorEq, Int.reduceBEq, Int.reduceBNe, Int.reduceLT, Int.reduceLE, Int.reduceAdd, Int.reduceSub, Int.reduceEq, Int.reduceNeg, Int.reduceToNat, Nat.reduceBEq, and_true, true_and, eq_self, Int.cast_ofNat_Int, Int.reduceGT, Int.reduceGE, Nat.reduceGT, alloc_blk_same, alloc_blk_ne, put_blk_ne, kill_blk_ne, Nat.add_zero, Nat.sub_self, hn], ?_, ?_, ?_, by simp only [go_sem, ne_eq, not_false_eq_true, not_true_eq_false, dec_t, dec_f, Nat.reduceLT, Nat.reduceLeDiff, Nat.reduceEqDiff, Nat.reduceAdd, Nat.reduceSub, Nat.reduceMul, beq_self_eq_true, bne_self_eq_false, reduceCtorEq, Int.reduceBEq, Int.reduceBNe, Int.reduceLT, Int.reduceLE, Int.reduceAdd, Int.reduceSub, Int.reduceEq, Int.reduceNeg, Int.reduceToNat, Nat.reduceBEq, and_true, true_and, eq_self, Int.cast_ofNat_Int, Int.reduceGT, Int.reduceGE, Nat.reduceGT, alloc_blk_same, alloc_blk_ne, put_blk_ne, kill_blk_ne, Nat.add_zero, Nat.sub_self, hn]; rfl, ?_⟩
          · simp only [go_sem, ne_eq, not_false_eq_true, not_true_eq_false, dec_t, dec_f, Nat.reduceLT, Nat.reduceLeDiff, Nat.reduceEqDiff, Nat.reduceAdd, Nat.reduceSub, Nat.reduceMul, beq_self_eq_true, bne_self_eq_false, reduceCtorEq, Int.reduceBEq, Int.reduceBNe, Int.reduceLT, Int.reduceLE, Int.reduceAdd, Int.reduceSub, Int.reduceEq, Int.reduceNeg, Int.reduceToNat, Nat.reduceBEq, and_true, true_and, eq_self, Int.cast_ofNat_Int, Int.reduceGT, Int.reduceGE, Nat.reduceGT, alloc_blk_same, alloc_blk_ne, put_blk_ne, kill_blk_ne, Nat.add_zero, Nat.sub_self, h0]
          · simp only [go_sem, ne_eq, not_false_eq_true, not_true_eq_false, dec_t, dec_f, Nat.reduceLT, Nat.reduceLeDiff, Nat.reduceEqDiff, Nat.reduceAdd, Nat.reduceSub, Nat.reduceMul, beq_self_eq_true, bne_self_eq_false, reduceCtorEq, Int.reduceBEq, Int.reduceBNe, Int.reduceLT, Int.reduceLE, Int.reduceAdd, Int.reduceSub, Int.reduceEq, Int.reduceNeg, Int.reduceToNat, Nat.reduceBEq, and_true, true_and, eq_self, Int.cast_ofNat_Int, Int.reduceGT, Int.reduceGE, Nat.reduceGT, alloc_blk_same, alloc_blk_ne, put_blk_ne, kill_blk_ne, Nat.add_zero, Nat.sub_self, hn]
          · simp only [go_sem, ne_eq, not_false_eq_true, not_true_eq_false, dec_t, dec_f, Nat.reduceLT, Nat.reduceLeDiff, Nat.reduceEqDiff, Nat.reduceAdd, Nat.reduceSub, Nat.reduceMul, beq_self_eq_true, bne_self_eq_false, reduceCtorEq, Int.reduceBEq, Int.reduceBNe, Int.reduceLT, Int.reduceLE, Int.reduceAdd, Int.reduceSub, Int.reduceEq, Int.reduceNeg, Int.reduceToNat, Nat.reduceBEq, and_true, true_and, eq_self, Int.cast_ofNat_Int, Int.reduceGT, Int.reduceGE, Nat.reduceGT, alloc_blk_same, alloc_blk_ne, put_blk_ne, kill_blk_ne, Nat.add_zero, Nat.sub_self, hn]
          · rw [List.length_append, gcells_app]
            exact Lst.mono (h := h') l' (by simp only [go_sem, ne_eq, not_false_eq_true, not_true_eq_false, dec_t, dec_f, Nat.reduceLT, Nat.reduceLeDiff, Nat.reduceEqDiff, Nat.reduceAdd, Nat.reduceSub, Nat.reduceMul, beq_self_eq_true, bne_self_eq_false, reduceCtorEq, Int.reduceBEq, Int.reduceBNe, Int.reduceLT, Int.reduceLE, Int.reduceAdd, Int.reduceSub, Int.reduceEq, Int.reduceNeg, Int.reduceToNat, Nat.reduceBEq, and_true, true_and, eq_self, Int.cast_ofNat_Int, Int.reduceGT, Int.reduceGE, Nat.reduceGT, alloc_blk_same, alloc_blk_ne, put_blk_ne, kill_blk_ne, Nat.add_zero, Nat.sub_self]; omega) fun _ => by simp only [go_sem, ne_eq, not_false_eq_true, not_true_eq_false, dec_t, dec_f, Nat.reduceLT, Nat.reduceLeDiff, Nat.reduceEqDiff, Nat.reduceAdd, Nat.reduceSub, Nat.reduceMul, beq_self_eq_true, bne_self_eq_false, reduceCtorEq, Int.reduceBEq, Int.reduceBNe, Int.reduceLT, Int.reduceLE, Int.reduceAdd, Int.reduceSub, Int.reduceEq, Int.reduceNeg, Int.reduceToNat, Nat.reduceBEq, and_true, true_and, eq_self, Int.cast_ofNat_Int, Int.reduceGT, Int.reduceGE, Nat.reduceGT, alloc_blk_same, alloc_blk_ne, put_blk_ne, kill_blk_ne, Nat.add_zero, Nat.sub_self, ha'.symm]
        · simp only [go_sem, ne_eq, not_false_eq_true, not_true_eq_false, dec_t, dec_f, Nat.reduceLT, Nat.reduceLeDiff, Nat.reduceEqDiff, Nat.reduceAdd, Nat.reduceSub, Nat.reduceMul, beq_self_eq_true, bne_self_eq_false, reduceCtorEq, Int.reduceBEq, Int.reduceBNe, Int.reduceLT, Int.reduceLE, Int.reduceAdd, Int.reduceSub, Int.reduceEq, Int.reduceNeg, Int.reduceToNat, Nat.reduceBEq, and_true, true_and, eq_self, Int.cast_ofNat_Int, Int.reduceGT, Int.reduceGE, Nat.reduceGT, alloc_blk_same, alloc_blk_ne, put_blk_ne, kill_blk_ne, Nat.add_zero, Nat.sub_self]
          refine ⟨by simp only [go_sem, ne_eq, not_false_eq_true, not_true_eq_false, dec_t, dec_f, Nat.reduceLT, Nat.reduceLeDiff, Nat.reduceEqDiff, Nat.reduceAdd, Nat.reduceSub, Nat.reduceMul, beq_self_eq_true, bne_self_eq_false, reduceCtorEq, Int.reduceBEq, Int.reduceBNe, Int.reduceLT, Int.reduceLE, Int.reduceAdd, Int.reduceSub, Int.reduceEq, Int.reduceNeg, Int.reduceToNat, Nat.reduceBEq, and_true, true_and, eq_self, Int.cast_ofNat_Int, Int.reduceGT, Int.reduceGE, Nat.reduceGT, alloc_blk_same, alloc_blk_ne, put_blk_ne, kill_blk_ne, Nat.add_zero, Nat.sub_self]; omega, by simp only [go_sem, ne_eq, not_false_eq_true, not_true_eq_false, dec_t, dec_f, Nat.reduceLT, Nat.reduceLeDiff, Nat.reduceEqDiff, Nat.reduceAdd, Nat.reduceSub, Nat.reduceMul, beq_self_eq_true, bne_self_eq_false, reduceCtorEq, Int.reduceBEq, Int.reduceBNe, Int.reduceLT, Int.reduceLE, Int.reduceAdd, Int.reduceSub, Int.reduceEq, Int.reduceNeg, Int.reduceToNat, Nat.reduceBEq, and_true, true_and, eq_self, Int.cast_ofNat_Int, Int.reduceGT, Int.reduceGE, Nat.reduceGT, alloc_blk_same, alloc_blk_ne, put_blk_ne, kill_blk_ne, Nat.add_zero, Nat.sub_self, hgn], fun id h1 h2 h3 => ?_⟩
          simp only [go_sem, ne_eq, not_false_eq_true, not_true_eq_false, dec_t, dec_f, Nat.reduceLT, Nat.reduceLeDiff, Nat.reduceEqDiff, Nat.reduceAdd, Nat.reduceSub, Nat.reduceMul, beq_self_eq_true, bne_self_eq_false, reduceCtorEq, Int.reduceBEq, Int.reduceBNe, Int.reduceLT, Int.reduceLE, Int.reduceAdd, Int.reduceSub, Int.reduceEq, Int.reduceNeg, Int.reduceToNat, Nat.reduceBEq, and_true, true_and, eq_self, Int.cast_ofNat_Int, Int.reduceGT, Int.reduceGE, Nat.reduceGT, alloc_blk_same, alloc_blk_ne, put_blk_ne, kill_blk_ne, Nat.add_zero, Nat.sub_self]
          rw [put_get_ne _ _ _ _ h2, hold id (by omega) fun _ => h3, alloc_get_ne _ _ _ (by simp only [go_sem, ne_eq, not_false_eq_true, not_true_eq_false, dec_t, dec_f, Nat.reduceLT, Nat.reduceLeDiff, Nat.reduceEqDiff, Nat.reduceAdd, Nat.reduceSub, Nat.reduceMul, beq_self_eq_true, bne_self_eq_false, reduceCtorEq, Int.reduceBEq, Int.reduceBNe, Int.reduceLT, Int.reduceLE, Int.reduceAdd, Int.reduceSub, Int.reduceEq, Int.reduceNeg, Int.reduceToNat, Nat.reduceBEq, and_true, true_and, eq_self, Int.cast_ofNat_Int, Int.reduceGT, Int.reduceGE, Nat.reduceGT, alloc_blk_same, alloc_blk_ne, put_blk_ne, kill_blk_ne, Nat.add_zero, Nat.sub_self]; omega), put_get_ne _ _ _ _ h2, put_get_ne _ _ _ _ h2]
          rfl
      · simp only [go_sem, ne_eq, not_false_eq_true, not_true_eq_false, dec_t, dec_f, Nat.reduceLT, Nat.reduceLeDiff, Nat.reduceEqDiff, Nat.reduceAdd, Nat.reduceSub, Nat.reduceMul, beq_self_eq_true, bne_self_eq_false, reduceCtorEq, Int.reduceBEq, Int.reduceBNe, Int.reduceLT, Int.reduceLE, Int.reduceAdd, Int.reduceSub, Int.reduceEq, Int.reduceNeg, Int.reduceToNat, Nat.reduceBEq, and_true, true_and, eq_self, Int.cast_ofNat_Int, Int.reduceGT, Int.reduceGE, Nat.reduceGT, alloc_blk_same, alloc_blk_ne, put_blk_ne, kill_blk_ne, Nat.add_zero, Nat.sub_self, e, hb, h0, h1, h2, h3, hh]
        rw [fin_q _ _ _ rfl rfl]
        exact ⟨_, _, _, _, _, _, lid, rfl, A, Fr.refl _ _ _, .inl rfl, by rw [if_pos hnode]; simp [hh]⟩
  · rw [if_neg hnode] at e
    simp only [go_sem, ne_eq, not_false_eq_true, not_true_eq_false, dec_t, dec_f, Nat.reduceLT, Nat.reduceLeDiff, Nat.reduceEqDiff, Nat.reduceAdd, Nat.reduceSub, Nat.reduceMul, beq_self_eq_true, bne_self_eq_false, reduceCtorEq, Int.reduceBEq, Int.reduceBNe, Int.reduceLT, Int.reduceLE, Int.reduceAdd, Int.reduceSub, Int.reduceEq, Int.reduceNeg, Int.reduceToNat, Nat.reduceBEq, and_true, true_and, eq_self, Int.cast_ofNat_Int, Int.reduceGT, Int.reduceGE, Nat.reduceGT, alloc_blk_same, alloc_blk_ne, put_blk_ne, kill_blk_ne, Nat.add_zero, Nat.sub_self, e]
    rw [fin_q _ _ _ rfl rfl]
    exact ⟨_, _, _, _, _, _, lid, rfl, A, Fr.refl _ _ _, .inl rfl, by rw [if_neg hnode]⟩

theorem new_run (hσ : ∀ f a h, f ≠ 9 → σ f a h = none) (h : H) : ∃ h', (lim Try.prog σ).call 10 [] h = some (.ptr h.nx 0, some h') ∧ ArbAt h' h.nx h.nx false 0 [] ∧ h'.nx = h.nx + 1 ∧ h'.gn = h.gn ∧ ∀ k, k < h.nx → h'.t.get k = h.t.get k := by
  rw [call_eq (hσ _ _ _ (by decide)) fn_10 rfl rfl, Try.ntmps10, Try.results10]
  simp only [go_sem, ne_eq, not_false_eq_true, not_true_eq_false, dec_t, dec_f, Nat.reduceLT, Nat.reduceLeDiff, Nat.reduceEqDiff, Nat.reduceAdd, Nat.reduceSub, Nat.reduceMul, beq_self_eq_true, bne_self_eq_false, reduceCtorEq, Int.reduceBEq, Int.reduceBNe, Int.reduceLT, Int.reduceLE, Int.reduceAdd, Int.reduceSub, Int.reduceEq, Int.reduceNeg, Int.reduceToNat, Nat.reduceBEq, and_true, true_and, eq_self, Int.cast_ofNat_Int, Int.reduceGT, Int.reduceGE, Nat.reduceGT, alloc_blk_same, alloc_blk_ne, put_blk_ne, kill_blk_ne, Nat.add_zero, Nat.sub_self]
  rw [fin_new _ _ _ (by simp only [go_sem, ne_eq, not_false_eq_true, not_true_eq_false, dec_t, dec_f, Nat.reduceLT, Nat.reduceLeDiff, Nat.reduceEqDiff, Nat.reduceAdd, Nat.reduceSub, Nat.reduceMul, beq_self_eq_true, bne_self_eq_false, reduceCtorEq, Int.reduceBEq, Int.reduceBNe, Int.reduceLT, Int.reduceLE, Int.reduceAdd, Int.reduceSub, Int.reduceEq, Int.reduceNeg, Int.reduceToNat, Nat.reduceBEq, and_true, true_and, eq_self, Int.cast_ofNat_Int, Int.reduceGT, Int.reduceGE, Nat.reduceGT, alloc_blk_same, alloc_blk_ne, put_blk_ne, kill_blk_ne, Nat.add_zero, Nat.sub_self]; exact decide_eq_false (by omega))]
  refine ⟨_, rfl, ⟨by simp only [go_sem, ne_eq, not_false_eq_true, not_true_eq_false, dec_t, dec_f, Nat.reduceLT, Nat.reduceLeDiff, Nat.reduceEqDiff, Nat.reduceAdd, Nat.reduceSub, Nat.reduceMul, beq_self_eq_true, bne_self_eq_false, reduceCtorEq, Int.reduceBEq, Int.reduceBNe, Int.reduceLT, Int.reduceLE, Int.reduceAdd, Int.reduceSub, Int.reduceEq, Int.reduceNeg, Int.reduceToNat, Nat.reduceBEq, and_true, true_and, eq_self, Int.cast_ofNat_Int, Int.reduceGT, Int.reduceGE, Nat.reduceGT, alloc_blk_same, alloc_blk_ne, put_blk_ne, kill_blk_ne, Nat.add_zero, Nat.sub_self]; omega, fun h => absurd rfl h, _, _, alloc_blk_same _ _ _ rfl, rfl, rfl, rfl, rfl, rfl, rfl, Lst.nil _ _ _⟩, by simp only [go_sem, ne_eq, not_false_eq_true, not_true_eq_false, dec_t, dec_f, Nat.reduceLT, Nat.reduceLeDiff, Nat.reduceEqDiff, Nat.reduceAdd, Nat.reduceSub, Nat.reduceMul, beq_self_eq_true, bne_self_eq_false, reduceCtorEq, Int.reduceBEq, Int.reduceBNe, Int.reduceLT, Int.reduceLE, Int.reduceAdd, Int.reduceSub, Int.reduceEq, Int.reduceNeg, Int.reduceToNat, Nat.reduceBEq, and_true, true_and, eq_self, Int.cast_ofNat_Int, Int.reduceGT, Int.reduceGE, Nat.reduceGT, alloc_blk_same, alloc_blk_ne, put_blk_ne, kill_blk_ne, Nat.add_zero, Nat.sub_self], by simp only [go_sem, ne_eq, not_false_eq_true, not_true_eq_false, dec_t, dec_f, Nat.reduceLT, Nat.reduceLeDiff, Nat.reduceEqDiff, Nat.reduceAdd, Nat.reduceSub, Nat.reduceMul, beq_self_eq_true, bne_self_eq_false, reduceCtorEq, Int.reduceBEq, Int.reduceBNe, Int.reduceLT, Int.reduceLE, Int.reduceAdd, Int.reduceSub, Int.reduceEq, Int.reduceNeg, Int.reduceToNat, Nat.reduceBEq, and_true, true_and, eq_self, Int.cast_ofNat_Int, Int.reduceGT, Int.reduceGE, Nat.reduceGT, alloc_blk_same, alloc_blk_ne, put_blk_ne, kill_blk_ne, Nat.add_zero, Nat.sub_self], fun k hk => ?_⟩
  simp only [go_sem, ne_eq, not_false_eq_true, not_true_eq_false, dec_t, dec_f, Nat.reduceLT, Nat.reduceLeDiff, Nat.reduceEqDiff, Nat.reduceAdd, Nat.reduceSub, Nat.reduceMul, beq_self_eq_true, bne_self_eq_false, reduceCtorEq, Int.reduceBEq, Int.reduceBNe, Int.reduceLT, Int.reduceLE, Int.reduceAdd, Int.reduceSub, Int.reduceEq, Int.reduceNeg, Int.reduceToNat, Nat.reduceBEq, and_true, true_and, eq_self, Int.cast_ofNat_Int, Int.reduceGT, Int.reduceGE, Nat.reduceGT, alloc_blk_same, alloc_blk_ne, put_blk_ne, kill_blk_ne, Nat.add_zero, Nat.sub_self]
  rw [alloc_get_ne _ _ _ (by simp only [go_sem, ne_eq, not_false_eq_true, not_true_eq_false, dec_t, dec_f, Nat.reduceLT, Nat.reduceLeDiff, Nat.reduceEqDiff, Nat.reduceAdd, Nat.reduceSub, Nat.reduceMul, beq_self_eq_true, bne_self_eq_false, reduceCtorEq, Int.reduceBEq, Int.reduceBNe, Int.reduceLT, Int.reduceLE, Int.reduceAdd, Int.reduceSub, Int.reduceEq, Int.reduceNeg, Int.reduceToNat, Nat.reduceBEq, and_true, true_and, eq_self, Int.cast_ofNat_Int, Int.reduceGT, Int.reduceGE, Nat.reduceGT, alloc_blk_same, alloc_blk_ne, put_blk_ne, kill_blk_ne, Nat.add_zero, Nat.sub_self]; omega)]
  rfl

theorem holder_run (hσ : ∀ f a h, f ≠ 9 → σ f a h = none) {h : H} {a lid : Nat} {tk : Bool} {ho : Int} {gs : List (Int × Bool)} (A : ArbAt h a lid tk ho gs) :
    (lim Try.prog σ).call 14 [.ptr a 0] h = some (.tup [.int .i64 ho, .bool tk], none) := by
  obtain ⟨b, v, hb, hro, hn, h0, h1, h2, h3, hl⟩ := A.blk
  have e := none_run hσ (h := h.lo) (a := a) hb h0
  rw [call_eq (hσ _ _ _ (by decide)) fn_14 rfl rfl, Try.ntmps14, Try.results14]
  simp only [go_sem, ne_eq, not_false_eq_true, not_true_eq_false, dec_t, dec_f, Nat.reduceLT, Nat.reduceLeDiff, Nat.reduceEqDiff, Nat.reduceAdd, Nat.reduceSub, Nat.reduceMul, beq_self_eq_true, bne_self_eq_false, reduceCtorEq, Int.reduceBEq, Int.reduceBNe, Int.reduceLT, Int.reduceLE, Int.reduceAdd, Int.reduceSub, Int.reduceEq, Int.reduceNeg, Int.reduceToNat, Nat.reduceBEq, and_true, true_and, eq_self, Int.cast_ofNat_Int, Int.reduceGT, Int.reduceGE, Nat.reduceGT, alloc_blk_same, alloc_blk_ne, put_blk_ne, kill_blk_ne, Nat.add_zero, Nat.sub_self, e, hb, h1, h2]
  rw [cnd_closed]
  · simp only [go_sem, ne_eq, not_false_eq_true, not_true_eq_false, dec_t, dec_f, Nat.reduceLT, Nat.reduceLeDiff, Nat.reduceEqDiff, Nat.reduceAdd, Nat.reduceSub, Nat.reduceMul, beq_self_eq_true, bne_self_eq_false, reduceCtorEq, Int.reduceBEq, Int.reduceBNe, Int.reduceLT, Int.reduceLE, Int.reduceAdd, Int.reduceSub, Int.reduceEq, Int.reduceNeg, Int.reduceToNat, Nat.reduceBEq, and_true, true_and, eq_self, Int.cast_ofNat_Int, Int.reduceGT, Int.reduceGE, Nat.reduceGT, alloc_blk_same, alloc_blk_ne, put_blk_ne, kill_blk_ne, Nat.add_zero, Nat.sub_self, e, hb, h1, h2]
    rw [fin_q _ _ _ rfl rfl]
  · kernel_rfl

theorem len_run (hσ : ∀ f a h, f ≠ 9 → σ f a h = none) {h : H} {a lid : Nat} {tk : Bool} {ho : Int} {gs : List (Int × Bool)} (A : ArbAt h a lid tk ho gs) :
    (lim Try.prog σ).call 15 [.ptr a 0] h = some (.int .i64 gs.length, none) := by
  obtain ⟨b, v, hb, hro, hn, h0, h1, h2, h3, hl⟩ := A.blk
  have e := none_run hσ (h := h.lo) (a := a) hb h0
  rw [call_eq (hσ _ _ _ (by decide)) fn_15 rfl rfl, Try.ntmps15, Try.results15]
  rcases hl.val with ⟨hg, rfl⟩ | ⟨_, rfl, _⟩
  · simp only [go_sem, ne_eq, not_false_eq_true, not_true_eq_false, dec_t, dec_f, Nat.reduceLT, Nat.reduceLeDiff, Nat.reduceEqDiff, Nat.reduceAdd, Nat.reduceSub, Nat.reduceMul, beq_self_eq_true, bne_self_eq_false, reduceCtorEq, Int.reduceBEq, Int.reduceBNe, Int.reduceLT, Int.reduceLE, Int.reduceAdd, Int.reduceSub, Int.reduceEq, Int.reduceNeg, Int.reduceToNat, Nat.reduceBEq, and_true, true_and, eq_self, Int.cast_ofNat_Int, Int.reduceGT, Int.reduceGE, Nat.reduceGT, alloc_blk_same, alloc_blk_ne, put_blk_ne, kill_blk_ne, Nat.add_zero, Nat.sub_self, e, hb, h3, hg]
    rw [fin_q _ _ _ rfl rfl]
    try rfl
  · simp only [go_sem, ne_eq, not_false_eq_true, not_true_eq_false, dec_t, dec_f, Nat.reduceLT, Nat.reduceLeDiff, Nat.reduceEqDiff, Nat.reduceAdd, Nat.reduceSub, Nat.reduceMul, beq_self_eq_true, bne_self_eq_false, reduceCtorEq, Int.reduceBEq, Int.reduceBNe, Int.reduceLT, Int.reduceLE, Int.reduceAdd, Int.reduceSub, Int.reduceEq, Int.reduceNeg, Int.reduceToNat, Nat.reduceBEq, and_true, true_and, eq_self, Int.cast_ofNat_Int, Int.reduceGT, Int.reduceGE, Nat.reduceGT, alloc_blk_same, alloc_blk_ne, put_blk_ne, kill_blk_ne, Nat.add_zero, Nat.sub_self, e, hb, h3]
    rw [fin_q _ _ _ rfl rfl]
    try rfl

theorem num_run (hσ : ∀ f a h, f ≠ 9 → σ f a h = none) (h : H) (n : Int) : (lim Try.prog σ).call 13 [.int .i64 n] h = some (.int .i64 n, none) := by
  rw [call_eq (hσ _ _ _ (by decide)) fn_13 rfl rfl, Try.ntmps13, Try.results13]
  simp only [go_sem, ne_eq, not_false_eq_true, not_true_eq_false, dec_t, dec_f, Nat.reduceLT, Nat.reduceLeDiff, Nat.reduceEqDiff, Nat.reduceAdd, Nat.reduceSub, Nat.reduceMul, beq_self_eq_true, bne_self_eq_false, reduceCtorEq, Int.reduceBEq, Int.reduceBNe, Int.reduceLT, Int.reduceLE, Int.reduceAdd, Int.reduceSub, Int.reduceEq, Int.reduceNeg, Int.reduceToNat, Nat.reduceBEq, and_true, true_and, eq_self, Int.cast_ofNat_Int, Int.reduceGT, Int.reduceGE, Nat.reduceGT, alloc_blk_same, alloc_blk_ne, put_blk_ne, kill_blk_ne, Nat.add_zero, Nat.sub_self]
  rw [fin_q _ _ _ rfl rfl]
end Go.Cl.A

namespace Go.Cl.A
variable {σ : Sums}

theorem gcells_at : ∀ (l : List (Int × Bool)) (i : Nat) (g : Int × Bool), l[i]? = some g → nth (gcells l) (i * 2) = some (.int .i64 g.1) ∧ nth (gcells l) (i * 2 + 1) = some (.bool g.2)
  | [], i, g, h => by simp at h
  | a :: l, 0, g, h => by simp at h; subst h; exact ⟨rfl, rfl⟩
  | a :: l, i + 1, g, h => by
    have := gcells_at l i g (by simpa using h)
    rw [show (i + 1) * 2 = i * 2 + 1 + 1 by omega]
    exact this

structure Inv (n0 : Nat) (h0 : H) (v1 v2 : CV) (node : Int) (h : H) (env : T CV) (tk : Bool) (ho : Int) (gs : List (Int × Bool)) : Prop where
  e0 : evT env 0 = v1
  e1 : evT env 1 = v2
  e2 : evT env 2 = .int .i64 node
  e7 : evT env 7 = .ptr n0 0
  arb : ∃ lid, n0 ≤ lid ∧ ArbAt h n0 lid tk ho gs
  old : ∀ k, k < n0 → h.t.get k = h0.t.get k
  nx : n0 ≤ h.nx

theorem Inv.step {n0 : Nat} {h0 : H} {v1 v2 : CV} {node : Int} {h : H} {env : T CV} {tk tk' : Bool} {ho ho' : Int} {gs gs' : List (Int × Bool)} (I : Inv n0 h0 v1 v2 node h env tk ho gs) {h' : H} {env' : T CV} {lid lid' : Nat}
    (hlid : n0 ≤ lid) (A' : ArbAt h' n0 lid' tk' ho' gs') (F : Fr h h' n0 lid) (hl : lid' = lid ∨ h.nx ≤ lid') (e0 : evT env' 0 = evT env 0) (e1 : evT env' 1 = evT env 1) (e2 : evT env' 2 = evT env 2) (e7 : evT env' 7 = evT env 7) :
    Inv n0 h0 v1 v2 node h' env' tk' ho' gs' :=
  ⟨e0.trans I.e0, e1.trans I.e1, e2.trans I.e2, e7.trans I.e7, ⟨lid', by have := I.nx; omega, A'⟩,
    fun k hk => (F.old k (by have := I.nx; omega) (by omega) (by omega)).trans (I.old k hk), Nat.le_trans I.nx F.nx⟩

theorem take_facts {c : Bool} {e : Int} {tk tk' : Bool} {ho ho' : Int} {gs gs' : List (Int × Bool)} {node : Int}
    (heq : (c, e, tk', ho', gs') = (if node = 0 ∨ node = 1 then (if tk then (if ho = node then (false, 0, tk, ho, gs) else (false, 12, tk, ho, gs)) else (true, 0, true, node, gs ++ [(node, true)])) else (false, 2, tk, ho, gs))) :
    gs'.length ≤ gs.length + 1 ∧ ((tk = true → ho = 0 ∨ ho = 1) → tk' = true → ho' = 0 ∨ ho' = 1) := by
  revert heq
  repeat' split
  all_goals
    intro heq
    simp only [Prod.mk.injEq] at heq
    obtain ⟨_, _, rfl, rfl, rfl⟩ := heq
    refine ⟨by simp, fun q w => ?_⟩
    first | exact q w | assumption
theorem rel_facts {c : Bool} {e : Int} {tk tk' : Bool} {ho ho' : Int} {gs gs' : List (Int × Bool)} {node : Int}
    (heq : (c, e, tk', ho', gs') = (if node = 0 ∨ node = 1 then (if tk ∧ ho = node then (true, 0, false, 0, gs ++ [(node, false)]) else (false, 0, tk, ho, gs)) else (false, 2, tk, ho, gs))) :
    gs'.length ≤ gs.length + 1 ∧ ((tk = true → ho = 0 ∨ ho = 1) → tk' = true → ho' = 0 ∨ ho' = 1) := by
  revert heq
  repeat' split
  all_goals
    intro heq
    simp only [Prod.mk.injEq] at heq
    obtain ⟨_, _, rfl, rfl, rfl⟩ := heq
    refine ⟨by simp, fun q w => ?_⟩
    first | exact q w | cases w

set_option maxRecDepth 100000 in
theorem holds_run (hσ : ∀ f a h, f ≠ 9 → σ f a h = none) (hk : ∀ h, (lim Try.prog σ).call 9 [] h = some (.bool true, none)) {h : H} {v1 v2 : CV} {steps : List (Int × Bool)} {more : List Bool} (node : Int)
    (S1 : Sl Try.prog 22 h v1 2 steps.length (gcells steps)) (S2 : Sl Try.prog 23 h v2 1 more.length (more.map .bool)) : Tru ((lim Try.prog σ).call 3 [v1, v2, .int .i64 node] h) := by
  rw [call_eq (hσ _ _ _ (by decide)) fn_3 rfl rfl, Try.ntmps3, Try.results3]
  by_cases h1 : Int.ofNat steps.length > 40
  · simp only [go_sem, ne_eq, not_false_eq_true, not_true_eq_false, dec_t, dec_f, Nat.reduceLT, Nat.reduceLeDiff, Nat.reduceEqDiff, Nat.reduceAdd, Nat.reduceSub, Nat.reduceMul, beq_self_eq_true, bne_self_eq_false, reduceCtorEq, Int.reduceBEq, Int.reduceBNe, Int.reduceLT, Int.reduceLE, Int.reduceAdd, Int.reduceSub, Int.reduceEq, Int.reduceNeg, Int.reduceToNat, Nat.reduceBEq, and_true, true_and, eq_self, Int.cast_ofNat_Int, Int.reduceGT, Int.reduceGE, Nat.reduceGT, alloc_blk_same, alloc_blk_ne, put_blk_ne, kill_blk_ne, Nat.add_zero, Nat.sub_self, S1.len, h1, hk, tru_fin]
  by_cases h2 : Int.ofNat more.length > 40
  · simp only [go_sem, ne_eq, not_false_eq_true, not_true_eq_false, dec_t, dec_f, Nat.reduceLT, Nat.reduceLeDiff, Nat.reduceEqDiff, Nat.reduceAdd, Nat.reduceSub, Nat.reduceMul, beq_self_eq_true, bne_self_eq_false, reduceCtorEq, Int.reduceBEq, Int.reduceBNe, Int.reduceLT, Int.reduceLE, Int.reduceAdd, Int.reduceSub, Int.reduceEq, Int.reduceNeg, Int.reduceToNat, Nat.reduceBEq, and_true, true_and, eq_self, Int.cast_ofNat_Int, Int.reduceGT, Int.reduceGE, Nat.reduceGT, alloc_blk_same, alloc_blk_ne, put_blk_ne, kill_blk_ne, Nat.add_zero, Nat.sub_self, S1.len, S2.len, h1, h2, hk, tru_fin]
  by_cases h3 : node < 0
  · simp only [go_sem, ne_eq, not_false_eq_true, not_true_eq_false, dec_t, dec_f, Nat.reduceLT, Nat.reduceLeDiff, Nat.reduceEqDiff, Nat.reduceAdd, Nat.reduceSub, Nat.reduceMul, beq_self_eq_true, bne_self_eq_false, reduceCtorEq, Int.reduceBEq, Int.reduceBNe, Int.reduceLT, Int.reduceLE, Int.reduceAdd, Int.reduceSub, Int.reduceEq, Int.reduceNeg, Int.reduceToNat, Nat.reduceBEq, and_true, true_and, eq_self, Int.cast_ofNat_Int, Int.reduceGT, Int.reduceGE, Nat.reduceGT, alloc_blk_same, alloc_blk_ne, put_blk_ne, kill_blk_ne, Nat.add_zero, Nat.sub_self, S1.len, S2.len, h1, h2, h3, hk, tru_fin]
  by_cases h4 : node > 1
  · simp only [go_sem, ne_eq, not_false_eq_true, not_true_eq_false, dec_t, dec_f, Nat.reduceLT, Nat.reduceLeDiff, Nat.reduceEqDiff, Nat.reduceAdd, Nat.reduceSub, Nat.reduceMul, beq_self_eq_true, bne_self_eq_false, reduceCtorEq, Int.reduceBEq, Int.reduceBNe, Int.reduceLT, Int.reduceLE, Int.reduceAdd, Int.reduceSub, Int.reduceEq, Int.reduceNeg, Int.reduceToNat, Nat.reduceBEq, and_true, true_and, eq_self, Int.cast_ofNat_Int, Int.reduceGT, Int.reduceGE, Nat.reduceGT, alloc_blk_same, alloc_blk_ne, put_blk_ne, kill_blk_ne, Nat.add_zero, Nat.sub_self, S1.len, S2.len, h1, h2, h3, h4, hk, tru_fin]
  have hnode : node = 0 ∨ node = 1 := by omega
  have hsl : steps.length ≤ 40 := by have := h1; simp at this; omega
  have hml : more.length ≤ 40 := by have := h2; simp at this; omega
  obtain ⟨hN, eN, AN, nxN, gnN, oldN⟩ := new_run hσ h.lo
  simp only [go_sem, ne_eq, not_false_eq_true, not_true_eq_false, dec_t, dec_f, Nat.reduceLT, Nat.reduceLeDiff, Nat.reduceEqDiff, Nat.reduceAdd, Nat.reduceSub, Nat.reduceMul, beq_self_eq_true, bne_self_eq_false, reduceCtorEq, Int.reduceBEq, Int.reduceBNe, Int.reduceLT, Int.reduceLE, Int.reduceAdd, Int.reduceSub, Int.reduceEq, Int.reduceNeg, Int.reduceToNat, Nat.reduceBEq, and_true, true_and, eq_self, Int.cast_ofNat_Int, Int.reduceGT, Int.reduceGE, Nat.reduceGT, alloc_blk_same, alloc_blk_ne, put_blk_ne, kill_blk_ne, Nat.add_zero, Nat.sub_self] at AN nxN gnN oldN eN
  simp only [go_sem, ne_eq, not_false_eq_true, not_true_eq_false, dec_t, dec_f, Nat.reduceLT, Nat.reduceLeDiff, Nat.reduceEqDiff, Nat.reduceAdd, Nat.reduceSub, Nat.reduceMul, beq_self_eq_true, bne_self_eq_false, reduceCtorEq, Int.reduceBEq, Int.reduceBNe, Int.reduceLT, Int.reduceLE, Int.reduceAdd, Int.reduceSub, Int.reduceEq, Int.reduceNeg, Int.reduceToNat, Nat.reduceBEq, and_true, true_and, eq_self, Int.cast_ofNat_Int, Int.reduceGT, Int.reduceGE, Nat.reduceGT, alloc_blk_same, alloc_blk_ne, put_blk_ne, kill_blk_ne, Nat.add_zero, Nat.sub_self, S1.len, S2.len, h1, h2, h3, h4, eN]
  refine loop_ind (Q := Tru) (fun i env h' => evT env 8 = .int .i64 (Int.ofNat i) ∧ ∃ tk ho gs, Inv h.nx h v1 v2 node h' env tk ho gs ∧ gs.length ≤ i ∧ (tk = true → ho = 0 ∨ ho = 1)) steps.length 0 ?_ (Nat.zero_le _) ?_ ?_
  · refine ⟨by simp only [go_sem, ne_eq, not_false_eq_true, not_true_eq_false, dec_t, dec_f, Nat.reduceLT, Nat.reduceLeDiff, Nat.reduceEqDiff, Nat.reduceAdd, Nat.reduceSub, Nat.reduceMul, beq_self_eq_true, bne_self_eq_false, reduceCtorEq, Int.reduceBEq, Int.reduceBNe, Int.reduceLT, Int.reduceLE, Int.reduceAdd, Int.reduceSub, Int.reduceEq, Int.reduceNeg, Int.reduceToNat, Nat.reduceBEq, and_true, true_and, eq_self, Int.cast_ofNat_Int, Int.reduceGT, Int.reduceGE, Nat.reduceGT, alloc_blk_same, alloc_blk_ne, put_blk_ne, kill_blk_ne, Nat.add_zero, Nat.sub_self]; rfl, false, 0, [], ⟨by simp only [go_sem, ne_eq, not_false_eq_true, not_true_eq_false, dec_t, dec_f, Nat.reduceLT, Nat.reduceLeDiff, Nat.reduceEqDiff, Nat.reduceAdd, Nat.reduceSub, Nat.reduceMul, beq_self_eq_true, bne_self_eq_false, reduceCtorEq, Int.reduceBEq, Int.reduceBNe, Int.reduceLT, Int.reduceLE, Int.reduceAdd, Int.reduceSub, Int.reduceEq, Int.reduceNeg, Int.reduceToNat, Nat.reduceBEq, and_true, true_and, eq_self, Int.cast_ofNat_Int, Int.reduceGT, Int.reduceGE, Nat.reduceGT, alloc_blk_same, alloc_blk_ne, put_blk_ne, kill_blk_ne, Nat.add_zero, Nat.sub_self], by simp only [go_sem, ne_eq, not_false_eq_true, not_true_eq_false, dec_t, dec_f, Nat.reduceLT, Nat.reduceLeDiff, Nat.reduceEqDiff, Nat.reduceAdd, Nat.reduceSub, Nat.reduceMul, beq_self_eq_true, bne_self_eq_false, reduceCtorEq, Int.reduceBEq, Int.reduceBNe, Int.reduceLT, Int.reduceLE, Int.reduceAdd, Int.reduceSub, Int.reduceEq, Int.reduceNeg, Int.reduceToNat, Nat.reduceBEq, and_true, true_and, eq_self, Int.cast_ofNat_Int, Int.reduceGT, Int.reduceGE, Nat.reduceGT, alloc_blk_same, alloc_blk_ne, put_blk_ne, kill_blk_ne, Nat.add_zero, Nat.sub_self], by simp only [go_sem, ne_eq, not_false_eq_true, not_true_eq_false, dec_t, dec_f, Nat.reduceLT, Nat.reduceLeDiff, Nat.reduceEqDiff, Nat.reduceAdd, Nat.reduceSub, Nat.reduceMul, beq_self_eq_true, bne_self_eq_false, reduceCtorEq, Int.reduceBEq, Int.reduceBNe, Int.reduceLT, Int.reduceLE, Int.reduceAdd, Int.reduceSub, Int.reduceEq, Int.reduceNeg, Int.reduceToNat, Nat.reduceBEq, and_true, true_and, eq_self, Int.cast_ofNat_Int, Int.reduceGT, Int.reduceGE, Nat.reduceGT, alloc_blk_same, alloc_blk_ne, put_blk_ne, kill_blk_ne, Nat.add_zero, Nat.sub_self], by simp only [go_sem, ne_eq, not_false_eq_true, not_true_eq_false, dec_t, dec_f, Nat.reduceLT, Nat.reduceLeDiff, Nat.reduceEqDiff, Nat.reduceAdd, Nat.reduceSub, Nat.reduceMul, beq_self_eq_true, bne_self_eq_false, reduceCtorEq, Int.reduceBEq, Int.reduceBNe, Int.reduceLT, Int.reduceLE, Int.reduceAdd, Int.reduceSub, Int.reduceEq, Int.reduceNeg, Int.reduceToNat, Nat.reduceBEq, and_true, true_and, eq_self, Int.cast_ofNat_Int, Int.reduceGT, Int.reduceGE, Nat.reduceGT, alloc_blk_same, alloc_blk_ne, put_blk_ne, kill_blk_ne, Nat.add_zero, Nat.sub_self], ⟨_, Nat.le_refl _, AN⟩, oldN, by omega⟩, by simp, by simp⟩
  · rintro i env h' ⟨e8, tk, ho, gs, I, hgs, hho⟩ hi next
    obtain ⟨lid, hlid, A⟩ := I.arb
    obtain ⟨id, off, b, hix, hid, hb, hro, hget⟩ := S1.elt i hi
    have hb' : h'.blk id = some b := (blk_eq (I.old id hid)).trans hb
    obtain ⟨g, hg⟩ : ∃ g, steps[i]? = some g := ⟨_, List.getElem?_eq_getElem hi⟩
    have hc := gcells_at steps i g hg
    have g0 := hget 0 _ (by decide) hc.1
    have g1 := hget 1 _ (by decide) hc.2
    have hlt := ofNat_lt hi
    have hw : IntKind.wrap .i64 (Int.ofNat i + 1) = Int.ofNat (i + 1) := wrap_succ (by omega)
    rw [Nat.add_zero] at g0
    cases hg2 : g.2
    · rw [hg2] at g1
      obtain ⟨c, e, x, tk', ho', gs', lid', hr, A', F', hl', heq⟩ := release_run hσ A g.1 (by omega)
      simp only [go_sem, ne_eq, not_false_eq_true, not_true_eq_false, dec_t, dec_f, Nat.reduceLT, Nat.reduceLeDiff, Nat.reduceEqDiff, Nat.reduceAdd, Nat.reduceSub, Nat.reduceMul, beq_self_eq_true, bne_self_eq_false, reduceCtorEq, Int.reduceBEq, Int.reduceBNe, Int.reduceLT, Int.reduceLE, Int.reduceAdd, Int.reduceSub, Int.reduceEq, Int.reduceNeg, Int.reduceToNat, Nat.reduceBEq, and_true, true_and, eq_self, Int.cast_ofNat_Int, Int.reduceGT, Int.reduceGE, Nat.reduceGT, alloc_blk_same, alloc_blk_ne, put_blk_ne, kill_blk_ne, Nat.add_zero, Nat.sub_self, I.e0, I.e1, I.e2, I.e7, e8, S1.len, hix, hb', g0, g1, hlt, hr, hw]
      refine next _ _ ⟨by simp only [go_sem, ne_eq, not_false_eq_true, not_true_eq_false, dec_t, dec_f, Nat.reduceLT, Nat.reduceLeDiff, Nat.reduceEqDiff, Nat.reduceAdd, Nat.reduceSub, Nat.reduceMul, beq_self_eq_true, bne_self_eq_false, reduceCtorEq, Int.reduceBEq, Int.reduceBNe, Int.reduceLT, Int.reduceLE, Int.reduceAdd, Int.reduceSub, Int.reduceEq, Int.reduceNeg, Int.reduceToNat, Nat.reduceBEq, and_true, true_and, eq_self, Int.cast_ofNat_Int, Int.reduceGT, Int.reduceGE, Nat.reduceGT, alloc_blk_same, alloc_blk_ne, put_blk_ne, kill_blk_ne, Nat.add_zero, Nat.sub_self], tk', ho', gs', I.step hlid A' F' hl' (by simp only [go_sem, ne_eq, not_false_eq_true, not_true_eq_false, dec_t, dec_f, Nat.reduceLT, Nat.reduceLeDiff, Nat.reduceEqDiff, Nat.reduceAdd, Nat.reduceSub, Nat.reduceMul, beq_self_eq_true, bne_self_eq_false, reduceCtorEq, Int.reduceBEq, Int.reduceBNe, Int.reduceLT, Int.reduceLE, Int.reduceAdd, Int.reduceSub, Int.reduceEq, Int.reduceNeg, Int.reduceToNat, Nat.reduceBEq, and_true, true_and, eq_self, Int.cast_ofNat_Int, Int.reduceGT, Int.reduceGE, Nat.reduceGT, alloc_blk_same, alloc_blk_ne, put_blk_ne, kill_blk_ne, Nat.add_zero, Nat.sub_self]) (by simp only [go_sem, ne_eq, not_false_eq_true, not_true_eq_false, dec_t, dec_f, Nat.reduceLT, Nat.reduceLeDiff, Nat.reduceEqDiff, Nat.reduceAdd, Nat.reduceSub, Nat.reduceMul, beq_self_eq_true, bne_self_eq_false, reduceCtorEq, Int.reduceBEq, Int.reduceBNe, Int.reduceLT, Int.reduceLE, Int.reduceAdd, Int.reduceSub, Int.reduceEq, Int.reduceNeg, Int.reduceToNat, Nat.reduceBEq, and_true, true_and, eq_self, Int.cast_ofNat_Int, Int.reduceGT, Int.reduceGE, Nat.reduceGT, alloc_blk_same, alloc_blk_ne, put_blk_ne, kill_blk_ne, Nat.add_zero, Nat.sub_self]) (by simp only [go_sem, ne_eq, not_false_eq_true, not_true_eq_false, dec_t, dec_f, Nat.reduceLT, Nat.reduceLeDiff, Nat.reduceEqDiff, Nat.reduceAdd, Nat.reduceSub, Nat.reduceMul, beq_self_eq_true, bne_self_eq_false, reduceCtorEq, Int.reduceBEq, Int.reduceBNe, Int.reduceLT, Int.reduceLE, Int.reduceAdd, Int.reduceSub, Int.reduceEq, Int.reduceNeg, Int.reduceToNat, Nat.reduceBEq, and_true, true_and, eq_self, Int.cast_ofNat_Int, Int.reduceGT, Int.reduceGE, Nat.reduceGT, alloc_blk_same, alloc_blk_ne, put_blk_ne, kill_blk_ne, Nat.add_zero, Nat.sub_self]) (by simp only [go_sem, ne_eq, not_false_eq_true, not_true_eq_false, dec_t, dec_f, Nat.reduceLT, Nat.reduceLeDiff, Nat.reduceEqDiff, Nat.reduceAdd, Nat.reduceSub, Nat.reduceMul, beq_self_eq_true, bne_self_eq_false, reduceCtorEq, Int.reduceBEq, Int.reduceBNe, Int.reduceLT, Int.reduceLE, Int.reduceAdd, Int.reduceSub, Int.reduceEq, Int.reduceNeg, Int.reduceToNat, Nat.reduceBEq, and_true, true_and, eq_self, Int.cast_ofNat_Int, Int.reduceGT, Int.reduceGE, Nat.reduceGT, alloc_blk_same, alloc_blk_ne, put_blk_ne, kill_blk_ne, Nat.add_zero, Nat.sub_self]), ?_, ?_⟩
      · have := (rel_facts heq).1; omega
      · exact (rel_facts heq).2 hho
    · rw [hg2] at g1
      obtain ⟨c, e, x, tk', ho', gs', lid', hr, A', F', hl', heq⟩ := take_run hσ A g.1 (by omega)
      simp only [go_sem, ne_eq, not_false_eq_true, not_true_eq_false, dec_t, dec_f, Nat.reduceLT, Nat.reduceLeDiff, Nat.reduceEqDiff, Nat.reduceAdd, Nat.reduceSub, Nat.reduceMul, beq_self_eq_true, bne_self_eq_false, reduceCtorEq, Int.reduceBEq, Int.reduceBNe, Int.reduceLT, Int.reduceLE, Int.reduceAdd, Int.reduceSub, Int.reduceEq, Int.reduceNeg, Int.reduceToNat, Nat.reduceBEq, and_true, true_and, eq_self, Int.cast_ofNat_Int, Int.reduceGT, Int.reduceGE, Nat.reduceGT, alloc_blk_same, alloc_blk_ne, put_blk_ne, kill_blk_ne, Nat.add_zero, Nat.sub_self, I.e0, I.e1, I.e2, I.e7, e8, S1.len, hix, hb', g0, g1, hlt, hr, hw]
      refine next _ _ ⟨by simp only [go_sem, ne_eq, not_false_eq_true, not_true_eq_false, dec_t, dec_f, Nat.reduceLT, Nat.reduceLeDiff, Nat.reduceEqDiff, Nat.reduceAdd, Nat.reduceSub, Nat.reduceMul, beq_self_eq_true, bne_self_eq_false, reduceCtorEq, Int.reduceBEq, Int.reduceBNe, Int.reduceLT, Int.reduceLE, Int.reduceAdd, Int.reduceSub, Int.reduceEq, Int.reduceNeg, Int.reduceToNat, Nat.reduceBEq, and_true, true_and, eq_self, Int.cast_ofNat_Int, Int.reduceGT, Int.reduceGE, Nat.reduceGT, alloc_blk_same, alloc_blk_ne, put_blk_ne, kill_blk_ne, Nat.add_zero, Nat.sub_self], tk', ho', gs', I.step hlid A' F' hl' (by simp only [go_sem, ne_eq, not_false_eq_true, not_true_eq_false, dec_t, dec_f, Nat.reduceLT, Nat.reduceLeDiff, Nat.reduceEqDiff, Nat.reduceAdd, Nat.reduceSub, Nat.reduceMul, beq_self_eq_true, bne_self_eq_false, reduceCtorEq, Int.reduceBEq, Int.reduceBNe, Int.reduceLT, Int.reduceLE, Int.reduceAdd, Int.reduceSub, Int.reduceEq, Int.reduceNeg, Int.reduceToNat, Nat.reduceBEq, and_true, true_and, eq_self, Int.cast_ofNat_Int, Int.reduceGT, Int.reduceGE, Nat.reduceGT, alloc_blk_same, alloc_blk_ne, put_blk_ne, kill_blk_ne, Nat.add_zero, Nat.sub_self]) (by simp only [go_sem, ne_eq, not_false_eq_true, not_true_eq_false, dec_t, dec_f, Nat.reduceLT, Nat.reduceLeDiff, Nat.reduceEqDiff, Nat.reduceAdd, Nat.reduceSub, Nat.reduceMul, beq_self_eq_true, bne_self_eq_false, reduceCtorEq, Int.reduceBEq, Int.reduceBNe, Int.reduceLT, Int.reduceLE, Int.reduceAdd, Int.reduceSub, Int.reduceEq, Int.reduceNeg, Int.reduceToNat, Nat.reduceBEq, and_true, true_and, eq_self, Int.cast_ofNat_Int, Int.reduceGT, Int.reduceGE, Nat.reduceGT, alloc_blk_same, alloc_blk_ne, put_blk_ne, kill_blk_ne, Nat.add_zero, Nat.sub_self]) (by simp only [go_sem, ne_eq, not_false_eq_true, not_true_eq_false, dec_t, dec_f, Nat.reduceLT, Nat.reduceLeDiff, Nat.reduceEqDiff, Nat.reduceAdd, Nat.reduceSub, Nat.reduceMul, beq_self_eq_true, bne_self_eq_false, reduceCtorEq, Int.reduceBEq, Int.reduceBNe, Int.reduceLT, Int.reduceLE, Int.reduceAdd, Int.reduceSub, Int.reduceEq, Int.reduceNeg, Int.reduceToNat, Nat.reduceBEq, and_true, true_and, eq_self, Int.cast_ofNat_Int, Int.reduceGT, Int.reduceGE, Nat.reduceGT, alloc_blk_same, alloc_blk_ne, put_blk_ne, kill_blk_ne, Nat.add_zero, Nat.sub_self]) (by simp only [go_sem, ne_eq, not_false_eq_true, not_true_eq_false, dec_t, dec_f, Nat.reduceLT, Nat.reduceLeDiff, Nat.reduceEqDiff, Nat.reduceAdd, Nat.reduceSub, Nat.reduceMul, beq_self_eq_true, bne_self_eq_false, reduceCtorEq, Int.reduceBEq, Int.reduceBNe, Int.reduceLT, Int.reduceLE, Int.reduceAdd, Int.reduceSub, Int.reduceEq, Int.reduceNeg, Int.reduceToNat, Nat.reduceBEq, and_true, true_and, eq_self, Int.cast_ofNat_Int, Int.reduceGT, Int.reduceGE, Nat.reduceGT, alloc_blk_same, alloc_blk_ne, put_blk_ne, kill_blk_ne, Nat.add_zero, Nat.sub_self]), ?_, ?_⟩
      · have := (take_facts heq).1; omega
      · exact (take_facts heq).2 hho
  · rintro env h' ⟨e8, tk, ho, gs, I, hgs, hho⟩
    have hlt := ofNat_nlt (Nat.le_refl steps.length)
    obtain ⟨lid, hlid, A⟩ := I.arb
    obtain ⟨c, e, x, tk', ho', gs', lid', hr, A1, F1, hl1, heq⟩ := take_run hσ A node (by omega)
    rw [if_pos hnode] at heq
    have I' := fun env' => I.step (env' := env') hlid A1 F1 hl1
    by_cases hb : tk = true ∧ ho ≠ node
    · rw [if_pos hb.1, if_neg hb.2] at heq
      simp only [Prod.mk.injEq] at heq
      obtain ⟨rfl, rfl, rfl, rfl, rfl⟩ := heq
      have hh := hho hb.1
      have hw : IntKind.wrap .i64 (1 - node) = 1 - node := wrap_i64 (by omega) (by omega)
      have hq : ho' = 1 - node := by have := hb.2; omega
      simp only [go_sem, ne_eq, not_false_eq_true, not_true_eq_false, dec_t, dec_f, Nat.reduceLT, Nat.reduceLeDiff, Nat.reduceEqDiff, Nat.reduceAdd, Nat.reduceSub, Nat.reduceMul, beq_self_eq_true, bne_self_eq_false, reduceCtorEq, Int.reduceBEq, Int.reduceBNe, Int.reduceLT, Int.reduceLE, Int.reduceAdd, Int.reduceSub, Int.reduceEq, Int.reduceNeg, Int.reduceToNat, Nat.reduceBEq, and_true, true_and, eq_self, Int.cast_ofNat_Int, Int.reduceGT, Int.reduceGE, Nat.reduceGT, alloc_blk_same, alloc_blk_ne, put_blk_ne, kill_blk_ne, Nat.add_zero, Nat.sub_self, I.e0, I.e1, I.e2, I.e7, e8, S1.len, hlt, hr, num_run hσ, holder_run hσ A1, hb.1, hw, hq, hk, tru_fin]
    · have heq' : e = 0 ∧ tk' = true ∧ ho' = node ∧ gs'.length ≤ gs.length + 1 := by
        cases tk
        · simp only [Bool.false_eq_true, if_false, Prod.mk.injEq] at heq
          obtain ⟨rfl, rfl, rfl, rfl, rfl⟩ := heq
          simp
        · have : ho = node := by
            by_cases q : ho = node
            · exact q
            · exact absurd ⟨rfl, q⟩ hb
          rw [if_pos rfl, if_pos this] at heq
          simp only [Prod.mk.injEq] at heq
          obtain ⟨rfl, rfl, rfl, rfl, rfl⟩ := heq
          simp [this]
      obtain ⟨rfl, rfl, hq2, hgl⟩ := heq'
      have hgl2 : gs'.length ≤ 41 := by omega
      rw [hq2] at A1 I'
      simp only [go_sem, ne_eq, not_false_eq_true, not_true_eq_false, dec_t, dec_f, Nat.reduceLT, Nat.reduceLeDiff, Nat.reduceEqDiff, Nat.reduceAdd, Nat.reduceSub, Nat.reduceMul, beq_self_eq_true, bne_self_eq_false, reduceCtorEq, Int.reduceBEq, Int.reduceBNe, Int.reduceLT, Int.reduceLE, Int.reduceAdd, Int.reduceSub, Int.reduceEq, Int.reduceNeg, Int.reduceToNat, Nat.reduceBEq, and_true, true_and, eq_self, Int.cast_ofNat_Int, Int.reduceGT, Int.reduceGE, Nat.reduceGT, alloc_blk_same, alloc_blk_ne, put_blk_ne, kill_blk_ne, Nat.add_zero, Nat.sub_self, I.e0, I.e1, I.e2, I.e7, e8, S1.len, hlt, hr, num_run hσ, len_run hσ A1]
      have hn1 : 1 - node = 0 ∨ 1 - node = 1 := by omega
      have hn2 : node ≠ 1 - node := by omega
      have hw1 : IntKind.wrap .i64 (1 - node) = 1 - node := wrap_i64 (by omega) (by omega)
      refine loop_ind (Q := Tru) (fun i env h' => evT env 14 = .int .i64 (Int.ofNat i) ∧ evT env 13 = .int .i64 gs'.length ∧ Inv h.nx h v1 v2 node h' env true node gs') more.length 0 ?_ (Nat.zero_le _) ?_ ?_
      · exact ⟨by simp only [go_sem, ne_eq, not_false_eq_true, not_true_eq_false, dec_t, dec_f, Nat.reduceLT, Nat.reduceLeDiff, Nat.reduceEqDiff, Nat.reduceAdd, Nat.reduceSub, Nat.reduceMul, beq_self_eq_true, bne_self_eq_false, reduceCtorEq, Int.reduceBEq, Int.reduceBNe, Int.reduceLT, Int.reduceLE, Int.reduceAdd, Int.reduceSub, Int.reduceEq, Int.reduceNeg, Int.reduceToNat, Nat.reduceBEq, and_true, true_and, eq_self, Int.cast_ofNat_Int, Int.reduceGT, Int.reduceGE, Nat.reduceGT, alloc_blk_same, alloc_blk_ne, put_blk_ne, kill_blk_ne, Nat.add_zero, Nat.sub_self]; rfl, by simp only [go_sem, ne_eq, not_false_eq_true, not_true_eq_false, dec_t, dec_f, Nat.reduceLT, Nat.reduceLeDiff, Nat.reduceEqDiff, Nat.reduceAdd, Nat.reduceSub, Nat.reduceMul, beq_self_eq_true, bne_self_eq_false, reduceCtorEq, Int.reduceBEq, Int.reduceBNe, Int.reduceLT, Int.reduceLE, Int.reduceAdd, Int.reduceSub, Int.reduceEq, Int.reduceNeg, Int.reduceToNat, Nat.reduceBEq, and_true, true_and, eq_self, Int.cast_ofNat_Int, Int.reduceGT, Int.reduceGE, Nat.reduceGT, alloc_blk_same, alloc_blk_ne, put_blk_ne, kill_blk_ne, Nat.add_zero, Nat.sub_self], I' _ (by simp only [go_sem, ne_eq, not_false_eq_true, not_true_eq_false, dec_t, dec_f, Nat.reduceLT, Nat.reduceLeDiff, Nat.reduceEqDiff, Nat.reduceAdd, Nat.reduceSub, Nat.reduceMul, beq_self_eq_true, bne_self_eq_false, reduceCtorEq, Int.reduceBEq, Int.reduceBNe, Int.reduceLT, Int.reduceLE, Int.reduceAdd, Int.reduceSub, Int.reduceEq, Int.reduceNeg, Int.reduceToNat, Nat.reduceBEq, and_true, true_and, eq_self, Int.cast_ofNat_Int, Int.reduceGT, Int.reduceGE, Nat.reduceGT, alloc_blk_same, alloc_blk_ne, put_blk_ne, kill_blk_ne, Nat.add_zero, Nat.sub_self]) (by simp only [go_sem, ne_eq, not_false_eq_true, not_true_eq_false, dec_t, dec_f, Nat.reduceLT, Nat.reduceLeDiff, Nat.reduceEqDiff, Nat.reduceAdd, Nat.reduceSub, Nat.reduceMul, beq_self_eq_true, bne_self_eq_false, reduceCtorEq, Int.reduceBEq, Int.reduceBNe, Int.reduceLT, Int.reduceLE, Int.reduceAdd, Int.reduceSub, Int.reduceEq, Int.reduceNeg, Int.reduceToNat, Nat.reduceBEq, and_true, true_and, eq_self, Int.cast_ofNat_Int, Int.reduceGT, Int.reduceGE, Nat.reduceGT, alloc_blk_same, alloc_blk_ne, put_blk_ne, kill_blk_ne, Nat.add_zero, Nat.sub_self]) (by simp only [go_sem, ne_eq, not_false_eq_true, not_true_eq_false, dec_t, dec_f, Nat.reduceLT, Nat.reduceLeDiff, Nat.reduceEqDiff, Nat.reduceAdd, Nat.reduceSub, Nat.reduceMul, beq_self_eq_true, bne_self_eq_false, reduceCtorEq, Int.reduceBEq, Int.reduceBNe, Int.reduceLT, Int.reduceLE, Int.reduceAdd, Int.reduceSub, Int.reduceEq, Int.reduceNeg, Int.reduceToNat, Nat.reduceBEq, and_true, true_and, eq_self, Int.cast_ofNat_Int, Int.reduceGT, Int.reduceGE, Nat.reduceGT, alloc_blk_same, alloc_blk_ne, put_blk_ne, kill_blk_ne, Nat.add_zero, Nat.sub_self]) (by simp only [go_sem, ne_eq, not_false_eq_true, not_true_eq_false, dec_t, dec_f, Nat.reduceLT, Nat.reduceLeDiff, Nat.reduceEqDiff, Nat.reduceAdd, Nat.reduceSub, Nat.reduceMul, beq_self_eq_true, bne_self_eq_false, reduceCtorEq, Int.reduceBEq, Int.reduceBNe, Int.reduceLT, Int.reduceLE, Int.reduceAdd, Int.reduceSub, Int.reduceEq, Int.reduceNeg, Int.reduceToNat, Nat.reduceBEq, and_true, true_and, eq_self, Int.cast_ofNat_Int, Int.reduceGT, Int.reduceGE, Nat.reduceGT, alloc_blk_same, alloc_blk_ne, put_blk_ne, kill_blk_ne, Nat.add_zero, Nat.sub_self])⟩
      · rintro i env h' ⟨e14, e13, I⟩ hi next
        obtain ⟨lid, hlid, A⟩ := I.arb
        obtain ⟨id, off, b, hix, hid, hb, hro, hget⟩ := S2.elt i hi
        have hb' : h'.blk id = some b := (blk_eq (I.old id hid)).trans hb
        have g0 := hget 0 (.bool more[i]) (by decide) (by rw [nth_eq]; simp [hi])
        have hlt := ofNat_lt hi
        have hw : IntKind.wrap .i64 (Int.ofNat i + 1) = Int.ofNat (i + 1) := wrap_succ (by omega)
        rw [Nat.add_zero] at g0
        cases hg2 : more[i]
        · rw [hg2] at g0
          obtain ⟨c, e, x, tk', ho', gs2, lid', hr, A', F', hl', heq⟩ := release_run hσ A (1 - node) (by omega)
          rw [if_pos hn1, if_neg (fun q => hn2 q.2)] at heq
          simp only [Prod.mk.injEq] at heq
          obtain ⟨rfl, rfl, rfl, rfl, rfl⟩ := heq
          simp only [go_sem, ne_eq, not_false_eq_true, not_true_eq_false, dec_t, dec_f, Nat.reduceLT, Nat.reduceLeDiff, Nat.reduceEqDiff, Nat.reduceAdd, Nat.reduceSub, Nat.reduceMul, beq_self_eq_true, bne_self_eq_false, reduceCtorEq, Int.reduceBEq, Int.reduceBNe, Int.reduceLT, Int.reduceLE, Int.reduceAdd, Int.reduceSub, Int.reduceEq, Int.reduceNeg, Int.reduceToNat, Nat.reduceBEq, and_true, true_and, eq_self, Int.cast_ofNat_Int, Int.reduceGT, Int.reduceGE, Nat.reduceGT, alloc_blk_same, alloc_blk_ne, put_blk_ne, kill_blk_ne, Nat.add_zero, Nat.sub_self, I.e0, I.e1, I.e2, I.e7, e14, e13, S2.len, hix, hb', g0, hlt, hr, hw, hw1, num_run hσ]
          exact next _ _ ⟨by simp only [go_sem, ne_eq, not_false_eq_true, not_true_eq_false, dec_t, dec_f, Nat.reduceLT, Nat.reduceLeDiff, Nat.reduceEqDiff, Nat.reduceAdd, Nat.reduceSub, Nat.reduceMul, beq_self_eq_true, bne_self_eq_false, reduceCtorEq, Int.reduceBEq, Int.reduceBNe, Int.reduceLT, Int.reduceLE, Int.reduceAdd, Int.reduceSub, Int.reduceEq, Int.reduceNeg, Int.reduceToNat, Nat.reduceBEq, and_true, true_and, eq_self, Int.cast_ofNat_Int, Int.reduceGT, Int.reduceGE, Nat.reduceGT, alloc_blk_same, alloc_blk_ne, put_blk_ne, kill_blk_ne, Nat.add_zero, Nat.sub_self], by simp only [go_sem, ne_eq, not_false_eq_true, not_true_eq_false, dec_t, dec_f, Nat.reduceLT, Nat.reduceLeDiff, Nat.reduceEqDiff, Nat.reduceAdd, Nat.reduceSub, Nat.reduceMul, beq_self_eq_true, bne_self_eq_false, reduceCtorEq, Int.reduceBEq, Int.reduceBNe, Int.reduceLT, Int.reduceLE, Int.reduceAdd, Int.reduceSub, Int.reduceEq, Int.reduceNeg, Int.reduceToNat, Nat.reduceBEq, and_true, true_and, eq_self, Int.cast_ofNat_Int, Int.reduceGT, Int.reduceGE, Nat.reduceGT, alloc_blk_same, alloc_blk_ne, put_blk_ne, kill_blk_ne, Nat.add_zero, Nat.sub_self, e13], I.step hlid A' F' hl' (by simp only [go_sem, ne_eq, not_false_eq_true, not_true_eq_false, dec_t, dec_f, Nat.reduceLT, Nat.reduceLeDiff, Nat.reduceEqDiff, Nat.reduceAdd, Nat.reduceSub, Nat.reduceMul, beq_self_eq_true, bne_self_eq_false, reduceCtorEq, Int.reduceBEq, Int.reduceBNe, Int.reduceLT, Int.reduceLE, Int.reduceAdd, Int.reduceSub, Int.reduceEq, Int.reduceNeg, Int.reduceToNat, Nat.reduceBEq, and_true, true_and, eq_self, Int.cast_ofNat_Int, Int.reduceGT, Int.reduceGE, Nat.reduceGT, alloc_blk_same, alloc_blk_ne, put_blk_ne, kill_blk_ne, Nat.add_zero, Nat.sub_self]) (by simp only [go_sem, ne_eq, not_false_eq_true, not_true_eq_false, dec_t, dec_f, Nat.reduceLT, Nat.reduceLeDiff, Nat.reduceEqDiff, Nat.reduceAdd, Nat.reduceSub, Nat.reduceMul, beq_self_eq_true, bne_self_eq_false, reduceCtorEq, Int.reduceBEq, Int.reduceBNe, Int.reduceLT, Int.reduceLE, Int.reduceAdd, Int.reduceSub, Int.reduceEq, Int.reduceNeg, Int.reduceToNat, Nat.reduceBEq, and_true, true_and, eq_self, Int.cast_ofNat_Int, Int.reduceGT, Int.reduceGE, Nat.reduceGT, alloc_blk_same, alloc_blk_ne, put_blk_ne, kill_blk_ne, Nat.add_zero, Nat.sub_self]) (by simp only [go_sem, ne_eq, not_false_eq_true, not_true_eq_false, dec_t, dec_f, Nat.reduceLT, Nat.reduceLeDiff, Nat.reduceEqDiff, Nat.reduceAdd, Nat.reduceSub, Nat.reduceMul, beq_self_eq_true, bne_self_eq_false, reduceCtorEq, Int.reduceBEq, Int.reduceBNe, Int.reduceLT, Int.reduceLE, Int.reduceAdd, Int.reduceSub, Int.reduceEq, Int.reduceNeg, Int.reduceToNat, Nat.reduceBEq, and_true, true_and, eq_self, Int.cast_ofNat_Int, Int.reduceGT, Int.reduceGE, Nat.reduceGT, alloc_blk_same, alloc_blk_ne, put_blk_ne, kill_blk_ne, Nat.add_zero, Nat.sub_self]) (by simp only [go_sem, ne_eq, not_false_eq_true, not_true_eq_false, dec_t, dec_f, Nat.reduceLT, Nat.reduceLeDiff, Nat.reduceEqDiff, Nat.reduceAdd, Nat.reduceSub, Nat.reduceMul, beq_self_eq_true, bne_self_eq_false, reduceCtorEq, Int.reduceBEq, Int.reduceBNe, Int.reduceLT, Int.reduceLE, Int.reduceAdd, Int.reduceSub, Int.reduceEq, Int.reduceNeg, Int.reduceToNat, Nat.reduceBEq, and_true, true_and, eq_self, Int.cast_ofNat_Int, Int.reduceGT, Int.reduceGE, Nat.reduceGT, alloc_blk_same, alloc_blk_ne, put_blk_ne, kill_blk_ne, Nat.add_zero, Nat.sub_self])⟩
        · rw [hg2] at g0
          obtain ⟨c, e, x, tk', ho', gs2, lid', hr, A', F', hl', heq⟩ := take_run hσ A (1 - node) (by omega)
          rw [if_pos hn1, if_pos rfl, if_neg hn2] at heq
          simp only [Prod.mk.injEq] at heq
          obtain ⟨rfl, rfl, rfl, rfl, rfl⟩ := heq
          simp only [go_sem, ne_eq, not_false_eq_true, not_true_eq_false, dec_t, dec_f, Nat.reduceLT, Nat.reduceLeDiff, Nat.reduceEqDiff, Nat.reduceAdd, Nat.reduceSub, Nat.reduceMul, beq_self_eq_true, bne_self_eq_false, reduceCtorEq, Int.reduceBEq, Int.reduceBNe, Int.reduceLT, Int.reduceLE, Int.reduceAdd, Int.reduceSub, Int.reduceEq, Int.reduceNeg, Int.reduceToNat, Nat.reduceBEq, and_true, true_and, eq_self, Int.cast_ofNat_Int, Int.reduceGT, Int.reduceGE, Nat.reduceGT, alloc_blk_same, alloc_blk_ne, put_blk_ne, kill_blk_ne, Nat.add_zero, Nat.sub_self, I.e0, I.e1, I.e2, I.e7, e14, e13, S2.len, hix, hb', g0, hlt, hr, hw, hw1, num_run hσ]
          exact next _ _ ⟨by simp only [go_sem, ne_eq, not_false_eq_true, not_true_eq_false, dec_t, dec_f, Nat.reduceLT, Nat.reduceLeDiff, Nat.reduceEqDiff, Nat.reduceAdd, Nat.reduceSub, Nat.reduceMul, beq_self_eq_true, bne_self_eq_false, reduceCtorEq, Int.reduceBEq, Int.reduceBNe, Int.reduceLT, Int.reduceLE, Int.reduceAdd, Int.reduceSub, Int.reduceEq, Int.reduceNeg, Int.reduceToNat, Nat.reduceBEq, and_true, true_and, eq_self, Int.cast_ofNat_Int, Int.reduceGT, Int.reduceGE, Nat.reduceGT, alloc_blk_same, alloc_blk_ne, put_blk_ne, kill_blk_ne, Nat.add_zero, Nat.sub_self], by simp only [go_sem, ne_eq, not_false_eq_true, not_true_eq_false, dec_t, dec_f, Nat.reduceLT, Nat.reduceLeDiff, Nat.reduceEqDiff, Nat.reduceAdd, Nat.reduceSub, Nat.reduceMul, beq_self_eq_true, bne_self_eq_false, reduceCtorEq, Int.reduceBEq, Int.reduceBNe, Int.reduceLT, Int.reduceLE, Int.reduceAdd, Int.reduceSub, Int.reduceEq, Int.reduceNeg, Int.reduceToNat, Nat.reduceBEq, and_true, true_and, eq_self, Int.cast_ofNat_Int, Int.reduceGT, Int.reduceGE, Nat.reduceGT, alloc_blk_same, alloc_blk_ne, put_blk_ne, kill_blk_ne, Nat.add_zero, Nat.sub_self, e13], I.step hlid A' F' hl' (by simp only [go_sem, ne_eq, not_false_eq_true, not_true_eq_false, dec_t, dec_f, Nat.reduceLT, Nat.reduceLeDiff, Nat.reduceEqDiff, Nat.reduceAdd, Nat.reduceSub, Nat.reduceMul, beq_self_eq_true, bne_self_eq_false, reduceCtorEq, Int.reduceBEq, Int.reduceBNe, Int.reduceLT, Int.reduceLE, Int.reduceAdd, Int.reduceSub, Int.reduceEq, Int.reduceNeg, Int.reduceToNat, Nat.reduceBEq, and_true, true_and, eq_self, Int.cast_ofNat_Int, Int.reduceGT, Int.reduceGE, Nat.reduceGT, alloc_blk_same, alloc_blk_ne, put_blk_ne, kill_blk_ne, Nat.add_zero, Nat.sub_self]) (by simp only [go_sem, ne_eq, not_false_eq_true, not_true_eq_false, dec_t, dec_f, Nat.reduceLT, Nat.reduceLeDiff, Nat.reduceEqDiff, Nat.reduceAdd, Nat.reduceSub, Nat.reduceMul, beq_self_eq_true, bne_self_eq_false, reduceCtorEq, Int.reduceBEq, Int.reduceBNe, Int.reduceLT, Int.reduceLE, Int.reduceAdd, Int.reduceSub, Int.reduceEq, Int.reduceNeg, Int.reduceToNat, Nat.reduceBEq, and_true, true_and, eq_self, Int.cast_ofNat_Int, Int.reduceGT, Int.reduceGE, Nat.reduceGT, alloc_blk_same, alloc_blk_ne, put_blk_ne, kill_blk_ne, Nat.add_zero, Nat.sub_self]) (by simp only [go_sem, ne_eq, not_false_eq_true, not_true_eq_false, dec_t, dec_f, Nat.reduceLT, Nat.reduceLeDiff, Nat.reduceEqDiff, Nat.reduceAdd, Nat.reduceSub, Nat.reduceMul, beq_self_eq_true, bne_self_eq_false, reduceCtorEq, Int.reduceBEq, Int.reduceBNe, Int.reduceLT, Int.reduceLE, Int.reduceAdd, Int.reduceSub, Int.reduceEq, Int.reduceNeg, Int.reduceToNat, Nat.reduceBEq, and_true, true_and, eq_self, Int.cast_ofNat_Int, Int.reduceGT, Int.reduceGE, Nat.reduceGT, alloc_blk_same, alloc_blk_ne, put_blk_ne, kill_blk_ne, Nat.add_zero, Nat.sub_self]) (by simp only [go_sem, ne_eq, not_false_eq_true, not_true_eq_false, dec_t, dec_f, Nat.reduceLT, Nat.reduceLeDiff, Nat.reduceEqDiff, Nat.reduceAdd, Nat.reduceSub, Nat.reduceMul, beq_self_eq_true, bne_self_eq_false, reduceCtorEq, Int.reduceBEq, Int.reduceBNe, Int.reduceLT, Int.reduceLE, Int.reduceAdd, Int.reduceSub, Int.reduceEq, Int.reduceNeg, Int.reduceToNat, Nat.reduceBEq, and_true, true_and, eq_self, Int.cast_ofNat_Int, Int.reduceGT, Int.reduceGE, Nat.reduceGT, alloc_blk_same, alloc_blk_ne, put_blk_ne, kill_blk_ne, Nat.add_zero, Nat.sub_self])⟩
      · rintro env h' ⟨e14, e13, I⟩
        have hlt := ofNat_nlt (Nat.le_refl more.length)
        obtain ⟨lid, hlid, A⟩ := I.arb
        obtain ⟨c, e, x, tk', ho', gs2, lid', hr, A', F', hl', heq⟩ := release_run hσ A node (by omega)
        rw [if_pos hnode, if_pos ⟨rfl, rfl⟩] at heq
        simp only [Prod.mk.injEq] at heq
        obtain ⟨rfl, rfl, rfl, rfl, rfl⟩ := heq
        obtain ⟨c, e, x2, tk', ho', gs3, lid2, hr2, A2, F2, hl2, heq⟩ := take_run hσ A' (1 - node) (by simp; omega)
        rw [if_pos hn1, if_neg (by decide)] at heq
        simp only [Prod.mk.injEq] at heq
        obtain ⟨rfl, rfl, rfl, rfl, rfl⟩ := heq
        have hlen : (↑((gs' ++ [(node, false)]) ++ [(1 - node, true)]).length : Int) = IntKind.wrap .i64 (↑gs'.length + 2) := by
          rw [wrap_i64 (by omega) (by omega)]; simp
        simp only [go_sem, ne_eq, not_false_eq_true, not_true_eq_false, dec_t, dec_f, Nat.reduceLT, Nat.reduceLeDiff, Nat.reduceEqDiff, Nat.reduceAdd, Nat.reduceSub, Nat.reduceMul, beq_self_eq_true, bne_self_eq_false, reduceCtorEq, Int.reduceBEq, Int.reduceBNe, Int.reduceLT, Int.reduceLE, Int.reduceAdd, Int.reduceSub, Int.reduceEq, Int.reduceNeg, Int.reduceToNat, Nat.reduceBEq, and_true, true_and, eq_self, Int.cast_ofNat_Int, Int.reduceGT, Int.reduceGE, Nat.reduceGT, alloc_blk_same, alloc_blk_ne, put_blk_ne, kill_blk_ne, Nat.add_zero, Nat.sub_self, I.e0, I.e1, I.e2, I.e7, e14, e13, S2.len, hlt, hr, hr2, hw1, num_run hσ, holder_run hσ A, len_run hσ A2, hlen, hk, tru_fin]
end Go.Cl.A

namespace Go.Cl.A

set_option maxRecDepth 100000 in
theorem step_of {h : H} {xs : List CV} (hl : xs.length = 2) (r : Rd Try.prog h 28 xs) : ∃ g : Int × Bool, xs = [.int .i64 g.1, .bool g.2] := by
  obtain ⟨_, hf⟩ := r.struct_inv Try.underlying28
  have h0 := hf _ (List.mem_cons_self)
  have h1 := hf _ (List.mem_cons_of_mem _ List.mem_cons_self)
  obtain ⟨n, e0, _⟩ := h0.int_inv Try.underlying3
  obtain ⟨b, e1⟩ := h1.bool_inv Try.underlying4
  rw [show Try.prog.cellsOf 3 = 1 from by kernel_rfl] at e0
  rw [show Try.prog.cellsOf 4 = 1 from by kernel_rfl] at e1
  match xs, hl with
  | [x, y], _ =>
    simp at e0 e1
    exact ⟨(n, b), by rw [e0, e1]⟩

theorem steps_of {h : H} {c : CV} (a : Arg Try.prog h 22 c) : ∃ steps : List (Int × Bool), Sl Try.prog 22 h c 2 steps.length (gcells steps) := by
  have h1 : c.one = true := by rcases a.one with ⟨_, h⟩ | ⟨_, _, h⟩ | h; rw [Try.underlying22] at h; cases h; rw [Try.underlying22] at h; cases h; exact h
  have r := a.rd
  rw [cells_one h1] at r
  obtain ⟨n, xs, _, hx, hs⟩ := r.slice_inv Try.underlying22 sz_28
  obtain ⟨l, hl, hq⟩ := list_of (Q := fun i (g : Int × Bool) => xs i = [.int .i64 g.1, .bool g.2]) n fun i hi => step_of (hx i hi).1 (hx i hi).2
  subst hl
  refine ⟨l, hs _ fun i j x hi hj hn => ?_⟩
  obtain ⟨g, hg⟩ : ∃ g, l[i]? = some g := ⟨_, List.getElem?_eq_getElem hi⟩
  obtain ⟨g0, g1⟩ := gcells_at l i g hg
  rw [hq i g hg]
  match j, hj with
  | 0, _ => rw [Nat.add_zero, g0] at hn; cases hn; rfl
  | 1, _ => rw [g1] at hn; cases hn; rfl

theorem bools_of {h : H} {c : CV} (a : Arg Try.prog h 23 c) : ∃ more : List Bool, Sl Try.prog 23 h c 1 more.length (more.map .bool) := by
  have h1 : c.one = true := by rcases a.one with ⟨_, h⟩ | ⟨_, _, h⟩ | h; rw [Try.underlying23] at h; cases h; rw [Try.underlying23] at h; cases h; exact h
  have r := a.rd
  rw [cells_one h1] at r
  obtain ⟨n, xs, _, hx, hs⟩ := r.slice_inv Try.underlying23 sz_4
  obtain ⟨l, hl, hq⟩ := list_of (Q := fun i (b : Bool) => xs i = [.bool b]) n fun i hi => by
    obtain ⟨b, hb⟩ := (hx i hi).2.bool_inv Try.underlying4
    exact ⟨b, hb⟩
  subst hl
  refine ⟨l, hs _ fun i j x hi hj hn => ?_⟩
  have : j = 0 := by omega
  subst this
  rw [Nat.mul_one, Nat.add_zero, nth_eq] at hn
  obtain ⟨g, hg⟩ : ∃ g, l[i]? = some g := ⟨_, List.getElem?_eq_getElem hi⟩
  rw [hq i g hg]
  simp [hg] at hn
  subst hn; rfl
end Go.Cl.A

namespace Go.Proofs.Ytbdokmhibgpjhaa
open Go.ChangeShapes Go.WideShapes Go.ChangeAt Go.RowKit Go.Cl Go.Cl.A

theorem arbiterHolds_own : ownKnob Try.prog.godebug = none := by kernel_rfl
theorem arbiterHolds_mixed : Try.prog.follows .mixedOrders = true := by kernel_rfl
theorem arbiterHolds_plain : plainB Try.prog = true := by kernel_rfl
theorem arbiterHolds_laidOut : laidOutB Try.prog = true := by kernel_rfl
set_option maxRecDepth 1000000 in
theorem arbiterHolds_known : (callK Try.prog noSums 10000000 9 [] (h0 0)).map Prod.fst = some (.bool true) := by kernel_rfl

set_option maxRecDepth 100000 in
theorem arbiterHolds_lifted (os : Os) (started : os.Started) (H : Type) (enc : TypeId × Value → H) :
    ReturnsInHanded {} Try.checked os 3 .any (Rows.arbiterHoldsSpec.pre6 enc Try.prog Try.f3 Rows.arbiterHoldsRow.domain false) (Rows.arbiterHoldsSpec.post enc Try.prog Try.f3 false true false false) := by
  refine returnsInHanded_of_change (C := Try.checked) arbiterHolds_own started (by kernel_rfl) Try.func3
    (ChangeSpec.witness6 (enc := enc) (C := Try.checked) false ⟨#[], #[.slice none 0 0, .slice none 0 0, .int .i64 0], []⟩ 8 (by kernel_rfl) (by kernel_rfl) (by kernel_rfl) (by kernel_rfl)) ?_
  intro W base args ds gs before hval hW _ _
  have hW' := hW
  obtain ⟨p, q, hA0, hV, hpq, hfz, _⟩ := hW
  have hlt := hW'.lt
  have hA : DataW.TrodAll enc Try.prog W 0 (fun _ => true) true Try.f3.params.toList args.toList ds p := hA0
  rw [Try.params3] at hA
  obtain ⟨v0, v1, v2, d0, d1, d2, p0, p1, p2, rfl, rfl, rfl, t0, t1, t2⟩ := trodAll_three hA
  obtain ⟨rfl, rfl⟩ := trodVars_none hV
  subst hpq
  have hv : ∀ (j : Nat) t v, (#[22, 23, 3] : Array Nat)[j]? = some t → (#[v0, v1, v2] : Array Value)[j]? = some v → Value.okWide Try.prog W .any base t v := by
    intro j t v hj hvj
    exact hval j t v (by rw [Try.params3]; exact hj) hvj
  have rel := rel0 W
  have a0 : ∀ id o, (h0 0).t.get id = some o → o.ro = true := fun id o ho => by rw [show (h0 0).t = T.nil from rfl, T.get_nil] at ho; cases ho
  obtain ⟨h1, f1, c0, r1, g1, e0, A0⟩ := layArg (n := 8) (t := 22) (by kernel_rfl) (hv 0 22 v0 rfl rfl) t0 rel a0
  obtain ⟨h2, f2, c1, r2, g2, e1, A1⟩ := layArg (n := 8) (t := 23) (by kernel_rfl) (hv 1 23 v1 rfl rfl) t1 r1 (g1.all a0)
  obtain ⟨h3, f3, c2, r3, g3, e2, A2⟩ := layArg (n := 8) (t := 3) (by kernel_rfl) (hv 2 3 v2 rfl rfl) t2 r2 (g2.all (g1.all a0))
  have B0 := (A0.mono g2).mono g3
  have B1 := A1.mono g3
  obtain ⟨steps, S0⟩ := steps_of B0
  obtain ⟨more, S1⟩ := bools_of B1
  obtain ⟨node, rfl, _⟩ := A2.int_inv Try.underlying3
  have run := holds_run (σ := tell 9 (.bool true)) tell_other tell_self (h := h3) node S0 S1
  have hc := open_calls arbiterHolds_plain arbiterHolds_mixed (tell_ok arbiterHolds_plain arbiterHolds_mixed arbiterHolds_known rfl) r3 (g3.all (g2.all (g1.all a0))) (by simp only [okL]; exact ⟨B0.ok, B1.ok, A2.ok, trivial⟩) run
  have hr : (renL f3 [c0, c1, .int .i64 node]).toArray = #[v0, v1, v2] := by
    rw [← e0, ← e1, ← e2]
    simp only [renL, ren_congr g2.agree c0 A0.ok, ren_congr g3.agree c0 (A0.mono g2).ok, ren_congr g3.agree c1 A1.ok]
  rw [hr] at hc
  refine hc.mono fun e W' ⟨he, hb⟩ => ?_
  subst he
  refine ⟨_, rfl, ?_⟩
  have hl : ∀ x ∈ (p0 ++ p1 ++ p2) ++ [], x.block < W.heap.size := hW'.lt
  exact ⟨_, _, _, [], _, [], hW', trodAll_mk1 (shut_bool Try.underlying4 _),
    trodAll_mk3 (Below.trod arbiterHolds_laidOut (by kernel_rfl) (of_decide_eq_true (by kernel_rfl)) t0 hb fun x hx => hl x (by simp [hx])) (Below.trod arbiterHolds_laidOut (by kernel_rfl) (of_decide_eq_true (by kernel_rfl)) t1 hb fun x hx => hl x (by simp [hx]))
      (Below.trod arbiterHolds_laidOut (by kernel_rfl) (of_decide_eq_true (by kernel_rfl)) t2 hb fun x hx => hl x (by simp [hx])), rfl, hb.frame _, fun h => by cases h⟩

theorem arbiterHolds_holds : Rows.ArbiterHoldsSaid :=
  OpenClaim.holds_of_wide 3 Try.f3 rfl rfl rfl rfl rfl rfl rfl ⟨rfl, rfl, rfl, rfl, rfl⟩ rfl rfl rfl rfl rfl (by kernel_rfl) Try.func3 (by kernel_rfl)
    (of_decide_eq_true (by kernel_rfl)) (by unfold Func.isWrapper; rw [if_neg (by decide +kernel)]; exact ⟨rfl, rfl⟩)
    (fun os started H enc _ => arbiterHolds_lifted os started H enc)
#print axioms arbiterHolds_holds
end Go.Proofs.Ytbdokmhibgpjhaa
