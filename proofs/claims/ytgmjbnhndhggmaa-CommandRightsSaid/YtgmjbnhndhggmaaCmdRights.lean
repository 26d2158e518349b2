/- gemel, the law CommandRights: the given statement 'CommandRightsSaid': whatever the table, the block and the initiator, the call returns true in every run, and each argument reads as it did. Conditions: none.
   How: the evaluator's run by rewriting (the texts before), the arguments laid (ClArg), and callC_sound. -/
import Derived.Test.YtgmjbnhndhggmaaRows
import Derived.Test.YtgmjbnhndhggmaaClH
set_option linter.all false
open Go Go.Cl Go.Proofs
namespace Go.Cl.A
variable {σ : Sums}

/-- a table: its number, its keys, its type, its holder -/
structure Tab (ts : List CV) (ty ho : Int) (key : Nat → Int) : Prop where
  len : ts.length = 19
  one : ts.all CV.one = true
  ty : nth ts 17 = some (.int .i64 ty)
  ho : nth ts 18 = some (.int .i64 ho)
  key : ∀ i, i < 16 → nth ts (1 + i) = some (.int .u64 (key i))

def anyK (key : Nat → Int) : Bool := !((List.range 16).all fun i => decide (key i = 0))

def allZ : List Int → Option Bool
  | [] => some true
  | k :: l => cond (k == 0) (allZ l) (some false)
theorem allZ_eq : ∀ l, allZ l = some (l.all fun k => decide (k = 0))
  | [] => rfl
  | k :: l => by
    simp only [allZ, List.all_cons, allZ_eq l]
    by_cases h : k = 0
    · simp [h]
    · rw [show (k == 0) = false from beq_eq_false_iff_ne.2 h]; simp [h]

def mayT (ty ho : Int) (key : Nat → Int) : Bool :=
  if ty = 0 then decide (ho = 0) else if ty = 5 ∨ ty = 6 then decide (ho = 0) && anyK key
  else decide (1 ≤ ty ∧ ty ≤ 6 ∧ 0 ≤ ho ∧ ho < 16) && !decide (key ho.toNat = 0)

theorem loadNewBlk (cs : List CV) (n : Nat) (h : cs.length = n) : (newBlk cs).loadN 0 n = some cs :=
  loadN_of _ _ _ h fun i v hv => by rw [Nat.zero_add, newBlk_get, hv]

theorem ofAll_run (hσ : ∀ f a h, f ≠ 5 → σ f a h = none) (h : H) (ty : Int) : (lim Try.prog σ).call 26 [.int .i64 ty] h = some (.bool (decide (ty = 5 ∨ ty = 6)), none) := by
  rw [call_eq (hσ _ _ _ (by decide)) fn_26 rfl rfl, Try.ntmps26, Try.results26]
  by_cases h1 : ty = 5
  · simp only [go_sem, Nat.reduceLT, Nat.reduceLeDiff, Nat.reduceEqDiff, Nat.reduceAdd, Nat.reduceSub, Nat.reduceMul, reduceCtorEq, Int.reduceBEq, Int.reduceLT, Int.reduceLE, Int.reduceAdd, Int.reduceSub, Int.reduceEq, Int.reduceNeg, Int.reduceToNat, Int.reduceGT, Int.reduceGE, h1, true_or]
    rw [fin_q _ _ _ rfl rfl]
  · by_cases h2 : ty = 6
    · simp only [go_sem, Nat.reduceLT, Nat.reduceLeDiff, Nat.reduceEqDiff, Nat.reduceAdd, Nat.reduceSub, Nat.reduceMul, reduceCtorEq, Int.reduceBEq, Int.reduceLT, Int.reduceLE, Int.reduceAdd, Int.reduceSub, Int.reduceEq, Int.reduceNeg, Int.reduceToNat, Int.reduceGT, Int.reduceGE, h1, h2, or_true]
      rw [fin_q _ _ _ rfl rfl]
    · simp only [go_sem, Nat.reduceLT, Nat.reduceLeDiff, Nat.reduceEqDiff, Nat.reduceAdd, Nat.reduceSub, Nat.reduceMul, reduceCtorEq, Int.reduceBEq, Int.reduceLT, Int.reduceLE, Int.reduceAdd, Int.reduceSub, Int.reduceEq, Int.reduceNeg, Int.reduceToNat, Int.reduceGT, Int.reduceGE, h1, h2, or_self]
      rw [fin_q _ _ _ rfl rfl]
theorem isType_run (hσ : ∀ f a h, f ≠ 5 → σ f a h = none) (h : H) (ty : Int) : (lim Try.prog σ).call 27 [.int .i64 ty] h = some (.bool (decide (1 ≤ ty ∧ ty ≤ 6)), none) := by
  rw [call_eq (hσ _ _ _ (by decide)) fn_27 rfl rfl, Try.ntmps27, Try.results27]
  by_cases h1 : ty ≥ 1
  · have h1' : 1 ≤ ty := h1
    by_cases h2 : ty ≤ 6
    · simp only [go_sem, Nat.reduceLT, Nat.reduceLeDiff, Nat.reduceEqDiff, Nat.reduceAdd, Nat.reduceSub, Nat.reduceMul, reduceCtorEq, Int.reduceBEq, Int.reduceLT, Int.reduceLE, Int.reduceAdd, Int.reduceSub, Int.reduceEq, Int.reduceNeg, Int.reduceToNat, Int.reduceGT, Int.reduceGE, h1, h1', h2]
      rw [fin_q _ _ _ rfl rfl]
    · simp only [go_sem, Nat.reduceLT, Nat.reduceLeDiff, Nat.reduceEqDiff, Nat.reduceAdd, Nat.reduceSub, Nat.reduceMul, reduceCtorEq, Int.reduceBEq, Int.reduceLT, Int.reduceLE, Int.reduceAdd, Int.reduceSub, Int.reduceEq, Int.reduceNeg, Int.reduceToNat, Int.reduceGT, Int.reduceGE, h1, h1', h2, and_false]
      rw [fin_q _ _ _ rfl rfl]
  · have h1' : ¬ 1 ≤ ty := h1
    simp only [go_sem, Nat.reduceLT, Nat.reduceLeDiff, Nat.reduceEqDiff, Nat.reduceAdd, Nat.reduceSub, Nat.reduceMul, reduceCtorEq, Int.reduceBEq, Int.reduceLT, Int.reduceLE, Int.reduceAdd, Int.reduceSub, Int.reduceEq, Int.reduceNeg, Int.reduceToNat, Int.reduceGT, Int.reduceGE, h1, h1', false_and]
    rw [fin_q _ _ _ rfl rfl]
theorem init_run (hσ : ∀ f a h, f ≠ 5 → σ f a h = none) (h : H) (who : Int) : (lim Try.prog σ).call 28 [.int .i64 who] h = some (.bool (decide (0 ≤ who ∧ who < 16)), none) := by
  rw [call_eq (hσ _ _ _ (by decide)) fn_28 rfl rfl, Try.ntmps28, Try.results28]
  by_cases h1 : who ≥ 0
  · have h1' : 0 ≤ who := h1
    by_cases h2 : who < 16
    · simp only [go_sem, Nat.reduceLT, Nat.reduceLeDiff, Nat.reduceEqDiff, Nat.reduceAdd, Nat.reduceSub, Nat.reduceMul, reduceCtorEq, Int.reduceBEq, Int.reduceLT, Int.reduceLE, Int.reduceAdd, Int.reduceSub, Int.reduceEq, Int.reduceNeg, Int.reduceToNat, Int.reduceGT, Int.reduceGE, h1, h1', h2]
      rw [fin_q _ _ _ rfl rfl]
    · simp only [go_sem, Nat.reduceLT, Nat.reduceLeDiff, Nat.reduceEqDiff, Nat.reduceAdd, Nat.reduceSub, Nat.reduceMul, reduceCtorEq, Int.reduceBEq, Int.reduceLT, Int.reduceLE, Int.reduceAdd, Int.reduceSub, Int.reduceEq, Int.reduceNeg, Int.reduceToNat, Int.reduceGT, Int.reduceGE, h1, h1', h2, and_false]
      rw [fin_q _ _ _ rfl rfl]
  · have h1' : ¬ 0 ≤ who := h1
    simp only [go_sem, Nat.reduceLT, Nat.reduceLeDiff, Nat.reduceEqDiff, Nat.reduceAdd, Nat.reduceSub, Nat.reduceMul, reduceCtorEq, Int.reduceBEq, Int.reduceLT, Int.reduceLE, Int.reduceAdd, Int.reduceSub, Int.reduceEq, Int.reduceNeg, Int.reduceToNat, Int.reduceGT, Int.reduceGE, h1, h1', false_and]
    rw [fin_q _ _ _ rfl rfl]

/-- the keys, as one -/
theorem keys_ne {ts : List CV} {ty ho : Int} {key : Nat → Int} (T : Tab ts ty ho key) (xo yo : Operand) : ∃ ks, (newBlk ts).loadN 1 16 = some ks ∧
    binT Try.prog .neq 27 xo yo (.agg ks) (.agg [.int .u64 0, .int .u64 0, .int .u64 0, .int .u64 0, .int .u64 0, .int .u64 0, .int .u64 0, .int .u64 0, .int .u64 0, .int .u64 0, .int .u64 0, .int .u64 0, .int .u64 0, .int .u64 0, .int .u64 0, .int .u64 0]) = some (.bool (anyK key)) := by
  refine ⟨(List.range 16).map fun i => .int .u64 (key i), loadN_of _ _ _ (by simp) fun i v hv => ?_, ?_⟩
  · have hi : i < 16 := by
      rw [nth_eq] at hv
      have := (List.getElem?_eq_some_iff.1 hv).1
      simpa using this
    rw [newBlk_get, T.key i hi]
    rw [nth_eq] at hv
    simp [hi] at hv
    rw [hv]
  · rw [show ((List.range 16).map fun i => CV.int .u64 (key i)) = [.int .u64 (key 0), .int .u64 (key 1), .int .u64 (key 2), .int .u64 (key 3), .int .u64 (key 4), .int .u64 (key 5), .int .u64 (key 6), .int .u64 (key 7), .int .u64 (key 8), .int .u64 (key 9), .int .u64 (key 10), .int .u64 (key 11), .int .u64 (key 12), .int .u64 (key 13), .int .u64 (key 14), .int .u64 (key 15)] from rfl]
    have e : ∀ (k0 k1 k2 k3 k4 k5 k6 k7 k8 k9 k10 k11 k12 k13 k14 k15 : Int), binT Try.prog .neq 27 xo yo (.agg [.int .u64 k0, .int .u64 k1, .int .u64 k2, .int .u64 k3, .int .u64 k4, .int .u64 k5, .int .u64 k6, .int .u64 k7, .int .u64 k8, .int .u64 k9, .int .u64 k10, .int .u64 k11, .int .u64 k12, .int .u64 k13, .int .u64 k14, .int .u64 k15])
        (.agg [.int .u64 0, .int .u64 0, .int .u64 0, .int .u64 0, .int .u64 0, .int .u64 0, .int .u64 0, .int .u64 0, .int .u64 0, .int .u64 0, .int .u64 0, .int .u64 0, .int .u64 0, .int .u64 0, .int .u64 0, .int .u64 0]) =
        (allZ [k0, k1, k2, k3, k4, k5, k6, k7, k8, k9, k10, k11, k12, k13, k14, k15]).map fun b => CV.bool (!b) := by
      intros; kernel_rfl
    rw [e, allZ_eq]
    unfold anyK
    rw [show [key 0, key 1, key 2, key 3, key 4, key 5, key 6, key 7, key 8, key 9, key 10, key 11, key 12, key 13, key 14, key 15] = (List.range 16).map key from rfl, List.all_map]
    rfl

theorem may_run (hσ : ∀ f a h, f ≠ 5 → σ f a h = none) {ts : List CV} {ty ho : Int} {key : Nat → Int} (T : Tab ts ty ho key) (h : H) : (lim Try.prog σ).call 13 [.agg ts] h = some (.bool (mayT ty ho key), none) := by
  rw [call_eq (hσ _ _ _ (by decide)) fn_13 rfl rfl, Try.ntmps13, Try.results13]
  unfold mayT
  by_cases h0 : ty = 0
  · rw [if_pos h0]
    simp only [go_sem, Nat.reduceLT, Nat.reduceLeDiff, Nat.reduceEqDiff, Nat.reduceAdd, Nat.reduceSub, Nat.reduceMul, reduceCtorEq, Int.reduceBEq, Int.reduceLT, Int.reduceLE, Int.reduceAdd, Int.reduceSub, Int.reduceEq, Int.reduceNeg, Int.reduceToNat, Int.reduceGT, Int.reduceGE, T.one, T.ty, T.ho, h0]
    rw [fin_q _ _ _ rfl rfl]
  · rw [if_neg h0]
    by_cases h5 : ty = 5 ∨ ty = 6
    · rw [if_pos h5]
      obtain ⟨ks, k1, k2⟩ := keys_ne T (.tmp 17) (.tmp 18)
      by_cases hh : ho = 0
      · simp only [↓k1, go_sem, Nat.reduceLT, Nat.reduceLeDiff, Nat.reduceEqDiff, Nat.reduceAdd, Nat.reduceSub, Nat.reduceMul, reduceCtorEq, Int.reduceBEq, Int.reduceLT, Int.reduceLE, Int.reduceAdd, Int.reduceSub, Int.reduceEq, Int.reduceNeg, Int.reduceToNat, Int.reduceGT, Int.reduceGE, T.one, T.ty, T.ho, h0, ofAll_run hσ, h5, hh, k2]
        rw [fin_q _ _ _ rfl rfl]
      · simp only [↓k1, go_sem, Nat.reduceLT, Nat.reduceLeDiff, Nat.reduceEqDiff, Nat.reduceAdd, Nat.reduceSub, Nat.reduceMul, reduceCtorEq, Int.reduceBEq, Int.reduceLT, Int.reduceLE, Int.reduceAdd, Int.reduceSub, Int.reduceEq, Int.reduceNeg, Int.reduceToNat, Int.reduceGT, Int.reduceGE, T.one, T.ty, T.ho, h0, ofAll_run hσ, h5, hh, k2]
        rw [fin_q _ _ _ rfl rfl]
    · rw [if_neg h5]
      by_cases h1 : 1 ≤ ty ∧ ty ≤ 6
      · by_cases h2 : 0 ≤ ho ∧ ho < 16
        · obtain ⟨n, rfl⟩ : ∃ n : Nat, ho = Int.ofNat n := ⟨ho.toNat, by simp; omega⟩
          have hn : n < 16 := by have := h2.2; simp at this; omega
          have hk := T.key n hn
          have h3 : (1 ≤ ty ∧ ty ≤ 6 ∧ 0 ≤ Int.ofNat n ∧ Int.ofNat n < 16) = True := eq_true ⟨h1.1, h1.2, h2.1, h2.2⟩
          simp only [go_sem, Nat.reduceLT, Nat.reduceLeDiff, Nat.reduceEqDiff, Nat.reduceAdd, Nat.reduceSub, Nat.reduceMul, reduceCtorEq, Int.reduceBEq, Int.reduceLT, Int.reduceLE, Int.reduceAdd, Int.reduceSub, Int.reduceEq, Int.reduceNeg, Int.reduceToNat, Int.reduceGT, Int.reduceGE, T.one, T.ty, T.ho, h0, ofAll_run hσ, isType_run hσ, init_run hσ, h5, h1, h2, hn, hk, Nat.mul_one, h3]
          rw [fin_q _ _ _ rfl rfl]
          rfl
        · have h3 : (1 ≤ ty ∧ ty ≤ 6 ∧ 0 ≤ ho ∧ ho < 16) = False := eq_false fun q => h2 q.2.2
          simp only [go_sem, Nat.reduceLT, Nat.reduceLeDiff, Nat.reduceEqDiff, Nat.reduceAdd, Nat.reduceSub, Nat.reduceMul, reduceCtorEq, Int.reduceBEq, Int.reduceLT, Int.reduceLE, Int.reduceAdd, Int.reduceSub, Int.reduceEq, Int.reduceNeg, Int.reduceToNat, Int.reduceGT, Int.reduceGE, T.one, T.ty, T.ho, h0, ofAll_run hσ, isType_run hσ, init_run hσ, h5, h1, h2, h3]
          rw [fin_q _ _ _ rfl rfl]
      · have h3 : (1 ≤ ty ∧ ty ≤ 6 ∧ 0 ≤ ho ∧ ho < 16) = False := eq_false fun q => h1 ⟨q.1, q.2.1⟩
        simp only [go_sem, Nat.reduceLT, Nat.reduceLeDiff, Nat.reduceEqDiff, Nat.reduceAdd, Nat.reduceSub, Nat.reduceMul, reduceCtorEq, Int.reduceBEq, Int.reduceLT, Int.reduceLE, Int.reduceAdd, Int.reduceSub, Int.reduceEq, Int.reduceNeg, Int.reduceToNat, Int.reduceGT, Int.reduceGE, T.one, T.ty, T.ho, h0, ofAll_run hσ, isType_run hσ, init_run hσ, h5, h1, h3]
        rw [fin_q _ _ _ rfl rfl]

def inT (who : Int) : Bool := decide (0 ≤ who ∧ who < 16)
def writesT (ty ho who : Int) (key : Nat → Int) : Bool := if ty = 0 then true else if ty = 1 ∨ ty = 2 then decide (ho = who) else !decide (key who.toNat = 0)
def readsT (ty ho who : Int) (key : Nat → Int) : Bool := if ty = 0 ∨ ty = 1 ∨ ty = 3 ∨ ty = 5 then true else if ty = 2 then decide (ho = who) else !decide (key who.toNat = 0)

theorem writes_run (hσ : ∀ f a h, f ≠ 5 → σ f a h = none) {ts : List CV} {ty ho : Int} {key : Nat → Int} (T : Tab ts ty ho key) (h : H) (who : Int) :
    (lim Try.prog σ).call 16 [.agg ts, .int .i64 who] h = some (.bool (mayT ty ho key && inT who && writesT ty ho who key), none) := by
  rw [call_eq (hσ _ _ _ (by decide)) fn_16 rfl rfl, Try.ntmps16, Try.results16]
  have k1 := loadNewBlk ts 19 T.len
  cases hm : mayT ty ho key
  · simp only [↓k1, go_sem, Nat.reduceLT, Nat.reduceLeDiff, Nat.reduceEqDiff, Nat.reduceAdd, Nat.reduceSub, Nat.reduceMul, reduceCtorEq, Int.reduceBEq, Int.reduceLT, Int.reduceLE, Int.reduceAdd, Int.reduceSub, Int.reduceEq, Int.reduceNeg, Int.reduceToNat, Int.reduceGT, Int.reduceGE, T.one, T.ty, T.ho, may_run hσ T, hm]
    rw [fin_q _ _ _ rfl rfl]
  · by_cases hi : 0 ≤ who ∧ who < 16
    · obtain ⟨n, rfl⟩ : ∃ n : Nat, who = Int.ofNat n := ⟨who.toNat, by simp; omega⟩
      have hn : n < 16 := by have := hi.2; simp at this; omega
      have hk := T.key n hn
      have hI : inT (Int.ofNat n) = true := decide_eq_true hi
      unfold writesT
      by_cases h0 : ty = 0
      · subst h0
        rw [if_pos rfl]
        simp only [↓k1, go_sem, Nat.reduceLT, Nat.reduceLeDiff, Nat.reduceEqDiff, Nat.reduceAdd, Nat.reduceSub, Nat.reduceMul, reduceCtorEq, Int.reduceBEq, Int.reduceLT, Int.reduceLE, Int.reduceAdd, Int.reduceSub, Int.reduceEq, Int.reduceNeg, Int.reduceToNat, Int.reduceGT, Int.reduceGE, T.one, T.ty, T.ho, may_run hσ T, hm, init_run hσ, hi, hI]
        rw [fin_q _ _ _ rfl rfl]
      · rw [if_neg h0]
        by_cases h1 : ty = 1
        · subst h1
          rw [if_pos (.inl rfl)]
          simp only [↓k1, go_sem, Nat.reduceLT, Nat.reduceLeDiff, Nat.reduceEqDiff, Nat.reduceAdd, Nat.reduceSub, Nat.reduceMul, reduceCtorEq, Int.reduceBEq, Int.reduceLT, Int.reduceLE, Int.reduceAdd, Int.reduceSub, Int.reduceEq, Int.reduceNeg, Int.reduceToNat, Int.reduceGT, Int.reduceGE, T.one, T.ty, T.ho, may_run hσ T, hm, init_run hσ, hi, hI]
          rw [fin_q _ _ _ rfl rfl]
        · by_cases h2 : ty = 2
          · subst h2
            rw [if_pos (.inr rfl)]
            simp only [↓k1, go_sem, Nat.reduceLT, Nat.reduceLeDiff, Nat.reduceEqDiff, Nat.reduceAdd, Nat.reduceSub, Nat.reduceMul, reduceCtorEq, Int.reduceBEq, Int.reduceLT, Int.reduceLE, Int.reduceAdd, Int.reduceSub, Int.reduceEq, Int.reduceNeg, Int.reduceToNat, Int.reduceGT, Int.reduceGE, T.one, T.ty, T.ho, may_run hσ T, hm, init_run hσ, hi, hI]
            rw [fin_q _ _ _ rfl rfl]
          · rw [if_neg (by omega)]
            simp only [↓k1, go_sem, Nat.reduceLT, Nat.reduceLeDiff, Nat.reduceEqDiff, Nat.reduceAdd, Nat.reduceSub, Nat.reduceMul, reduceCtorEq, Int.reduceBEq, Int.reduceLT, Int.reduceLE, Int.reduceAdd, Int.reduceSub, Int.reduceEq, Int.reduceNeg, Int.reduceToNat, Int.reduceGT, Int.reduceGE, T.one, T.ty, T.ho, may_run hσ T, hm, init_run hσ, hi, hI, h0, h1, h2, hn, hk, Nat.mul_one]
            rw [fin_q _ _ _ rfl rfl]
            rfl
    · have hI : inT who = false := decide_eq_false hi
      simp only [↓k1, go_sem, Nat.reduceLT, Nat.reduceLeDiff, Nat.reduceEqDiff, Nat.reduceAdd, Nat.reduceSub, Nat.reduceMul, reduceCtorEq, Int.reduceBEq, Int.reduceLT, Int.reduceLE, Int.reduceAdd, Int.reduceSub, Int.reduceEq, Int.reduceNeg, Int.reduceToNat, Int.reduceGT, Int.reduceGE, T.one, T.ty, T.ho, may_run hσ T, hm, init_run hσ, hi, hI]
      rw [fin_q _ _ _ rfl rfl]

theorem reads_run (hσ : ∀ f a h, f ≠ 5 → σ f a h = none) {ts : List CV} {ty ho : Int} {key : Nat → Int} (T : Tab ts ty ho key) (h : H) (who : Int) :
    (lim Try.prog σ).call 14 [.agg ts, .int .i64 who] h = some (.bool (mayT ty ho key && inT who && readsT ty ho who key), none) := by
  rw [call_eq (hσ _ _ _ (by decide)) fn_14 rfl rfl, Try.ntmps14, Try.results14]
  have k1 := loadNewBlk ts 19 T.len
  cases hm : mayT ty ho key
  · simp only [↓k1, go_sem, Nat.reduceLT, Nat.reduceLeDiff, Nat.reduceEqDiff, Nat.reduceAdd, Nat.reduceSub, Nat.reduceMul, reduceCtorEq, Int.reduceBEq, Int.reduceLT, Int.reduceLE, Int.reduceAdd, Int.reduceSub, Int.reduceEq, Int.reduceNeg, Int.reduceToNat, Int.reduceGT, Int.reduceGE, T.one, T.ty, T.ho, may_run hσ T, hm]
    rw [fin_q _ _ _ rfl rfl]
  · by_cases hi : 0 ≤ who ∧ who < 16
    · obtain ⟨n, rfl⟩ : ∃ n : Nat, who = Int.ofNat n := ⟨who.toNat, by simp; omega⟩
      have hn : n < 16 := by have := hi.2; simp at this; omega
      have hk := T.key n hn
      have hI : inT (Int.ofNat n) = true := decide_eq_true hi
      unfold readsT
      by_cases h0 : ty = 0
      · subst h0
        rw [if_pos (.inl rfl)]
        simp only [↓k1, go_sem, Nat.reduceLT, Nat.reduceLeDiff, Nat.reduceEqDiff, Nat.reduceAdd, Nat.reduceSub, Nat.reduceMul, reduceCtorEq, Int.reduceBEq, Int.reduceLT, Int.reduceLE, Int.reduceAdd, Int.reduceSub, Int.reduceEq, Int.reduceNeg, Int.reduceToNat, Int.reduceGT, Int.reduceGE, T.one, T.ty, T.ho, may_run hσ T, hm, init_run hσ, hi, hI]
        rw [fin_q _ _ _ rfl rfl]
      by_cases h1 : ty = 1
      · subst h1
        rw [if_pos (.inr (.inl rfl))]
        simp only [↓k1, go_sem, Nat.reduceLT, Nat.reduceLeDiff, Nat.reduceEqDiff, Nat.reduceAdd, Nat.reduceSub, Nat.reduceMul, reduceCtorEq, Int.reduceBEq, Int.reduceLT, Int.reduceLE, Int.reduceAdd, Int.reduceSub, Int.reduceEq, Int.reduceNeg, Int.reduceToNat, Int.reduceGT, Int.reduceGE, T.one, T.ty, T.ho, may_run hσ T, hm, init_run hσ, hi, hI]
        rw [fin_q _ _ _ rfl rfl]
      by_cases h3 : ty = 3
      · subst h3
        rw [if_pos (.inr (.inr (.inl rfl)))]
        simp only [↓k1, go_sem, Nat.reduceLT, Nat.reduceLeDiff, Nat.reduceEqDiff, Nat.reduceAdd, Nat.reduceSub, Nat.reduceMul, reduceCtorEq, Int.reduceBEq, Int.reduceLT, Int.reduceLE, Int.reduceAdd, Int.reduceSub, Int.reduceEq, Int.reduceNeg, Int.reduceToNat, Int.reduceGT, Int.reduceGE, T.one, T.ty, T.ho, may_run hσ T, hm, init_run hσ, hi, hI]
        rw [fin_q _ _ _ rfl rfl]
      by_cases h5 : ty = 5
      · subst h5
        rw [if_pos (.inr (.inr (.inr rfl)))]
        simp only [↓k1, go_sem, Nat.reduceLT, Nat.reduceLeDiff, Nat.reduceEqDiff, Nat.reduceAdd, Nat.reduceSub, Nat.reduceMul, reduceCtorEq, Int.reduceBEq, Int.reduceLT, Int.reduceLE, Int.reduceAdd, Int.reduceSub, Int.reduceEq, Int.reduceNeg, Int.reduceToNat, Int.reduceGT, Int.reduceGE, T.one, T.ty, T.ho, may_run hσ T, hm, init_run hσ, hi, hI]
        rw [fin_q _ _ _ rfl rfl]
      rw [if_neg (by omega)]
      by_cases h2 : ty = 2
      · subst h2
        rw [if_pos rfl]
        simp only [↓k1, go_sem, Nat.reduceLT, Nat.reduceLeDiff, Nat.reduceEqDiff, Nat.reduceAdd, Nat.reduceSub, Nat.reduceMul, reduceCtorEq, Int.reduceBEq, Int.reduceLT, Int.reduceLE, Int.reduceAdd, Int.reduceSub, Int.reduceEq, Int.reduceNeg, Int.reduceToNat, Int.reduceGT, Int.reduceGE, T.one, T.ty, T.ho, may_run hσ T, hm, init_run hσ, hi, hI]
        rw [fin_q _ _ _ rfl rfl]
      · rw [if_neg h2]
        simp only [↓k1, go_sem, Nat.reduceLT, Nat.reduceLeDiff, Nat.reduceEqDiff, Nat.reduceAdd, Nat.reduceSub, Nat.reduceMul, reduceCtorEq, Int.reduceBEq, Int.reduceLT, Int.reduceLE, Int.reduceAdd, Int.reduceSub, Int.reduceEq, Int.reduceNeg, Int.reduceToNat, Int.reduceGT, Int.reduceGE, T.one, T.ty, T.ho, may_run hσ T, hm, init_run hσ, hi, hI, h0, h1, h3, h5, h2, hn, hk, Nat.mul_one]
        rw [fin_q _ _ _ rfl rfl]
        rfl
    · have hI : inT who = false := decide_eq_false hi
      simp only [↓k1, go_sem, Nat.reduceLT, Nat.reduceLeDiff, Nat.reduceEqDiff, Nat.reduceAdd, Nat.reduceSub, Nat.reduceMul, reduceCtorEq, Int.reduceBEq, Int.reduceLT, Int.reduceLE, Int.reduceAdd, Int.reduceSub, Int.reduceEq, Int.reduceNeg, Int.reduceToNat, Int.reduceGT, Int.reduceGE, T.one, T.ty, T.ho, may_run hσ T, hm, init_run hσ, hi, hI]
      rw [fin_q _ _ _ rfl rfl]

/-- a command of a kind, a block, an initiator; nothing else -/
noncomputable def rest47 : List CV := match zeroT Try.prog 47 with | some z => z.cells.drop 4 | none => []
noncomputable def cmdC (k who block : Int) : List CV := .int .u64 0 :: .int .i64 who :: .int .i64 k :: .int .i64 block :: rest47
theorem rest47_len : rest47.length = 261 := by kernel_rfl
theorem rest47_one : rest47.all CV.one = true := by kernel_rfl
theorem cmd_build (k who block : Int) : buildT Try.prog 47 [(2, .int .i64 k), (1, .int .i64 who), (3, .int .i64 block)] = some (.agg (cmdC k who block)) := by kernel_rfl
theorem cmd_build1 (k : Int) : buildT Try.prog 47 [(2, .int .i64 k)] = some (.agg (cmdC k 0 0)) := by kernel_rfl
theorem cmd_one (k who block : Int) : (cmdC k who block).all CV.one = true := by simp only [cmdC, List.all_cons, one_int, Bool.true_and]; exact rest47_one
theorem cmd_len (k who block : Int) : (cmdC k who block).length = 265 := by simp only [cmdC, List.length_cons, rest47_len]
theorem cmd_1 (k who block : Int) : nth (cmdC k who block) 1 = some (.int .i64 who) := rfl
theorem cmd_2 (k who block : Int) : nth (cmdC k who block) 2 = some (.int .i64 k) := rfl

theorem cwrites_run (hσ : ∀ f a h, f ≠ 5 → σ f a h = none) (h : H) (k who block : Int) : (lim Try.prog σ).call 15 [.agg (cmdC k who block)] h = some (.bool (decide (k = 2 ∨ k = 4 ∨ k = 5)), none) := by
  rw [call_eq (hσ _ _ _ (by decide)) fn_15 rfl rfl, Try.ntmps15, Try.results15]
  by_cases h2 : k = 2
  · simp only [go_sem, Nat.reduceLT, Nat.reduceLeDiff, Nat.reduceEqDiff, Nat.reduceAdd, Nat.reduceSub, Nat.reduceMul, reduceCtorEq, Int.reduceBEq, Int.reduceLT, Int.reduceLE, Int.reduceAdd, Int.reduceSub, Int.reduceEq, Int.reduceNeg, Int.reduceToNat, Int.reduceGT, Int.reduceGE, cmd_one, cmd_1, cmd_2, h2, true_or]
    rw [fin_q _ _ _ rfl rfl]
  by_cases h4 : k = 4
  · simp only [go_sem, Nat.reduceLT, Nat.reduceLeDiff, Nat.reduceEqDiff, Nat.reduceAdd, Nat.reduceSub, Nat.reduceMul, reduceCtorEq, Int.reduceBEq, Int.reduceLT, Int.reduceLE, Int.reduceAdd, Int.reduceSub, Int.reduceEq, Int.reduceNeg, Int.reduceToNat, Int.reduceGT, Int.reduceGE, cmd_one, cmd_1, cmd_2, h4, h2, true_or, or_true]
    rw [fin_q _ _ _ rfl rfl]
  by_cases h5 : k = 5
  · simp only [go_sem, Nat.reduceLT, Nat.reduceLeDiff, Nat.reduceEqDiff, Nat.reduceAdd, Nat.reduceSub, Nat.reduceMul, reduceCtorEq, Int.reduceBEq, Int.reduceLT, Int.reduceLE, Int.reduceAdd, Int.reduceSub, Int.reduceEq, Int.reduceNeg, Int.reduceToNat, Int.reduceGT, Int.reduceGE, cmd_one, cmd_1, cmd_2, h4, h2, h5, true_or, or_true]
    rw [fin_q _ _ _ rfl rfl]
  simp only [go_sem, Nat.reduceLT, Nat.reduceLeDiff, Nat.reduceEqDiff, Nat.reduceAdd, Nat.reduceSub, Nat.reduceMul, reduceCtorEq, Int.reduceBEq, Int.reduceLT, Int.reduceLE, Int.reduceAdd, Int.reduceSub, Int.reduceEq, Int.reduceNeg, Int.reduceToNat, Int.reduceGT, Int.reduceGE, cmd_one, cmd_1, cmd_2, h4, h2, h5, or_self]
  rw [fin_q _ _ _ rfl rfl]

def allowT (k ty ho who : Int) (key : Nat → Int) : Bool := mayT ty ho key && (if k = 1 then inT who && readsT ty ho who key else if k = 2 ∨ k = 4 ∨ k = 5 ∨ k = 3 then inT who && writesT ty ho who key else true)

set_option maxRecDepth 100000 in
theorem allowed_run (hσ : ∀ f a h, f ≠ 5 → σ f a h = none) {ts : List CV} {ty ho : Int} {key : Nat → Int} (T : Tab ts ty ho key) (h : H) (k who block : Int) :
    (lim Try.prog σ).call 9 [.agg (cmdC k who block), .agg ts] h = some (.bool (allowT k ty ho who key), none) := by
  rw [call_eq (hσ _ _ _ (by decide)) fn_9 rfl rfl, Try.ntmps9, Try.results9]
  have k1 := loadNewBlk ts 19 T.len
  have k2 := loadNewBlk (cmdC k who block) 265 (cmd_len k who block)
  unfold allowT
  cases hm : mayT ty ho key
  · simp only [↓k1, ↓k2, go_sem, Nat.reduceLT, Nat.reduceLeDiff, Nat.reduceEqDiff, Nat.reduceAdd, Nat.reduceSub, Nat.reduceMul, reduceCtorEq, Int.reduceBEq, Int.reduceLT, Int.reduceLE, Int.reduceAdd, Int.reduceSub, Int.reduceEq, Int.reduceNeg, Int.reduceToNat, Int.reduceGT, Int.reduceGE, T.one, may_run hσ T, hm, cmd_one, cmd_1, cmd_2]
    rw [fin_q _ _ _ rfl rfl]
  · by_cases h1 : k = 1
    · rw [if_pos h1]
      subst h1
      simp only [↓k1, ↓k2, go_sem, Nat.reduceLT, Nat.reduceLeDiff, Nat.reduceEqDiff, Nat.reduceAdd, Nat.reduceSub, Nat.reduceMul, reduceCtorEq, Int.reduceBEq, Int.reduceLT, Int.reduceLE, Int.reduceAdd, Int.reduceSub, Int.reduceEq, Int.reduceNeg, Int.reduceToNat, Int.reduceGT, Int.reduceGE, T.one, may_run hσ T, hm, cmd_one, cmd_1, cmd_2, reads_run hσ T]
      rw [fin_q _ _ _ rfl rfl]
    · rw [if_neg h1]
      by_cases h2 : k = 2 ∨ k = 4 ∨ k = 5
      · rw [if_pos (by omega)]
        simp only [↓k1, ↓k2, go_sem, Nat.reduceLT, Nat.reduceLeDiff, Nat.reduceEqDiff, Nat.reduceAdd, Nat.reduceSub, Nat.reduceMul, reduceCtorEq, Int.reduceBEq, Int.reduceLT, Int.reduceLE, Int.reduceAdd, Int.reduceSub, Int.reduceEq, Int.reduceNeg, Int.reduceToNat, Int.reduceGT, Int.reduceGE, T.one, may_run hσ T, hm, cmd_one, cmd_1, cmd_2, h1, cwrites_run hσ, h2, writes_run hσ T]
        rw [fin_q _ _ _ rfl rfl]
      · by_cases h3 : k = 3
        · subst h3
          rw [if_pos (by omega)]
          simp only [↓k1, ↓k2, go_sem, Nat.reduceLT, Nat.reduceLeDiff, Nat.reduceEqDiff, Nat.reduceAdd, Nat.reduceSub, Nat.reduceMul, reduceCtorEq, Int.reduceBEq, Int.reduceLT, Int.reduceLE, Int.reduceAdd, Int.reduceSub, Int.reduceEq, Int.reduceNeg, Int.reduceToNat, Int.reduceGT, Int.reduceGE, T.one, may_run hσ T, hm, cmd_one, cmd_1, cmd_2, cwrites_run hσ, or_self, writes_run hσ T]
          rw [fin_q _ _ _ rfl rfl]
        · rw [if_neg (by omega)]
          simp only [↓k1, ↓k2, go_sem, Nat.reduceLT, Nat.reduceLeDiff, Nat.reduceEqDiff, Nat.reduceAdd, Nat.reduceSub, Nat.reduceMul, reduceCtorEq, Int.reduceBEq, Int.reduceLT, Int.reduceLE, Int.reduceAdd, Int.reduceSub, Int.reduceEq, Int.reduceNeg, Int.reduceToNat, Int.reduceGT, Int.reduceGE, T.one, may_run hσ T, hm, cmd_one, cmd_1, cmd_2, h1, cwrites_run hσ, h2, h3]
          rw [fin_q _ _ _ rfl rfl]

def cnt (key : Nat → Int) : Nat → Nat
  | 0 => 0
  | n + 1 => if key n = 0 then cnt key n else cnt key n + 1
theorem cnt_le (key : Nat → Int) : ∀ n, cnt key n ≤ n
  | 0 => Nat.le_refl _
  | n + 1 => by have := cnt_le key n; simp only [cnt]; split <;> omega
theorem cnt_pos (key : Nat → Int) : ∀ n, 0 < cnt key n ↔ ∃ i, i < n ∧ key i ≠ 0
  | 0 => by simp [cnt]
  | n + 1 => by
    simp only [cnt]
    split
    · rename_i h
      rw [cnt_pos key n]
      constructor
      · rintro ⟨i, h1, h2⟩; exact ⟨i, by omega, h2⟩
      · rintro ⟨i, h1, h2⟩
        refine ⟨i, ?_, h2⟩
        rcases Nat.lt_or_ge i n with q | q
        · exact q
        · have : i = n := by omega
          subst this; exact absurd h h2
    · rename_i h
      exact ⟨fun _ => ⟨n, by omega, h⟩, fun _ => by omega⟩
theorem cnt_any (key : Nat → Int) : decide (Int.ofNat (cnt key 16) > 0) = anyK key := by
  have h1 : Int.ofNat (cnt key 16) > 0 ↔ 0 < cnt key 16 := by simp
  have h2 : anyK key = true ↔ ∃ i, i < 16 ∧ key i ≠ 0 := by
    unfold anyK
    simp
  rw [Bool.eq_iff_iff, decide_eq_true_iff, h1, cnt_pos, h2]

def ManyOk (key : Nat → Int) (r : Option (CV × Option H)) : Prop := r = some (.int .i64 (Int.ofNat (cnt key 16)), none)
theorem many_run (hσ : ∀ f a h, f ≠ 5 → σ f a h = none) {ts : List CV} {ty ho : Int} {key : Nat → Int} (T : Tab ts ty ho key) (h : H) : ManyOk key ((lim Try.prog σ).call 29 [.agg ts] h) := by
  rw [call_eq (hσ _ _ _ (by decide)) fn_29 rfl rfl, Try.ntmps29, Try.results29]
  simp only [go_sem, Nat.reduceLT, Nat.reduceLeDiff, Nat.reduceEqDiff, Nat.reduceAdd, Nat.reduceSub, Nat.reduceMul, reduceCtorEq, Int.reduceBEq, Int.reduceLT, Int.reduceLE, Int.reduceAdd, Int.reduceSub, Int.reduceEq, Int.reduceNeg, Int.reduceToNat, Int.reduceGT, Int.reduceGE, T.one]
  refine loop_ind (Q := ManyOk key) (fun i env h1 => evT env 1 = .ptr h.nx 0 ∧ evT env 3 = .int .i64 (Int.ofNat (cnt key i)) ∧ evT env 4 = .int .i64 (Int.ofNat i) ∧ h1 = h.lo.alloc (.cells (newBlk ts))) 16 0 ?_ (by decide) ?_ ?_
  · exact ⟨by simp only [go_sem, Nat.reduceLT, Nat.reduceLeDiff, Nat.reduceEqDiff, Nat.reduceAdd, Nat.reduceSub, Nat.reduceMul, reduceCtorEq, Int.reduceBEq, Int.reduceLT, Int.reduceLE, Int.reduceAdd, Int.reduceSub, Int.reduceEq, Int.reduceNeg, Int.reduceToNat, Int.reduceGT, Int.reduceGE], by simp only [go_sem, Nat.reduceLT, Nat.reduceLeDiff, Nat.reduceEqDiff, Nat.reduceAdd, Nat.reduceSub, Nat.reduceMul, reduceCtorEq, Int.reduceBEq, Int.reduceLT, Int.reduceLE, Int.reduceAdd, Int.reduceSub, Int.reduceEq, Int.reduceNeg, Int.reduceToNat, Int.reduceGT, Int.reduceGE]; rfl, by simp only [go_sem, Nat.reduceLT, Nat.reduceLeDiff, Nat.reduceEqDiff, Nat.reduceAdd, Nat.reduceSub, Nat.reduceMul, reduceCtorEq, Int.reduceBEq, Int.reduceLT, Int.reduceLE, Int.reduceAdd, Int.reduceSub, Int.reduceEq, Int.reduceNeg, Int.reduceToNat, Int.reduceGT, Int.reduceGE]; rfl, rfl⟩
  · rintro i env h1 ⟨e1, e3, e4, rfl⟩ hi next
    have hlt : Int.ofNat i < 16 := by simp; omega
    have hw : IntKind.wrap .i64 (Int.ofNat i + 1) = Int.ofNat (i + 1) := wrap_succ (by omega)
    have hw2 : IntKind.wrap .i64 (Int.ofNat (cnt key i) + 1) = Int.ofNat (cnt key i + 1) := wrap_succ (by have := cnt_le key i; omega)
    have hk := T.key i hi
    by_cases hz : key i = 0
    · simp only [go_sem, Nat.reduceLT, Nat.reduceLeDiff, Nat.reduceEqDiff, Nat.reduceAdd, Nat.reduceSub, Nat.reduceMul, reduceCtorEq, Int.reduceBEq, Int.reduceLT, Int.reduceLE, Int.reduceAdd, Int.reduceSub, Int.reduceEq, Int.reduceNeg, Int.reduceToNat, Int.reduceGT, Int.reduceGE, e1, e3, e4, hlt, hi, hk, hz, Nat.mul_one, hw]
      exact next _ _ ⟨by simp only [go_sem, Nat.reduceLT, Nat.reduceLeDiff, Nat.reduceEqDiff, Nat.reduceAdd, Nat.reduceSub, Nat.reduceMul, reduceCtorEq, Int.reduceBEq, Int.reduceLT, Int.reduceLE, Int.reduceAdd, Int.reduceSub, Int.reduceEq, Int.reduceNeg, Int.reduceToNat, Int.reduceGT, Int.reduceGE, e1], by simp only [go_sem, Nat.reduceLT, Nat.reduceLeDiff, Nat.reduceEqDiff, Nat.reduceAdd, Nat.reduceSub, Nat.reduceMul, reduceCtorEq, Int.reduceBEq, Int.reduceLT, Int.reduceLE, Int.reduceAdd, Int.reduceSub, Int.reduceEq, Int.reduceNeg, Int.reduceToNat, Int.reduceGT, Int.reduceGE, e3, cnt, hz, if_true], by simp only [go_sem, Nat.reduceLT, Nat.reduceLeDiff, Nat.reduceEqDiff, Nat.reduceAdd, Nat.reduceSub, Nat.reduceMul, reduceCtorEq, Int.reduceBEq, Int.reduceLT, Int.reduceLE, Int.reduceAdd, Int.reduceSub, Int.reduceEq, Int.reduceNeg, Int.reduceToNat, Int.reduceGT, Int.reduceGE], rfl⟩
    · simp only [go_sem, Nat.reduceLT, Nat.reduceLeDiff, Nat.reduceEqDiff, Nat.reduceAdd, Nat.reduceSub, Nat.reduceMul, reduceCtorEq, Int.reduceBEq, Int.reduceLT, Int.reduceLE, Int.reduceAdd, Int.reduceSub, Int.reduceEq, Int.reduceNeg, Int.reduceToNat, Int.reduceGT, Int.reduceGE, e1, e3, e4, hlt, hi, hk, hz, Nat.mul_one, hw, hw2]
      exact next _ _ ⟨by simp only [go_sem, Nat.reduceLT, Nat.reduceLeDiff, Nat.reduceEqDiff, Nat.reduceAdd, Nat.reduceSub, Nat.reduceMul, reduceCtorEq, Int.reduceBEq, Int.reduceLT, Int.reduceLE, Int.reduceAdd, Int.reduceSub, Int.reduceEq, Int.reduceNeg, Int.reduceToNat, Int.reduceGT, Int.reduceGE, e1], by simp only [go_sem, Nat.reduceLT, Nat.reduceLeDiff, Nat.reduceEqDiff, Nat.reduceAdd, Nat.reduceSub, Nat.reduceMul, reduceCtorEq, Int.reduceBEq, Int.reduceLT, Int.reduceLE, Int.reduceAdd, Int.reduceSub, Int.reduceEq, Int.reduceNeg, Int.reduceToNat, Int.reduceGT, Int.reduceGE, cnt, hz, if_false], by simp only [go_sem, Nat.reduceLT, Nat.reduceLeDiff, Nat.reduceEqDiff, Nat.reduceAdd, Nat.reduceSub, Nat.reduceMul, reduceCtorEq, Int.reduceBEq, Int.reduceLT, Int.reduceLE, Int.reduceAdd, Int.reduceSub, Int.reduceEq, Int.reduceNeg, Int.reduceToNat, Int.reduceGT, Int.reduceGE], rfl⟩
  · rintro env h1 ⟨e1, e3, e4, rfl⟩
    have hlt : ¬ Int.ofNat 16 < 16 := by simp
    simp only [go_sem, Nat.reduceLT, Nat.reduceLeDiff, Nat.reduceEqDiff, Nat.reduceAdd, Nat.reduceSub, Nat.reduceMul, reduceCtorEq, Int.reduceBEq, Int.reduceLT, Int.reduceLE, Int.reduceAdd, Int.reduceSub, Int.reduceEq, Int.reduceNeg, Int.reduceToNat, Int.reduceGT, Int.reduceGE, e1, e3, e4, hlt]
    rw [fin_q _ _ _ rfl rfl]
    rfl

set_option maxRecDepth 100000 in
theorem rmay_run (hσ : ∀ f a h, f ≠ 5 → σ f a h = none) {ts : List CV} {ty ho : Int} {key : Nat → Int} (T : Tab ts ty ho key) (h : H) : (lim Try.prog σ).call 17 [.agg ts] h = some (.bool (mayT ty ho key), none) := by
  rw [call_eq (hσ _ _ _ (by decide)) fn_17 rfl rfl, Try.ntmps17, Try.results17]
  have k1 := loadNewBlk ts 19 T.len
  have km : ∀ h, (lim Try.prog σ).call 29 [.agg ts] h = some (.int .i64 (Int.ofNat (cnt key 16)), none) := fun h => many_run hσ T h
  unfold mayT
  by_cases h1 : ty < 0
  · have z1 : (if ty = 0 then decide (ho = 0) else if ty = 5 ∨ ty = 6 then decide (ho = 0) && anyK key else decide (1 ≤ ty ∧ ty ≤ 6 ∧ 0 ≤ ho ∧ ho < 16) && !decide (key ho.toNat = 0)) = false := by
      rw [if_neg (by omega), if_neg (by omega), decide_eq_false (by omega)]; rfl
    rw [z1]
    simp only [go_sem, Nat.reduceLT, Nat.reduceLeDiff, Nat.reduceEqDiff, Nat.reduceAdd, Nat.reduceSub, Nat.reduceMul, reduceCtorEq, Int.reduceBEq, Int.reduceLT, Int.reduceLE, Int.reduceAdd, Int.reduceSub, Int.reduceEq, Int.reduceNeg, Int.reduceToNat, Int.reduceGT, Int.reduceGE, T.one, T.ty, T.ho, h1]
    rw [fin_q _ _ _ rfl rfl]
  by_cases h2 : ty > 6
  · have z1 : (if ty = 0 then decide (ho = 0) else if ty = 5 ∨ ty = 6 then decide (ho = 0) && anyK key else decide (1 ≤ ty ∧ ty ≤ 6 ∧ 0 ≤ ho ∧ ho < 16) && !decide (key ho.toNat = 0)) = false := by
      rw [if_neg (by omega), if_neg (by omega), decide_eq_false (by omega)]; rfl
    rw [z1]
    simp only [go_sem, Nat.reduceLT, Nat.reduceLeDiff, Nat.reduceEqDiff, Nat.reduceAdd, Nat.reduceSub, Nat.reduceMul, reduceCtorEq, Int.reduceBEq, Int.reduceLT, Int.reduceLE, Int.reduceAdd, Int.reduceSub, Int.reduceEq, Int.reduceNeg, Int.reduceToNat, Int.reduceGT, Int.reduceGE, T.one, T.ty, T.ho, h1, h2]
    rw [fin_q _ _ _ rfl rfl]
  by_cases h3 : ho < 0
  · have z1 : (if ty = 0 then decide (ho = 0) else if ty = 5 ∨ ty = 6 then decide (ho = 0) && anyK key else decide (1 ≤ ty ∧ ty ≤ 6 ∧ 0 ≤ ho ∧ ho < 16) && !decide (key ho.toNat = 0)) = false := by
      rw [decide_eq_false (show ¬ ho = 0 by omega), decide_eq_false (show ¬ (1 ≤ ty ∧ ty ≤ 6 ∧ 0 ≤ ho ∧ ho < 16) by omega)]; simp
    rw [z1]
    simp only [go_sem, Nat.reduceLT, Nat.reduceLeDiff, Nat.reduceEqDiff, Nat.reduceAdd, Nat.reduceSub, Nat.reduceMul, reduceCtorEq, Int.reduceBEq, Int.reduceLT, Int.reduceLE, Int.reduceAdd, Int.reduceSub, Int.reduceEq, Int.reduceNeg, Int.reduceToNat, Int.reduceGT, Int.reduceGE, T.one, T.ty, T.ho, h1, h2, h3]
    rw [fin_q _ _ _ rfl rfl]
  by_cases h4 : ho > 15
  · have z1 : (if ty = 0 then decide (ho = 0) else if ty = 5 ∨ ty = 6 then decide (ho = 0) && anyK key else decide (1 ≤ ty ∧ ty ≤ 6 ∧ 0 ≤ ho ∧ ho < 16) && !decide (key ho.toNat = 0)) = false := by
      rw [decide_eq_false (show ¬ ho = 0 by omega), decide_eq_false (show ¬ (1 ≤ ty ∧ ty ≤ 6 ∧ 0 ≤ ho ∧ ho < 16) by omega)]; simp
    rw [z1]
    simp only [go_sem, Nat.reduceLT, Nat.reduceLeDiff, Nat.reduceEqDiff, Nat.reduceAdd, Nat.reduceSub, Nat.reduceMul, reduceCtorEq, Int.reduceBEq, Int.reduceLT, Int.reduceLE, Int.reduceAdd, Int.reduceSub, Int.reduceEq, Int.reduceNeg, Int.reduceToNat, Int.reduceGT, Int.reduceGE, T.one, T.ty, T.ho, h1, h2, h3, h4]
    rw [fin_q _ _ _ rfl rfl]
  by_cases h0 : ty = 0
  · rw [if_pos h0]
    subst h0
    simp only [go_sem, Nat.reduceLT, Nat.reduceLeDiff, Nat.reduceEqDiff, Nat.reduceAdd, Nat.reduceSub, Nat.reduceMul, reduceCtorEq, Int.reduceBEq, Int.reduceLT, Int.reduceLE, Int.reduceAdd, Int.reduceSub, Int.reduceEq, Int.reduceNeg, Int.reduceToNat, Int.reduceGT, Int.reduceGE, T.one, T.ty, T.ho, h1, h2, h3, h4]
    rw [fin_q _ _ _ rfl rfl]
  rw [if_neg h0]
  by_cases h5 : ty ≥ 5
  · rw [if_pos (by omega)]
    by_cases hh : ho = 0
    · subst hh
      simp only [↓k1, go_sem, Nat.reduceLT, Nat.reduceLeDiff, Nat.reduceEqDiff, Nat.reduceAdd, Nat.reduceSub, Nat.reduceMul, reduceCtorEq, Int.reduceBEq, Int.reduceLT, Int.reduceLE, Int.reduceAdd, Int.reduceSub, Int.reduceEq, Int.reduceNeg, Int.reduceToNat, Int.reduceGT, Int.reduceGE, T.one, T.ty, T.ho, h1, h2, h3, h4, h0, h5, km, cnt_any]
      rw [fin_q _ _ _ rfl rfl]
    · simp only [↓k1, go_sem, Nat.reduceLT, Nat.reduceLeDiff, Nat.reduceEqDiff, Nat.reduceAdd, Nat.reduceSub, Nat.reduceMul, reduceCtorEq, Int.reduceBEq, Int.reduceLT, Int.reduceLE, Int.reduceAdd, Int.reduceSub, Int.reduceEq, Int.reduceNeg, Int.reduceToNat, Int.reduceGT, Int.reduceGE, T.one, T.ty, T.ho, h1, h2, h3, h4, h0, h5, hh]
      rw [fin_q _ _ _ rfl rfl]
  · rw [if_neg (by omega), decide_eq_true (show 1 ≤ ty ∧ ty ≤ 6 ∧ 0 ≤ ho ∧ ho < 16 by omega)]
    obtain ⟨n, rfl⟩ : ∃ n : Nat, ho = Int.ofNat n := ⟨ho.toNat, by simp; omega⟩
    have hn : n < 16 := by simp at h4; omega
    have hk := T.key n hn
    simp only [go_sem, Nat.reduceLT, Nat.reduceLeDiff, Nat.reduceEqDiff, Nat.reduceAdd, Nat.reduceSub, Nat.reduceMul, reduceCtorEq, Int.reduceBEq, Int.reduceLT, Int.reduceLE, Int.reduceAdd, Int.reduceSub, Int.reduceEq, Int.reduceNeg, Int.reduceToNat, Int.reduceGT, Int.reduceGE, T.one, T.ty, T.ho, h1, h2, h3, h4, h0, h5, hn, hk, Nat.mul_one]
    rw [fin_q _ _ _ rfl rfl]
    rfl
end Go.Cl.A

namespace Go.Cl.A
variable {σ : Sums}

set_option maxRecDepth 100000 in
theorem rallowed_run (hσ : ∀ f a h, f ≠ 5 → σ f a h = none) {ts : List CV} {ty ho : Int} {key : Nat → Int} (T : Tab ts ty ho key) (h : H) :
    (lim Try.prog σ).call 10 [.agg (cmdC 6 0 0), .agg ts] h = some (.bool (mayT ty ho key), none) := by
  rw [call_eq (hσ _ _ _ (by decide)) fn_10 rfl rfl, Try.ntmps10, Try.results10]
  have k1 := loadNewBlk ts 19 T.len
  have k2 := loadNewBlk (cmdC 6 0 0) 265 (cmd_len 6 0 0)
  have cw : ∀ h, (lim Try.prog σ).call 19 [.agg (cmdC 6 0 0)] h = some (.bool false, none) := by
    intro h
    rw [call_eq (hσ _ _ _ (by decide)) fn_19 rfl rfl, Try.ntmps19, Try.results19]
    simp only [go_sem, Nat.reduceLT, Nat.reduceLeDiff, Nat.reduceEqDiff, Nat.reduceAdd, Nat.reduceSub, Nat.reduceMul, reduceCtorEq, Int.reduceBEq, Int.reduceLT, Int.reduceLE, Int.reduceAdd, Int.reduceSub, Int.reduceEq, Int.reduceNeg, Int.reduceToNat, Int.reduceGT, Int.reduceGE, cmd_one, cmd_1, cmd_2]
    rw [fin_q _ _ _ rfl rfl]
  cases hm : mayT ty ho key
  · simp only [↓k1, ↓k2, go_sem, Nat.reduceLT, Nat.reduceLeDiff, Nat.reduceEqDiff, Nat.reduceAdd, Nat.reduceSub, Nat.reduceMul, reduceCtorEq, Int.reduceBEq, Int.reduceLT, Int.reduceLE, Int.reduceAdd, Int.reduceSub, Int.reduceEq, Int.reduceNeg, Int.reduceToNat, Int.reduceGT, Int.reduceGE, T.one, rmay_run hσ T, hm, cmd_one, cmd_1, cmd_2]
    rw [fin_q _ _ _ rfl rfl]
  · simp only [↓k1, ↓k2, go_sem, Nat.reduceLT, Nat.reduceLeDiff, Nat.reduceEqDiff, Nat.reduceAdd, Nat.reduceSub, Nat.reduceMul, reduceCtorEq, Int.reduceBEq, Int.reduceLT, Int.reduceLE, Int.reduceAdd, Int.reduceSub, Int.reduceEq, Int.reduceNeg, Int.reduceToNat, Int.reduceGT, Int.reduceGE, T.one, rmay_run hσ T, hm, cmd_one, cmd_1, cmd_2, cw]
    rw [fin_q _ _ _ rfl rfl]

theorem ask_run (hσ : ∀ f a h, f ≠ 5 → σ f a h = none) {ts : List CV} {ty ho : Int} {key : Nat → Int} (T : Tab ts ty ho key) {h : H} {c : Nat} {who block : Int}
    (h1 : h.blk c = some (newBlk ts)) (h2 : h.blk (c + 1) = some (newBlk [.int .i64 block])) (h3 : h.blk (c + 2) = some (newBlk [.int .i64 who])) (k : Int) :
    (lim Try.prog σ).call 8 [.int .i64 k, .ptr (c + 2) 0, .ptr (c + 1) 0, .ptr c 0] h = some (.bool (allowT k ty ho who key), none) := by
  rw [call_eq (hσ _ _ _ (by decide)) fn_8 rfl rfl, Try.ntmps8, Try.results8]
  have k1 := loadNewBlk ts 19 T.len
  simp only [↓k1, go_sem, Nat.reduceLT, Nat.reduceLeDiff, Nat.reduceEqDiff, Nat.reduceAdd, Nat.reduceSub, Nat.reduceMul, reduceCtorEq, Int.reduceBEq, Int.reduceLT, Int.reduceLE, Int.reduceAdd, Int.reduceSub, Int.reduceEq, Int.reduceNeg, Int.reduceToNat, Int.reduceGT, Int.reduceGE, h1, h2, h3, cmd_build, allowed_run hσ T]
  rw [fin_q _ _ _ rfl rfl]

set_option maxRecDepth 100000 in
theorem rights_run (hσ : ∀ f a h, f ≠ 5 → σ f a h = none) (hk : ∀ h, (lim Try.prog σ).call 5 [] h = some (.bool true, none)) {ts : List CV} {ty ho : Int} {key : Nat → Int} (T : Tab ts ty ho key) (h : H) (who block : Int) :
    Tru ((lim Try.prog σ).call 4 [.agg ts, .int .i64 block, .int .i64 who] h) := by
  rw [call_eq (hσ _ _ _ (by decide)) fn_4 rfl rfl, Try.ntmps4, Try.results4]
  have k1 := loadNewBlk ts 19 T.len
  have ask := fun k => ask_run hσ T (h := ((h.lo.alloc (.cells (newBlk ts))).alloc (.cells (newBlk [.int .i64 block]))).alloc (.cells (newBlk [.int .i64 who]))) (c := h.nx) (who := who) (block := block) (by simp only [go_sem, Nat.reduceLT, Nat.reduceLeDiff, Nat.reduceEqDiff, Nat.reduceAdd, Nat.reduceSub, Nat.reduceMul, reduceCtorEq, Int.reduceBEq, Int.reduceLT, Int.reduceLE, Int.reduceAdd, Int.reduceSub, Int.reduceEq, Int.reduceNeg, Int.reduceToNat, Int.reduceGT, Int.reduceGE]) (by simp only [go_sem, Nat.reduceLT, Nat.reduceLeDiff, Nat.reduceEqDiff, Nat.reduceAdd, Nat.reduceSub, Nat.reduceMul, reduceCtorEq, Int.reduceBEq, Int.reduceLT, Int.reduceLE, Int.reduceAdd, Int.reduceSub, Int.reduceEq, Int.reduceNeg, Int.reduceToNat, Int.reduceGT, Int.reduceGE]) (by simp only [go_sem, Nat.reduceLT, Nat.reduceLeDiff, Nat.reduceEqDiff, Nat.reduceAdd, Nat.reduceSub, Nat.reduceMul, reduceCtorEq, Int.reduceBEq, Int.reduceLT, Int.reduceLE, Int.reduceAdd, Int.reduceSub, Int.reduceEq, Int.reduceNeg, Int.reduceToNat, Int.reduceGT, Int.reduceGE]) k
  have a6 : allowT 6 ty ho who key = mayT ty ho key := by simp [allowT]
  have a7 : allowT 7 ty ho who key = mayT ty ho key := by simp [allowT]
  have a3 : allowT 3 ty ho who key = allowT 2 ty ho who key := by simp [allowT]
  have a4 : allowT 4 ty ho who key = allowT 2 ty ho who key := by simp [allowT]
  have a5 : allowT 5 ty ho who key = allowT 2 ty ho who key := by simp [allowT]
  have a21 : allowT 2 ty ho who key = true → allowT 1 ty ho who key = true := by
    simp only [allowT]
    simp
    intro q1 q2 q3
    refine ⟨q1, q2, ?_⟩
    revert q3
    unfold writesT readsT
    repeat' split
    all_goals first | (intro q; exact q) | (intro _; rfl) | (exfalso; omega)
  have a20 : ty = 0 → mayT ty ho key = true → ¬ who < 0 → ¬ who > 15 → allowT 2 ty ho who key = true := by
    intro q1 q2 q3 q4
    simp only [allowT, q2, inT]
    rw [decide_eq_true (show 0 ≤ who ∧ who < 16 by omega)]
    simp [writesT, q1]
  simp only [↓k1, go_sem, Nat.reduceLT, Nat.reduceLeDiff, Nat.reduceEqDiff, Nat.reduceAdd, Nat.reduceSub, Nat.reduceMul, reduceCtorEq, Int.reduceBEq, Int.reduceLT, Int.reduceLE, Int.reduceAdd, Int.reduceSub, Int.reduceEq, Int.reduceNeg, Int.reduceToNat, Int.reduceGT, Int.reduceGE, T.one, cmd_build1, rallowed_run hσ T, ask, a6, a7, a3, a4, a5]
  cases h2 : allowT 2 ty ho who key
  · by_cases hty : ty = 0
    · cases hm : mayT ty ho key
      · subst hty
        simp only [go_sem, Nat.reduceLT, Nat.reduceLeDiff, Nat.reduceEqDiff, Nat.reduceAdd, Nat.reduceSub, Nat.reduceMul, reduceCtorEq, Int.reduceBEq, Int.reduceLT, Int.reduceLE, Int.reduceAdd, Int.reduceSub, Int.reduceEq, Int.reduceNeg, Int.reduceToNat, Int.reduceGT, Int.reduceGE, hk, T.ty, ask, a6, a7, a3, a4, a5, h2, hm, tru_fin]
      · by_cases hw : who < 0
        · subst hty
          simp only [go_sem, Nat.reduceLT, Nat.reduceLeDiff, Nat.reduceEqDiff, Nat.reduceAdd, Nat.reduceSub, Nat.reduceMul, reduceCtorEq, Int.reduceBEq, Int.reduceLT, Int.reduceLE, Int.reduceAdd, Int.reduceSub, Int.reduceEq, Int.reduceNeg, Int.reduceToNat, Int.reduceGT, Int.reduceGE, hk, T.ty, ask, a6, a7, a3, a4, a5, h2, hm, hw, tru_fin]
        · by_cases hw2 : who > 15
          · subst hty
            simp only [go_sem, Nat.reduceLT, Nat.reduceLeDiff, Nat.reduceEqDiff, Nat.reduceAdd, Nat.reduceSub, Nat.reduceMul, reduceCtorEq, Int.reduceBEq, Int.reduceLT, Int.reduceLE, Int.reduceAdd, Int.reduceSub, Int.reduceEq, Int.reduceNeg, Int.reduceToNat, Int.reduceGT, Int.reduceGE, hk, T.ty, ask, a6, a7, a3, a4, a5, h2, hm, hw, hw2, tru_fin]
          · have := a20 hty hm hw hw2
            rw [h2] at this; cases this
    · simp only [go_sem, Nat.reduceLT, Nat.reduceLeDiff, Nat.reduceEqDiff, Nat.reduceAdd, Nat.reduceSub, Nat.reduceMul, reduceCtorEq, Int.reduceBEq, Int.reduceLT, Int.reduceLE, Int.reduceAdd, Int.reduceSub, Int.reduceEq, Int.reduceNeg, Int.reduceToNat, Int.reduceGT, Int.reduceGE, hk, T.ty, ask, a6, a7, a3, a4, a5, h2, hty, tru_fin]
  · have h1 := a21 h2
    by_cases hty : ty = 0
    · cases hm : mayT ty ho key
      · subst hty
        simp only [go_sem, Nat.reduceLT, Nat.reduceLeDiff, Nat.reduceEqDiff, Nat.reduceAdd, Nat.reduceSub, Nat.reduceMul, reduceCtorEq, Int.reduceBEq, Int.reduceLT, Int.reduceLE, Int.reduceAdd, Int.reduceSub, Int.reduceEq, Int.reduceNeg, Int.reduceToNat, Int.reduceGT, Int.reduceGE, hk, T.ty, ask, a6, a7, a3, a4, a5, h2, h1, hm, tru_fin]
      · by_cases hw : who < 0
        · subst hty
          simp only [go_sem, Nat.reduceLT, Nat.reduceLeDiff, Nat.reduceEqDiff, Nat.reduceAdd, Nat.reduceSub, Nat.reduceMul, reduceCtorEq, Int.reduceBEq, Int.reduceLT, Int.reduceLE, Int.reduceAdd, Int.reduceSub, Int.reduceEq, Int.reduceNeg, Int.reduceToNat, Int.reduceGT, Int.reduceGE, hk, T.ty, ask, a6, a7, a3, a4, a5, h2, h1, hm, hw, tru_fin]
        · by_cases hw2 : who > 15
          · subst hty
            simp only [go_sem, Nat.reduceLT, Nat.reduceLeDiff, Nat.reduceEqDiff, Nat.reduceAdd, Nat.reduceSub, Nat.reduceMul, reduceCtorEq, Int.reduceBEq, Int.reduceLT, Int.reduceLE, Int.reduceAdd, Int.reduceSub, Int.reduceEq, Int.reduceNeg, Int.reduceToNat, Int.reduceGT, Int.reduceGE, hk, T.ty, ask, a6, a7, a3, a4, a5, h2, h1, hm, hw, hw2, tru_fin]
          · subst hty
            simp only [go_sem, Nat.reduceLT, Nat.reduceLeDiff, Nat.reduceEqDiff, Nat.reduceAdd, Nat.reduceSub, Nat.reduceMul, reduceCtorEq, Int.reduceBEq, Int.reduceLT, Int.reduceLE, Int.reduceAdd, Int.reduceSub, Int.reduceEq, Int.reduceNeg, Int.reduceToNat, Int.reduceGT, Int.reduceGE, hk, T.ty, ask, a6, a7, a3, a4, a5, h2, h1, hm, hw, hw2, tru_fin]
    · simp only [go_sem, Nat.reduceLT, Nat.reduceLeDiff, Nat.reduceEqDiff, Nat.reduceAdd, Nat.reduceSub, Nat.reduceMul, reduceCtorEq, Int.reduceBEq, Int.reduceLT, Int.reduceLE, Int.reduceAdd, Int.reduceSub, Int.reduceEq, Int.reduceNeg, Int.reduceToNat, Int.reduceGT, Int.reduceGE, hk, T.ty, ask, a6, a7, a3, a4, a5, h2, h1, hty, tru_fin]
end Go.Cl.A

namespace Go.Cl.A

theorem cellsOf_22 : Try.prog.cellsOf 22 = 1 := by kernel_rfl
theorem cellsOf_27 : Try.prog.cellsOf 27 = 16 := by kernel_rfl
theorem cellsOf_28 : Try.prog.cellsOf 28 = 1 := by kernel_rfl
theorem cellsOf_3 : Try.prog.cellsOf 3 = 1 := by kernel_rfl
theorem cellsOf_30 : Try.prog.cellsOf 30 = 19 := by kernel_rfl

theorem one_at {ts : List CV} {o : Nat} {x : CV} (h : (ts.drop o).take 1 = [x]) : nth ts o = some x := by
  have := congrArg (fun l => l[0]?) h
  simp only [List.getElem?_take, List.getElem?_drop] at this
  rw [nth_eq]
  simpa using this

set_option maxRecDepth 100000 in
theorem tab_of {h : H} {c : CV} (a : Arg Try.prog h 30 c) : ∃ ts ty ho key, c = .agg ts ∧ Tab ts ty ho key := by
  obtain ⟨hl, hf⟩ := a.rd.struct_inv Try.underlying30
  rw [cellsOf_30] at hl
  obtain ⟨ts, rfl⟩ := agg_of (c := c) (by omega)
  have hall := a.all
  simp only [cells_agg] at hl hf hall
  have h1 := hf _ (List.mem_cons_of_mem _ List.mem_cons_self)
  have h2 := hf _ (List.mem_cons_of_mem _ (List.mem_cons_of_mem _ List.mem_cons_self))
  have h3 := hf _ (List.mem_cons_of_mem _ (List.mem_cons_of_mem _ (List.mem_cons_of_mem _ List.mem_cons_self)))
  simp only [cellsOf_27, cellsOf_28, cellsOf_3] at h1 h2 h3
  obtain ⟨ty, q2, _⟩ := h2.int_inv Try.underlying28
  obtain ⟨ho, q3, _⟩ := h3.int_inv Try.underlying3
  obtain ⟨_, hk⟩ := h1.array_inv Try.underlying27
  simp only [cellsOf_22] at hk
  have hkey : ∀ i, i < 16 → ∃ n, nth ts (1 + i) = some (.int .u64 n) := by
    intro i hi
    obtain ⟨n, q, _⟩ := (hk i hi).int_inv Try.underlying22
    refine ⟨n, ?_⟩
    have := one_at q
    rw [nth_eq, List.getElem?_take, if_pos (by omega), List.getElem?_drop] at this
    rw [nth_eq, ← this]; congr 1; omega
  exact ⟨ts, ty, ho, fun i => if hi : i < 16 then Classical.choose (hkey i hi) else 0, rfl, hl, hall, one_at q2, one_at q3, fun i hi => by
    simp only [dif_pos hi]; exact Classical.choose_spec (hkey i hi)⟩
end Go.Cl.A

namespace Go.Proofs.Ytgmjbnhndhggmaa
open Go.ChangeShapes Go.WideShapes Go.ChangeAt Go.RowKit Go.Cl Go.Cl.A

theorem commandRights_own : ownKnob Try.prog.godebug = none := by kernel_rfl
theorem commandRights_mixed : Try.prog.follows .mixedOrders = true := by kernel_rfl
theorem commandRights_plain : plainB Try.prog = true := by kernel_rfl
theorem commandRights_laidOut : laidOutB Try.prog = true := by kernel_rfl
set_option maxRecDepth 1000000 in
theorem commandRights_known : (callK Try.prog noSums 10000000 5 [] (h0 0)).map Prod.fst = some (.bool true) := by kernel_rfl

set_option maxRecDepth 100000 in
theorem commandRights_lifted (os : Os) (started : os.Started) (H : Type) (enc : TypeId × Value → H) :
    ReturnsInHanded {} Try.checked os 4 .any (Rows.commandRightsSpec.pre6 enc Try.prog Try.f4 Rows.commandRightsRow.domain false) (Rows.commandRightsSpec.post enc Try.prog Try.f4 false true false false) := by
  refine returnsInHanded_of_change (C := Try.checked) commandRights_own started (by kernel_rfl) Try.func4
    (ChangeSpec.witness6 (enc := enc) (C := Try.checked) false ⟨#[], #[.agg #[.int .u64 0, .int .u64 0, .int .u64 0, .int .u64 0, .int .u64 0, .int .u64 0, .int .u64 0, .int .u64 0, .int .u64 0, .int .u64 0, .int .u64 0, .int .u64 0, .int .u64 0, .int .u64 0, .int .u64 0, .int .u64 0, .int .u64 0, .int .i64 0, .int .i64 0], .int .i64 0, .int .i64 0], []⟩ 8 (by kernel_rfl) (by kernel_rfl) (by kernel_rfl) (by kernel_rfl)) ?_
  intro W base args ds gs before hval hW _ _
  have hW' := hW
  obtain ⟨p, q, hA0, hV, hpq, hfz, _⟩ := hW
  have hlt := hW'.lt
  have hA : DataW.TrodAll enc Try.prog W 0 (fun _ => true) true Try.f4.params.toList args.toList ds p := hA0
  rw [Try.params4] at hA
  obtain ⟨v0, v1, v2, d0, d1, d2, p0, p1, p2, rfl, rfl, rfl, t0, t1, t2⟩ := trodAll_three hA
  obtain ⟨rfl, rfl⟩ := trodVars_none hV
  subst hpq
  have hv : ∀ (j : Nat) t v, (#[30, 3, 3] : Array Nat)[j]? = some t → (#[v0, v1, v2] : Array Value)[j]? = some v → Value.okWide Try.prog W .any base t v := by
    intro j t v hj hvj
    exact hval j t v (by rw [Try.params4]; exact hj) hvj
  have rel := rel0 W
  have a0 : ∀ id o, (h0 0).t.get id = some o → o.ro = true := fun id o ho => by rw [show (h0 0).t = T.nil from rfl, T.get_nil] at ho; cases ho
  obtain ⟨h1, f1, c0, r1, g1, e0, A0⟩ := layArg (n := 8) (t := 30) (by kernel_rfl) (hv 0 30 v0 rfl rfl) t0 rel a0
  have b1 := g1.all a0
  obtain ⟨h2, f2, c1, r2, g2, e1, A1⟩ := layArg (n := 8) (t := 3) (by kernel_rfl) (hv 1 3 v1 rfl rfl) t1 r1 b1
  have b2 := g2.all b1
  obtain ⟨h3, f3, c2, r3, g3, e2, A2⟩ := layArg (n := 8) (t := 3) (by kernel_rfl) (hv 2 3 v2 rfl rfl) t2 r2 b2
  have b3 := g3.all b2
  have B0 := ((A0).mono g2).mono g3
  have B1 := (A1).mono g3
  have B2 := A2
  obtain ⟨ts, ty, ho, key, rfl, T⟩ := tab_of B0
  obtain ⟨block, rfl, _⟩ := B1.int_inv Try.underlying3
  obtain ⟨who, rfl, _⟩ := B2.int_inv Try.underlying3
  have run := rights_run (σ := tell 5 (.bool true)) tell_other tell_self T h3 who block
  have hc := open_calls commandRights_plain commandRights_mixed (tell_ok commandRights_plain commandRights_mixed commandRights_known rfl) r3 b3 (args := [.agg ts, .int .i64 block, .int .i64 who]) (by simp only [okL]; exact ⟨B0.ok, B1.ok, B2.ok, trivial⟩) run
  have hr : (renL f3 [.agg ts, .int .i64 block, .int .i64 who]).toArray = #[v0, v1, v2] := by
    rw [← e0, ← e1, ← e2]
    simp only [renL, ren_congr g2.agree _ (A0).ok, ren_congr g3.agree _ ((A0).mono g2).ok, ren_congr g3.agree _ (A1).ok]
  rw [hr] at hc
  refine hc.mono fun e W' ⟨he, hb⟩ => ?_
  subst he
  refine ⟨_, rfl, ?_⟩
  have hl : ∀ x ∈ (p0 ++ p1 ++ p2) ++ [], x.block < W.heap.size := hW'.lt
  exact ⟨_, _, _, [], _, [], hW', trodAll_mk1 (shut_bool Try.underlying4 _),
    trodAll_mk3 (Below.trod commandRights_laidOut (by kernel_rfl) (of_decide_eq_true (by kernel_rfl)) t0 hb fun x hx => hl x (by simp [hx])) (Below.trod commandRights_laidOut (by kernel_rfl) (of_decide_eq_true (by kernel_rfl)) t1 hb fun x hx => hl x (by simp [hx])) (Below.trod commandRights_laidOut (by kernel_rfl) (of_decide_eq_true (by kernel_rfl)) t2 hb fun x hx => hl x (by simp [hx])), rfl, hb.frame _, fun h => by cases h⟩

theorem commandRights_holds : Rows.CommandRightsSaid :=
  OpenClaim.holds_of_wide 4 Try.f4 rfl rfl rfl rfl rfl rfl rfl ⟨rfl, rfl, rfl, rfl, rfl⟩ rfl rfl rfl rfl rfl (by kernel_rfl) Try.func4 (by kernel_rfl)
    (of_decide_eq_true (by kernel_rfl)) (by unfold Func.isWrapper; rw [if_neg (by decide +kernel)]; exact ⟨rfl, rfl⟩)
    (fun os started H enc _ => commandRights_lifted os started H enc)
#print axioms commandRights_holds
end Go.Proofs.Ytgmjbnhndhggmaa
