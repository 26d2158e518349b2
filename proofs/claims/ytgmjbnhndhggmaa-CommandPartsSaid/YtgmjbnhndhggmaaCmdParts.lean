/- gemel, the law CommandParts: the given statement 'CommandPartsSaid': whatever the answer, the call returns true in every run, and the argument reads as it did. Conditions: none.
   How: the evaluator's run by rewriting (the texts before), the arguments laid (ClArg), and callC_sound. -/
import Derived.Test.YtgmjbnhndhggmaaRows
import Derived.Test.YtgmjbnhndhggmaaClH
set_option linter.all false
open Go Go.Cl Go.Proofs
namespace Go.Cl.A
variable {σ : Sums}

/-- a table: its number, its keys, its type, its holder -/
structure Tab (ts : List CV) (ty ho : Int) (key : Nat → Int) : Prop where
  len : ts.length = 19
  one : ts.all CV.one = true
  ty : nth ts 17 = some (.int .i64 ty)
  ho : nth ts 18 = some (.int .i64 ho)
  key : ∀ i, i < 16 → nth ts (1 + i) = some (.int .u64 (key i))

def anyK (key : Nat → Int) : Bool := !((List.range 16).all fun i => decide (key i = 0))

def allZ : List Int → Option Bool
  | [] => some true
  | k :: l => cond (k == 0) (allZ l) (some false)
theorem allZ_eq : ∀ l, allZ l = some (l.all fun k => decide (k = 0))
  | [] => rfl
  | k :: l => by
    simp only [allZ, List.all_cons, allZ_eq l]
    by_cases h : k = 0
    · simp [h]
    · rw [show (k == 0) = false from beq_eq_false_iff_ne.2 h]; simp [h]

def mayT (ty ho : Int) (key : Nat → Int) : Bool :=
  if ty = 0 then decide (ho = 0) else if ty = 5 ∨ ty = 6 then decide (ho = 0) && anyK key
  else decide (1 ≤ ty ∧ ty ≤ 6 ∧ 0 ≤ ho ∧ ho < 16) && !decide (key ho.toNat = 0)

theorem loadNewBlk (cs : List CV) (n : Nat) (h : cs.length = n) : (newBlk cs).loadN 0 n = some cs :=
  loadN_of _ _ _ h fun i v hv => by rw [Nat.zero_add, newBlk_get, hv]

theorem ofAll_run (hσ : ∀ f a h, f ≠ 5 → σ f a h = none) (h : H) (ty : Int) : (lim Try.prog σ).call 26 [.int .i64 ty] h = some (.bool (decide (ty = 5 ∨ ty = 6)), none) := by
  rw [call_eq (hσ _ _ _ (by decide)) fn_26 rfl rfl, Try.ntmps26, Try.results26]
  by_cases h1 : ty = 5
  · simp only [go_sem, Nat.reduceLT, Nat.reduceLeDiff, Nat.reduceEqDiff, Nat.reduceAdd, Nat.reduceSub, Nat.reduceMul, reduceCtorEq, Int.reduceBEq, Int.reduceLT, Int.reduceLE, Int.reduceAdd, Int.reduceSub, Int.reduceEq, Int.reduceNeg, Int.reduceToNat, Int.reduceGT, Int.reduceGE, h1, true_or]
    rw [fin_q _ _ _ rfl rfl]
  · by_cases h2 : ty = 6
    · simp only [go_sem, Nat.reduceLT, Nat.reduceLeDiff, Nat.reduceEqDiff, Nat.reduceAdd, Nat.reduceSub, Nat.reduceMul, reduceCtorEq, Int.reduceBEq, Int.reduceLT, Int.reduceLE, Int.reduceAdd, Int.reduceSub, Int.reduceEq, Int.reduceNeg, Int.reduceToNat, Int.reduceGT, Int.reduceGE, h1, h2, or_true]
      rw [fin_q _ _ _ rfl rfl]
    · simp only [go_sem, Nat.reduceLT, Nat.reduceLeDiff, Nat.reduceEqDiff, Nat.reduceAdd, Nat.reduceSub, Nat.reduceMul, reduceCtorEq, Int.reduceBEq, Int.reduceLT, Int.reduceLE, Int.reduceAdd, Int.reduceSub, Int.reduceEq, Int.reduceNeg, Int.reduceToNat, Int.reduceGT, Int.reduceGE, h1, h2, or_self]
      rw [fin_q _ _ _ rfl rfl]
theorem isType_run (hσ : ∀ f a h, f ≠ 5 → σ f a h = none) (h : H) (ty : Int) : (lim Try.prog σ).call 27 [.int .i64 ty] h = some (.bool (decide (1 ≤ ty ∧ ty ≤ 6)), none) := by
  rw [call_eq (hσ _ _ _ (by decide)) fn_27 rfl rfl, Try.ntmps27, Try.results27]
  by_cases h1 : ty ≥ 1
  · have h1' : 1 ≤ ty := h1
    by_cases h2 : ty ≤ 6
    · simp only [go_sem, Nat.reduceLT, Nat.reduceLeDiff, Nat.reduceEqDiff, Nat.reduceAdd, Nat.reduceSub, Nat.reduceMul, reduceCtorEq, Int.reduceBEq, Int.reduceLT, Int.reduceLE, Int.reduceAdd, Int.reduceSub, Int.reduceEq, Int.reduceNeg, Int.reduceToNat, Int.reduceGT, Int.reduceGE, h1, h1', h2]
      rw [fin_q _ _ _ rfl rfl]
    · simp only [go_sem, Nat.reduceLT, Nat.reduceLeDiff, Nat.reduceEqDiff, Nat.reduceAdd, Nat.reduceSub, Nat.reduceMul, reduceCtorEq, Int.reduceBEq, Int.reduceLT, Int.reduceLE, Int.reduceAdd, Int.reduceSub, Int.reduceEq, Int.reduceNeg, Int.reduceToNat, Int.reduceGT, Int.reduceGE, h1, h1', h2, and_false]
      rw [fin_q _ _ _ rfl rfl]
  · have h1' : ¬ 1 ≤ ty := h1
    simp only [go_sem, Nat.reduceLT, Nat.reduceLeDiff, Nat.reduceEqDiff, Nat.reduceAdd, Nat.reduceSub, Nat.reduceMul, reduceCtorEq, Int.reduceBEq, Int.reduceLT, Int.reduceLE, Int.reduceAdd, Int.reduceSub, Int.reduceEq, Int.reduceNeg, Int.reduceToNat, Int.reduceGT, Int.reduceGE, h1, h1', false_and]
    rw [fin_q _ _ _ rfl rfl]
theorem init_run (hσ : ∀ f a h, f ≠ 5 → σ f a h = none) (h : H) (who : Int) : (lim Try.prog σ).call 28 [.int .i64 who] h = some (.bool (decide (0 ≤ who ∧ who < 16)), none) := by
  rw [call_eq (hσ _ _ _ (by decide)) fn_28 rfl rfl, Try.ntmps28, Try.results28]
  by_cases h1 : who ≥ 0
  · have h1' : 0 ≤ who := h1
    by_cases h2 : who < 16
    · simp only [go_sem, Nat.reduceLT, Nat.reduceLeDiff, Nat.reduceEqDiff, Nat.reduceAdd, Nat.reduceSub, Nat.reduceMul, reduceCtorEq, Int.reduceBEq, Int.reduceLT, Int.reduceLE, Int.reduceAdd, Int.reduceSub, Int.reduceEq, Int.reduceNeg, Int.reduceToNat, Int.reduceGT, Int.reduceGE, h1, h1', h2]
      rw [fin_q _ _ _ rfl rfl]
    · simp only [go_sem, Nat.reduceLT, Nat.reduceLeDiff, Nat.reduceEqDiff, Nat.reduceAdd, Nat.reduceSub, Nat.reduceMul, reduceCtorEq, Int.reduceBEq, Int.reduceLT, Int.reduceLE, Int.reduceAdd, Int.reduceSub, Int.reduceEq, Int.reduceNeg, Int.reduceToNat, Int.reduceGT, Int.reduceGE, h1, h1', h2, and_false]
      rw [fin_q _ _ _ rfl rfl]
  · have h1' : ¬ 0 ≤ who := h1
    simp only [go_sem, Nat.reduceLT, Nat.reduceLeDiff, Nat.reduceEqDiff, Nat.reduceAdd, Nat.reduceSub, Nat.reduceMul, reduceCtorEq, Int.reduceBEq, Int.reduceLT, Int.reduceLE, Int.reduceAdd, Int.reduceSub, Int.reduceEq, Int.reduceNeg, Int.reduceToNat, Int.reduceGT, Int.reduceGE, h1, h1', false_and]
    rw [fin_q _ _ _ rfl rfl]

/-- the keys, as one -/
theorem keys_ne {ts : List CV} {ty ho : Int} {key : Nat → Int} (T : Tab ts ty ho key) (xo yo : Operand) : ∃ ks, (newBlk ts).loadN 1 16 = some ks ∧
    binT Try.prog .neq 27 xo yo (.agg ks) (.agg [.int .u64 0, .int .u64 0, .int .u64 0, .int .u64 0, .int .u64 0, .int .u64 0, .int .u64 0, .int .u64 0, .int .u64 0, .int .u64 0, .int .u64 0, .int .u64 0, .int .u64 0, .int .u64 0, .int .u64 0, .int .u64 0]) = some (.bool (anyK key)) := by
  refine ⟨(List.range 16).map fun i => .int .u64 (key i), loadN_of _ _ _ (by simp) fun i v hv => ?_, ?_⟩
  · have hi : i < 16 := by
      rw [nth_eq] at hv
      have := (List.getElem?_eq_some_iff.1 hv).1
      simpa using this
    rw [newBlk_get, T.key i hi]
    rw [nth_eq] at hv
    simp [hi] at hv
    rw [hv]
  · rw [show ((List.range 16).map fun i => CV.int .u64 (key i)) = [.int .u64 (key 0), .int .u64 (key 1), .int .u64 (key 2), .int .u64 (key 3), .int .u64 (key 4), .int .u64 (key 5), .int .u64 (key 6), .int .u64 (key 7), .int .u64 (key 8), .int .u64 (key 9), .int .u64 (key 10), .int .u64 (key 11), .int .u64 (key 12), .int .u64 (key 13), .int .u64 (key 14), .int .u64 (key 15)] from rfl]
    have e : ∀ (k0 k1 k2 k3 k4 k5 k6 k7 k8 k9 k10 k11 k12 k13 k14 k15 : Int), binT Try.prog .neq 27 xo yo (.agg [.int .u64 k0, .int .u64 k1, .int .u64 k2, .int .u64 k3, .int .u64 k4, .int .u64 k5, .int .u64 k6, .int .u64 k7, .int .u64 k8, .int .u64 k9, .int .u64 k10, .int .u64 k11, .int .u64 k12, .int .u64 k13, .int .u64 k14, .int .u64 k15])
        (.agg [.int .u64 0, .int .u64 0, .int .u64 0, .int .u64 0, .int .u64 0, .int .u64 0, .int .u64 0, .int .u64 0, .int .u64 0, .int .u64 0, .int .u64 0, .int .u64 0, .int .u64 0, .int .u64 0, .int .u64 0, .int .u64 0]) =
        (allZ [k0, k1, k2, k3, k4, k5, k6, k7, k8, k9, k10, k11, k12, k13, k14, k15]).map fun b => CV.bool (!b) := by
      intros; kernel_rfl
    rw [e, allZ_eq]
    unfold anyK
    rw [show [key 0, key 1, key 2, key 3, key 4, key 5, key 6, key 7, key 8, key 9, key 10, key 11, key 12, key 13, key 14, key 15] = (List.range 16).map key from rfl, List.all_map]
    rfl

theorem may_run (hσ : ∀ f a h, f ≠ 5 → σ f a h = none) {ts : List CV} {ty ho : Int} {key : Nat → Int} (T : Tab ts ty ho key) (h : H) : (lim Try.prog σ).call 13 [.agg ts] h = some (.bool (mayT ty ho key), none) := by
  rw [call_eq (hσ _ _ _ (by decide)) fn_13 rfl rfl, Try.ntmps13, Try.results13]
  unfold mayT
  by_cases h0 : ty = 0
  · rw [if_pos h0]
    simp only [go_sem, Nat.reduceLT, Nat.reduceLeDiff, Nat.reduceEqDiff, Nat.reduceAdd, Nat.reduceSub, Nat.reduceMul, reduceCtorEq, Int.reduceBEq, Int.reduceLT, Int.reduceLE, Int.reduceAdd, Int.reduceSub, Int.reduceEq, Int.reduceNeg, Int.reduceToNat, Int.reduceGT, Int.reduceGE, T.one, T.ty, T.ho, h0]
    rw [fin_q _ _ _ rfl rfl]
  · rw [if_neg h0]
    by_cases h5 : ty = 5 ∨ ty = 6
    · rw [if_pos h5]
      obtain ⟨ks, k1, k2⟩ := keys_ne T (.tmp 17) (.tmp 18)
      by_cases hh : ho = 0
      · simp only [↓k1, go_sem, Nat.reduceLT, Nat.reduceLeDiff, Nat.reduceEqDiff, Nat.reduceAdd, Nat.reduceSub, Nat.reduceMul, reduceCtorEq, Int.reduceBEq, Int.reduceLT, Int.reduceLE, Int.reduceAdd, Int.reduceSub, Int.reduceEq, Int.reduceNeg, Int.reduceToNat, Int.reduceGT, Int.reduceGE, T.one, T.ty, T.ho, h0, ofAll_run hσ, h5, hh, k2]
        rw [fin_q _ _ _ rfl rfl]
      · simp only [↓k1, go_sem, Nat.reduceLT, Nat.reduceLeDiff, Nat.reduceEqDiff, Nat.reduceAdd, Nat.reduceSub, Nat.reduceMul, reduceCtorEq, Int.reduceBEq, Int.reduceLT, Int.reduceLE, Int.reduceAdd, Int.reduceSub, Int.reduceEq, Int.reduceNeg, Int.reduceToNat, Int.reduceGT, Int.reduceGE, T.one, T.ty, T.ho, h0, ofAll_run hσ, h5, hh, k2]
        rw [fin_q _ _ _ rfl rfl]
    · rw [if_neg h5]
      by_cases h1 : 1 ≤ ty ∧ ty ≤ 6
      · by_cases h2 : 0 ≤ ho ∧ ho < 16
        · obtain ⟨n, rfl⟩ : ∃ n : Nat, ho = Int.ofNat n := ⟨ho.toNat, by simp; omega⟩
          have hn : n < 16 := by have := h2.2; simp at this; omega
          have hk := T.key n hn
          have h3 : (1 ≤ ty ∧ ty ≤ 6 ∧ 0 ≤ Int.ofNat n ∧ Int.ofNat n < 16) = True := eq_true ⟨h1.1, h1.2, h2.1, h2.2⟩
          simp only [go_sem, Nat.reduceLT, Nat.reduceLeDiff, Nat.reduceEqDiff, Nat.reduceAdd, Nat.reduceSub, Nat.reduceMul, reduceCtorEq, Int.reduceBEq, Int.reduceLT, Int.reduceLE, Int.reduceAdd, Int.reduceSub, Int.reduceEq, Int.reduceNeg, Int.reduceToNat, Int.reduceGT, Int.reduceGE, T.one, T.ty, T.ho, h0, ofAll_run hσ, isType_run hσ, init_run hσ, h5, h1, h2, hn, hk, Nat.mul_one, h3]
          rw [fin_q _ _ _ rfl rfl]
          rfl
        · have h3 : (1 ≤ ty ∧ ty ≤ 6 ∧ 0 ≤ ho ∧ ho < 16) = False := eq_false fun q => h2 q.2.2
          simp only [go_sem, Nat.reduceLT, Nat.reduceLeDiff, Nat.reduceEqDiff, Nat.reduceAdd, Nat.reduceSub, Nat.reduceMul, reduceCtorEq, Int.reduceBEq, Int.reduceLT, Int.reduceLE, Int.reduceAdd, Int.reduceSub, Int.reduceEq, Int.reduceNeg, Int.reduceToNat, Int.reduceGT, Int.reduceGE, T.one, T.ty, T.ho, h0, ofAll_run hσ, isType_run hσ, init_run hσ, h5, h1, h2, h3]
          rw [fin_q _ _ _ rfl rfl]
      · have h3 : (1 ≤ ty ∧ ty ≤ 6 ∧ 0 ≤ ho ∧ ho < 16) = False := eq_false fun q => h1 ⟨q.1, q.2.1⟩
        simp only [go_sem, Nat.reduceLT, Nat.reduceLeDiff, Nat.reduceEqDiff, Nat.reduceAdd, Nat.reduceSub, Nat.reduceMul, reduceCtorEq, Int.reduceBEq, Int.reduceLT, Int.reduceLE, Int.reduceAdd, Int.reduceSub, Int.reduceEq, Int.reduceNeg, Int.reduceToNat, Int.reduceGT, Int.reduceGE, T.one, T.ty, T.ho, h0, ofAll_run hσ, isType_run hσ, init_run hσ, h5, h1, h3]
        rw [fin_q _ _ _ rfl rfl]

def inT (who : Int) : Bool := decide (0 ≤ who ∧ who < 16)
def writesT (ty ho who : Int) (key : Nat → Int) : Bool := if ty = 0 then true else if ty = 1 ∨ ty = 2 then decide (ho = who) else !decide (key who.toNat = 0)
def readsT (ty ho who : Int) (key : Nat → Int) : Bool := if ty = 0 ∨ ty = 1 ∨ ty = 3 ∨ ty = 5 then true else if ty = 2 then decide (ho = who) else !decide (key who.toNat = 0)

theorem writes_run (hσ : ∀ f a h, f ≠ 5 → σ f a h = none) {ts : List CV} {ty ho : Int} {key : Nat → Int} (T : Tab ts ty ho key) (h : H) (who : Int) :
    (lim Try.prog σ).call 16 [.agg ts, .int .i64 who] h = some (.bool (mayT ty ho key && inT who && writesT ty ho who key), none) := by
  rw [call_eq (hσ _ _ _ (by decide)) fn_16 rfl rfl, Try.ntmps16, Try.results16]
  have k1 := loadNewBlk ts 19 T.len
  cases hm : mayT ty ho key
  · simp only [↓k1, go_sem, Nat.reduceLT, Nat.reduceLeDiff, Nat.reduceEqDiff, Nat.reduceAdd, Nat.reduceSub, Nat.reduceMul, reduceCtorEq, Int.reduceBEq, Int.reduceLT, Int.reduceLE, Int.reduceAdd, Int.reduceSub, Int.reduceEq, Int.reduceNeg, Int.reduceToNat, Int.reduceGT, Int.reduceGE, T.one, T.ty, T.ho, may_run hσ T, hm]
    rw [fin_q _ _ _ rfl rfl]
  · by_cases hi : 0 ≤ who ∧ who < 16
    · obtain ⟨n, rfl⟩ : ∃ n : Nat, who = Int.ofNat n := ⟨who.toNat, by simp; omega⟩
      have hn : n < 16 := by have := hi.2; simp at this; omega
      have hk := T.key n hn
      have hI : inT (Int.ofNat n) = true := decide_eq_true hi
      unfold writesT
      by_cases h0 : ty = 0
      · subst h0
        rw [if_pos rfl]
        simp only [↓k1, go_sem, Nat.reduceLT, Nat.reduceLeDiff, Nat.reduceEqDiff, Nat.reduceAdd, Nat.reduceSub, Nat.reduceMul, reduceCtorEq, Int.reduceBEq, Int.reduceLT, Int.reduceLE, Int.reduceAdd, Int.reduceSub, Int.reduceEq, Int.reduceNeg, Int.reduceToNat, Int.reduceGT, Int.reduceGE, T.one, T.ty, T.ho, may_run hσ T, hm, init_run hσ, hi, hI]
        rw [fin_q _ _ _ rfl rfl]
      · rw [if_neg h0]
        by_cases h1 : ty = 1
        · subst h1
          rw [if_pos (.inl rfl)]
          simp only [↓k1, go_sem, Nat.reduceLT, Nat.reduceLeDiff, Nat.reduceEqDiff, Nat.reduceAdd, Nat.reduceSub, Nat.reduceMul, reduceCtorEq, Int.reduceBEq, Int.reduceLT, Int.reduceLE, Int.reduceAdd, Int.reduceSub, Int.reduceEq, Int.reduceNeg, Int.reduceToNat, Int.reduceGT, Int.reduceGE, T.one, T.ty, T.ho, may_run hσ T, hm, init_run hσ, hi, hI]
          rw [fin_q _ _ _ rfl rfl]
        · by_cases h2 : ty = 2
          · subst h2
            rw [if_pos (.inr rfl)]
            simp only [↓k1, go_sem, Nat.reduceLT, Nat.reduceLeDiff, Nat.reduceEqDiff, Nat.reduceAdd, Nat.reduceSub, Nat.reduceMul, reduceCtorEq, Int.reduceBEq, Int.reduceLT, Int.reduceLE, Int.reduceAdd, Int.reduceSub, Int.reduceEq, Int.reduceNeg, Int.reduceToNat, Int.reduceGT, Int.reduceGE, T.one, T.ty, T.ho, may_run hσ T, hm, init_run hσ, hi, hI]
            rw [fin_q _ _ _ rfl rfl]
          · rw [if_neg (by omega)]
            simp only [↓k1, go_sem, Nat.reduceLT, Nat.reduceLeDiff, Nat.reduceEqDiff, Nat.reduceAdd, Nat.reduceSub, Nat.reduceMul, reduceCtorEq, Int.reduceBEq, Int.reduceLT, Int.reduceLE, Int.reduceAdd, Int.reduceSub, Int.reduceEq, Int.reduceNeg, Int.reduceToNat, Int.reduceGT, Int.reduceGE, T.one, T.ty, T.ho, may_run hσ T, hm, init_run hσ, hi, hI, h0, h1, h2, hn, hk, Nat.mul_one]
            rw [fin_q _ _ _ rfl rfl]
            rfl
    · have hI : inT who = false := decide_eq_false hi
      simp only [↓k1, go_sem, Nat.reduceLT, Nat.reduceLeDiff, Nat.reduceEqDiff, Nat.reduceAdd, Nat.reduceSub, Nat.reduceMul, reduceCtorEq, Int.reduceBEq, Int.reduceLT, Int.reduceLE, Int.reduceAdd, Int.reduceSub, Int.reduceEq, Int.reduceNeg, Int.reduceToNat, Int.reduceGT, Int.reduceGE, T.one, T.ty, T.ho, may_run hσ T, hm, init_run hσ, hi, hI]
      rw [fin_q _ _ _ rfl rfl]

theorem reads_run (hσ : ∀ f a h, f ≠ 5 → σ f a h = none) {ts : List CV} {ty ho : Int} {key : Nat → Int} (T : Tab ts ty ho key) (h : H) (who : Int) :
    (lim Try.prog σ).call 14 [.agg ts, .int .i64 who] h = some (.bool (mayT ty ho key && inT who && readsT ty ho who key), none) := by
  rw [call_eq (hσ _ _ _ (by decide)) fn_14 rfl rfl, Try.ntmps14, Try.results14]
  have k1 := loadNewBlk ts 19 T.len
  cases hm : mayT ty ho key
  · simp only [↓k1, go_sem, Nat.reduceLT, Nat.reduceLeDiff, Nat.reduceEqDiff, Nat.reduceAdd, Nat.reduceSub, Nat.reduceMul, reduceCtorEq, Int.reduceBEq, Int.reduceLT, Int.reduceLE, Int.reduceAdd, Int.reduceSub, Int.reduceEq, Int.reduceNeg, Int.reduceToNat, Int.reduceGT, Int.reduceGE, T.one, T.ty, T.ho, may_run hσ T, hm]
    rw [fin_q _ _ _ rfl rfl]
  · by_cases hi : 0 ≤ who ∧ who < 16
    · obtain ⟨n, rfl⟩ : ∃ n : Nat, who = Int.ofNat n := ⟨who.toNat, by simp; omega⟩
      have hn : n < 16 := by have := hi.2; simp at this; omega
      have hk := T.key n hn
      have hI : inT (Int.ofNat n) = true := decide_eq_true hi
      unfold readsT
      by_cases h0 : ty = 0
      · subst h0
        rw [if_pos (.inl rfl)]
        simp only [↓k1, go_sem, Nat.reduceLT, Nat.reduceLeDiff, Nat.reduceEqDiff, Nat.reduceAdd, Nat.reduceSub, Nat.reduceMul, reduceCtorEq, Int.reduceBEq, Int.reduceLT, Int.reduceLE, Int.reduceAdd, Int.reduceSub, Int.reduceEq, Int.reduceNeg, Int.reduceToNat, Int.reduceGT, Int.reduceGE, T.one, T.ty, T.ho, may_run hσ T, hm, init_run hσ, hi, hI]
        rw [fin_q _ _ _ rfl rfl]
      by_cases h1 : ty = 1
      · subst h1
        rw [if_pos (.inr (.inl rfl))]
        simp only [↓k1, go_sem, Nat.reduceLT, Nat.reduceLeDiff, Nat.reduceEqDiff, Nat.reduceAdd, Nat.reduceSub, Nat.reduceMul, reduceCtorEq, Int.reduceBEq, Int.reduceLT, Int.reduceLE, Int.reduceAdd, Int.reduceSub, Int.reduceEq, Int.reduceNeg, Int.reduceToNat, Int.reduceGT, Int.reduceGE, T.one, T.ty, T.ho, may_run hσ T, hm, init_run hσ, hi, hI]
        rw [fin_q _ _ _ rfl rfl]
      by_cases h3 : ty = 3
      · subst h3
        rw [if_pos (.inr (.inr (.inl rfl)))]
        simp only [↓k1, go_sem, Nat.reduceLT, Nat.reduceLeDiff, Nat.reduceEqDiff, Nat.reduceAdd, Nat.reduceSub, Nat.reduceMul, reduceCtorEq, Int.reduceBEq, Int.reduceLT, Int.reduceLE, Int.reduceAdd, Int.reduceSub, Int.reduceEq, Int.reduceNeg, Int.reduceToNat, Int.reduceGT, Int.reduceGE, T.one, T.ty, T.ho, may_run hσ T, hm, init_run hσ, hi, hI]
        rw [fin_q _ _ _ rfl rfl]
      by_cases h5 : ty = 5
      · subst h5
        rw [if_pos (.inr (.inr (.inr rfl)))]
        simp only [↓k1, go_sem, Nat.reduceLT, Nat.reduceLeDiff, Nat.reduceEqDiff, Nat.reduceAdd, Nat.reduceSub, Nat.reduceMul, reduceCtorEq, Int.reduceBEq, Int.reduceLT, Int.reduceLE, Int.reduceAdd, Int.reduceSub, Int.reduceEq, Int.reduceNeg, Int.reduceToNat, Int.reduceGT, Int.reduceGE, T.one, T.ty, T.ho, may_run hσ T, hm, init_run hσ, hi, hI]
        rw [fin_q _ _ _ rfl rfl]
      rw [if_neg (by omega)]
      by_cases h2 : ty = 2
      · subst h2
        rw [if_pos rfl]
        simp only [↓k1, go_sem, Nat.reduceLT, Nat.reduceLeDiff, Nat.reduceEqDiff, Nat.reduceAdd, Nat.reduceSub, Nat.reduceMul, reduceCtorEq, Int.reduceBEq, Int.reduceLT, Int.reduceLE, Int.reduceAdd, Int.reduceSub, Int.reduceEq, Int.reduceNeg, Int.reduceToNat, Int.reduceGT, Int.reduceGE, T.one, T.ty, T.ho, may_run hσ T, hm, init_run hσ, hi, hI]
        rw [fin_q _ _ _ rfl rfl]
      · rw [if_neg h2]
        simp only [↓k1, go_sem, Nat.reduceLT, Nat.reduceLeDiff, Nat.reduceEqDiff, Nat.reduceAdd, Nat.reduceSub, Nat.reduceMul, reduceCtorEq, Int.reduceBEq, Int.reduceLT, Int.reduceLE, Int.reduceAdd, Int.reduceSub, Int.reduceEq, Int.reduceNeg, Int.reduceToNat, Int.reduceGT, Int.reduceGE, T.one, T.ty, T.ho, may_run hσ T, hm, init_run hσ, hi, hI, h0, h1, h3, h5, h2, hn, hk, Nat.mul_one]
        rw [fin_q _ _ _ rfl rfl]
        rfl
    · have hI : inT who = false := decide_eq_false hi
      simp only [↓k1, go_sem, Nat.reduceLT, Nat.reduceLeDiff, Nat.reduceEqDiff, Nat.reduceAdd, Nat.reduceSub, Nat.reduceMul, reduceCtorEq, Int.reduceBEq, Int.reduceLT, Int.reduceLE, Int.reduceAdd, Int.reduceSub, Int.reduceEq, Int.reduceNeg, Int.reduceToNat, Int.reduceGT, Int.reduceGE, T.one, T.ty, T.ho, may_run hσ T, hm, init_run hσ, hi, hI]
      rw [fin_q _ _ _ rfl rfl]

/-- a command of a kind, a block, an initiator; nothing else -/
noncomputable def rest47 : List CV := match zeroT Try.prog 47 with | some z => z.cells.drop 4 | none => []
noncomputable def cmdC (k who block : Int) : List CV := .int .u64 0 :: .int .i64 who :: .int .i64 k :: .int .i64 block :: rest47
theorem rest47_len : rest47.length = 261 := by kernel_rfl
theorem rest47_one : rest47.all CV.one = true := by kernel_rfl
theorem cmd_build (k who block : Int) : buildT Try.prog 47 [(2, .int .i64 k), (1, .int .i64 who), (3, .int .i64 block)] = some (.agg (cmdC k who block)) := by kernel_rfl
theorem cmd_build1 (k : Int) : buildT Try.prog 47 [(2, .int .i64 k)] = some (.agg (cmdC k 0 0)) := by kernel_rfl
theorem cmd_one (k who block : Int) : (cmdC k who block).all CV.one = true := by simp only [cmdC, List.all_cons, one_int, Bool.true_and]; exact rest47_one
theorem cmd_len (k who block : Int) : (cmdC k who block).length = 265 := by simp only [cmdC, List.length_cons, rest47_len]
theorem cmd_1 (k who block : Int) : nth (cmdC k who block) 1 = some (.int .i64 who) := rfl
theorem cmd_2 (k who block : Int) : nth (cmdC k who block) 2 = some (.int .i64 k) := rfl

theorem cwrites_run (hσ : ∀ f a h, f ≠ 5 → σ f a h = none) (h : H) (k who block : Int) : (lim Try.prog σ).call 15 [.agg (cmdC k who block)] h = some (.bool (decide (k = 2 ∨ k = 4 ∨ k = 5)), none) := by
  rw [call_eq (hσ _ _ _ (by decide)) fn_15 rfl rfl, Try.ntmps15, Try.results15]
  by_cases h2 : k = 2
  · simp only [go_sem, Nat.reduceLT, Nat.reduceLeDiff, Nat.reduceEqDiff, Nat.reduceAdd, Nat.reduceSub, Nat.reduceMul, reduceCtorEq, Int.reduceBEq, Int.reduceLT, Int.reduceLE, Int.reduceAdd, Int.reduceSub, Int.reduceEq, Int.reduceNeg, Int.reduceToNat, Int.reduceGT, Int.reduceGE, cmd_one, cmd_1, cmd_2, h2, true_or]
    rw [fin_q _ _ _ rfl rfl]
  by_cases h4 : k = 4
  · simp only [go_sem, Nat.reduceLT, Nat.reduceLeDiff, Nat.reduceEqDiff, Nat.reduceAdd, Nat.reduceSub, Nat.reduceMul, reduceCtorEq, Int.reduceBEq, Int.reduceLT, Int.reduceLE, Int.reduceAdd, Int.reduceSub, Int.reduceEq, Int.reduceNeg, Int.reduceToNat, Int.reduceGT, Int.reduceGE, cmd_one, cmd_1, cmd_2, h4, h2, true_or, or_true]
    rw [fin_q _ _ _ rfl rfl]
  by_cases h5 : k = 5
  · simp only [go_sem, Nat.reduceLT, Nat.reduceLeDiff, Nat.reduceEqDiff, Nat.reduceAdd, Nat.reduceSub, Nat.reduceMul, reduceCtorEq, Int.reduceBEq, Int.reduceLT, Int.reduceLE, Int.reduceAdd, Int.reduceSub, Int.reduceEq, Int.reduceNeg, Int.reduceToNat, Int.reduceGT, Int.reduceGE, cmd_one, cmd_1, cmd_2, h4, h2, h5, true_or, or_true]
    rw [fin_q _ _ _ rfl rfl]
  simp only [go_sem, Nat.reduceLT, Nat.reduceLeDiff, Nat.reduceEqDiff, Nat.reduceAdd, Nat.reduceSub, Nat.reduceMul, reduceCtorEq, Int.reduceBEq, Int.reduceLT, Int.reduceLE, Int.reduceAdd, Int.reduceSub, Int.reduceEq, Int.reduceNeg, Int.reduceToNat, Int.reduceGT, Int.reduceGE, cmd_one, cmd_1, cmd_2, h4, h2, h5, or_self]
  rw [fin_q _ _ _ rfl rfl]

def allowT (k ty ho who : Int) (key : Nat → Int) : Bool := mayT ty ho key && (if k = 1 then inT who && readsT ty ho who key else if k = 2 ∨ k = 4 ∨ k = 5 ∨ k = 3 then inT who && writesT ty ho who key else true)

set_option maxRecDepth 100000 in
theorem allowed_run (hσ : ∀ f a h, f ≠ 5 → σ f a h = none) {ts : List CV} {ty ho : Int} {key : Nat → Int} (T : Tab ts ty ho key) (h : H) (k who block : Int) :
    (lim Try.prog σ).call 9 [.agg (cmdC k who block), .agg ts] h = some (.bool (allowT k ty ho who key), none) := by
  rw [call_eq (hσ _ _ _ (by decide)) fn_9 rfl rfl, Try.ntmps9, Try.results9]
  have k1 := loadNewBlk ts 19 T.len
  have k2 := loadNewBlk (cmdC k who block) 265 (cmd_len k who block)
  unfold allowT
  cases hm : mayT ty ho key
  · simp only [↓k1, ↓k2, go_sem, Nat.reduceLT, Nat.reduceLeDiff, Nat.reduceEqDiff, Nat.reduceAdd, Nat.reduceSub, Nat.reduceMul, reduceCtorEq, Int.reduceBEq, Int.reduceLT, Int.reduceLE, Int.reduceAdd, Int.reduceSub, Int.reduceEq, Int.reduceNeg, Int.reduceToNat, Int.reduceGT, Int.reduceGE, T.one, may_run hσ T, hm, cmd_one, cmd_1, cmd_2]
    rw [fin_q _ _ _ rfl rfl]
  · by_cases h1 : k = 1
    · rw [if_pos h1]
      subst h1
      simp only [↓k1, ↓k2, go_sem, Nat.reduceLT, Nat.reduceLeDiff, Nat.reduceEqDiff, Nat.reduceAdd, Nat.reduceSub, Nat.reduceMul, reduceCtorEq, Int.reduceBEq, Int.reduceLT, Int.reduceLE, Int.reduceAdd, Int.reduceSub, Int.reduceEq, Int.reduceNeg, Int.reduceToNat, Int.reduceGT, Int.reduceGE, T.one, may_run hσ T, hm, cmd_one, cmd_1, cmd_2, reads_run hσ T]
      rw [fin_q _ _ _ rfl rfl]
    · rw [if_neg h1]
      by_cases h2 : k = 2 ∨ k = 4 ∨ k = 5
      · rw [if_pos (by omega)]
        simp only [↓k1, ↓k2, go_sem, Nat.reduceLT, Nat.reduceLeDiff, Nat.reduceEqDiff, Nat.reduceAdd, Nat.reduceSub, Nat.reduceMul, reduceCtorEq, Int.reduceBEq, Int.reduceLT, Int.reduceLE, Int.reduceAdd, Int.reduceSub, Int.reduceEq, Int.reduceNeg, Int.reduceToNat, Int.reduceGT, Int.reduceGE, T.one, may_run hσ T, hm, cmd_one, cmd_1, cmd_2, h1, cwrites_run hσ, h2, writes_run hσ T]
        rw [fin_q _ _ _ rfl rfl]
      · by_cases h3 : k = 3
        · subst h3
          rw [if_pos (by omega)]
          simp only [↓k1, ↓k2, go_sem, Nat.reduceLT, Nat.reduceLeDiff, Nat.reduceEqDiff, Nat.reduceAdd, Nat.reduceSub, Nat.reduceMul, reduceCtorEq, Int.reduceBEq, Int.reduceLT, Int.reduceLE, Int.reduceAdd, Int.reduceSub, Int.reduceEq, Int.reduceNeg, Int.reduceToNat, Int.reduceGT, Int.reduceGE, T.one, may_run hσ T, hm, cmd_one, cmd_1, cmd_2, cwrites_run hσ, or_self, writes_run hσ T]
          rw [fin_q _ _ _ rfl rfl]
        · rw [if_neg (by omega)]
          simp only [↓k1, ↓k2, go_sem, Nat.reduceLT, Nat.reduceLeDiff, Nat.reduceEqDiff, Nat.reduceAdd, Nat.reduceSub, Nat.reduceMul, reduceCtorEq, Int.reduceBEq, Int.reduceLT, Int.reduceLE, Int.reduceAdd, Int.reduceSub, Int.reduceEq, Int.reduceNeg, Int.reduceToNat, Int.reduceGT, Int.reduceGE, T.one, may_run hσ T, hm, cmd_one, cmd_1, cmd_2, h1, cwrites_run hσ, h2, h3]
          rw [fin_q _ _ _ rfl rfl]

def cnt (key : Nat → Int) : Nat → Nat
  | 0 => 0
  | n + 1 => if key n = 0 then cnt key n else cnt key n + 1
theorem cnt_le (key : Nat → Int) : ∀ n, cnt key n ≤ n
  | 0 => Nat.le_refl _
  | n + 1 => by have := cnt_le key n; simp only [cnt]; split <;> omega
theorem cnt_pos (key : Nat → Int) : ∀ n, 0 < cnt key n ↔ ∃ i, i < n ∧ key i ≠ 0
  | 0 => by simp [cnt]
  | n + 1 => by
    simp only [cnt]
    split
    · rename_i h
      rw [cnt_pos key n]
      constructor
      · rintro ⟨i, h1, h2⟩; exact ⟨i, by omega, h2⟩
      · rintro ⟨i, h1, h2⟩
        refine ⟨i, ?_, h2⟩
        rcases Nat.lt_or_ge i n with q | q
        · exact q
        · have : i = n := by omega
          subst this; exact absurd h h2
    · rename_i h
      exact ⟨fun _ => ⟨n, by omega, h⟩, fun _ => by omega⟩
theorem cnt_any (key : Nat → Int) : decide (Int.ofNat (cnt key 16) > 0) = anyK key := by
  have h1 : Int.ofNat (cnt key 16) > 0 ↔ 0 < cnt key 16 := by simp
  have h2 : anyK key = true ↔ ∃ i, i < 16 ∧ key i ≠ 0 := by
    unfold anyK
    simp
  rw [Bool.eq_iff_iff, decide_eq_true_iff, h1, cnt_pos, h2]

def ManyOk (key : Nat → Int) (r : Option (CV × Option H)) : Prop := r = some (.int .i64 (Int.ofNat (cnt key 16)), none)
theorem many_run (hσ : ∀ f a h, f ≠ 5 → σ f a h = none) {ts : List CV} {ty ho : Int} {key : Nat → Int} (T : Tab ts ty ho key) (h : H) : ManyOk key ((lim Try.prog σ).call 29 [.agg ts] h) := by
  rw [call_eq (hσ _ _ _ (by decide)) fn_29 rfl rfl, Try.ntmps29, Try.results29]
  simp only [go_sem, Nat.reduceLT, Nat.reduceLeDiff, Nat.reduceEqDiff, Nat.reduceAdd, Nat.reduceSub, Nat.reduceMul, reduceCtorEq, Int.reduceBEq, Int.reduceLT, Int.reduceLE, Int.reduceAdd, Int.reduceSub, Int.reduceEq, Int.reduceNeg, Int.reduceToNat, Int.reduceGT, Int.reduceGE, T.one]
  refine loop_ind (Q := ManyOk key) (fun i env h1 => evT env 1 = .ptr h.nx 0 ∧ evT env 3 = .int .i64 (Int.ofNat (cnt key i)) ∧ evT env 4 = .int .i64 (Int.ofNat i) ∧ h1 = h.lo.alloc (.cells (newBlk ts))) 16 0 ?_ (by decide) ?_ ?_
  · exact ⟨by simp only [go_sem, Nat.reduceLT, Nat.reduceLeDiff, Nat.reduceEqDiff, Nat.reduceAdd, Nat.reduceSub, Nat.reduceMul, reduceCtorEq, Int.reduceBEq, Int.reduceLT, Int.reduceLE, Int.reduceAdd, Int.reduceSub, Int.reduceEq, Int.reduceNeg, Int.reduceToNat, Int.reduceGT, Int.reduceGE], by simp only [go_sem, Nat.reduceLT, Nat.reduceLeDiff, Nat.reduceEqDiff, Nat.reduceAdd, Nat.reduceSub, Nat.reduceMul, reduceCtorEq, Int.reduceBEq, Int.reduceLT, Int.reduceLE, Int.reduceAdd, Int.reduceSub, Int.reduceEq, Int.reduceNeg, Int.reduceToNat, Int.reduceGT, Int.reduceGE]; rfl, by simp only [go_sem, Nat.reduceLT, Nat.reduceLeDiff, Nat.reduceEqDiff, Nat.reduceAdd, Nat.reduceSub, Nat.reduceMul, reduceCtorEq, Int.reduceBEq, Int.reduceLT, Int.reduceLE, Int.reduceAdd, Int.reduceSub, Int.reduceEq, Int.reduceNeg, Int.reduceToNat, Int.reduceGT, Int.reduceGE]; rfl, rfl⟩
  · rintro i env h1 ⟨e1, e3, e4, rfl⟩ hi next
    have hlt : Int.ofNat i < 16 := by simp; omega
    have hw : IntKind.wrap .i64 (Int.ofNat i + 1) = Int.ofNat (i + 1) := wrap_succ (by omega)
    have hw2 : IntKind.wrap .i64 (Int.ofNat (cnt key i) + 1) = Int.ofNat (cnt key i + 1) := wrap_succ (by have := cnt_le key i; omega)
    have hk := T.key i hi
    by_cases hz : key i = 0
    · simp only [go_sem, Nat.reduceLT, Nat.reduceLeDiff, Nat.reduceEqDiff, Nat.reduceAdd, Nat.reduceSub, Nat.reduceMul, reduceCtorEq, Int.reduceBEq, Int.reduceLT, Int.reduceLE, Int.reduceAdd, Int.reduceSub, Int.reduceEq, Int.reduceNeg, Int.reduceToNat, Int.reduceGT, Int.reduceGE, e1, e3, e4, hlt, hi, hk, hz, Nat.mul_one, hw]
      exact next _ _ ⟨by simp only [go_sem, Nat.reduceLT, Nat.reduceLeDiff, Nat.reduceEqDiff, Nat.reduceAdd, Nat.reduceSub, Nat.reduceMul, reduceCtorEq, Int.reduceBEq, Int.reduceLT, Int.reduceLE, Int.reduceAdd, Int.reduceSub, Int.reduceEq, Int.reduceNeg, Int.reduceToNat, Int.reduceGT, Int.reduceGE, e1], by simp only [go_sem, Nat.reduceLT, Nat.reduceLeDiff, Nat.reduceEqDiff, Nat.reduceAdd, Nat.reduceSub, Nat.reduceMul, reduceCtorEq, Int.reduceBEq, Int.reduceLT, Int.reduceLE, Int.reduceAdd, Int.reduceSub, Int.reduceEq, Int.reduceNeg, Int.reduceToNat, Int.reduceGT, Int.reduceGE, e3, cnt, hz, if_true], by simp only [go_sem, Nat.reduceLT, Nat.reduceLeDiff, Nat.reduceEqDiff, Nat.reduceAdd, Nat.reduceSub, Nat.reduceMul, reduceCtorEq, Int.reduceBEq, Int.reduceLT, Int.reduceLE, Int.reduceAdd, Int.reduceSub, Int.reduceEq, Int.reduceNeg, Int.reduceToNat, Int.reduceGT, Int.reduceGE], rfl⟩
    · simp only [go_sem, Nat.reduceLT, Nat.reduceLeDiff, Nat.reduceEqDiff, Nat.reduceAdd, Nat.reduceSub, Nat.reduceMul, reduceCtorEq, Int.reduceBEq, Int.reduceLT, Int.reduceLE, Int.reduceAdd, Int.reduceSub, Int.reduceEq, Int.reduceNeg, Int.reduceToNat, Int.reduceGT, Int.reduceGE, e1, e3, e4, hlt, hi, hk, hz, Nat.mul_one, hw, hw2]
      exact next _ _ ⟨by simp only [go_sem, Nat.reduceLT, Nat.reduceLeDiff, Nat.reduceEqDiff, Nat.reduceAdd, Nat.reduceSub, Nat.reduceMul, reduceCtorEq, Int.reduceBEq, Int.reduceLT, Int.reduceLE, Int.reduceAdd, Int.reduceSub, Int.reduceEq, Int.reduceNeg, Int.reduceToNat, Int.reduceGT, Int.reduceGE, e1], by simp only [go_sem, Nat.reduceLT, Nat.reduceLeDiff, Nat.reduceEqDiff, Nat.reduceAdd, Nat.reduceSub, Nat.reduceMul, reduceCtorEq, Int.reduceBEq, Int.reduceLT, Int.reduceLE, Int.reduceAdd, Int.reduceSub, Int.reduceEq, Int.reduceNeg, Int.reduceToNat, Int.reduceGT, Int.reduceGE, cnt, hz, if_false], by simp only [go_sem, Nat.reduceLT, Nat.reduceLeDiff, Nat.reduceEqDiff, Nat.reduceAdd, Nat.reduceSub, Nat.reduceMul, reduceCtorEq, Int.reduceBEq, Int.reduceLT, Int.reduceLE, Int.reduceAdd, Int.reduceSub, Int.reduceEq, Int.reduceNeg, Int.reduceToNat, Int.reduceGT, Int.reduceGE], rfl⟩
  · rintro env h1 ⟨e1, e3, e4, rfl⟩
    have hlt : ¬ Int.ofNat 16 < 16 := by simp
    simp only [go_sem, Nat.reduceLT, Nat.reduceLeDiff, Nat.reduceEqDiff, Nat.reduceAdd, Nat.reduceSub, Nat.reduceMul, reduceCtorEq, Int.reduceBEq, Int.reduceLT, Int.reduceLE, Int.reduceAdd, Int.reduceSub, Int.reduceEq, Int.reduceNeg, Int.reduceToNat, Int.reduceGT, Int.reduceGE, e1, e3, e4, hlt]
    rw [fin_q _ _ _ rfl rfl]
    rfl

set_option maxRecDepth 100000 in
theorem rmay_run (hσ : ∀ f a h, f ≠ 5 → σ f a h = none) {ts : List CV} {ty ho : Int} {key : Nat → Int} (T : Tab ts ty ho key) (h : H) : (lim Try.prog σ).call 17 [.agg ts] h = some (.bool (mayT ty ho key), none) := by
  rw [call_eq (hσ _ _ _ (by decide)) fn_17 rfl rfl, Try.ntmps17, Try.results17]
  have k1 := loadNewBlk ts 19 T.len
  have km : ∀ h, (lim Try.prog σ).call 29 [.agg ts] h = some (.int .i64 (Int.ofNat (cnt key 16)), none) := fun h => many_run hσ T h
  unfold mayT
  by_cases h1 : ty < 0
  · have z1 : (if ty = 0 then decide (ho = 0) else if ty = 5 ∨ ty = 6 then decide (ho = 0) && anyK key else decide (1 ≤ ty ∧ ty ≤ 6 ∧ 0 ≤ ho ∧ ho < 16) && !decide (key ho.toNat = 0)) = false := by
      rw [if_neg (by omega), if_neg (by omega), decide_eq_false (by omega)]; rfl
    rw [z1]
    simp only [go_sem, Nat.reduceLT, Nat.reduceLeDiff, Nat.reduceEqDiff, Nat.reduceAdd, Nat.reduceSub, Nat.reduceMul, reduceCtorEq, Int.reduceBEq, Int.reduceLT, Int.reduceLE, Int.reduceAdd, Int.reduceSub, Int.reduceEq, Int.reduceNeg, Int.reduceToNat, Int.reduceGT, Int.reduceGE, T.one, T.ty, T.ho, h1]
    rw [fin_q _ _ _ rfl rfl]
  by_cases h2 : ty > 6
  · have z1 : (if ty = 0 then decide (ho = 0) else if ty = 5 ∨ ty = 6 then decide (ho = 0) && anyK key else decide (1 ≤ ty ∧ ty ≤ 6 ∧ 0 ≤ ho ∧ ho < 16) && !decide (key ho.toNat = 0)) = false := by
      rw [if_neg (by omega), if_neg (by omega), decide_eq_false (by omega)]; rfl
    rw [z1]
    simp only [go_sem, Nat.reduceLT, Nat.reduceLeDiff, Nat.reduceEqDiff, Nat.reduceAdd, Nat.reduceSub, Nat.reduceMul, reduceCtorEq, Int.reduceBEq, Int.reduceLT, Int.reduceLE, Int.reduceAdd, Int.reduceSub, Int.reduceEq, Int.reduceNeg, Int.reduceToNat, Int.reduceGT, Int.reduceGE, T.one, T.ty, T.ho, h1, h2]
    rw [fin_q _ _ _ rfl rfl]
  by_cases h3 : ho < 0
  · have z1 : (if ty = 0 then decide (ho = 0) else if ty = 5 ∨ ty = 6 then decide (ho = 0) && anyK key else decide (1 ≤ ty ∧ ty ≤ 6 ∧ 0 ≤ ho ∧ ho < 16) && !decide (key ho.toNat = 0)) = false := by
      rw [decide_eq_false (show ¬ ho = 0 by omega), decide_eq_false (show ¬ (1 ≤ ty ∧ ty ≤ 6 ∧ 0 ≤ ho ∧ ho < 16) by omega)]; simp
    rw [z1]
    simp only [go_sem, Nat.reduceLT, Nat.reduceLeDiff, Nat.reduceEqDiff, Nat.reduceAdd, Nat.reduceSub, Nat.reduceMul, reduceCtorEq, Int.reduceBEq, Int.reduceLT, Int.reduceLE, Int.reduceAdd, Int.reduceSub, Int.reduceEq, Int.reduceNeg, Int.reduceToNat, Int.reduceGT, Int.reduceGE, T.one, T.ty, T.ho, h1, h2, h3]
    rw [fin_q _ _ _ rfl rfl]
  by_cases h4 : ho > 15
  · have z1 : (if ty = 0 then decide (ho = 0) else if ty = 5 ∨ ty = 6 then decide (ho = 0) && anyK key else decide (1 ≤ ty ∧ ty ≤ 6 ∧ 0 ≤ ho ∧ ho < 16) && !decide (key ho.toNat = 0)) = false := by
      rw [decide_eq_false (show ¬ ho = 0 by omega), decide_eq_false (show ¬ (1 ≤ ty ∧ ty ≤ 6 ∧ 0 ≤ ho ∧ ho < 16) by omega)]; simp
    rw [z1]
    simp only [go_sem, Nat.reduceLT, Nat.reduceLeDiff, Nat.reduceEqDiff, Nat.reduceAdd, Nat.reduceSub, Nat.reduceMul, reduceCtorEq, Int.reduceBEq, Int.reduceLT, Int.reduceLE, Int.reduceAdd, Int.reduceSub, Int.reduceEq, Int.reduceNeg, Int.reduceToNat, Int.reduceGT, Int.reduceGE, T.one, T.ty, T.ho, h1, h2, h3, h4]
    rw [fin_q _ _ _ rfl rfl]
  by_cases h0 : ty = 0
  · rw [if_pos h0]
    subst h0
    simp only [go_sem, Nat.reduceLT, Nat.reduceLeDiff, Nat.reduceEqDiff, Nat.reduceAdd, Nat.reduceSub, Nat.reduceMul, reduceCtorEq, Int.reduceBEq, Int.reduceLT, Int.reduceLE, Int.reduceAdd, Int.reduceSub, Int.reduceEq, Int.reduceNeg, Int.reduceToNat, Int.reduceGT, Int.reduceGE, T.one, T.ty, T.ho, h1, h2, h3, h4]
    rw [fin_q _ _ _ rfl rfl]
  rw [if_neg h0]
  by_cases h5 : ty ≥ 5
  · rw [if_pos (by omega)]
    by_cases hh : ho = 0
    · subst hh
      simp only [↓k1, go_sem, Nat.reduceLT, Nat.reduceLeDiff, Nat.reduceEqDiff, Nat.reduceAdd, Nat.reduceSub, Nat.reduceMul, reduceCtorEq, Int.reduceBEq, Int.reduceLT, Int.reduceLE, Int.reduceAdd, Int.reduceSub, Int.reduceEq, Int.reduceNeg, Int.reduceToNat, Int.reduceGT, Int.reduceGE, T.one, T.ty, T.ho, h1, h2, h3, h4, h0, h5, km, cnt_any]
      rw [fin_q _ _ _ rfl rfl]
    · simp only [↓k1, go_sem, Nat.reduceLT, Nat.reduceLeDiff, Nat.reduceEqDiff, Nat.reduceAdd, Nat.reduceSub, Nat.reduceMul, reduceCtorEq, Int.reduceBEq, Int.reduceLT, Int.reduceLE, Int.reduceAdd, Int.reduceSub, Int.reduceEq, Int.reduceNeg, Int.reduceToNat, Int.reduceGT, Int.reduceGE, T.one, T.ty, T.ho, h1, h2, h3, h4, h0, h5, hh]
      rw [fin_q _ _ _ rfl rfl]
  · rw [if_neg (by omega), decide_eq_true (show 1 ≤ ty ∧ ty ≤ 6 ∧ 0 ≤ ho ∧ ho < 16 by omega)]
    obtain ⟨n, rfl⟩ : ∃ n : Nat, ho = Int.ofNat n := ⟨ho.toNat, by simp; omega⟩
    have hn : n < 16 := by simp at h4; omega
    have hk := T.key n hn
    simp only [go_sem, Nat.reduceLT, Nat.reduceLeDiff, Nat.reduceEqDiff, Nat.reduceAdd, Nat.reduceSub, Nat.reduceMul, reduceCtorEq, Int.reduceBEq, Int.reduceLT, Int.reduceLE, Int.reduceAdd, Int.reduceSub, Int.reduceEq, Int.reduceNeg, Int.reduceToNat, Int.reduceGT, Int.reduceGE, T.one, T.ty, T.ho, h1, h2, h3, h4, h0, h5, hn, hk, Nat.mul_one]
    rw [fin_q _ _ _ rfl rfl]
    rfl
end Go.Cl.A

namespace Go.Cl.A
variable {σ : Sums}

/-- an answer's cells -/
structure Ans (az : List CV) (code kind : Int) (data ts : List CV) (out : CV) : Prop where
  hlen : az.length = 279
  hone : az.all CV.one = true
  hcode : nth az 1 = some (.int .i64 code)
  hkind : nth az 2 = some (.int .i64 kind)
  hdata : (newBlk az).loadN 3 256 = some data
  hdlen : data.length = 256
  hdone : data.all CV.one = true
  hdint : ∀ i, i < 256 → ∃ m, nth data i = some (.int .u8 m)
  htab : (newBlk az).loadN 259 19 = some ts
  htabT : ∃ ty ho key, Tab ts ty ho key
  htab0 : ∃ m, nth ts 0 = some (.int .u64 m)
  hout : nth az 278 = some out

noncomputable def z26 : List CV := match zeroT Try.prog 26 with | some z => z.cells | none => []
theorem z26_eq : zeroT Try.prog 26 = some (.agg z26) := by kernel_rfl
theorem z26_len : z26.length = 256 := by kernel_rfl
theorem z26_one : z26.all CV.one = true := by kernel_rfl
noncomputable def z30 : List CV := match zeroT Try.prog 30 with | some z => z.cells | none => []
theorem z30_eq : zeroT Try.prog 30 = some (.agg z30) := by kernel_rfl
theorem z30_len : z30.length = 19 := by kernel_rfl
theorem z30_one : z30.all CV.one = true := by kernel_rfl

theorem store_all {zs cs : List CV} {n : Nat} (hz : zs.length = n) (hc : cs.length = n) (ho : cs.all CV.one = true) : ∃ b', (newBlk zs).storeN 0 cs = some b' ∧ b'.n = n ∧ b'.ro = false ∧ b'.loadN 0 n = some cs := by
  obtain ⟨b', e, h1, h2, h3⟩ := storeN_ok cs (newBlk zs) 0 (by rw [wnewBlk_n]; omega) ho
  refine ⟨b', e, by rw [h1, wnewBlk_n, hz], by rw [h2, newBlk_ro], loadN_of _ _ _ hc fun i v hv => ?_⟩
  have hi : i < cs.length := by rw [nth_eq] at hv; exact (List.getElem?_eq_some_iff.1 hv).1
  rw [Nat.zero_add, h3, if_pos ⟨Nat.zero_le _, by omega⟩, Nat.sub_zero, hv]

theorem data_same {data : List CV} (h : ∀ i, i < 256 → ∃ m, nth data i = some (.int .u8 m)) (xo yo : Operand) : binT Try.prog .neq 26 xo yo (.agg data) (.agg data) = some (.bool false) := by
  have e := eqIn_arr (fuel := 98) (cs := data) Try.underlying26 (show Try.prog.underlying 5 = some (.int .u8) from Try.underlying5) sz_5 (by kernel_rfl) h
  show cond (eqOk Try.prog 26 xo yo (.agg data) (.agg data)) ((eqIn Try.prog 100 26 (.agg data) (.agg data)).map fun b => CV.bool (!b)) none = _
  rw [e, show eqOk Try.prog 26 xo yo (.agg data) (.agg data) = true from by kernel_rfl]
  rfl

theorem tab_same {ts : List CV} {ty ho : Int} {key : Nat → Int} (T : Tab ts ty ho key) (h0 : ∃ m, nth ts 0 = some (.int .u64 m)) (xo yo : Operand) : binT Try.prog .neq 30 xo yo (.agg ts) (.agg ts) = some (.bool false) := by
  obtain ⟨g, hg⟩ := h0
  have hk : eqIn Try.prog 99 27 (.agg ((ts.drop 1).take 16)) (.agg ((ts.drop 1).take 16)) = some true := eqIn_arr (fuel := 97) Try.underlying27 Try.underlying22 sz_22 (by kernel_rfl) fun i hi => by
    refine ⟨key i, ?_⟩
    rw [nth_eq, List.getElem?_take, if_pos hi, List.getElem?_drop, ← nth_eq, T.key i hi]
  have e : eqIn Try.prog 100 30 (.agg ts) (.agg ts) = ((nth ts 0).bind fun a => (nth ts 0).bind fun b => eqIn Try.prog 99 22 a b).bind fun r => cond r ((eqIn Try.prog 99 27 (.agg ((ts.drop 1).take 16)) (.agg ((ts.drop 1).take 16))).bind fun r => cond r
      (((nth ts 17).bind fun a => (nth ts 17).bind fun b => eqIn Try.prog 99 28 a b).bind fun r => cond r (((nth ts 18).bind fun a => (nth ts 18).bind fun b => eqIn Try.prog 99 3 a b).bind fun r => cond r (some true) (some false)) (some false)) (some false)) (some false) := by kernel_rfl
  have e1 : ∀ n : Int, eqIn Try.prog 99 22 (.int .u64 n) (.int .u64 n) = some true := fun n => eqIn_int (fuel := 98) Try.underlying22
  have e2 : ∀ n : Int, eqIn Try.prog 99 28 (.int .i64 n) (.int .i64 n) = some true := fun n => eqIn_int (fuel := 98) Try.underlying28
  have e3 : ∀ n : Int, eqIn Try.prog 99 3 (.int .i64 n) (.int .i64 n) = some true := fun n => eqIn_int (fuel := 98) Try.underlying3
  rw [hg, hk, T.ty, T.ho] at e
  simp only [Option.bind_some, e1, e2, e3, cond_true] at e
  show cond (eqOk Try.prog 30 xo yo (.agg ts) (.agg ts)) ((eqIn Try.prog 100 30 (.agg ts) (.agg ts)).map fun b => CV.bool (!b)) none = _
  rw [e, show eqOk Try.prog 30 xo yo (.agg ts) (.agg ts) = true from by kernel_rfl]
  rfl

/-- numbers that a slice reads -/
structure Ints (h : H) (v : CV) (n : Nat) (xs : List CV) : Prop where
  hlen : ∀ h' ts az, builtinT Try.prog h' .len (31 :: ts) (v :: az) = some (.val (.int .i64 (Int.ofNat n)))
  helt : ∀ i, i < n → ∃ id off b m, (∀ kd, indexAddrT Try.prog 31 v (.int kd (Int.ofNat i)) = some (.ptr id off)) ∧ id < h.nx ∧ h.blk id = some b ∧ b.get off = some (.int .i64 m) ∧ nth xs i = some (.int .i64 m)
theorem Ints.ext {h h' : H} {v : CV} {n : Nat} {xs : List CV} (I : Ints h v n xs) (e : Ext h h') : Ints h' v n xs :=
  ⟨I.hlen, fun i hi => by
    obtain ⟨id, off, b, m, h1, h2, h3, h4, h5⟩ := I.helt i hi
    exact ⟨id, off, b, m, h1, Nat.lt_of_lt_of_le h2 e.nx, (e.blk h2).trans h3, h4, h5⟩⟩

/-- how an argument's slice looks -/
def Form (h : H) (v : CV) (n : Nat) (xs : List CV) : Prop := xs.length = n ∧ (∀ i, i < n → ∃ m, nth xs i = some (.int .i64 m)) ∧
  ((v = .nils ∧ n = 0) ∨ (∃ id, v = .sl0 id 0 0 0 ∧ n = 0) ∨ (∃ id c b, v = .sl id 0 n c ∧ id < h.nx ∧ h.blk id = some b ∧ ∀ i x, nth xs i = some x → b.get i = some x))

theorem cellsOf_3' : Try.prog.cellsOf 3 = 1 := by kernel_rfl

theorem form_of {h : H} {v : CV} (r : Rd Try.prog h 31 [v]) : ∃ n xs, Form h v n xs := by
  generalize hcs : [v] = cs at r
  cases r with
  | nils ht => simp at hcs; subst hcs; exact ⟨0, [], rfl, fun i hi => absurd hi (by omega), .inl ⟨rfl, rfl⟩⟩
  | sl0 id ht hid => simp at hcs; subst hcs; exact ⟨0, [], rfl, fun i hi => absurd hi (by omega), .inr (.inl ⟨id, rfl, rfl⟩)⟩
  | sl id len cap b xs ht hid hl hcap hb hro hxl hxg hx =>
    simp at hcs; subst hcs
    rw [Try.underlying31] at ht; cases ht
    rw [cellsOf_3'] at hxl hxg
    obtain ⟨l, hll, hq⟩ := list_of (Q := fun i (m : Int) => xs i = [.int .i64 m]) len fun i hi => by
      obtain ⟨m, e, _⟩ := (hx i hi).int_inv Try.underlying3
      exact ⟨m, e⟩
    refine ⟨len, l.map (.int .i64 ·), by simp [hll], fun i hi => ?_, .inr (.inr ⟨id, _, b, rfl, hid, hb, fun i x hx => ?_⟩)⟩
    · exact ⟨l[i]'(by omega), by rw [nth_eq]; simp [show i < l.length by omega]⟩
    · rw [nth_eq, List.getElem?_map] at hx
      obtain ⟨m, hm, rfl⟩ := Option.map_eq_some_iff.1 hx
      have hi : i < len := by have := (List.getElem?_eq_some_iff.1 hm).1; omega
      have := hxg i 0 (.int .i64 m) hi (by rw [hq i m hm]; rfl)
      rwa [Nat.mul_one, Nat.add_zero] at this
  | _ => simp_all

theorem Form.ints {h : H} {v : CV} {n : Nat} {xs : List CV} (f : Form h v n xs) : Ints h v n xs := by
  obtain ⟨hl, hm, hv⟩ := f
  rcases hv with ⟨rfl, rfl⟩ | ⟨id, rfl, rfl⟩ | ⟨id, c, b, rfl, hid, hb, hg⟩
  · exact ⟨fun _ _ _ => by rw [len_31_n]; rfl, fun i hi => absurd hi (by omega)⟩
  · exact ⟨fun _ _ _ => by simp [builtinT, Try.underlying31, lenC], fun i hi => absurd hi (by omega)⟩
  · refine ⟨fun _ _ _ => by rw [len_31], fun i hi => ?_⟩
    obtain ⟨m, hm⟩ := hm i hi
    exact ⟨id, i, b, m, fun kd => by rw [ia_31, blt_eq', decide_eq_true hi, cond_true, Nat.zero_add, Nat.mul_one], hid, hb, hg i _ hm, hm⟩

def IClone (h : H) (n : Nat) (xs : List CV) (r : Option (CV × Option H)) : Prop := ∃ v' x, r = some (v', x) ∧ (Ext h (x.getD h) ∧ Ints (x.getD h) v' n xs ∧ (n ≠ 0 → ∃ id c, v' = .sl id 0 n c ∧ h.nx ≤ id))

theorem iclone_run (hσ : ∀ f a h, f ≠ 5 → σ f a h = none) {h : H} {v : CV} {n : Nat} {xs : List CV} (F : Form h v n xs) (room : n ≤ 300) : IClone h n xs ((lim Try.prog σ).call 12 [v] h) := by
  have I := F.ints
  rw [call_eq (hσ _ _ _ (by decide)) fn_12 rfl rfl, Try.ntmps12, Try.results12]
  obtain ⟨hl, hm, hv⟩ := F
  have hone : xs.all CV.one = true := List.all_eq_true.2 fun x hx => by
    obtain ⟨i, hi, rfl⟩ := List.getElem_of_mem hx
    obtain ⟨m, e⟩ := hm i (by omega)
    rw [nth_eq, List.getElem?_eq_getElem hi] at e
    rw [Option.some.inj e]; rfl
  rcases hv with ⟨rfl, rfl⟩ | ⟨id, rfl, rfl⟩ | ⟨id, c, b, rfl, hid, hb, hg⟩
  · simp only [go_sem, Nat.reduceLT, Nat.reduceLeDiff, Nat.reduceEqDiff, Nat.reduceAdd, Nat.reduceSub, Nat.reduceMul, reduceCtorEq, Int.reduceBEq, Int.reduceLT, Int.reduceLE, Int.reduceAdd, Int.reduceSub, Int.reduceEq, Int.reduceNeg, Int.reduceToNat, Int.reduceGT, Int.reduceGE]
    rw [fin_q _ _ _ rfl rfl]
    exact ⟨_, _, rfl, Ext.refl _, I, fun h => absurd rfl h⟩
  · have ha := fun o => appS_0 (X := h.lo.alloc (.cells o)) (id := h.nx) (size := 1) (by_ := 8) (zl := 1) rfl (by decide)
    simp only [go_sem, Nat.reduceLT, Nat.reduceLeDiff, Nat.reduceEqDiff, Nat.reduceAdd, Nat.reduceSub, Nat.reduceMul, reduceCtorEq, Int.reduceBEq, Int.reduceLT, Int.reduceLE, Int.reduceAdd, Int.reduceSub, Int.reduceEq, Int.reduceNeg, Int.reduceToNat, Int.reduceGT, Int.reduceGE, ha]
    rw [fin_new _ _ _ (by simp only [go_sem, Nat.reduceLT, Nat.reduceLeDiff, Nat.reduceEqDiff, Nat.reduceAdd, Nat.reduceSub, Nat.reduceMul, reduceCtorEq, Int.reduceBEq, Int.reduceLT, Int.reduceLE, Int.reduceAdd, Int.reduceSub, Int.reduceEq, Int.reduceNeg, Int.reduceToNat, Int.reduceGT, Int.reduceGE]; exact decide_eq_false (by omega))]
    exact ⟨_, _, rfl, ((Ext.lo h).alloc' _ |>.up' _), ⟨fun _ _ _ => by rw [len_31], fun i hi => absurd hi (by omega)⟩, fun h => absurd rfl h⟩
  · have hne : id ≠ h.nx := by omega
    by_cases h0 : n = 0
    · subst h0
      have hld : b.loadN 0 (0 * 1) = some [] := rfl
      have ha := fun o => appS_0 (X := h.lo.alloc (.cells o)) (id := h.nx) (size := 1) (by_ := 8) (zl := 1) rfl (by decide)
      simp only [go_sem, Nat.reduceLT, Nat.reduceLeDiff, Nat.reduceEqDiff, Nat.reduceAdd, Nat.reduceSub, Nat.reduceMul, reduceCtorEq, Int.reduceBEq, Int.reduceLT, Int.reduceLE, Int.reduceAdd, Int.reduceSub, Int.reduceEq, Int.reduceNeg, Int.reduceToNat, Int.reduceGT, Int.reduceGE, hb, hne, ha]
      rw [fin_new _ _ _ (by simp only [go_sem, Nat.reduceLT, Nat.reduceLeDiff, Nat.reduceEqDiff, Nat.reduceAdd, Nat.reduceSub, Nat.reduceMul, reduceCtorEq, Int.reduceBEq, Int.reduceLT, Int.reduceLE, Int.reduceAdd, Int.reduceSub, Int.reduceEq, Int.reduceNeg, Int.reduceToNat, Int.reduceGT, Int.reduceGE]; exact decide_eq_false (by omega))]
      exact ⟨_, _, rfl, ((Ext.lo h).alloc' _ |>.up' _), ⟨fun _ _ _ => by rw [len_31], fun i hi => absurd hi (by omega)⟩, fun h => absurd rfl h⟩
    · have hld : b.loadN 0 (n * 1) = some xs := loadN_of _ _ _ (by omega) fun i x hx => by rw [Nat.zero_add]; exact hg i x hx
      have ha := fun o => appS_exact0 (X := h.lo.alloc (.cells o)) (id := h.nx) (m := n) (size := 1) (by_ := 8) (alloc_blk_same _ _ _ rfl) (by omega) (by omega) hone (show 1 = 1 from rfl) (by decide) (by omega) (by omega)
      simp only [go_sem, Nat.reduceLT, Nat.reduceLeDiff, Nat.reduceEqDiff, Nat.reduceAdd, Nat.reduceSub, Nat.reduceMul, reduceCtorEq, Int.reduceBEq, Int.reduceLT, Int.reduceLE, Int.reduceAdd, Int.reduceSub, Int.reduceEq, Int.reduceNeg, Int.reduceToNat, Int.reduceGT, Int.reduceGE, hb, hne, hld, ha]
      rw [fin_new _ _ _ (by simp only [go_sem, Nat.reduceLT, Nat.reduceLeDiff, Nat.reduceEqDiff, Nat.reduceAdd, Nat.reduceSub, Nat.reduceMul, reduceCtorEq, Int.reduceBEq, Int.reduceLT, Int.reduceLE, Int.reduceAdd, Int.reduceSub, Int.reduceEq, Int.reduceNeg, Int.reduceToNat, Int.reduceGT, Int.reduceGE]; exact decide_eq_false (by omega))]
      refine ⟨_, _, rfl, ((Ext.lo h).alloc' _ |>.alloc' _ |>.up' _), ⟨fun _ _ _ => by rw [len_31], fun i hi => ?_⟩, fun _ => ⟨_, _, rfl, by omega⟩⟩
      obtain ⟨m, hmi⟩ := hm i hi
      exact ⟨h.nx + 1, i, _, m, fun kd => by rw [ia_31, blt_eq', decide_eq_true hi, cond_true, Nat.zero_add, Nat.mul_one], by simp only [go_sem, Nat.reduceLT, Nat.reduceLeDiff, Nat.reduceEqDiff, Nat.reduceAdd, Nat.reduceSub, Nat.reduceMul, reduceCtorEq, Int.reduceBEq, Int.reduceLT, Int.reduceLE, Int.reduceAdd, Int.reduceSub, Int.reduceEq, Int.reduceNeg, Int.reduceToNat, Int.reduceGT, Int.reduceGE], alloc_blk_same _ _ _ rfl, by rw [fillB_get _ _ _ (by omega), hmi], hmi⟩

def PartR (h : H) (code kind : Int) (data ts : List CV) (n : Nat) (xs : List CV) (v : CV) (x : Option H) : Prop := Ext h (x.getD h) ∧
  if code ≠ 0 then v = .ifc 23 (.int .i64 code) else if kind = 1 then v = .ifc 26 (.agg data) else if kind = 6 then v = .ifc 30 (.agg ts) else if kind = 7 then ∃ v', v = .ifc 31 v' ∧ Ints (x.getD h) v' n xs else v = .nili
def PartOk (h : H) (code kind : Int) (data ts : List CV) (n : Nat) (xs : List CV) (r : Option (CV × Option H)) : Prop := ∃ v x, r = some (v, x) ∧ PartR h code kind data ts n xs v x

theorem part_run (hσ : ∀ f a h, f ≠ 5 → σ f a h = none) {az : List CV} {code kind : Int} {data ts : List CV} {out : CV} (A : Ans az code kind data ts out) {h : H} {n : Nat} {xs : List CV} (F : Form h out n xs) (room : n ≤ 300) :
    PartOk h code kind data ts n xs ((lim Try.prog σ).call 6 [.agg az] h) := by
  rw [call_eq (hσ _ _ _ (by decide)) fn_6 rfl rfl, Try.ntmps6, Try.results6]
  have e1 : Ext h (h.lo.alloc (.cells (newBlk az))) := (Ext.lo h).alloc' _
  have k1 := A.hdata
  have k2 := A.htab
  by_cases hc : code = 0
  · by_cases h1 : kind = 1
    · simp only [↓k1, ↓k2, go_sem, Nat.reduceLT, Nat.reduceLeDiff, Nat.reduceEqDiff, Nat.reduceAdd, Nat.reduceSub, Nat.reduceMul, reduceCtorEq, Int.reduceBEq, Int.reduceLT, Int.reduceLE, Int.reduceAdd, Int.reduceSub, Int.reduceEq, Int.reduceNeg, Int.reduceToNat, Int.reduceGT, Int.reduceGE, A.hone, A.hcode, A.hkind, hc, h1]
      obtain ⟨x, hf, he⟩ := fin_ext e1 (.ifc 26 (.agg data))
      rw [hf]
      exact ⟨_, _, rfl, he, by rw [if_neg (by simp [hc]), if_pos rfl]⟩
    by_cases h6 : kind = 6
    · subst h6
      simp only [↓k1, ↓k2, go_sem, Nat.reduceLT, Nat.reduceLeDiff, Nat.reduceEqDiff, Nat.reduceAdd, Nat.reduceSub, Nat.reduceMul, reduceCtorEq, Int.reduceBEq, Int.reduceLT, Int.reduceLE, Int.reduceAdd, Int.reduceSub, Int.reduceEq, Int.reduceNeg, Int.reduceToNat, Int.reduceGT, Int.reduceGE, A.hone, A.hcode, A.hkind, hc, h1]
      obtain ⟨x, hf, he⟩ := fin_ext e1 (.ifc 30 (.agg ts))
      rw [hf]
      exact ⟨_, _, rfl, he, by rw [if_neg (by simp [hc]), if_neg (by decide), if_pos rfl]⟩
    by_cases h7 : kind = 7
    · subst h7
      have F1 : Form (h.lo.alloc (.cells (newBlk az))) out n xs := by
        obtain ⟨q1, q2, q3⟩ := F
        refine ⟨q1, q2, ?_⟩
        rcases q3 with q | q | ⟨id, c, b, r1, r2, r3, r4⟩
        · exact .inl q
        · exact .inr (.inl q)
        · exact .inr (.inr ⟨id, c, b, r1, Nat.lt_of_lt_of_le r2 e1.nx, (e1.blk r2).trans r3, r4⟩)
      obtain ⟨v', x1, hr, he1, hI, hid⟩ := iclone_run hσ F1 room
      simp only [↓k1, ↓k2, go_sem, Nat.reduceLT, Nat.reduceLeDiff, Nat.reduceEqDiff, Nat.reduceAdd, Nat.reduceSub, Nat.reduceMul, reduceCtorEq, Int.reduceBEq, Int.reduceLT, Int.reduceLE, Int.reduceAdd, Int.reduceSub, Int.reduceEq, Int.reduceNeg, Int.reduceToNat, Int.reduceGT, Int.reduceGE, A.hone, A.hcode, A.hkind, A.hout, hc, h1, h6, hr]
      have e2 := e1.trans he1
      by_cases hn : n = 0
      · obtain ⟨x, hf, he⟩ := fin_ext e2 (.ifc 31 v')
        rw [hf]
        refine ⟨_, _, rfl, he, ?_⟩
        rw [if_neg (by simp [hc]), if_neg (by decide), if_neg (by decide), if_pos rfl]
        exact ⟨v', rfl, hI.hlen, fun i hi => by omega⟩
      · obtain ⟨id, c, rfl, hge⟩ := hid hn
        rw [fin_new _ _ _ (by simp only [go_sem, Nat.reduceLT, Nat.reduceLeDiff, Nat.reduceEqDiff, Nat.reduceAdd, Nat.reduceSub, Nat.reduceMul, reduceCtorEq, Int.reduceBEq, Int.reduceLT, Int.reduceLE, Int.reduceAdd, Int.reduceSub, Int.reduceEq, Int.reduceNeg, Int.reduceToNat, Int.reduceGT, Int.reduceGE] at hge ⊢; exact decide_eq_false (by omega))]
        refine ⟨_, _, rfl, e2.up' _, ?_⟩
        rw [if_neg (by simp [hc]), if_neg (by decide), if_neg (by decide), if_pos rfl]
        exact ⟨_, rfl, hI.ext (Ext.up _ _)⟩
    · simp only [↓k1, ↓k2, go_sem, Nat.reduceLT, Nat.reduceLeDiff, Nat.reduceEqDiff, Nat.reduceAdd, Nat.reduceSub, Nat.reduceMul, reduceCtorEq, Int.reduceBEq, Int.reduceLT, Int.reduceLE, Int.reduceAdd, Int.reduceSub, Int.reduceEq, Int.reduceNeg, Int.reduceToNat, Int.reduceGT, Int.reduceGE, A.hone, A.hcode, A.hkind, hc, h1, h6, h7]
      obtain ⟨x, hf, he⟩ := fin_ext e1 .nili
      rw [hf]
      exact ⟨_, _, rfl, he, by rw [if_neg (by simp [hc]), if_neg h1, if_neg h6, if_neg h7]⟩
  · simp only [↓k1, ↓k2, go_sem, Nat.reduceLT, Nat.reduceLeDiff, Nat.reduceEqDiff, Nat.reduceAdd, Nat.reduceSub, Nat.reduceMul, reduceCtorEq, Int.reduceBEq, Int.reduceLT, Int.reduceLE, Int.reduceAdd, Int.reduceSub, Int.reduceEq, Int.reduceNeg, Int.reduceToNat, Int.reduceGT, Int.reduceGE, A.hone, A.hcode, A.hkind, hc]
    obtain ⟨x, hf, he⟩ := fin_ext e1 (.ifc 23 (.int .i64 code))
    rw [hf]
    exact ⟨_, _, rfl, he, by rw [if_pos hc]⟩
end Go.Cl.A

namespace Go.Cl.A
variable {σ : Sums}

theorem cnum_run (hσ : ∀ f a h, f ≠ 5 → σ f a h = none) (h : H) (n : Int) : (lim Try.prog σ).call 7 [.int .i64 n] h = some (.int .i64 n, none) := by
  rw [call_eq (hσ _ _ _ (by decide)) fn_7 rfl rfl, Try.ntmps7, Try.results7]
  simp only [go_sem, Nat.reduceLT, Nat.reduceLeDiff, Nat.reduceEqDiff, Nat.reduceAdd, Nat.reduceSub, Nat.reduceMul, reduceCtorEq, Int.reduceBEq, Int.reduceLT, Int.reduceLE, Int.reduceAdd, Int.reduceSub, Int.reduceEq, Int.reduceNeg, Int.reduceToNat, Int.reduceGT, Int.reduceGE]
  rw [fin_q _ _ _ rfl rfl]

set_option maxRecDepth 100000 in
theorem parts_run (hσ : ∀ f a h, f ≠ 5 → σ f a h = none) (hk : ∀ h, (lim Try.prog σ).call 5 [] h = some (.bool true, none)) {az : List CV} {code kind : Int} {data ts : List CV} {out : CV} (A : Ans az code kind data ts out) {h : H} {n : Nat} {xs : List CV} (F : Form h out n xs) :
    Tru ((lim Try.prog σ).call 3 [.agg az] h) := by
  have I0 := F.ints
  have l0 := loadNewBlk az 279 A.hlen
  have k1 := A.hdata
  have k2 := A.htab
  obtain ⟨ty, ho, key, T⟩ := A.htabT
  have s1 := data_same A.hdint
  have s2 := tab_same T A.htab0
  obtain ⟨bz, ez, nz, rz, lz⟩ := store_all z26_len z26_len z26_one
  obtain ⟨bd, ed, nd, rd, ld⟩ := store_all z26_len A.hdlen A.hdone
  obtain ⟨by_, ey, ny, ry, ly⟩ := store_all z30_len z30_len z30_one
  obtain ⟨bt, et, nt, rt, lt⟩ := store_all z30_len T.len T.one
  rw [call_eq (hσ _ _ _ (by decide)) fn_3 rfl rfl, Try.ntmps3, Try.results3]
  have e1 : Ext h (h.lo.alloc (.cells (newBlk az))) := (Ext.lo h).alloc' _
  by_cases hn : Int.ofNat n > 300
  · simp only [go_sem, Nat.reduceLT, Nat.reduceLeDiff, Nat.reduceEqDiff, Nat.reduceAdd, Nat.reduceSub, Nat.reduceMul, reduceCtorEq, Int.reduceBEq, Int.reduceLT, Int.reduceLE, Int.reduceAdd, Int.reduceSub, Int.reduceEq, Int.reduceNeg, Int.reduceToNat, Int.reduceGT, Int.reduceGE, A.hone, A.hout, I0.hlen, hn, hk, tru_fin]
  have hn' : n ≤ 300 := by have := hn; simp at this; omega
  have F1 : Form (h.lo.alloc (.cells (newBlk az))) out n xs := by
    obtain ⟨q1, q2, q3⟩ := F
    refine ⟨q1, q2, ?_⟩
    rcases q3 with q | q | ⟨id, c, b, r1, r2, r3, r4⟩
    · exact .inl q
    · exact .inr (.inl q)
    · exact .inr (.inr ⟨id, c, b, r1, Nat.lt_of_lt_of_le r2 e1.nx, (e1.blk r2).trans r3, r4⟩)
  obtain ⟨v, x, hr, hE, hv⟩ := part_run hσ A F1 hn'
  simp only [↓l0, go_sem, Nat.reduceLT, Nat.reduceLeDiff, Nat.reduceEqDiff, Nat.reduceAdd, Nat.reduceSub, Nat.reduceMul, reduceCtorEq, Int.reduceBEq, Int.reduceLT, Int.reduceLE, Int.reduceAdd, Int.reduceSub, Int.reduceEq, Int.reduceNeg, Int.reduceToNat, Int.reduceGT, Int.reduceGE, A.hone, A.hout, I0.hlen, hn, hr]
  have hb : (x.getD (h.lo.alloc (.cells (newBlk az)))).blk h.nx = some (newBlk az) := (hE.blk (by simp only [go_sem, Nat.reduceLT, Nat.reduceLeDiff, Nat.reduceEqDiff, Nat.reduceAdd, Nat.reduceSub, Nat.reduceMul, reduceCtorEq, Int.reduceBEq, Int.reduceLT, Int.reduceLE, Int.reduceAdd, Int.reduceSub, Int.reduceEq, Int.reduceNeg, Int.reduceToNat, Int.reduceGT, Int.reduceGE])).trans (alloc_blk_same _ _ _ rfl)
  have hnx := hE.nx
  simp only [go_sem, Nat.reduceLT, Nat.reduceLeDiff, Nat.reduceEqDiff, Nat.reduceAdd, Nat.reduceSub, Nat.reduceMul, reduceCtorEq, Int.reduceBEq, Int.reduceLT, Int.reduceLE, Int.reduceAdd, Int.reduceSub, Int.reduceEq, Int.reduceNeg, Int.reduceToNat, Int.reduceGT, Int.reduceGE] at hnx
  have I1 := (I0.ext e1).ext hE
  obtain ⟨X, hX⟩ : ∃ X, x.getD (h.lo.alloc (.cells (newBlk az))) = X := ⟨_, rfl⟩
  rw [hX] at hE hb hnx I1 hv
  have w1 : h.nx ≠ X.nx := by omega
  have w2 : h.nx ≠ X.nx + 1 := by omega
  by_cases hc : code = 0
  · subst hc
    rw [if_neg (by simp)] at hv
    by_cases h1 : kind = 1
    · subst h1
      rw [if_pos rfl] at hv
      subst hv
      simp only [↓k1, ↓k2, ↓ld, ↓ly, ↓lz, ↓lt, go_sem, Nat.reduceLT, Nat.reduceLeDiff, Nat.reduceEqDiff, Nat.reduceAdd, Nat.reduceSub, Nat.reduceMul, reduceCtorEq, Int.reduceBEq, Int.reduceLT, Int.reduceLE, Int.reduceAdd, Int.reduceSub, Int.reduceEq, Int.reduceNeg, Int.reduceToNat, Int.reduceGT, Int.reduceGE, z26_eq, z30_eq, z26_one, z30_one, z26_len, z30_len, A.hone, A.hcode, A.hkind, A.hout, A.hdlen, A.hdone, T.len, hX, ed, ey, ez, et, nd, rd, nz, rz, ny, ry, nt, rt, hb, w1, w2, cnum_run hσ, s1, s2, eq_4, ne_4, I0.hlen, hk, tru_fin]
      refine loop_ind (Q := Tru) (fun i env h1 => evT env 10 = .nils ∧ evT env 12 = .int .i64 0) 0 0 ?_ (Nat.le_refl _) (fun i _ _ _ hi => absurd hi (by omega)) ?_
      · exact ⟨by simp only [go_sem, Nat.reduceLT, Nat.reduceLeDiff, Nat.reduceEqDiff, Nat.reduceAdd, Nat.reduceSub, Nat.reduceMul, reduceCtorEq, Int.reduceBEq, Int.reduceLT, Int.reduceLE, Int.reduceAdd, Int.reduceSub, Int.reduceEq, Int.reduceNeg, Int.reduceToNat, Int.reduceGT, Int.reduceGE], by simp only [go_sem, Nat.reduceLT, Nat.reduceLeDiff, Nat.reduceEqDiff, Nat.reduceAdd, Nat.reduceSub, Nat.reduceMul, reduceCtorEq, Int.reduceBEq, Int.reduceLT, Int.reduceLE, Int.reduceAdd, Int.reduceSub, Int.reduceEq, Int.reduceNeg, Int.reduceToNat, Int.reduceGT, Int.reduceGE]⟩
      · rintro env h1 ⟨e10, e12⟩
        simp only [go_sem, Nat.reduceLT, Nat.reduceLeDiff, Nat.reduceEqDiff, Nat.reduceAdd, Nat.reduceSub, Nat.reduceMul, reduceCtorEq, Int.reduceBEq, Int.reduceLT, Int.reduceLE, Int.reduceAdd, Int.reduceSub, Int.reduceEq, Int.reduceNeg, Int.reduceToNat, Int.reduceGT, Int.reduceGE, e10, e12, hk, tru_fin]
    by_cases h6 : kind = 6
    · subst h6
      rw [if_neg (by decide), if_pos rfl] at hv
      subst hv
      simp only [↓k1, ↓k2, ↓ld, ↓ly, ↓lz, ↓lt, go_sem, Nat.reduceLT, Nat.reduceLeDiff, Nat.reduceEqDiff, Nat.reduceAdd, Nat.reduceSub, Nat.reduceMul, reduceCtorEq, Int.reduceBEq, Int.reduceLT, Int.reduceLE, Int.reduceAdd, Int.reduceSub, Int.reduceEq, Int.reduceNeg, Int.reduceToNat, Int.reduceGT, Int.reduceGE, z26_eq, z30_eq, z26_one, z30_one, z26_len, z30_len, A.hone, A.hcode, A.hkind, A.hout, A.hdlen, A.hdone, T.len, hX, ed, ey, ez, et, nd, rd, nz, rz, ny, ry, nt, rt, hb, w1, w2, cnum_run hσ, s1, s2, eq_4, ne_4, I0.hlen, hk, tru_fin]
      refine loop_ind (Q := Tru) (fun i env h1 => evT env 10 = .nils ∧ evT env 12 = .int .i64 0) 0 0 ?_ (Nat.le_refl _) (fun i _ _ _ hi => absurd hi (by omega)) ?_
      · exact ⟨by simp only [go_sem, Nat.reduceLT, Nat.reduceLeDiff, Nat.reduceEqDiff, Nat.reduceAdd, Nat.reduceSub, Nat.reduceMul, reduceCtorEq, Int.reduceBEq, Int.reduceLT, Int.reduceLE, Int.reduceAdd, Int.reduceSub, Int.reduceEq, Int.reduceNeg, Int.reduceToNat, Int.reduceGT, Int.reduceGE], by simp only [go_sem, Nat.reduceLT, Nat.reduceLeDiff, Nat.reduceEqDiff, Nat.reduceAdd, Nat.reduceSub, Nat.reduceMul, reduceCtorEq, Int.reduceBEq, Int.reduceLT, Int.reduceLE, Int.reduceAdd, Int.reduceSub, Int.reduceEq, Int.reduceNeg, Int.reduceToNat, Int.reduceGT, Int.reduceGE]⟩
      · rintro env h1 ⟨e10, e12⟩
        simp only [go_sem, Nat.reduceLT, Nat.reduceLeDiff, Nat.reduceEqDiff, Nat.reduceAdd, Nat.reduceSub, Nat.reduceMul, reduceCtorEq, Int.reduceBEq, Int.reduceLT, Int.reduceLE, Int.reduceAdd, Int.reduceSub, Int.reduceEq, Int.reduceNeg, Int.reduceToNat, Int.reduceGT, Int.reduceGE, e10, e12, hk, tru_fin]
    by_cases h7 : kind = 7
    · subst h7
      rw [if_neg (by decide), if_neg (by decide), if_pos rfl] at hv
      obtain ⟨v', rfl, I2⟩ := hv
      simp only [↓k1, ↓k2, ↓ld, ↓ly, ↓lz, ↓lt, go_sem, Nat.reduceLT, Nat.reduceLeDiff, Nat.reduceEqDiff, Nat.reduceAdd, Nat.reduceSub, Nat.reduceMul, reduceCtorEq, Int.reduceBEq, Int.reduceLT, Int.reduceLE, Int.reduceAdd, Int.reduceSub, Int.reduceEq, Int.reduceNeg, Int.reduceToNat, Int.reduceGT, Int.reduceGE, z26_eq, z30_eq, z26_one, z30_one, z26_len, z30_len, A.hone, A.hcode, A.hkind, A.hout, A.hdlen, A.hdone, T.len, hX, ed, ey, ez, et, nd, rd, nz, rz, ny, ry, nt, rt, hb, w1, w2, cnum_run hσ, s1, s2, eq_4, ne_4, I0.hlen, hk, tru_fin, I2.hlen]
      refine loop_ind (Q := Tru) (fun i env h1 => evT env 1 = .ptr h.nx 0 ∧ evT env 10 = v' ∧ evT env 12 = .int .i64 (Int.ofNat i) ∧ Ext X h1) n 0 ?_ (Nat.zero_le _) ?_ ?_
      · exact ⟨by simp only [go_sem, Nat.reduceLT, Nat.reduceLeDiff, Nat.reduceEqDiff, Nat.reduceAdd, Nat.reduceSub, Nat.reduceMul, reduceCtorEq, Int.reduceBEq, Int.reduceLT, Int.reduceLE, Int.reduceAdd, Int.reduceSub, Int.reduceEq, Int.reduceNeg, Int.reduceToNat, Int.reduceGT, Int.reduceGE], by simp only [go_sem, Nat.reduceLT, Nat.reduceLeDiff, Nat.reduceEqDiff, Nat.reduceAdd, Nat.reduceSub, Nat.reduceMul, reduceCtorEq, Int.reduceBEq, Int.reduceLT, Int.reduceLE, Int.reduceAdd, Int.reduceSub, Int.reduceEq, Int.reduceNeg, Int.reduceToNat, Int.reduceGT, Int.reduceGE], by simp only [go_sem, Nat.reduceLT, Nat.reduceLeDiff, Nat.reduceEqDiff, Nat.reduceAdd, Nat.reduceSub, Nat.reduceMul, reduceCtorEq, Int.reduceBEq, Int.reduceLT, Int.reduceLE, Int.reduceAdd, Int.reduceSub, Int.reduceEq, Int.reduceNeg, Int.reduceToNat, Int.reduceGT, Int.reduceGE]; rfl, ((((Ext.refl X).alloc' _).put _ (by omega)).alloc' _).put _ (by omega)⟩
      · rintro i env h1 ⟨f1, f10, f12, fE⟩ hi next
        obtain ⟨id, off, b, m, q1, q2, q3, q4, q5⟩ := (I1.ext fE).helt i hi
        obtain ⟨id', off', b', m', p1, p2, p3, p4, p5⟩ := (I2.ext fE).helt i hi
        rw [q5] at p5; cases p5
        have hb1 : h1.blk h.nx = some (newBlk az) := (fE.blk (by omega)).trans hb
        have hlt := ofNat_lt hi
        have hw : IntKind.wrap .i64 (Int.ofNat i + 1) = Int.ofNat (i + 1) := wrap_succ (by omega)
        simp only [go_sem, Nat.reduceLT, Nat.reduceLeDiff, Nat.reduceEqDiff, Nat.reduceAdd, Nat.reduceSub, Nat.reduceMul, reduceCtorEq, Int.reduceBEq, Int.reduceLT, Int.reduceLE, Int.reduceAdd, Int.reduceSub, Int.reduceEq, Int.reduceNeg, Int.reduceToNat, Int.reduceGT, Int.reduceGE, f1, f10, f12, I2.hlen, hlt]
        rw [cnd_closed]
        rotate_left
        · kernel_rfl
        simp only [go_sem, Nat.reduceLT, Nat.reduceLeDiff, Nat.reduceEqDiff, Nat.reduceAdd, Nat.reduceSub, Nat.reduceMul, reduceCtorEq, Int.reduceBEq, Int.reduceLT, Int.reduceLE, Int.reduceAdd, Int.reduceSub, Int.reduceEq, Int.reduceNeg, Int.reduceToNat, Int.reduceGT, Int.reduceGE, f1, f10, f12, hb1, A.hout, q1, q3, q4, p1, p3, p4, hw]
        exact next _ _ ⟨by simp only [go_sem, Nat.reduceLT, Nat.reduceLeDiff, Nat.reduceEqDiff, Nat.reduceAdd, Nat.reduceSub, Nat.reduceMul, reduceCtorEq, Int.reduceBEq, Int.reduceLT, Int.reduceLE, Int.reduceAdd, Int.reduceSub, Int.reduceEq, Int.reduceNeg, Int.reduceToNat, Int.reduceGT, Int.reduceGE, f1], by simp only [go_sem, Nat.reduceLT, Nat.reduceLeDiff, Nat.reduceEqDiff, Nat.reduceAdd, Nat.reduceSub, Nat.reduceMul, reduceCtorEq, Int.reduceBEq, Int.reduceLT, Int.reduceLE, Int.reduceAdd, Int.reduceSub, Int.reduceEq, Int.reduceNeg, Int.reduceToNat, Int.reduceGT, Int.reduceGE, f10], by simp only [go_sem, Nat.reduceLT, Nat.reduceLeDiff, Nat.reduceEqDiff, Nat.reduceAdd, Nat.reduceSub, Nat.reduceMul, reduceCtorEq, Int.reduceBEq, Int.reduceLT, Int.reduceLE, Int.reduceAdd, Int.reduceSub, Int.reduceEq, Int.reduceNeg, Int.reduceToNat, Int.reduceGT, Int.reduceGE], fE⟩
      · rintro env h1 ⟨f1, f10, f12, fE⟩
        have hlt := ofNat_nlt (Nat.le_refl n)
        simp only [go_sem, Nat.reduceLT, Nat.reduceLeDiff, Nat.reduceEqDiff, Nat.reduceAdd, Nat.reduceSub, Nat.reduceMul, reduceCtorEq, Int.reduceBEq, Int.reduceLT, Int.reduceLE, Int.reduceAdd, Int.reduceSub, Int.reduceEq, Int.reduceNeg, Int.reduceToNat, Int.reduceGT, Int.reduceGE, f1, f10, f12, I2.hlen, hlt, hk, tru_fin]
    · rw [if_neg h1, if_neg h6, if_neg h7] at hv
      subst hv
      simp only [↓k1, ↓k2, ↓ld, ↓ly, ↓lz, ↓lt, go_sem, Nat.reduceLT, Nat.reduceLeDiff, Nat.reduceEqDiff, Nat.reduceAdd, Nat.reduceSub, Nat.reduceMul, reduceCtorEq, Int.reduceBEq, Int.reduceLT, Int.reduceLE, Int.reduceAdd, Int.reduceSub, Int.reduceEq, Int.reduceNeg, Int.reduceToNat, Int.reduceGT, Int.reduceGE, z26_eq, z30_eq, z26_one, z30_one, z26_len, z30_len, A.hone, A.hcode, A.hkind, A.hout, A.hdlen, A.hdone, T.len, hX, ed, ey, ez, et, nd, rd, nz, rz, ny, ry, nt, rt, hb, w1, w2, cnum_run hσ, s1, s2, eq_4, ne_4, I0.hlen, hk, tru_fin, h1, h6, h7]
  · rw [if_pos hc] at hv
    subst hv
    simp only [↓k1, ↓k2, ↓ld, ↓ly, ↓lz, ↓lt, go_sem, Nat.reduceLT, Nat.reduceLeDiff, Nat.reduceEqDiff, Nat.reduceAdd, Nat.reduceSub, Nat.reduceMul, reduceCtorEq, Int.reduceBEq, Int.reduceLT, Int.reduceLE, Int.reduceAdd, Int.reduceSub, Int.reduceEq, Int.reduceNeg, Int.reduceToNat, Int.reduceGT, Int.reduceGE, z26_eq, z30_eq, z26_one, z30_one, z26_len, z30_len, A.hone, A.hcode, A.hkind, A.hout, A.hdlen, A.hdone, T.len, hX, ed, ey, ez, et, nd, rd, nz, rz, ny, ry, nt, rt, hb, w1, w2, cnum_run hσ, s1, s2, eq_4, ne_4, I0.hlen, hk, tru_fin, hc]
    refine loop_ind (Q := Tru) (fun i env h1 => evT env 10 = .nils ∧ evT env 12 = .int .i64 0) 0 0 ?_ (Nat.le_refl _) (fun i _ _ _ hi => absurd hi (by omega)) ?_
    · exact ⟨by simp only [go_sem, Nat.reduceLT, Nat.reduceLeDiff, Nat.reduceEqDiff, Nat.reduceAdd, Nat.reduceSub, Nat.reduceMul, reduceCtorEq, Int.reduceBEq, Int.reduceLT, Int.reduceLE, Int.reduceAdd, Int.reduceSub, Int.reduceEq, Int.reduceNeg, Int.reduceToNat, Int.reduceGT, Int.reduceGE], by simp only [go_sem, Nat.reduceLT, Nat.reduceLeDiff, Nat.reduceEqDiff, Nat.reduceAdd, Nat.reduceSub, Nat.reduceMul, reduceCtorEq, Int.reduceBEq, Int.reduceLT, Int.reduceLE, Int.reduceAdd, Int.reduceSub, Int.reduceEq, Int.reduceNeg, Int.reduceToNat, Int.reduceGT, Int.reduceGE]⟩
    · rintro env h1 ⟨e10, e12⟩
      simp only [go_sem, Nat.reduceLT, Nat.reduceLeDiff, Nat.reduceEqDiff, Nat.reduceAdd, Nat.reduceSub, Nat.reduceMul, reduceCtorEq, Int.reduceBEq, Int.reduceLT, Int.reduceLE, Int.reduceAdd, Int.reduceSub, Int.reduceEq, Int.reduceNeg, Int.reduceToNat, Int.reduceGT, Int.reduceGE, e10, e12, hk, tru_fin]
end Go.Cl.A

namespace Go.Cl.A

theorem cellsOf_22 : Try.prog.cellsOf 22 = 1 := by kernel_rfl
theorem cellsOf_27 : Try.prog.cellsOf 27 = 16 := by kernel_rfl
theorem cellsOf_28 : Try.prog.cellsOf 28 = 1 := by kernel_rfl
theorem cellsOf_3 : Try.prog.cellsOf 3 = 1 := by kernel_rfl
theorem cellsOf_30 : Try.prog.cellsOf 30 = 19 := by kernel_rfl

theorem one_at {ts : List CV} {o : Nat} {x : CV} (h : (ts.drop o).take 1 = [x]) : nth ts o = some x := by
  have := congrArg (fun l => l[0]?) h
  simp only [List.getElem?_take, List.getElem?_drop] at this
  rw [nth_eq]
  simpa using this

set_option maxRecDepth 100000 in
theorem tab_of {h : H} {c : CV} (a : Arg Try.prog h 30 c) : ∃ ts ty ho key, c = .agg ts ∧ Tab ts ty ho key := by
  obtain ⟨hl, hf⟩ := a.rd.struct_inv Try.underlying30
  rw [cellsOf_30] at hl
  obtain ⟨ts, rfl⟩ := agg_of (c := c) (by omega)
  have hall := a.all
  simp only [cells_agg] at hl hf hall
  have h1 := hf _ (List.mem_cons_of_mem _ List.mem_cons_self)
  have h2 := hf _ (List.mem_cons_of_mem _ (List.mem_cons_of_mem _ List.mem_cons_self))
  have h3 := hf _ (List.mem_cons_of_mem _ (List.mem_cons_of_mem _ (List.mem_cons_of_mem _ List.mem_cons_self)))
  simp only [cellsOf_27, cellsOf_28, cellsOf_3] at h1 h2 h3
  obtain ⟨ty, q2, _⟩ := h2.int_inv Try.underlying28
  obtain ⟨ho, q3, _⟩ := h3.int_inv Try.underlying3
  obtain ⟨_, hk⟩ := h1.array_inv Try.underlying27
  simp only [cellsOf_22] at hk
  have hkey : ∀ i, i < 16 → ∃ n, nth ts (1 + i) = some (.int .u64 n) := by
    intro i hi
    obtain ⟨n, q, _⟩ := (hk i hi).int_inv Try.underlying22
    refine ⟨n, ?_⟩
    have := one_at q
    rw [nth_eq, List.getElem?_take, if_pos (by omega), List.getElem?_drop] at this
    rw [nth_eq, ← this]; congr 1; omega
  exact ⟨ts, ty, ho, fun i => if hi : i < 16 then Classical.choose (hkey i hi) else 0, rfl, hl, hall, one_at q2, one_at q3, fun i hi => by
    simp only [dif_pos hi]; exact Classical.choose_spec (hkey i hi)⟩
end Go.Cl.A

namespace Go.Cl.A

theorem cellsOf_26 : Try.prog.cellsOf 26 = 256 := by kernel_rfl
theorem cellsOf_33 : Try.prog.cellsOf 33 = 279 := by kernel_rfl
theorem cellsOf_31 : Try.prog.cellsOf 31 = 1 := by kernel_rfl
theorem cellsOf_23 : Try.prog.cellsOf 23 = 1 := by kernel_rfl
theorem cellsOf_24 : Try.prog.cellsOf 24 = 1 := by kernel_rfl
theorem cellsOf_5 : Try.prog.cellsOf 5 = 1 := by kernel_rfl

theorem sub_nth {l : List CV} {o n i : Nat} (hi : i < n) : nth ((l.drop o).take n) i = nth l (o + i) := by
  rw [nth_eq, nth_eq, List.getElem?_take, if_pos hi, List.getElem?_drop]
theorem sub_load {l : List CV} {o n : Nat} (h : o + n ≤ l.length) : (newBlk l).loadN o n = some ((l.drop o).take n) :=
  loadN_of _ _ _ (by rw [List.length_take, List.length_drop]; omega) fun i v hv => by
    rw [newBlk_get]
    have hi : i < n := by
      rw [nth_eq, List.getElem?_take] at hv
      by_cases q : i < n
      · exact q
      · rw [if_neg q] at hv; cases hv
    rwa [sub_nth hi] at hv
theorem sub_one {l : List CV} (h : l.all CV.one = true) (o n : Nat) : ((l.drop o).take n).all CV.one = true :=
  List.all_eq_true.2 fun x hx => List.all_eq_true.1 h x (List.mem_of_mem_drop (List.mem_of_mem_take hx))

set_option maxRecDepth 100000 in
theorem tab_of_rd {h : H} {ts : List CV} (r : Rd Try.prog h 30 ts) (hall : ts.all CV.one = true) : (∃ ty ho key, Tab ts ty ho key) ∧ ∃ m, nth ts 0 = some (.int .u64 m) := by
  obtain ⟨hl, hf⟩ := r.struct_inv Try.underlying30
  rw [cellsOf_30] at hl
  have h0 := hf _ List.mem_cons_self
  have h1 := hf _ (List.mem_cons_of_mem _ List.mem_cons_self)
  have h2 := hf _ (List.mem_cons_of_mem _ (List.mem_cons_of_mem _ List.mem_cons_self))
  have h3 := hf _ (List.mem_cons_of_mem _ (List.mem_cons_of_mem _ (List.mem_cons_of_mem _ List.mem_cons_self)))
  simp only [cellsOf_27, cellsOf_28, cellsOf_3, cellsOf_22] at h0 h1 h2 h3
  obtain ⟨m, q0, _⟩ := h0.int_inv Try.underlying22
  obtain ⟨ty, q2, _⟩ := h2.int_inv Try.underlying28
  obtain ⟨ho, q3, _⟩ := h3.int_inv Try.underlying3
  obtain ⟨_, hk⟩ := h1.array_inv Try.underlying27
  simp only [cellsOf_22] at hk
  have hkey : ∀ i, i < 16 → ∃ n, nth ts (1 + i) = some (.int .u64 n) := by
    intro i hi
    obtain ⟨n, q, _⟩ := (hk i hi).int_inv Try.underlying22
    refine ⟨n, ?_⟩
    have := one_at q
    rw [sub_nth (by omega)] at this
    rw [← this]; congr 1; omega
  exact ⟨⟨ty, ho, fun i => if hi : i < 16 then Classical.choose (hkey i hi) else 0, hl, hall, one_at q2, one_at q3, fun i hi => by
    simp only [dif_pos hi]; exact Classical.choose_spec (hkey i hi)⟩, m, one_at q0⟩

set_option maxRecDepth 100000 in
theorem ans_of {h : H} {c : CV} (a : Arg Try.prog h 33 c) : ∃ az code kind data ts out n xs, c = .agg az ∧ Ans az code kind data ts out ∧ Form h out n xs := by
  obtain ⟨hl, hf⟩ := a.rd.struct_inv Try.underlying33
  rw [cellsOf_33] at hl
  obtain ⟨az, rfl⟩ := agg_of (c := c) (by omega)
  have hall := a.all
  simp only [cells_agg] at hl hf hall
  have h1 := hf _ (List.mem_cons_of_mem _ List.mem_cons_self)
  have h2 := hf _ (List.mem_cons_of_mem _ (List.mem_cons_of_mem _ List.mem_cons_self))
  have h3 := hf _ (List.mem_cons_of_mem _ (List.mem_cons_of_mem _ (List.mem_cons_of_mem _ List.mem_cons_self)))
  have h4 := hf _ (List.mem_cons_of_mem _ (List.mem_cons_of_mem _ (List.mem_cons_of_mem _ (List.mem_cons_of_mem _ List.mem_cons_self))))
  have h5 := hf _ (List.mem_cons_of_mem _ (List.mem_cons_of_mem _ (List.mem_cons_of_mem _ (List.mem_cons_of_mem _ (List.mem_cons_of_mem _ List.mem_cons_self)))))
  simp only [cellsOf_23, cellsOf_24, cellsOf_26, cellsOf_30, cellsOf_31] at h1 h2 h3 h4 h5
  obtain ⟨code, q1, _⟩ := h1.int_inv Try.underlying23
  obtain ⟨kind, q2, _⟩ := h2.int_inv Try.underlying24
  obtain ⟨_, hd⟩ := h3.array_inv Try.underlying26
  simp only [cellsOf_5] at hd
  obtain ⟨hT, hT0⟩ := tab_of_rd h4 (sub_one hall _ _)
  have hout : ∃ out, (az.drop 278).take 1 = [out] := by
    have : ((az.drop 278).take 1).length = 1 := by rw [List.length_take, List.length_drop]; omega
    match (az.drop 278).take 1, this with
    | [x], _ => exact ⟨x, rfl⟩
  obtain ⟨out, hout⟩ := hout
  rw [hout] at h5
  obtain ⟨n, xs, F⟩ := form_of h5
  refine ⟨az, code, kind, (az.drop 3).take 256, (az.drop 259).take 19, out, n, xs, rfl, ⟨hl, hall, one_at q1, one_at q2, sub_load (by omega), by rw [List.length_take, List.length_drop]; omega, sub_one hall _ _, fun i hi => ?_, sub_load (by omega), hT, hT0, one_at hout⟩, F⟩
  obtain ⟨m, e, _⟩ := (hd i hi).int_inv Try.underlying5
  refine ⟨m, ?_⟩
  have := one_at e
  rw [Nat.mul_one] at this
  exact this
end Go.Cl.A

namespace Go.Proofs.Ytgmjbnhndhggmaa
open Go.ChangeShapes Go.WideShapes Go.ChangeAt Go.RowKit Go.Cl Go.Cl.A

theorem commandParts_own : ownKnob Try.prog.godebug = none := by kernel_rfl
theorem commandParts_mixed : Try.prog.follows .mixedOrders = true := by kernel_rfl
theorem commandParts_plain : plainB Try.prog = true := by kernel_rfl
theorem commandParts_laidOut : laidOutB Try.prog = true := by kernel_rfl
set_option maxRecDepth 1000000 in
theorem commandParts_known : (callK Try.prog noSums 10000000 5 [] (h0 0)).map Prod.fst = some (.bool true) := by kernel_rfl

set_option maxRecDepth 100000 in
theorem commandParts_lifted (os : Os) (started : os.Started) (H : Type) (enc : TypeId × Value → H) :
    ReturnsInHanded {} Try.checked os 3 .any (Rows.commandPartsSpec.pre6 enc Try.prog Try.f3 Rows.commandPartsRow.domain false) (Rows.commandPartsSpec.post enc Try.prog Try.f3 false true false false) := by
  refine returnsInHanded_of_change (C := Try.checked) commandParts_own started (by kernel_rfl) Try.func3
    (ChangeSpec.witness6 (enc := enc) (C := Try.checked) false ⟨#[], #[.agg #[.int .u64 0, .int .i64 0, .int .i64 0, .int .u8 0, .int .u8 0, .int .u8 0, .int .u8 0, .int .u8 0, .int .u8 0, .int .u8 0, .int .u8 0, .int .u8 0, .int .u8 0, .int .u8 0, .int .u8 0, .int .u8 0, .int .u8 0, .int .u8 0, .int .u8 0, .int .u8 0, .int .u8 0, .int .u8 0, .int .u8 0, .int .u8 0, .int .u8 0, .int .u8 0, .int .u8 0, .int .u8 0, .int .u8 0, .int .u8 0, .int .u8 0, .int .u8 0, .int .u8 0, .int .u8 0, .int .u8 0, .int .u8 0, .int .u8 0, .int .u8 0, .int .u8 0, .int .u8 0, .int .u8 0, .int .u8 0, .int .u8 0, .int .u8 0, .int .u8 0, .int .u8 0, .int .u8 0, .int .u8 0, .int .u8 0, .int .u8 0, .int .u8 0, .int .u8 0, .int .u8 0, .int .u8 0, .int .u8 0, .int .u8 0, .int .u8 0, .int .u8 0, .int .u8 0, .int .u8 0, .int .u8 0, .int .u8 0, .int .u8 0, .int .u8 0, .int .u8 0, .int .u8 0, .int .u8 0, .int .u8 0, .int .u8 0, .int .u8 0, .int .u8 0, .int .u8 0, .int .u8 0, .int .u8 0, .int .u8 0, .int .u8 0, .int .u8 0, .int .u8 0, .int .u8 0, .int .u8 0, .int .u8 0, .int .u8 0, .int .u8 0, .int .u8 0, .int .u8 0, .int .u8 0, .int .u8 0, .int .u8 0, .int .u8 0, .int .u8 0, .int .u8 0, .int .u8 0, .int .u8 0, .int .u8 0, .int .u8 0, .int .u8 0, .int .u8 0, .int .u8 0, .int .u8 0, .int .u8 0, .int .u8 0, .int .u8 0, .int .u8 0, .int .u8 0, .int .u8 0, .int .u8 0, .int .u8 0, .int .u8 0, .int .u8 0, .int .u8 0, .int .u8 0, .int .u8 0, .int .u8 0, .int .u8 0, .int .u8 0, .int .u8 0, .int .u8 0, .int .u8 0, .int .u8 0, .int .u8 0, .int .u8 0, .int .u8 0, .int .u8 0, .int .u8 0, .int .u8 0, .int .u8 0, .int .u8 0, .int .u8 0, .int .u8 0, .int .u8 0, .int .u8 0, .int .u8 0, .int .u8 0, .int .u8 0, .int .u8 0, .int .u8 0, .int .u8 0, .int .u8 0, .int .u8 0, .int .u8 0, .int .u8 0, .int .u8 0, .int .u8 0, .int .u8 0, .int .u8 0, .int .u8 0, .int .u8 0, .int .u8 0, .int .u8 0, .int .u8 0, .int .u8 0, .int .u8 0, .int .u8 0, .int .u8 0, .int .u8 0, .int .u8 0, .int .u8 0, .int .u8 0, .int .u8 0, .int .u8 0, .int .u8 0, .int .u8 0, .int .u8 0, .int .u8 0, .int .u8 0, .int .u8 0, .int .u8 0, .int .u8 0, .int .u8 0, .int .u8 0, .int .u8 0, .int .u8 0, .int .u8 0, .int .u8 0, .int .u8 0, .int .u8 0, .int .u8 0, .int .u8 0, .int .u8 0, .int .u8 0, .int .u8 0, .int .u8 0, .int .u8 0, .int .u8 0, .int .u8 0, .int .u8 0, .int .u8 0, .int .u8 0, .int .u8 0, .int .u8 0, .int .u8 0, .int .u8 0, .int .u8 0, .int .u8 0, .int .u8 0, .int .u8 0, .int .u8 0, .int .u8 0, .int .u8 0, .int .u8 0, .int .u8 0, .int .u8 0, .int .u8 0, .int .u8 0, .int .u8 0, .int .u8 0, .int .u8 0, .int .u8 0, .int .u8 0, .int .u8 0, .int .u8 0, .int .u8 0, .int .u8 0, .int .u8 0, .int .u8 0, .int .u8 0, .int .u8 0, .int .u8 0, .int .u8 0, .int .u8 0, .int .u8 0, .int .u8 0, .int .u8 0, .int .u8 0, .int .u8 0, .int .u8 0, .int .u8 0, .int .u8 0, .int .u8 0, .int .u8 0, .int .u8 0, .int .u8 0, .int .u8 0, .int .u8 0, .int .u8 0, .int .u8 0, .int .u8 0, .int .u8 0, .int .u8 0, .int .u8 0, .int .u8 0, .int .u8 0, .int .u8 0, .int .u8 0, .int .u8 0, .int .u8 0, .int .u8 0, .int .u8 0, .int .u8 0, .int .u8 0, .int .u8 0, .int .u8 0, .int .u8 0, .int .u8 0, .int .u8 0, .int .u8 0, .int .u8 0, .int .u8 0, .int .u8 0, .int .u64 0, .int .u64 0, .int .u64 0, .int .u64 0, .int .u64 0, .int .u64 0, .int .u64 0, .int .u64 0, .int .u64 0, .int .u64 0, .int .u64 0, .int .u64 0, .int .u64 0, .int .u64 0, .int .u64 0, .int .u64 0, .int .u64 0, .int .i64 0, .int .i64 0, .slice none 0 0]], []⟩ 8 (by kernel_rfl) (by kernel_rfl) (by kernel_rfl) (by kernel_rfl)) ?_
  intro W base args ds gs before hval hW _ _
  have hW' := hW
  obtain ⟨p, q, hA0, hV, hpq, hfz, _⟩ := hW
  have hlt := hW'.lt
  have hA : DataW.TrodAll enc Try.prog W 0 (fun _ => true) true Try.f3.params.toList args.toList ds p := hA0
  rw [Try.params3] at hA
  obtain ⟨v0, d0, rfl, rfl, t0⟩ := trodAll_one hA
  obtain ⟨rfl, rfl⟩ := trodVars_none hV
  subst hpq
  have hv : ∀ (j : Nat) t v, (#[33] : Array Nat)[j]? = some t → (#[v0] : Array Value)[j]? = some v → Value.okWide Try.prog W .any base t v := by
    intro j t v hj hvj
    exact hval j t v (by rw [Try.params3]; exact hj) hvj
  have rel := rel0 W
  have a0 : ∀ id o, (h0 0).t.get id = some o → o.ro = true := fun id o ho => by rw [show (h0 0).t = T.nil from rfl, T.get_nil] at ho; cases ho
  obtain ⟨h1, f1, c0, r1, g1, e0, A0⟩ := layArg (n := 8) (t := 33) (by kernel_rfl) (hv 0 33 v0 rfl rfl) t0 rel a0
  have b1 := g1.all a0
  have B0 := A0
  obtain ⟨az, code, kind, data, ts, out, n, xs, rfl, An, F⟩ := ans_of B0
  have run := parts_run (σ := tell 5 (.bool true)) tell_other tell_self An F
  have hc := open_calls commandParts_plain commandParts_mixed (tell_ok commandParts_plain commandParts_mixed commandParts_known rfl) r1 b1 (args := [.agg az]) (by simp only [okL]; exact ⟨B0.ok, trivial⟩) run
  have hr : (renL f1 [.agg az]).toArray = #[v0] := by
    rw [← e0]
    simp only [renL]
  rw [hr] at hc
  refine hc.mono fun e W' ⟨he, hb⟩ => ?_
  subst he
  refine ⟨_, rfl, ?_⟩
  have hl : ∀ x ∈ (p) ++ [], x.block < W.heap.size := hW'.lt
  exact ⟨_, _, _, [], _, [], hW', trodAll_mk1 (shut_bool Try.underlying4 _),
    trodAll_mk1 (Below.trod commandParts_laidOut (by kernel_rfl) (of_decide_eq_true (by kernel_rfl)) t0 hb fun x hx => hl x (by simp [hx])), rfl, hb.frame _, fun h => by cases h⟩

theorem commandParts_holds : Rows.CommandPartsSaid :=
  OpenClaim.holds_of_wide 3 Try.f3 rfl rfl rfl rfl rfl rfl rfl ⟨rfl, rfl, rfl, rfl, rfl⟩ rfl rfl rfl rfl rfl (by kernel_rfl) Try.func3 (by kernel_rfl)
    (of_decide_eq_true (by kernel_rfl)) (by unfold Func.isWrapper; rw [if_neg (by decide +kernel)]; exact ⟨rfl, rfl⟩)
    (fun os started H enc _ => commandParts_lifted os started H enc)
#print axioms commandParts_holds
end Go.Proofs.Ytgmjbnhndhggmaa
