/- The program's functions, run by the rewriting evaluator: what each answers and leaves (OvA). -/
import Derived.Test.YtmpaohmapdcckaaClH
set_option linter.all false
open Go Go.Cl Go.Proofs
attribute [go_sem] Nat.reduceLT Nat.reduceLeDiff Nat.reduceEqDiff Nat.reduceAdd Nat.reduceSub Nat.reduceMul reduceCtorEq Int.reduceBEq Int.reduceLT Int.reduceLE Int.reduceAdd Int.reduceSub Int.reduceEq Int.reduceNeg Int.reduceToNat Int.reduceGT Int.reduceGE

namespace Go.Cl.O
noncomputable section
variable {σ : Sums}
set_option maxRecDepth 1000000

structure Rq where
  (n : Nat) (b : Int) (wr wy : Bool)
  deriving DecidableEq
def Rq.cs (r : Rq) : List CV := [u64 r.n, .int .i64 r.b, .bool r.wr, .bool r.wy]
def Rq.cv (r : Rq) : CV := .agg [u64 r.n, .int .i64 r.b, .bool r.wr, .bool r.wy]
def RetQ (v : CV) (r : Option (CV × Option H)) : Prop := r = some (v, none)
structure But (h h' : H) (r : Nat) : Prop where
  nx : h.nx ≤ h'.nx
  gn : h'.gn = h.gn
  old : ∀ k, k < h.nx → k ≠ r → h'.t.get k = h.t.get k
theorem But.blk {h h' : H} {r k : Nat} (F : But h h' r) (hk : k < h.nx) (hr : k ≠ r) : h'.blk k = h.blk k := blk_eq (F.old k hk hr)
theorem But.trans {a b c : H} {r : Nat} (x : But a b r) (y : But b c r) : But a c r := ⟨Nat.le_trans x.nx y.nx, y.gn.trans x.gn, fun k hk hr => (y.old k (by have := x.nx; omega) hr).trans (x.old k hk hr)⟩
theorem Ext.but {h h' : H} (e : Ext h h') (r : Nat) : But h h' r := ⟨e.nx, e.gn, fun k hk _ => e.old k hk⟩
theorem But.ext {a b c : H} {r : Nat} (x : Ext a b) (y : But b c r) (hr : a.nx ≤ r) : Ext a c := ⟨by have := x.nx; have := y.nx; omega, y.gn.trans x.gn, fun k hk => (y.old k (by have := x.nx; omega) (by omega)).trans (x.old k hk)⟩

def K (n : Nat) : CV := .int .i64 (Int.ofNat n)
def stopsN (r w : Nat) (x : Bool) : Bool := decide (0 < w) || (x && decide (0 < r))

theorem ofNat_pos (n : Nat) : decide (Int.ofNat n > 0) = decide (0 < n) := by
  rw [decide_eq_decide]; exact Int.natCast_pos
theorem wrap_k {n : Nat} (hn : n < 1000) : IntKind.i64.wrap (Int.ofNat n + 1) = Int.ofNat (n + 1) := wrap_succ (by omega)
theorem cstops_run (hσ : ∀ f a h, f ≠ 23 → σ f a h = none) (h : H) (a b : Nat) (x : Bool) :
    RetQ (.bool (stopsN a b x)) ((lim Try.prog σ).call 85 [.agg [K a, K b], .bool x] h) := by
  obtain ⟨Q, hQ⟩ : ∃ Q, Q = RetQ (.bool (stopsN a b x)) := ⟨_, rfl⟩
  rw [← hQ]
  rw [call_eq (hσ _ _ _ (by decide)) fn_85 rfl rfl, Try.ntmps85, Try.results85]
  by_cases q : 0 < b
  · have dq : decide (0 < b) = true := decide_eq_true q
    simp only [go_sem, K, ofNat_pos, dq]
    rw [hQ]
    exact congrArg some ((fin_q _ _ _ rfl rfl).trans (by simp [stopsN, dq]))
  · have dq : decide (0 < b) = false := decide_eq_false q
    cases x
    · simp only [go_sem, K, ofNat_pos, dq]
      rw [hQ]
      exact congrArg some ((fin_q _ _ _ rfl rfl).trans (by simp [stopsN, dq]))
    · simp only [go_sem, K, ofNat_pos, dq]
      rw [hQ]
      exact congrArg some ((fin_q _ _ _ rfl rfl).trans (by simp [stopsN, dq]))
/-- one block is written, nothing else -/
structure Wr (h h' : H) (id : Nat) (b' : Blk) : Prop where
  nx : h'.nx = h.nx
  gn : h'.gn = h.gn
  old : ∀ k, k ≠ id → h'.t.get k = h.t.get k
  blk : h'.blk id = some b'
  low : h'.low = min h.low id
theorem cadd_run (hσ : ∀ f a h, f ≠ 23 → σ f a h = none) {h : H} {id off n : Nat} {b : Blk} (hb : h.blk id = some b) (hro : b.ro = false) (x : Bool) (hg : b.get (off + x.toNat) = some (K n)) (hn : n < 1000) (hid : id < h.nx) :
    ∃ h', (lim Try.prog σ).call 84 [.ptr id off, .bool x] h = some (.tup [], some h') ∧ Wr h h' id (b.st (off + x.toNat) (K (n + 1))) := by
  have hlt := Blk.get_lt hg
  have w1 := wrap_k hn
  have fin : ∀ (o : CObj) (b' : Blk), o = .cells b' → Wr h ((h.lo.put id o).up (min h.low (h.lo.put id o).low)) id b' := fun o b' ho => by
    subst ho
    refine ⟨rfl, rfl, fun k hk => ?_, ?_, ?_⟩
    · show (h.lo.put id (.cells b')).t.get k = _
      exact put_get_ne _ _ _ _ hk
    · show (h.lo.put id (.cells b')).blk id = _
      simp only [go_sem]
    · show min h.low (min h.nx id) = _
      omega
  rw [call_eq (hσ _ _ _ (by decide)) fn_84 rfl rfl, Try.ntmps84, Try.results84]
  cases x
  · have e : off + false.toNat = off := rfl
    rw [e] at hg hlt ⊢
    simp only [K] at hg
    simp only [go_sem, hb, hg, hro, w1, hlt]
    rw [fin_l _ _ _ (by simp only [go_sem]; omega)]
    exact ⟨_, rfl, fin _ _ rfl⟩
  · have e : off + true.toNat = off + 1 := rfl
    rw [e] at hg hlt ⊢
    simp only [K] at hg
    simp only [go_sem, hb, hg, hro, w1, hlt]
    rw [fin_l _ _ _ (by simp only [go_sem]; omega)]
    exact ⟨_, rfl, fin _ _ rfl⟩

def nR (p : Rq → Bool) (L : List Rq) : Nat := L.countP fun r => p r && !r.wr
def nW (p : Rq → Bool) (L : List Rq) : Nat := L.countP fun r => p r && r.wr
def pAll (_ : Rq) : Bool := true
def pOf (r : Rq) : Bool := decide (r.b < 0)
def pAt (k : Nat) (r : Rq) : Bool := decide (r.b = Int.ofNat k)
/-- what stands ahead, as the program counts it -/
structure AH (b : Blk) (L : List Rq) : Prop where
  ro : b.ro = false
  len : L.length < 1000
  at_ : ∀ k, k < 64 → b.get (k * 2) = some (K (nR (pAt k) L)) ∧ b.get (k * 2 + 1) = some (K (nW (pAt k) L))
  of : b.get 128 = some (K (nR pOf L)) ∧ b.get 129 = some (K (nW pOf L))
  all : b.get 130 = some (K (nR pAll L)) ∧ b.get 131 = some (K (nW pAll L))
def stopsA (L : List Rq) (r : Rq) : Bool := if r.b < 0 then stopsN (nR pAll L) (nW pAll L) r.wr else stopsN (nR pOf L) (nW pOf L) r.wr || stopsN (nR (pAt r.b.toNat) L) (nW (pAt r.b.toNat) L) r.wr

theorem astops_run (hσ : ∀ f a h, f ≠ 23 → σ f a h = none) {h : H} {id : Nat} {b : Blk} {L : List Rq} (hb : h.blk id = some b) (A : AH b L) (hid : id < h.nx) (r : Rq) (hr : r.b < 64) :
    RetQ (.bool (stopsA L r)) ((lim Try.prog σ).call 65 [.ptr id 0, r.cv] h) := by
  obtain ⟨Q, hQ⟩ : ∃ Q, Q = RetQ (.bool (stopsA L r)) := ⟨_, rfl⟩
  rw [← hQ]
  rw [call_eq (hσ _ _ _ (by decide)) fn_65 rfl rfl, Try.ntmps65, Try.results65]
  obtain ⟨X, hX⟩ : ∃ X, X = h.lo.alloc (.cells (newBlk [u64 r.n, .int .i64 r.b, .bool r.wr, .bool r.wy])) := ⟨_, rfl⟩
  have XE : Ext h X := by rw [hX]; exact (Ext.lo h).alloc' _
  have Xlow : X.low = h.nx := by rw [hX]; rfl
  have Xa : X.blk h.nx = some (newBlk [u64 r.n, .int .i64 r.b, .bool r.wr, .bool r.wy]) := by rw [hX]; simp only [go_sem]
  have Xb : X.blk id = some b := (XE.blk hid).trans hb
  have fin : ∀ v, v = stopsA L r → Q (some (fin h X (.bool v))) := fun v hv => by
    rw [hQ, fin_q _ _ _ Xlow rfl, hv]; rfl
  obtain ⟨a1, a2⟩ := A.all
  obtain ⟨o1, o2⟩ := A.of
  have hst : ∀ x y z, (lim Try.prog σ).call 85 [.agg [K x, K y], .bool z] X = some (.bool (stopsN x y z), none) := fun x y z => cstops_run hσ X x y z
  by_cases q : r.b < 0
  · have dq : decide (r.b < 0) = true := decide_eq_true q
    simp only [go_sem, Rq.cv, ← hX, Xa, dq]
    refine cnd_go (Q := Q) (by kernel_rfl) ?_
    simp only [go_sem, Rq.cv, ← hX, Xa, Xb, dq, a1, a2, hst]
    exact fin _ (by unfold stopsA; rw [if_pos q])
  · have dq : decide (r.b < 0) = false := decide_eq_false q
    obtain ⟨k, hk⟩ : ∃ k : Nat, r.b = Int.ofNat k := ⟨r.b.toNat, by simp; omega⟩
    have hk64 : k < 64 := by rw [hk] at hr; simp at hr; omega
    obtain ⟨k1, k2⟩ := A.at_ k hk64
    have hkn : r.b.toNat = k := by rw [hk]; rfl
    simp only [go_sem, Rq.cv, ← hX, Xa, dq]
    refine cnd_go (Q := Q) (by kernel_rfl) ?_
    simp only [go_sem, Rq.cv, ← hX, Xa, Xb, dq, o1, o2, hst]
    cases qs : stopsN (nR pOf L) (nW pOf L) r.wr
    · have dk : decide (k < 64) = true := decide_eq_true hk64
      have hX' := hX
      rw [hk] at hX' Xa
      simp only [go_sem, Rq.cv, ← hX, Xa, Xb, dq, o1, o2, hst, qs, hk, ← hX', dk, k1, k2]
      exact fin _ (by unfold stopsA; rw [if_neg q, qs, hkn, Bool.false_or])
    · simp only [go_sem, Rq.cv, ← hX, Xa, Xb, dq, o1, o2, hst, qs]
      exact fin _ (by unfold stopsA; rw [if_neg q, qs]; rfl)
theorem n_snocR (p : Rq → Bool) (L : List Rq) (r : Rq) : nR p (L ++ [r]) = nR p L + (if p r && !r.wr then 1 else 0) := by
  unfold nR; rw [List.countP_append, List.countP_singleton]
theorem n_snocW (p : Rq → Bool) (L : List Rq) (r : Rq) : nW p (L ++ [r]) = nW p L + (if p r && r.wr then 1 else 0) := by
  unfold nW; rw [List.countP_append, List.countP_singleton]
/-- what is written, where a request is added -/
theorem AH.add {b b2 : Blk} {L : List Rq} (A : AH b L) (r : Rq) (hl : L.length < 999) {c : Nat} (hc : c = if r.b < 0 then 128 else r.b.toNat * 2) (hr : r.b < 64) {x y : CV}
    (hx : x = K ((if r.wr then nW pAll L else nR pAll L) + 1)) (hy : y = K ((if r.wr then nW (if r.b < 0 then pOf else pAt r.b.toNat) L else nR (if r.b < 0 then pOf else pAt r.b.toNat) L) + 1))
    (h2 : b2 = (b.st (130 + r.wr.toNat) x).st (c + r.wr.toNat) y) : AH b2 (L ++ [r]) := by
  have hn : 131 < b.n := Blk.get_lt A.all.2
  have hw : r.wr.toNat < 2 := by cases r.wr <;> decide
  have hcb : c + r.wr.toNat < 130 := by
    rw [hc]; split <;> omega
  have kc : b2.get (c + r.wr.toNat) = some y := by rw [h2, st_get_same _ _ _ (by rw [st_n]; omega)]
  have ka : b2.get (130 + r.wr.toNat) = some x := by rw [h2, st_get_ne _ _ _ _ (by omega), st_get_same _ _ _ (by omega)]
  have ko : ∀ j, j ≠ c + r.wr.toNat → j ≠ 130 + r.wr.toNat → b2.get j = b.get j := fun j h1 h3 => by rw [h2, st_get_ne _ _ _ _ h1, st_get_ne _ _ _ _ h3]
  have fR : ∀ p : Rq → Bool, p r = false → nR p (L ++ [r]) = nR p L := fun p hp => by rw [n_snocR, hp]; rfl
  have fW : ∀ p : Rq → Bool, p r = false → nW p (L ++ [r]) = nW p L := fun p hp => by rw [n_snocW, hp]; rfl
  -- one that is of p: reads and writes, at j and j + 1
  have both : ∀ (p : Rq → Bool) (j : Nat) (z : CV), p r = true → b.get j = some (K (nR p L)) → b.get (j + 1) = some (K (nW p L)) → b2.get (j + r.wr.toNat) = some z → z = K ((if r.wr then nW p L else nR p L) + 1) →
      (∀ i, (i = j ∨ i = j + 1) → i ≠ j + r.wr.toNat → b2.get i = b.get i) → b2.get j = some (K (nR p (L ++ [r]))) ∧ b2.get (j + 1) = some (K (nW p (L ++ [r]))) := by
    intro p j z hp g1 g2 gz hz go
    rw [n_snocR, n_snocW, hp]
    cases hwr : r.wr <;> rw [hwr] at gz hz go
    · exact ⟨by rw [show j = j + false.toNat from rfl, gz, hz]; rfl, by rw [go _ (.inr rfl) (by simp)]; exact g2⟩
    · exact ⟨by rw [go _ (.inl rfl) (by simp)]; exact g1, by rw [show j + 1 = j + true.toNat from rfl, gz, hz]; rfl⟩
  refine ⟨by rw [h2]; exact A.ro, by rw [List.length_append, List.length_singleton]; omega, fun k hk => ?_, ?_, ?_⟩
  · obtain ⟨q1, q2⟩ := A.at_ k hk
    by_cases hb : r.b < 0
    · have hp : pAt k r = false := decide_eq_false (by simp; omega)
      rw [if_pos hb] at hc
      rw [fR _ hp, fW _ hp, ko _ (by omega) (by omega), ko _ (by omega) (by omega)]
      exact ⟨q1, q2⟩
    · rw [if_neg hb] at hc hy
      by_cases e : r.b.toNat = k
      · have hp : pAt k r = true := decide_eq_true (by simp; omega)
        subst e
        subst hc
        exact both _ _ _ hp q1 q2 kc hy fun i hi hn => ko i hn (by omega)
      · have hp : pAt k r = false := decide_eq_false (by simp; omega)
        rw [fR _ hp, fW _ hp, ko _ (by omega) (by omega), ko _ (by omega) (by omega)]
        exact ⟨q1, q2⟩
  · obtain ⟨q1, q2⟩ := A.of
    by_cases hb : r.b < 0
    · have hp : pOf r = true := decide_eq_true hb
      rw [if_pos hb] at hc hy
      subst hc
      exact both _ _ _ hp q1 q2 kc hy fun i hi hn => ko i hn (by omega)
    · have hp : pOf r = false := decide_eq_false hb
      rw [if_neg hb] at hc
      rw [fR _ hp, fW _ hp, ko _ (by omega) (by omega), ko _ (by omega) (by omega)]
      exact ⟨q1, q2⟩
  · obtain ⟨q1, q2⟩ := A.all
    exact both _ _ _ (show pAll r = true from rfl) q1 q2 ka hx fun i hi hn => ko i (by omega) hn

theorem aadd_run (hσ : ∀ f a h, f ≠ 23 → σ f a h = none) {h : H} {id : Nat} {b : Blk} {L : List Rq} (hb : h.blk id = some b) (A : AH b L) (hid : id < h.nx) (r : Rq) (hr : r.b < 64) (hl : L.length < 999) :
    ∃ h' b', (lim Try.prog σ).call 64 [.ptr id 0, r.cv] h = some (.tup [], some h') ∧ But h h' id ∧ h'.blk id = some b' ∧ AH b' (L ++ [r]) ∧ h'.low = min h.low id := by
  obtain ⟨Q, hQ⟩ : ∃ Q : Option (CV × Option H) → Prop, Q = fun x => ∃ h' b', x = some (.tup [], some h') ∧ But h h' id ∧ h'.blk id = some b' ∧ AH b' (L ++ [r]) ∧ h'.low = min h.low id := ⟨_, rfl⟩
  suffices Q ((lim Try.prog σ).call 64 [.ptr id 0, r.cv] h) by rw [hQ] at this; exact this
  rw [call_eq (hσ _ _ _ (by decide)) fn_64 rfl rfl, Try.ntmps64, Try.results64]
  obtain ⟨X, hX⟩ : ∃ X, X = h.lo.alloc (.cells (newBlk [u64 r.n, .int .i64 r.b, .bool r.wr, .bool r.wy])) := ⟨_, rfl⟩
  have XE : Ext h X := by rw [hX]; exact (Ext.lo h).alloc' _
  have Xnx : X.nx = h.nx + 1 := by rw [hX]; rfl
  have Xlow : X.low = h.nx := by rw [hX]; rfl
  have Xa : X.blk h.nx = some (newBlk [u64 r.n, .int .i64 r.b, .bool r.wr, .bool r.wy]) := by rw [hX]; simp only [go_sem]
  have Xb : X.blk id = some b := (XE.blk hid).trans hb
  obtain ⟨a1, a2⟩ := A.all
  obtain ⟨o1, o2⟩ := A.of
  -- of all
  have ga : b.get (130 + r.wr.toNat) = some (K (if r.wr then nW pAll L else nR pAll L)) := by
    cases r.wr
    · exact a1
    · exact a2
  have na : (if r.wr then nW pAll L else nR pAll L) < 1000 := by
    have h1 : nW pAll L ≤ L.length := List.countP_le_length
    have h2 : nR pAll L ≤ L.length := List.countP_le_length
    split <;> omega
  obtain ⟨Y, c1, W1⟩ := cadd_run hσ Xb A.ro r.wr ga na (by omega)
  obtain ⟨b1, hb1⟩ : ∃ b1, b1 = b.st (130 + r.wr.toNat) (K ((if r.wr then nW pAll L else nR pAll L) + 1)) := ⟨_, rfl⟩
  rw [← hb1] at W1
  have Ya : Y.blk h.nx = some (newBlk [u64 r.n, .int .i64 r.b, .bool r.wr, .bool r.wy]) := (blk_eq (W1.old _ (by omega))).trans Xa
  have Yb := W1.blk
  have Ylow : Y.low = id := by rw [W1.low, Xlow]; omega
  have fin : ∀ (Z : H) (b2 : Blk) (c : Nat) (y : CV), Wr Y Z id b2 → b2 = b1.st (c + r.wr.toNat) y → c = (if r.b < 0 then 128 else r.b.toNat * 2) → y = K ((if r.wr then nW (if r.b < 0 then pOf else pAt r.b.toNat) L else nR (if r.b < 0 then pOf else pAt r.b.toNat) L) + 1) → Q (some (fin h Z (.tup []))) := by
    intro Z b2 c y W2 hb2 hc hy
    have Zlow : Z.low = id := by rw [W2.low, Ylow]; omega
    rw [hQ, fin_l _ _ _ (by omega)]
    refine ⟨_, b2, rfl, ⟨?_, ?_, fun k hk hne => ?_⟩, W2.blk, A.add r hl hc hr rfl hy (by rw [hb2, hb1]), ?_⟩
    · show h.nx ≤ Z.nx
      rw [W2.nx, W1.nx]; omega
    · show Z.gn = h.gn
      rw [W2.gn, W1.gn]; exact XE.gn
    · show Z.t.get k = _
      rw [W2.old k hne, W1.old k hne, XE.old k hk]
    · show min h.low Z.low = _
      rw [Zlow]
  by_cases q : r.b < 0
  · have dq : decide (r.b < 0) = true := decide_eq_true q
    simp only [go_sem, Rq.cv, ← hX, Xa, Xb, dq, c1]
    refine cnd_go (Q := Q) (by kernel_rfl) ?_
    simp only [go_sem, Rq.cv, ← hX, Xa, Xb, dq, c1, Ya]
    refine cnd_go (Q := Q) (by kernel_rfl) ?_
    refine quiet_go (Q := Q) (by kernel_rfl) ?_
    simp only [go_sem, Rq.cv, ← hX, Xa, Xb, dq, c1, Ya]
    have go : b1.get (128 + r.wr.toNat) = some (K (if r.wr then nW pOf L else nR pOf L)) := by
      rw [hb1, st_get_ne _ _ _ _ (by cases r.wr <;> simp)]
      cases r.wr
      · exact o1
      · exact o2
    have no : (if r.wr then nW pOf L else nR pOf L) < 1000 := by
      have h1 : nW pOf L ≤ L.length := List.countP_le_length
      have h2 : nR pOf L ≤ L.length := List.countP_le_length
      split <;> omega
    obtain ⟨Z, c2, W2⟩ := cadd_run hσ Yb (by rw [hb1]; exact A.ro) r.wr go no (by rw [W1.nx]; omega)
    refine cnd_go (Q := Q) (by kernel_rfl) ?_
    simp only [go_sem, Rq.cv, ← hX, Xa, Xb, dq, c1, Ya, Yb, c2]
    refine cnd_go (Q := Q) (by kernel_rfl) ?_
    refine quiet_go (Q := Q) (by kernel_rfl) ?_
    simp only [go_sem, Rq.cv, ← hX, Xa, Xb, dq, c1, Ya]
    exact fin Z _ 128 _ W2 rfl (by rw [if_pos q]) (by rw [if_pos q])
  · have dq : decide (r.b < 0) = false := decide_eq_false q
    obtain ⟨k, hk⟩ : ∃ k : Nat, r.b = Int.ofNat k := ⟨r.b.toNat, by simp; omega⟩
    have hk64 : k < 64 := by rw [hk] at hr; simp at hr; omega
    obtain ⟨k1, k2⟩ := A.at_ k hk64
    have hkn : r.b.toNat = k := by rw [hk]; rfl
    have dk : decide (k < 64) = true := decide_eq_true hk64
    have go : b1.get (k * 2 + r.wr.toNat) = some (K (if r.wr then nW (pAt k) L else nR (pAt k) L)) := by
      rw [hb1, st_get_ne _ _ _ _ (by cases r.wr <;> simp <;> omega)]
      cases r.wr
      · exact k1
      · exact k2
    have no : (if r.wr then nW (pAt k) L else nR (pAt k) L) < 1000 := by
      have h1 : nW (pAt k) L ≤ L.length := List.countP_le_length
      have h2 : nR (pAt k) L ≤ L.length := List.countP_le_length
      split <;> omega
    obtain ⟨Z, c2, W2⟩ := cadd_run hσ Yb (by rw [hb1]; exact A.ro) r.wr go no (by rw [W1.nx]; omega)
    have fin2 := fin Z _ (k * 2) _ W2 rfl (by rw [if_neg q, hkn]) (by rw [if_neg q, hkn])
    have hX' := hX
    rw [hk] at hX' Xa Ya
    simp only [go_sem, Rq.cv, ← hX, ← hX', hk, Xa, Xb, dq, c1]
    refine cnd_go (Q := Q) (by kernel_rfl) ?_
    simp only [go_sem, Rq.cv, ← hX, ← hX', hk, Xa, Xb, dq, c1, Ya]
    refine cnd_go (Q := Q) (by kernel_rfl) ?_
    refine quiet_go (Q := Q) (by kernel_rfl) ?_
    have dq' : decide (Int.ofNat k < 0) = false := by rw [← hk]; exact dq
    simp only [go_sem, Rq.cv, ← hX, ← hX', hk, Xa, Xb, dq', c1, Ya]
    refine cnd_go (Q := Q) (by kernel_rfl) ?_
    simp only [go_sem, Rq.cv, ← hX, ← hX', hk, Xa, Xb, dq', dk, c1, Ya, Yb, c2]
    refine cnd_go (Q := Q) (by kernel_rfl) ?_
    refine quiet_go (Q := Q) (by kernel_rfl) ?_
    simp only [go_sem, Rq.cv, ← hX, ← hX', hk, Xa, Xb, dq', c1, Ya]
    exact fin2
end
end Go.Cl.O

namespace Go.Cl.O
noncomputable section
variable {σ : Sums}
set_option maxRecDepth 1000000

/-- a row of requests -/
def LA (h : H) (v : CV) (L : List Rq) : Prop := (L = [] ∧ v = .nils) ∨ (L = [] ∧ ∃ id, v = .sl id 0 0 (.exact 0) ∧ id < h.nx ∧ ∃ b, h.blk id = some b) ∨ ∃ id b m, v = .sl id 0 L.length (.opn 4) ∧ id < h.nx ∧ h.blk id = some b ∧ b.ro = false ∧ b.n = m * 4 ∧ L.length ≤ m ∧
  ∀ i r, L[i]? = some r → b.get (i * 4) = some (u64 r.n) ∧ b.get (i * 4 + 1) = some (.int .i64 r.b) ∧ b.get (i * 4 + 2) = some (.bool r.wr) ∧ b.get (i * 4 + 3) = some (.bool r.wy)
/-- the block of a row -/
def own (v : CV) (k : Nat) : Prop := match v with | .sl id _ _ _ => k = id | _ => False
theorem LA.keep {h h' : H} {v : CV} {L : List Rq} (B : LA h v L) (nx : h.nx ≤ h'.nx) (e : ∀ k, own v k → h'.t.get k = h.t.get k) : LA h' v L := by
  rcases B with B | ⟨h0, id, rfl, h1, b, h2⟩ | ⟨id, b, m, rfl, h1, h2, h3⟩
  · exact .inl B
  · exact .inr (.inl ⟨h0, id, rfl, by omega, b, (blk_eq (e id rfl)).trans h2⟩)
  · exact .inr (.inr ⟨id, b, m, rfl, by omega, (blk_eq (e id rfl)).trans h2, h3⟩)
theorem LA.lt {h : H} {v : CV} {L : List Rq} (B : LA h v L) {k : Nat} (hk : own v k) : k < h.nx := by
  rcases B with ⟨_, rfl⟩ | ⟨h0, id, rfl, h1, b, h2⟩ | ⟨id, b, m, rfl, h1, _⟩
  · cases hk
  · cases hk; exact h1
  · cases hk; exact h1
theorem LA.ext {h h' : H} {v : CV} {L : List Rq} (B : LA h v L) (e : Ext h h') : LA h' v L := B.keep e.nx fun k hk => e.old k (B.lt hk)
theorem LA.len {h : H} {v : CV} {L : List Rq} (B : LA h v L) (h' : H) (ts : List TypeId) (az : List CV) : builtinT Try.prog h' .len (66 :: ts) (v :: az) = some (.val (.int .i64 (Int.ofNat L.length))) := by
  rcases B with ⟨rfl, rfl⟩ | ⟨rfl, id, rfl, _⟩ | ⟨id, b, m, rfl, _⟩
  · rfl
  · rfl
  · rfl
theorem LA.len2 {h : H} {v : CV} {L : List Rq} (B : LA h v L) (h' : H) (ts : List TypeId) (az : List CV) : builtinT Try.prog h' .len (59 :: ts) (v :: az) = some (.val (.int .i64 (Int.ofNat L.length))) := by
  rcases B with ⟨rfl, rfl⟩ | ⟨rfl, id, rfl, _⟩ | ⟨id, b, m, rfl, _⟩
  · kernel_rfl
  · kernel_rfl
  · kernel_rfl
theorem LA.one {h : H} {v : CV} {L : List Rq} (B : LA h v L) : v.one = true ∧ v.cells = [v] ∧ beqC v v = true := by
  rcases B with ⟨rfl, rfl⟩ | ⟨rfl, id, rfl, _⟩ | ⟨id, b, m, rfl, _⟩
  · exact ⟨rfl, rfl, rfl⟩
  · exact ⟨rfl, rfl, by simp [beqC]⟩
  · exact ⟨rfl, rfl, beqC_sl _ _ _ _⟩
/-- where a request stands -/
structure AtR (k : Blk) (i : Nat) (r : Rq) : Prop where
  c0 : k.get (i * 4) = some (u64 r.n)
  c1 : k.get (i * 4 + 1) = some (.int .i64 r.b)
  c2 : k.get (i * 4 + 2) = some (.bool r.wr)
  c3 : k.get (i * 4 + 3) = some (.bool r.wy)
theorem AtR.load {k : Blk} {i : Nat} {r : Rq} (A : AtR k i r) : k.loadN (i * 4) 4 = some [u64 r.n, .int .i64 r.b, .bool r.wr, .bool r.wy] := by
  simp only [go_sem, A.c0, A.c1, A.c2, A.c3]
theorem LA.at_ {h : H} {v : CV} {L : List Rq} (B : LA h v L) {i : Nat} {r : Rq} (hx : L[i]? = some r) : ∃ id b, (∀ kd, indexAddrT Try.prog 66 v (.int kd (Int.ofNat i)) = some (.ptr id (i * 4))) ∧ (∀ kd, indexAddrT Try.prog 59 v (.int kd (Int.ofNat i)) = some (.ptr id (i * 4))) ∧ own v id ∧ id < h.nx ∧ h.blk id = some b ∧ b.ro = false ∧ AtR b i r := by
  rcases B with ⟨rfl, rfl⟩ | ⟨rfl, id, rfl, _⟩ | ⟨id, b, m, rfl, h1, h2, h3, h4, h5, h6⟩
  · simp at hx
  · simp at hx
  · obtain ⟨q1, q2, q3, q4⟩ := h6 i r hx
    have hi := (List.getElem?_eq_some_iff.1 hx).1
    refine ⟨id, b, fun kd => ?_, fun kd => ?_, rfl, h1, h2, h3, ⟨q1, q2, q3, q4⟩⟩
    · rw [ia_66, blt_eq', decide_eq_true hi, cond_true, Nat.zero_add]
    · rw [ia_59, blt_eq', decide_eq_true hi, cond_true, Nat.zero_add]
/-- a table's block -/
structure TA (h : H) (t : Nat) (v : CV) (L : List Rq) : Prop where
  blk : ∃ tb, h.blk t = some tb ∧ tb.ro = false ∧ tb.get 0 = some (.bool true) ∧ tb.get 1 = some v
  lt : t < h.nx
  row : LA h v L
  ne : ¬ own v t
theorem TA.keep {h h' : H} {t : Nat} {v : CV} {L : List Rq} (T : TA h t v L) (nx : h.nx ≤ h'.nx) (e : ∀ k, (k = t ∨ own v k) → h'.t.get k = h.t.get k) : TA h' t v L := by
  obtain ⟨tb, h1, h2⟩ := T.blk
  exact ⟨⟨tb, (blk_eq (e t (.inl rfl))).trans h1, h2⟩, by have := T.lt; omega, T.row.keep nx fun k hk => e k (.inr hk), T.ne⟩
theorem TA.ext {h h' : H} {t : Nat} {v : CV} {L : List Rq} (T : TA h t v L) (e : Ext h h') : TA h' t v L := T.keep e.nx fun k hk => e.old k (by
  rcases hk with rfl | hk
  · exact T.lt
  · exact T.row.lt hk)
theorem none_run (hσ : ∀ f a h, f ≠ 23 → σ f a h = none) {h : H} {t : Nat} {v : CV} {L : List Rq} (T : TA h t v L) : RetQ (.bool false) ((lim Try.prog σ).call 60 [.ptr t 0] h) := by
  obtain ⟨tb, q1, q2, q3, q4⟩ := T.blk
  rw [call_eq (hσ _ _ _ (by decide)) fn_60 rfl rfl, Try.ntmps60, Try.results60]
  simp only [go_sem, q1, q3]
  exact congrArg some (fin_q _ _ _ rfl rfl)
theorem len_run (hσ : ∀ f a h, f ≠ 23 → σ f a h = none) {h : H} {t : Nat} {v : CV} {L : List Rq} (T : TA h t v L) : RetQ (.int .i64 (Int.ofNat L.length)) ((lim Try.prog σ).call 34 [.ptr t 0] h) := by
  obtain ⟨tb, q1, q2, q3, q4⟩ := T.blk
  have nn : (lim Try.prog σ).call 60 [.ptr t 0] h.lo = some (.bool false, none) := none_run hσ (T.ext (Ext.lo h))
  have hl := T.row.len
  rw [call_eq (hσ _ _ _ (by decide)) fn_34 rfl rfl, Try.ntmps34, Try.results34]
  simp only [go_sem, nn, q1, q4, hl]
  exact congrArg some (fin_q _ _ _ rfl rfl)
/-- the first that is so, or -1 -/
def idxI (p : Rq → Bool) : List Rq → Nat → Int
  | [], _ => -1
  | r :: l, k => if p r then Int.ofNat k else idxI p l (k + 1)
theorem indexf_run (hσ : ∀ f a h, f ≠ 23 → σ f a h = none) {h : H} {v : CV} {L : List Rq} (B : LA h v L) (hl : L.length ≤ 1000) {g : FuncId} {c : Nat} (p : Rq → Bool) (ht : isTextO Try.prog g = some ())
    (hf : ∀ r ∈ L, (lim Try.prog σ).call g [r.cv, .ptr c 0] h.lo = some (.bool (p r), none)) :
    RetQ (.int .i64 (idxI p L 0)) ((lim Try.prog σ).call 82 [v, .fn (.func g) [] [.ptr c 0]] h) := by
  rw [call_eq (hσ _ _ _ (by decide)) fn_82 rfl rfl, Try.ntmps82, Try.results82]
  obtain ⟨Q, hQ⟩ : ∃ Q, Q = RetQ (.int .i64 (idxI p L 0)) := ⟨_, rfl⟩
  rw [← hQ]
  have Bl := B.len
  simp only [go_sem, Bl]
  refine loop_ind (Q := Q) (fun i env h' => h' = h.lo ∧ evT env 0 = v ∧ evT env 1 = .fn (.func g) [] [.ptr c 0] ∧ evT env 7 = .int .i64 (Int.ofNat L.length) ∧ evT env 8 = .int .i64 (Int.ofNat i) ∧ idxI p L 0 = idxI p (L.drop i) i) L.length 0 ?_ (Nat.zero_le _) ?_ ?_
  · exact ⟨rfl, by simp only [go_sem], by simp only [go_sem], by simp only [go_sem], by simp only [go_sem]; rfl, rfl⟩
  · rintro i env h' ⟨rfl, e0, e1, e7, e8, hx⟩ hi next
    have c0 := ofNat_lt hi
    obtain ⟨r, hr⟩ : ∃ r, L[i]? = some r := ⟨_, List.getElem?_eq_getElem hi⟩
    obtain ⟨id, b, ea, _, _, _, hb, _, A⟩ := (B.ext (Ext.lo h)).at_ hr
    have w1 := wrap_succ (i := i) (by omega)
    have hc := hf r (List.mem_of_getElem? hr)
    have ld := A.load
    have hd : L.drop i = r :: L.drop (i + 1) := by
      rw [List.drop_eq_getElem_cons hi]
      rw [List.getElem?_eq_getElem hi] at hr
      cases hr; rfl
    rw [hd, idxI] at hx
    rw [Rq.cv] at hc
    cases q : p r
    · rw [q] at hc hx
      simp only [go_sem, e0, e1, e7, e8, c0, ea, hb, ld, hc, w1, ht]
      refine next _ _ ⟨rfl, by simp only [go_sem, e0], by simp only [go_sem, e1], by simp only [go_sem, e7], by simp only [go_sem, w1], ?_⟩
      rw [hx]; rfl
    · rw [q] at hc hx
      simp only [go_sem, e0, e1, e7, e8, c0, ea, hb, ld, hc, w1, ht]
      rw [hQ, hx]
      exact congrArg some (fin_q _ _ _ rfl rfl)
  · rintro env h' ⟨rfl, e0, e1, e7, e8, hx⟩
    have c0 := ofNat_nlt (Nat.le_refl L.length)
    simp only [go_sem, e0, e1, e7, e8, c0]
    rw [List.drop_length] at hx
    rw [hQ, hx]
    exact congrArg some (fin_q _ _ _ rfl rfl)
def pNum (n : Nat) (r : Rq) : Bool := decide (r.n = n)
theorem place1_run (hσ : ∀ f a h, f ≠ 23 → σ f a h = none) {h : H} {c n : Nat} {b : Blk} (hb : h.blk c = some b) (hc : c < h.nx) (hg : b.get 0 = some (u64 n)) (r : Rq) :
    RetQ (.bool (pNum n r)) ((lim Try.prog σ).call 83 [r.cv, .ptr c 0] h) := by
  rw [call_eq (hσ _ _ _ (by decide)) fn_83 rfl rfl, Try.ntmps83, Try.results83]
  have hb' : (h.lo.alloc (.cells (newBlk [u64 r.n, .int .i64 r.b, .bool r.wr, .bool r.wy]))).blk c = some b := (((Ext.lo h).alloc' _).blk hc).trans hb
  simp only [go_sem, Rq.cv, hb', hg, eq64]
  exact congrArg some (fin_q _ _ _ rfl rfl)
theorem place_run (hσ : ∀ f a h, f ≠ 23 → σ f a h = none) {h : H} {t : Nat} {v : CV} {L : List Rq} (T : TA h t v L) (hl : L.length ≤ 1000) (n : Nat) :
    RetQ (.int .i64 (idxI (pNum n) L 0)) ((lim Try.prog σ).call 63 [.ptr t 0, u64 n] h) := by
  obtain ⟨X, hX⟩ : ∃ X, X = h.lo.alloc (.cells (newBlk [u64 n])) := ⟨_, rfl⟩
  have XE : Ext h X := by rw [hX]; exact (Ext.lo h).alloc' _
  have Xlow : X.low = h.nx := by rw [hX]; rfl
  have Xnx : X.nx = h.nx + 1 := by rw [hX]; rfl
  have Xa : X.blk h.nx = some (newBlk [u64 n]) := by rw [hX]; simp only [go_sem]
  obtain ⟨tb, q1, q2, q3, q4⟩ := (T.ext XE).blk
  have hc : (lim Try.prog σ).call 82 [v, .fn (.func 83) [] [.ptr h.nx 0]] X = some (.int .i64 (idxI (pNum n) L 0), none) :=
    indexf_run hσ (T.ext XE).row hl (pNum n) tx_83 fun r _ => place1_run hσ (h := X.lo) (b := newBlk [u64 n]) Xa (by show h.nx < X.nx; omega) (by simp only [go_sem]) r
  rw [call_eq (hσ _ _ _ (by decide)) fn_63 rfl rfl, Try.ntmps63, Try.results63]
  simp only [go_sem, ← hX, q1, q4, hc]
  exact congrArg some (fin_q _ _ _ Xlow rfl)
def pBusy (k : Int) (r : Rq) : Bool := r.wy && (decide (r.b < 0) || decide (r.b = k))
theorem busy1_run (hσ : ∀ f a h, f ≠ 23 → σ f a h = none) {h : H} {c : Nat} {k : Int} {b : Blk} (hb : h.blk c = some b) (hc : c < h.nx) (hg : b.get 0 = some (.int .i64 k)) (r : Rq) :
    RetQ (.bool (pBusy k r)) ((lim Try.prog σ).call 69 [r.cv, .ptr c 0] h) := by
  obtain ⟨X, hX⟩ : ∃ X, X = h.lo.alloc (.cells (newBlk [u64 r.n, .int .i64 r.b, .bool r.wr, .bool r.wy])) := ⟨_, rfl⟩
  have Xlow : X.low = h.nx := by rw [hX]; rfl
  have Xa : X.blk h.nx = some (newBlk [u64 r.n, .int .i64 r.b, .bool r.wr, .bool r.wy]) := by rw [hX]; simp only [go_sem]
  have Xc : X.blk c = some b := by rw [hX]; exact (((Ext.lo h).alloc' _).blk hc).trans hb
  obtain ⟨Q, hQ⟩ : ∃ Q, Q = RetQ (.bool (pBusy k r)) := ⟨_, rfl⟩
  rw [← hQ]
  have fin : ∀ v, v = pBusy k r → Q (some (fin h X (.bool v))) := fun v hv => by
    rw [hQ, fin_q _ _ _ Xlow rfl, hv]; rfl
  rw [call_eq (hσ _ _ _ (by decide)) fn_69 rfl rfl, Try.ntmps69, Try.results69]
  cases q1 : r.wy
  · rw [q1] at hX Xa
    simp only [go_sem, Rq.cv, ← hX, Xa, Xc, hg, q1]
    exact fin _ (by unfold pBusy; rw [q1]; rfl)
  · rw [q1] at hX Xa
    by_cases q2 : r.b < 0
    · have dq : decide (r.b < 0) = true := decide_eq_true q2
      simp only [go_sem, Rq.cv, ← hX, Xa, Xc, hg, q1, dq]
      exact fin _ (by unfold pBusy; rw [q1, dq]; rfl)
    · have dq : decide (r.b < 0) = false := decide_eq_false q2
      simp only [go_sem, Rq.cv, ← hX, Xa, Xc, hg, q1, dq]
      exact fin _ (by unfold pBusy; rw [q1, dq]; rfl)
theorem idx_nn (p : Rq → Bool) : ∀ (L : List Rq) (k : Nat), decide (idxI p L k ≥ 0) = L.any p
  | [], _ => rfl
  | r :: l, k => by
    rw [idxI, List.any_cons]
    cases q : p r
    · simp only [Bool.false_eq_true, if_false, Bool.false_or]
      exact idx_nn p l (k + 1)
    · simp
theorem busy_run (hσ : ∀ f a h, f ≠ 23 → σ f a h = none) {h : H} {t : Nat} {v : CV} {L : List Rq} (T : TA h t v L) (hl : L.length ≤ 1000) (k : Int) :
    RetQ (.bool (L.any (pBusy k))) ((lim Try.prog σ).call 33 [.ptr t 0, .int .i64 k] h) := by
  obtain ⟨X, hX⟩ : ∃ X, X = h.lo.alloc (.cells (newBlk [.int .i64 k])) := ⟨_, rfl⟩
  have XE : Ext h X := by rw [hX]; exact (Ext.lo h).alloc' _
  have Xlow : X.low = h.nx := by rw [hX]; rfl
  have Xnx : X.nx = h.nx + 1 := by rw [hX]; rfl
  have Xa : X.blk h.nx = some (newBlk [.int .i64 k]) := by rw [hX]; simp only [go_sem]
  obtain ⟨tb, q1, q2, q3, q4⟩ := (T.ext XE).blk
  have nn : (lim Try.prog σ).call 60 [.ptr t 0] X = some (.bool false, none) := none_run hσ (T.ext XE)
  have hi : (lim Try.prog σ).call 82 [v, .fn (.func 69) [] [.ptr h.nx 0]] X.lo = some (.int .i64 (idxI (pBusy k) L 0), none) :=
    indexf_run hσ ((T.ext XE).row.ext (Ext.lo X)) hl (pBusy k) tx_69 fun r _ => busy1_run hσ (h := X.lo.lo) (b := newBlk [.int .i64 k]) Xa (by show h.nx < X.nx; omega) (by simp only [go_sem]) r
  have hc : (lim Try.prog σ).call 68 [v, .fn (.func 69) [] [.ptr h.nx 0]] X = some (.bool (L.any (pBusy k)), none) := by
    rw [call_eq (hσ _ _ _ (by decide)) fn_68 rfl rfl, Try.ntmps68, Try.results68]
    simp only [go_sem, hi]
    rw [← idx_nn (pBusy k) L 0]
    exact congrArg some (fin_q _ _ _ rfl rfl)
  rw [call_eq (hσ _ _ _ (by decide)) fn_33 rfl rfl, Try.ntmps33, Try.results33]
  simp only [go_sem, ← hX, nn, q1, q4, hc]
  exact congrArg some (fin_q _ _ _ Xlow rfl)
end
end Go.Cl.O

namespace Go.Cl.O
noncomputable section
variable {σ : Sums}
set_option maxRecDepth 1000000

def uc (l : List Nat) : List CV := l.map u64
theorem uc_len (l : List Nat) : (uc l).length = l.length := by simp [uc]
theorem uc_app (a b : List Nat) : uc (a ++ b) = uc a ++ uc b := by simp [uc]
theorem uc_one (l : List Nat) : (uc l).all CV.one = true := List.all_eq_true.2 fun x hx => by
  obtain ⟨b, _, rfl⟩ := List.mem_map.1 hx; rfl
/-- a row of numbers -/
def EL (h : H) (v : CV) (es : List Nat) : Prop := (es = [] ∧ v = .nils) ∨ ∃ id b, v = .sl id 0 es.length (.opn 1) ∧ id < h.nx ∧ h.blk id = some b ∧ b.n = es.length ∧ ∀ i x, es[i]? = some x → b.get i = some (u64 x)
theorem EL.keep {h h' : H} {v : CV} {es : List Nat} (B : EL h v es) (nx : h.nx ≤ h'.nx) (e : ∀ k, own v k → h'.t.get k = h.t.get k) : EL h' v es := by
  rcases B with B | ⟨id, b, rfl, h2, h3, h4⟩
  · exact .inl B
  · exact .inr ⟨id, b, rfl, by omega, (blk_eq (e id rfl)).trans h3, h4⟩
theorem EL.lt {h : H} {v : CV} {es : List Nat} (B : EL h v es) {k : Nat} (hk : own v k) : k < h.nx := by
  rcases B with ⟨_, rfl⟩ | ⟨id, b, rfl, h1, _⟩
  · cases hk
  · cases hk; exact h1
theorem EL.ext {h h' : H} {v : CV} {es : List Nat} (B : EL h v es) (e : Ext h h') : EL h' v es := B.keep e.nx fun k hk => e.old k (B.lt hk)
theorem EL.len {h : H} {v : CV} {es : List Nat} (B : EL h v es) (h' : H) (ts : List TypeId) (az : List CV) : builtinT Try.prog h' .len (34 :: ts) (v :: az) = some (.val (.int .i64 (Int.ofNat es.length))) := by
  rcases B with ⟨rfl, rfl⟩ | ⟨id, b, rfl, _⟩ <;> rfl
theorem EL.at_ {h : H} {v : CV} {es : List Nat} (B : EL h v es) {i x : Nat} (hx : es[i]? = some x) : ∃ id b, (∀ kd, indexAddrT Try.prog 34 v (.int kd (Int.ofNat i)) = some (.ptr id i)) ∧ id < h.nx ∧ h.blk id = some b ∧ b.get i = some (u64 x) := by
  have hi := (List.getElem?_eq_some_iff.1 hx).1
  rcases B with ⟨rfl, _⟩ | ⟨id, b, rfl, h2, h3, h4, h5⟩
  · simp at hi
  · exact ⟨id, b, fun kd => by rw [ia_34, blt_eq', decide_eq_true hi, cond_true, Nat.mul_one, Nat.zero_add], h2, h3, h5 i x hx⟩

theorem same_run (hσ : ∀ f a h, f ≠ 23 → σ f a h = none) {h : H} {v w : CV} {es : List Nat} (B : EL h v es) (C : EL h w es) (hl : es.length ≤ 1000) : RetQ (.bool true) ((lim Try.prog σ).call 59 [v, w] h) := by
  rw [call_eq (hσ _ _ _ (by decide)) fn_59 rfl rfl, Try.ntmps59, Try.results59]
  have Bl := B.len
  have Cl := C.len
  obtain ⟨Q, hQ⟩ : ∃ Q, Q = RetQ (.bool true) := ⟨_, rfl⟩
  rw [← hQ]
  simp only [go_sem, Bl, Cl]
  refine loop_ind (Q := Q) (fun i env h' => h' = h.lo ∧ evT env 0 = v ∧ evT env 1 = w ∧ evT env 5 = .int .i64 (Int.ofNat i)) es.length 0 ?_ (Nat.zero_le _) ?_ ?_
  · exact ⟨rfl, by simp only [go_sem], by simp only [go_sem], by simp only [go_sem]; rfl⟩
  · rintro i env h' ⟨rfl, e0, e1, e5⟩ hi next
    have c0 := ofNat_lt hi
    have w1 := wrap_succ (i := i) (by omega)
    obtain ⟨x, hx⟩ : ∃ x, es[i]? = some x := ⟨_, List.getElem?_eq_getElem hi⟩
    obtain ⟨id1, b1, i1, _, hb1, hg1⟩ := (B.ext (Ext.lo h)).at_ hx
    obtain ⟨id2, b2, i2, _, hb2, hg2⟩ := (C.ext (Ext.lo h)).at_ hx
    simp only [go_sem, e0, e1, e5, c0, Bl]
    refine cnd_go (Q := Q) (by kernel_rfl) ?_
    simp only [go_sem, e0, e1, e5, c0, i1, i2, hb1, hb2, hg1, hg2, ne64, eq64, w1]
    exact next _ _ ⟨rfl, by simp only [go_sem, e0], by simp only [go_sem, e1], by simp only [go_sem, w1]⟩
  · rintro env h' ⟨rfl, e0, e1, e5⟩
    have c0 := ofNat_nlt (Nat.le_refl es.length)
    simp only [go_sem, e0, e1, e5, c0, Bl]
    rw [hQ]
    exact congrArg some (fin_q _ _ _ rfl rfl)

theorem at_run (hσ : ∀ f a h, f ≠ 23 → σ f a h = none) {h : H} {v : CV} {L : List Rq} (B : LA h v L) (hl : L.length ≤ 1000) (n : Nat) :
    RetQ (.int .i64 (idxI (pNum n) L 0)) ((lim Try.prog σ).call 57 [v, u64 n] h) := by
  rw [call_eq (hσ _ _ _ (by decide)) fn_57 rfl rfl, Try.ntmps57, Try.results57]
  obtain ⟨Q, hQ⟩ : ∃ Q, Q = RetQ (.int .i64 (idxI (pNum n) L 0)) := ⟨_, rfl⟩
  rw [← hQ]
  have Bl := B.len2
  simp only [go_sem]
  refine loop_ind (Q := Q) (fun i env h' => h' = h.lo ∧ evT env 0 = v ∧ evT env 1 = u64 n ∧ evT env 5 = .int .i64 (Int.ofNat i) ∧ idxI (pNum n) L 0 = idxI (pNum n) (L.drop i) i) L.length 0 ?_ (Nat.zero_le _) ?_ ?_
  · exact ⟨rfl, by simp only [go_sem], by simp only [go_sem], by simp only [go_sem]; rfl, rfl⟩
  · rintro i env h' ⟨rfl, e0, e1, e5, hx⟩ hi next
    have c0 := ofNat_lt hi
    obtain ⟨r, hr⟩ : ∃ r, L[i]? = some r := ⟨_, List.getElem?_eq_getElem hi⟩
    obtain ⟨id, b, _, ea, _, _, hb, _, A⟩ := (B.ext (Ext.lo h)).at_ hr
    have w1 := wrap_succ (i := i) (by omega)
    have a0 := A.c0
    have hd : L.drop i = r :: L.drop (i + 1) := by
      rw [List.drop_eq_getElem_cons hi]
      rw [List.getElem?_eq_getElem hi] at hr
      cases hr; rfl
    rw [hd, idxI] at hx
    by_cases q : r.n = n
    · have dq : pNum n r = true := decide_eq_true q
      rw [dq] at hx
      simp only [go_sem, e0, e1, e5, c0, Bl, ea, hb, a0, eq64, q, w1]
      rw [hQ, hx]
      exact congrArg some (fin_q _ _ _ rfl rfl)
    · have dq : pNum n r = false := decide_eq_false q
      rw [dq] at hx
      simp only [go_sem, e0, e1, e5, c0, Bl, ea, hb, a0, eq64, q, w1]
      refine next _ _ ⟨rfl, by simp only [go_sem, e0], by simp only [go_sem, e1], by simp only [go_sem, w1], ?_⟩
      rw [hx]; rfl
  · rintro env h' ⟨rfl, e0, e1, e5, hx⟩
    have c0 := ofNat_nlt (Nat.le_refl L.length)
    simp only [go_sem, e0, e1, e5, c0, Bl]
    rw [List.drop_length] at hx
    rw [hQ, hx]
    exact congrArg some (fin_q _ _ _ rfl rfl)

/-- are two in each other's way -/
def hind (a b : Rq) : Bool := (a.wr || b.wr) && (decide (a.b < 0) || decide (b.b < 0) || decide (a.b = b.b))
theorem hind_run (hσ : ∀ f a h, f ≠ 23 → σ f a h = none) (h : H) (a b : Rq) :
    RetQ (.bool (hind a b)) ((lim Try.prog σ).call 81 [a.cv, b.cv] h) := by
  rw [call_eq (hσ _ _ _ (by decide)) fn_81 rfl rfl, Try.ntmps81, Try.results81]
  obtain ⟨Q, hQ⟩ : ∃ Q, Q = RetQ (.bool (hind a b)) := ⟨_, rfl⟩
  rw [← hQ]
  have fin : ∀ (X : H) (v : Bool), X.low = h.nx → v = hind a b → Q (some (fin h X (.bool v))) := fun X v hl hv => by
    rw [hQ, fin_q _ _ _ hl rfl, hv]; rfl
  by_cases qa : a.wr = false ∧ b.wr = false
  · simp only [go_sem, Rq.cv, qa.1, qa.2]
    exact fin _ _ rfl (by unfold hind; rw [qa.1, qa.2]; rfl)
  · have hw : (a.wr || b.wr) = true := by
      cases h1 : a.wr
      · cases h2 : b.wr
        · exact absurd ⟨h1, h2⟩ qa
        · rfl
      · rfl
    have hc : a.wr = true ∨ (a.wr = false ∧ b.wr = true) := by
      cases h1 : a.wr
      · rw [h1] at hw; exact .inr ⟨rfl, by simpa using hw⟩
      · exact .inl rfl
    by_cases q1 : a.b < 0
    · have d1 : decide (a.b < 0) = true := decide_eq_true q1
      have e : hind a b = true := by unfold hind; rw [hw, d1]; rfl
      rcases hc with h1 | ⟨h1, h2⟩
      · simp only [go_sem, Rq.cv, h1, d1]
        exact fin _ _ rfl e.symm
      · simp only [go_sem, Rq.cv, h1, h2, d1]
        exact fin _ _ rfl e.symm
    · have d1 : decide (a.b < 0) = false := decide_eq_false q1
      by_cases q2 : b.b < 0
      · have d2 : decide (b.b < 0) = true := decide_eq_true q2
        have e : hind a b = true := by unfold hind; rw [hw, d1, d2]; rfl
        rcases hc with h1 | ⟨h1, h2⟩
        · simp only [go_sem, Rq.cv, h1, d1, d2]
          exact fin _ _ rfl e.symm
        · simp only [go_sem, Rq.cv, h1, h2, d1, d2]
          exact fin _ _ rfl e.symm
      · have d2 : decide (b.b < 0) = false := decide_eq_false q2
        have e : hind a b = decide (a.b = b.b) := by unfold hind; rw [hw, d1, d2]; rfl
        rcases hc with h1 | ⟨h1, h2⟩
        · simp only [go_sem, Rq.cv, h1, d1, d2]
          exact fin _ _ rfl e.symm
        · simp only [go_sem, Rq.cv, h1, h2, d1, d2]
          exact fin _ _ rfl e.symm
/-- has the one at a place none in its way ahead of it -/
def freeN (L : List Rq) (i : Nat) (x : Rq) : Bool := !((L.take i).any fun r => hind r x)
theorem free_run (hσ : ∀ f a h, f ≠ 23 → σ f a h = none) {h : H} {v : CV} {L : List Rq} (B : LA h v L) (hl : L.length ≤ 1000) {i : Nat} {x : Rq} (hx : L[i]? = some x) :
    RetQ (.bool (freeN L i x)) ((lim Try.prog σ).call 58 [v, .int .i64 (Int.ofNat i)] h) := by
  have hil := (List.getElem?_eq_some_iff.1 hx).1
  rw [call_eq (hσ _ _ _ (by decide)) fn_58 rfl rfl, Try.ntmps58, Try.results58]
  obtain ⟨Q, hQ⟩ : ∃ Q, Q = RetQ (.bool (freeN L i x)) := ⟨_, rfl⟩
  rw [← hQ]
  simp only [go_sem]
  refine loop_ind (Q := Q) (fun j env h' => h' = h.lo ∧ evT env 0 = v ∧ evT env 1 = .int .i64 (Int.ofNat i) ∧ evT env 5 = .int .i64 (Int.ofNat j) ∧ (L.take j).any (fun r => hind r x) = false) i 0 ?_ (Nat.zero_le _) ?_ ?_
  · exact ⟨rfl, by simp only [go_sem], by simp only [go_sem], by simp only [go_sem]; rfl, by simp⟩
  · rintro j env h' ⟨rfl, e0, e1, e5, hf⟩ hj next
    have c0 := ofNat_lt hj
    obtain ⟨r, hr⟩ : ∃ r, L[j]? = some r := ⟨_, List.getElem?_eq_getElem (by omega)⟩
    obtain ⟨id, b, _, ea, _, _, hb, _, A⟩ := (B.ext (Ext.lo h)).at_ hr
    obtain ⟨id2, b2, _, ea2, _, _, hb2, _, A2⟩ := (B.ext (Ext.lo h)).at_ hx
    have w1 := wrap_succ (i := j) (by omega)
    have ld := A.load
    have ld2 := A2.load
    have hh : (lim Try.prog σ).call 81 [r.cv, x.cv] h.lo = some (.bool (hind r x), none) := hind_run hσ _ r x
    rw [Rq.cv, Rq.cv] at hh
    have ht : (L.take (j + 1)).any (fun r => hind r x) = hind r x := by
      rw [List.take_succ, hr, List.any_append, hf]; simp
    simp only [go_sem, e0, e1, e5, c0]
    refine cnd_go (Q := Q) (by kernel_rfl) ?_
    cases q : hind r x
    · rw [q] at hh ht
      simp only [go_sem, e0, e1, e5, c0, ea, ea2, hb, hb2, ld, ld2, hh, w1]
      exact next _ _ ⟨rfl, by simp only [go_sem, e0], by simp only [go_sem, e1], by simp only [go_sem, w1], ht⟩
    · rw [q] at hh ht
      simp only [go_sem, e0, e1, e5, c0, ea, ea2, hb, hb2, ld, ld2, hh, w1]
      have : freeN L i x = false := by
        unfold freeN
        have : (L.take i).any (fun r => hind r x) = true := by
          rw [List.any_eq_true] at ht ⊢
          obtain ⟨y, hy, hy2⟩ := ht
          refine ⟨y, ?_, hy2⟩
          have : L.take (j + 1) = (L.take i).take (j + 1) := by rw [List.take_take, Nat.min_eq_left (by omega)]
          rw [this] at hy
          exact List.mem_of_mem_take hy
        rw [this]; rfl
      rw [hQ, this]
      exact congrArg some (fin_q _ _ _ rfl rfl)
  · rintro env h' ⟨rfl, e0, e1, e5, hf⟩
    have c0 := ofNat_nlt (Nat.le_refl i)
    simp only [go_sem, e0, e1, e5, c0]
    have : freeN L i x = true := by unfold freeN; rw [hf]; rfl
    rw [hQ, this]
    exact congrArg some (fin_q _ _ _ rfl rfl)
end
end Go.Cl.O

namespace Go.Cl.O
noncomputable section
variable {σ : Sums}
set_option maxRecDepth 1000000

/-- a list of numbers of one's own -/
structure GU (h h' : H) (v : CV) (es : List Nat) (lid : Nat) : Prop where
  ge : h.nx ≤ lid
  lst : Lst h' 1 v lid es.length (uc es)
  ext : Ext h h'
  low : h'.low = h.low
  bl : h.low ≤ h.nx
theorem GU.alloc {h h' : H} {v : CV} {es : List Nat} {lid : Nat} (g : GU h h' v es lid) (o : CObj) : GU h (h'.alloc o) v es lid := ⟨g.ge, g.lst.ext (Ext.alloc _ _), g.ext.alloc' _, g.low, g.bl⟩
theorem GU.el {h h' : H} {v : CV} {es : List Nat} {lid : Nat} (g : GU h h' v es lid) : EL h' v es := by
  rcases g.lst.val with ⟨h0, rfl⟩ | ⟨h0, rfl, h1, b, h2, h3, h4, h5⟩
  · exact .inl ⟨List.length_eq_zero_iff.1 h0, rfl⟩
  · exact .inr ⟨lid, b, rfl, h1, h2, by rw [h4, Nat.mul_one], fun i x hx => by rw [h5, nth_eq]; unfold uc; rw [List.getElem?_map, hx]; rfl⟩
theorem GU.own {h h' : H} {v : CV} {es : List Nat} {lid : Nat} (g : GU h h' v es lid) {k : Nat} (hk : own v k) : h.nx ≤ k := by
  rcases g.lst.val with ⟨h0, rfl⟩ | ⟨h0, rfl, _⟩
  · cases hk
  · cases hk; exact g.ge
theorem growU_step {β : Type} {Q : Option β → Prop} {h X : H} {v : CV} {es ns : List Nat} {lid : Nat} {K : Out → Option β} (g : GU h X v es lid) (hn : 0 < ns.length) (hr : es.length + ns.length ≤ 1000000)
    (k : ∀ h' v', v' = .sl X.nx 0 (es ++ ns).length (.opn 1) → GU h h' v' (es ++ ns) X.nx → X.nx < h'.nx → Q (K (.upd v' h'))) :
    Q (@thn _ β (uv (appS X 1 8 1 v ns.length (some (uc ns)))) ⟨K⟩) := by
  refine app_step (Q := Q) (by_ := 8) g.lst hn (by rw [uc_len, Nat.mul_one]) (uc_one _) rfl (by decide) (by omega) (by omega) fun h' L hnx hgn hold hlow hlow2 => ?_
  have hl : (es ++ ns).length = es.length + ns.length := List.length_append
  have := k h' _ rfl ⟨g.ext.nx, by rw [hl, uc_app]; exact L, ⟨by have := g.ext.nx; omega, hgn.trans g.ext.gn, fun i hi => (hold i (Nat.lt_of_lt_of_le hi g.ext.nx) fun _ => by have := g.ge; omega).trans (g.ext.old i hi)⟩, by have := g.low; have := g.ge; have := g.bl; omega, g.bl⟩ (by omega)
  rw [hl] at this
  exact this
/-- a new row of numbers is answered -/
def NumQ (h : H) (es : List Nat) (r : Option (CV × Option H)) : Prop :=
  ∃ v x, r = some (v, x) ∧ Ext h (x.getD h) ∧ EL (x.getD h) v es ∧ (∀ k, own v k → h.nx ≤ k) ∧ (h.low ≤ h.nx → (x.getD h).low = h.low)
theorem NumQ.fin {h h' : H} {v : CV} {es : List Nat} {lid : Nat} (g : GU h.lo h' v es lid) : NumQ h es (some (fin h h' v)) := by
  have hlow : h'.low = h.nx := g.low
  have E : Ext h h' := (Ext.lo h).trans g.ext
  rcases g.lst.val with ⟨h0, rfl⟩ | ⟨h0, rfl, h1, b, h2, _⟩
  · rw [fin_q _ _ _ hlow rfl]
    exact ⟨_, none, rfl, Ext.refl h, .inl ⟨List.length_eq_zero_iff.1 h0, rfl⟩, (fun k hk => False.elim hk), fun _ => rfl⟩
  · have hge : h.nx ≤ lid := g.ge
    rw [fin_new _ _ _ (by rw [okB_sl, blt_eq']; exact decide_eq_false (by omega))]
    exact ⟨_, some _, rfl, E.up' _, g.el.ext (Ext.up _ _), fun k hk => by cases hk; exact hge, fun hl => by show min h.low h'.low = _; omega⟩
def numsOf (w : Bool) (L : List Rq) : List Nat := (L.filter fun r => r.wy == w).map (·.n)
theorem numbers_run (hσ : ∀ f a h, f ≠ 23 → σ f a h = none) {h : H} {v : CV} {L : List Rq} (B : LA h v L) (hl : L.length ≤ 1000) (w : Bool) :
    NumQ h (numsOf w L) ((lim Try.prog σ).call 62 [v, .bool w] h) := by
  rw [call_eq (hσ _ _ _ (by decide)) fn_62 rfl rfl, Try.ntmps62, Try.results62]
  obtain ⟨Q, hQ⟩ : ∃ Q, Q = NumQ h (numsOf w L) := ⟨_, rfl⟩
  rw [← hQ]
  have Bl := B.len2
  simp only [go_sem]
  refine loop_ind (Q := Q) (fun i env h' => evT env 0 = v ∧ evT env 1 = .bool w ∧ evT env 6 = .int .i64 (Int.ofNat i) ∧ ∃ lid, GU h.lo h' (evT env 5) (numsOf w (L.take i)) lid) L.length 0 ?_ (Nat.zero_le _) ?_ ?_
  · exact ⟨by simp only [go_sem], by simp only [go_sem], by simp only [go_sem]; rfl, _, by simp only [go_sem]; exact ⟨Nat.le_refl _, Lst.nil _ _ _, Ext.refl _, rfl, Nat.le_refl _⟩⟩
  · rintro i env h' ⟨e0, e1, e6, lid, G⟩ hi next
    have c0 := ofNat_lt hi
    have w1 := wrap_succ (i := i) (by omega)
    obtain ⟨r, hr⟩ : ∃ r, L[i]? = some r := ⟨_, List.getElem?_eq_getElem hi⟩
    obtain ⟨id, b, _, ea, _, _, hb, _, A⟩ := (B.ext ((Ext.lo h).trans G.ext)).at_ hr
    have a0 := A.c0
    have a3 := A.c3
    have ht : L.take (i + 1) = L.take i ++ [r] := by rw [List.take_succ, hr]; rfl
    cases q : (r.wy == w)
    · have hz : numsOf w (L.take (i + 1)) = numsOf w (L.take i) := by rw [ht]; unfold numsOf; rw [List.filter_append]; simp [q]
      simp only [go_sem, e0, e1, e6, c0, Bl, ea, hb, a0, a3, q, w1]
      exact next _ _ ⟨by simp only [go_sem, e0], by simp only [go_sem, e1], by simp only [go_sem, w1], lid, by rw [hz]; simp only [go_sem]; exact G⟩
    · have hz : numsOf w (L.take (i + 1)) = numsOf w (L.take i) ++ [r.n] := by rw [ht]; unfold numsOf; rw [List.filter_append]; simp [q]
      have hle : (numsOf w (L.take i)).length ≤ 1000 := by
        unfold numsOf; rw [List.length_map]
        exact Nat.le_trans (List.length_filter_le _ _) (by rw [List.length_take]; omega)
      have hge := G.ext.nx
      simp only [go_sem, e0, e1, e6, c0, Bl, ea, hb, a0, a3, q, w1, Nat.mul_one]
      have G2 := G.alloc (.cells ({ n := 1, d := [CV.int IntKind.u64 0], t := T.nil, ro := false : Blk }.st 0 (u64 r.n)))
      refine growU_step (Q := Q) (ns := [r.n]) G2 (Nat.zero_lt_one) (by simp; omega) fun h2 v2 hv2 G3 hlt => ?_
      simp only [go_sem, e0, e1, e6, w1]
      exact next _ _ ⟨by simp only [go_sem, e0], by simp only [go_sem, e1], by simp only [go_sem, w1], _, by rw [hz]; simp only [go_sem]; exact G3⟩
  · rintro env h' ⟨e0, e1, e6, lid, G⟩
    have c0 := ofNat_nlt (Nat.le_refl L.length)
    rw [List.take_length] at G
    obtain ⟨u, hu⟩ : ∃ u, u = evT env 5 := ⟨_, rfl⟩
    rw [← hu] at G
    simp only [go_sem, e0, e1, e6, c0, Bl, ← hu]
    rw [hQ]
    exact NumQ.fin G
end
end Go.Cl.O

namespace Go.Cl.O
variable {σ : Sums}
set_option maxRecDepth 1000000

theorem GU.box {h h' : H} {v : CV} {es : List Nat} {lid : Nat} (g : GU h h' v es lid) (o o2 : CObj) : GU h ((h'.alloc o).put h'.nx o2) v es lid := by
  have hn := g.ext.nx
  have hE : Ext h' ((h'.alloc o).put h'.nx o2) := (Ext.alloc _ _).put _ (Nat.le_refl _)
  exact ⟨g.ge, g.lst.ext hE, g.ext.trans hE, by show min h'.low h'.nx = _; have := g.low; have := g.bl; omega, g.bl⟩
theorem those_run (hσ : ∀ f a h, f ≠ 23 → σ f a h = none) {h : H} {t : Nat} {v : CV} {L : List Rq} (T : TA h t v L) (hl : L.length ≤ 1000) (w : Bool) :
    NumQ h (numsOf w L) ((lim Try.prog σ).call 67 [.ptr t 0, .bool w] h) := by
  rw [call_eq (hσ _ _ _ (by decide)) fn_67 rfl rfl, Try.ntmps67, Try.results67]
  obtain ⟨Q, hQ⟩ : ∃ Q, Q = NumQ h (numsOf w L) := ⟨_, rfl⟩
  rw [← hQ]
  have B := T.row
  have Bl := B.len
  have nn : (lim Try.prog σ).call 60 [.ptr t 0] h.lo = some (.bool false, none) := none_run hσ (T.ext (Ext.lo h))
  obtain ⟨tb, q1, q2, q3, q4⟩ := T.blk
  simp only [go_sem, nn, q1, q4, Bl]
  refine loop_ind (Q := Q) (fun i env h' => evT env 1 = .bool w ∧ evT env 13 = v ∧ evT env 14 = .int .i64 (Int.ofNat L.length) ∧ evT env 15 = .int .i64 (Int.ofNat i) ∧ ∃ lid, GU h.lo h' (evT env 5) (numsOf w (L.take i)) lid) L.length 0 ?_ (Nat.zero_le _) ?_ ?_
  · exact ⟨by simp only [go_sem], by simp only [go_sem], by simp only [go_sem], by simp only [go_sem]; rfl, _, by simp only [go_sem]; exact ⟨Nat.le_refl _, Lst.nil _ _ _, Ext.refl _, rfl, Nat.le_refl _⟩⟩
  · rintro i env h' ⟨e1, e13, e14, e15, lid, G⟩ hi next
    have c0 := ofNat_lt hi
    have w1 := wrap_succ (i := i) (by omega)
    obtain ⟨r, hr⟩ : ∃ r, L[i]? = some r := ⟨_, List.getElem?_eq_getElem hi⟩
    obtain ⟨id, b, ea, _, _, hid, hb, _, A⟩ := (B.ext ((Ext.lo h).trans G.ext)).at_ hr
    have ld := A.load
    have ht : L.take (i + 1) = L.take i ++ [r] := by rw [List.take_succ, hr]; rfl
    have hge := G.ext.nx
    have hlow := G.low
    have hle : (numsOf w (L.take i)).length ≤ 1000 := by
      unfold numsOf; rw [List.length_map]
      exact Nat.le_trans (List.length_filter_le _ _) (by rw [List.length_take]; omega)
    cases q : (r.wy == w)
    · have hz : numsOf w (L.take (i + 1)) = numsOf w (L.take i) := by rw [ht]; unfold numsOf; rw [List.filter_append]; simp [q]
      simp only [go_sem, e1, e13, e14, e15, c0, ea, hb, ld, q, w1]
      refine next _ _ ⟨by simp only [go_sem, e1], by simp only [go_sem, e13], by simp only [go_sem, e14], by simp only [go_sem, w1], lid, ?_⟩
      rw [hz]; simp only [go_sem]
      exact G.box _ _
    · have hz : numsOf w (L.take (i + 1)) = numsOf w (L.take i) ++ [r.n] := by rw [ht]; unfold numsOf; rw [List.filter_append]; simp [q]
      have G1 := G.box (.cells (newBlk [CV.int IntKind.u64 0, CV.int IntKind.i64 0, CV.bool false, CV.bool false])) (.cells (((((newBlk [CV.int IntKind.u64 0, CV.int IntKind.i64 0, CV.bool false, CV.bool false]).st 0 (u64 r.n)).st 1 (CV.int IntKind.i64 r.b)).st 2 (CV.bool r.wr)).st 3 (CV.bool r.wy)))
      simp only [go_sem, e1, e13, e14, e15, c0, ea, hb, ld, q, w1, Nat.mul_one]
      have G2 := G1.alloc (.cells ({ n := 1, d := [CV.int IntKind.u64 0], t := Go.Cl.T.nil, ro := false : Blk }.st 0 (u64 r.n)))
      refine growU_step (Q := Q) (ns := [r.n]) G2 (Nat.zero_lt_one) (by simp; omega) fun h2 v2 hv2 G3 hlt => ?_
      simp only [go_sem, e1, e13, e14, e15, w1]
      exact next _ _ ⟨by simp only [go_sem, e1], by simp only [go_sem, e13], by simp only [go_sem, e14], by simp only [go_sem, w1], _, by rw [hz]; simp only [go_sem]; exact G3⟩
  · rintro env h' ⟨e1, e13, e14, e15, lid, G⟩
    have c0 := ofNat_nlt (Nat.le_refl L.length)
    rw [List.take_length] at G
    obtain ⟨u, hu⟩ : ∃ u, u = evT env 5 := ⟨_, rfl⟩
    rw [← hu] at G
    simp only [go_sem, e1, e13, e14, e15, c0, ← hu]
    rw [hQ]
    exact NumQ.fin G
theorem NumQ.thru {h : H} {es : List Nat} {v : CV} {x : Option H} (E : Ext h.lo (x.getD h.lo)) (B : EL (x.getD h.lo) v es) (ho : ∀ k, own v k → h.nx ≤ k) (hl : (x.getD h.lo).low = h.nx) : NumQ h es (some (Go.Cl.fin h (x.getD h.lo) v)) := by
  have E2 : Ext h (x.getD h.lo) := (Ext.lo h).trans E
  rcases B with ⟨he, rfl⟩ | ⟨id, b, rfl, h1, h2, h3⟩
  · rw [fin_q _ _ _ hl rfl]
    exact ⟨_, none, rfl, Ext.refl h, .inl ⟨he, rfl⟩, (fun k hk => False.elim hk), fun _ => rfl⟩
  · have hge := ho id rfl
    rw [fin_new _ _ _ (by rw [okB_sl, blt_eq']; exact decide_eq_false (by omega))]
    exact ⟨_, some _, rfl, E2.up' _, EL.ext (.inr ⟨id, b, rfl, h1, h2, h3⟩) (Ext.up _ _), ho, fun hl2 => by show min h.low (x.getD h.lo).low = _; omega⟩
theorem way_run (hσ : ∀ f a h, f ≠ 23 → σ f a h = none) {h : H} {t : Nat} {v : CV} {L : List Rq} (T : TA h t v L) (hl : L.length ≤ 1000) :
    NumQ h (numsOf true L) ((lim Try.prog σ).call 31 [.ptr t 0] h) := by
  obtain ⟨u, x, e, E, B, ho, hlow⟩ := those_run hσ (T.ext (Ext.lo h)) hl true
  have hlow := hlow (Nat.le_refl _)
  rw [call_eq (hσ _ _ _ (by decide)) fn_31 rfl rfl, Try.ntmps31, Try.results31]
  have := NumQ.thru E B ho hlow
  rcases x with _ | X
  · simp only [go_sem, e]
    exact this
  · simp only [go_sem, e]
    exact this
theorem waits_run (hσ : ∀ f a h, f ≠ 23 → σ f a h = none) {h : H} {t : Nat} {v : CV} {L : List Rq} (T : TA h t v L) (hl : L.length ≤ 1000) :
    NumQ h (numsOf false L) ((lim Try.prog σ).call 32 [.ptr t 0] h) := by
  obtain ⟨u, x, e, E, B, ho, hlow⟩ := those_run hσ (T.ext (Ext.lo h)) hl false
  have hlow := hlow (Nat.le_refl _)
  rw [call_eq (hσ _ _ _ (by decide)) fn_32 rfl rfl, Try.ntmps32, Try.results32]
  have := NumQ.thru E B ho hlow
  rcases x with _ | X
  · simp only [go_sem, e]
    exact this
  · simp only [go_sem, e]
    exact this
end Go.Cl.O
