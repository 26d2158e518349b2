/- The program's functions, run by the rewriting evaluator: what each answers and leaves (ShaA). -/
import Derived.Test.YtenndllcidikeaaGreatDoorClH
set_option linter.all false
open Go Go.Cl Go.Proofs
attribute [go_sem] Nat.reduceLT Nat.reduceLeDiff Nat.reduceEqDiff Nat.reduceAdd Nat.reduceSub Nat.reduceMul reduceCtorEq Int.reduceBEq Int.reduceLT Int.reduceLE Int.reduceAdd Int.reduceSub Int.reduceEq Int.reduceNeg Int.reduceToNat Int.reduceGT Int.reduceGE

namespace Go.Cl.Sh
noncomputable section
variable {σ : Sums}

theorem cv53 (h n) : convT Tryz.prog h 5 252 (u8 n) = some (.val (w32 (BitVec.ofNat 32 n))) := by
  rw [← w32_of]; exact cv_5_252 h .u8 _
theorem cv265 (h x) : convT Tryz.prog h 252 5 (w32 x) = some (.val (u8 (x.toNat % 256))) := by
  rw [← cw32_8]; exact cv_252_5 h .u32 _
theorem cv3126 (h x) : convT Tryz.prog h 24 252 (w64 x) = some (.val (w32 (BitVec.ofNat 32 x.toNat))) := by
  rw [← cw64_32]; exact cv_24_252 h .u64 _
theorem cv331 (h) (n : Nat) : convT Tryz.prog h 3 24 (.int .i64 (Int.ofNat n)) = some (.val (w64 (BitVec.ofNat 64 n))) := by
  rw [← w64_of]; exact cv_3_24 h .i64 _

def rotr (x : BitVec 32) (n : Nat) : BitVec 32 := x <<< (32 - n) ||| x >>> n

theorem rot_run (hσ : ∀ f a h, σ f a h = none) (h : H) (x : BitVec 32) (n : Nat) (h1 : 0 < n) (h2 : n < 32) :
    (lim Tryz.prog σ).call 249 [w32 x, .int .i64 (-(Int.ofNat n))] h = some (w32 (rotr x n), none) := by
  rw [call_eq (hσ _ _ _) fn_249 rfl rfl, Tryz.ntmps249, Tryz.results249]
  have e1 : convT Tryz.prog h.lo 3 78 (.int .i64 (-(Int.ofNat n))) = some (.val (w64 (BitVec.ofNat 64 (18446744073709551616 - n)))) := by
    rw [cv_3_78]
    unfold w64
    rw [BitVec.toNat_ofNat, show IntKind.wrap .u64 (-(Int.ofNat n)) = Int.ofNat ((18446744073709551616 - n) % 2 ^ 64) from ?_]
    simp only [IntKind.wrap, IntKind.bits, IntKind.signed, Bool.false_and]
    simp
    omega
  have e2 : BitVec.ofNat 64 (18446744073709551616 - n) &&& BitVec.ofNat 64 31 = BitVec.ofNat 64 (32 - n) := by
    have : ∀ n : Fin 32, 0 < n.val → BitVec.ofNat 64 (18446744073709551616 - n.val) &&& BitVec.ofNat 64 31 = BitVec.ofNat 64 (32 - n.val) := by decide +kernel
    exact this ⟨n, h2⟩ h1
  have l31 : CV.int .u64 31 = w64 (BitVec.ofNat 64 31) := rfl
  have l32 : CV.int .u64 32 = w64 (BitVec.ofNat 64 32) := rfl
  have e3 : BitVec.ofNat 64 32 - BitVec.ofNat 64 (32 - n) = BitVec.ofNat 64 n := by
    apply BitVec.eq_of_toNat_eq; simp; omega
  have e4 : (BitVec.ofNat 64 (32 - n)).toNat = 32 - n := by simp; omega
  have e5 : (BitVec.ofNat 64 n).toNat = n := by simp; omega
  simp only [go_sem, e1, l31, l32, wadd32, wmul32, wadd64, wmul64, wand32, wor32, wxor32, wand64, wor64, wnot32, wsub32, wsub64, wshr32l, wshl32l, wshr64l, wshl64l, wshr32w, wshl32w, wshr64w, wlt64, wgt64, weq64, wne64, e2, e3, e4, e5]
  rw [fin_q _ _ _ rfl rfl]
  rfl

theorem right_run (hσ : ∀ f a h, σ f a h = none) (h : H) (x : BitVec 32) (n : Nat) (h1 : 0 < n) (h2 : n < 32) :
    (lim Tryz.prog σ).call 248 [w32 x, .int .i64 (Int.ofNat n)] h = some (w32 (rotr x n), none) := by
  rw [call_eq (hσ _ _ _) fn_248 rfl rfl, Tryz.ntmps248, Tryz.results248]
  have e0 : IntKind.wrap .i64 (0 - Int.ofNat n) = -(Int.ofNat n) := by
    rw [wrap_i64 (by simp; omega) (by simp; omega)]; simp
  have e := rot_run hσ h.lo x n h1 h2
  simp only [go_sem, e0, e]
  rw [fin_q _ _ _ rfl rfl]

/-- one block is written, others are new -/
structure Wr (h h' : H) (id n : Nat) (g : Nat → Option CV) : Prop where
  nx : h.nx ≤ h'.nx
  gn : h'.gn = h.gn
  old : ∀ k, k < h.nx → k ≠ id → h'.t.get k = h.t.get k
  blk : ∃ b, h'.blk id = some b ∧ b.n = n ∧ b.ro = false ∧ ∀ i, b.get i = g i
  low : h'.low = min h.low id
def wb (x : BitVec 32) : List CV := [u8 ((x >>> 24).toNat % 256), u8 ((x >>> 16).toNat % 256), u8 ((x >>> 8).toNat % 256), u8 (x.toNat % 256)]
def over (off : Nat) (l : List CV) (g : Nat → Option CV) (i : Nat) : Option CV := if off ≤ i ∧ i < off + l.length then nth l (i - off) else g i

theorem st4_get {b : Blk} {off : Nat} (hn : off + 4 ≤ b.n) (v0 v1 v2 v3 : CV) (i : Nat) : ((((b.st off v0).st (off + 1) v1).st (off + 2) v2).st (off + 3) v3).get i = over off [v0, v1, v2, v3] b.get i := by
  unfold over
  simp only [List.length_cons, List.length_nil]
  by_cases h : off ≤ i ∧ i < off + (0 + 1 + 1 + 1 + 1)
  · rw [if_pos h]
    obtain ⟨j, rfl⟩ := Nat.exists_eq_add_of_le h.1
    have hj : j < 4 := by omega
    have hcase : j = 0 ∨ j = 1 ∨ j = 2 ∨ j = 3 := by omega
    rcases hcase with rfl | rfl | rfl | rfl
    · rw [st_get_ne _ _ _ _ (by omega), st_get_ne _ _ _ _ (by omega), st_get_ne _ _ _ _ (by omega), Nat.add_zero, st_get_same _ _ _ (by omega)]; simp [nth]
    · rw [st_get_ne _ _ _ _ (by omega), st_get_ne _ _ _ _ (by omega), st_get_same _ _ _ (by simp only [st_n]; omega), Nat.add_sub_cancel_left]; simp [nth]
    · rw [st_get_ne _ _ _ _ (by omega), st_get_same _ _ _ (by simp only [st_n]; omega), Nat.add_sub_cancel_left]; simp [nth]
    · rw [st_get_same _ _ _ (by simp only [st_n]; omega), Nat.add_sub_cancel_left]; simp [nth]
  · rw [if_neg h, st_get_ne _ _ _ _ (by omega), st_get_ne _ _ _ _ (by omega), st_get_ne _ _ _ _ (by omega), st_get_ne _ _ _ _ (by omega)]

def WrR (h : H) (v : CV) (id n : Nat) (g : Nat → Option CV) (r : Option (CV × Option H)) : Prop := ∃ h', r = some (v, some h') ∧ Wr h h' id n g
set_option maxRecDepth 1000000
/-- a slice of bytes that may be written: where it begins, and what it holds -/
theorem put_run (hσ : ∀ f a h, σ f a h = none) {h : H} {id off len : Nat} {c : Cap} {b : Blk} (hb : h.blk id = some b) (hro : b.ro = false) (hn : off + 4 ≤ b.n) (hl : 4 ≤ len) (hid : id < h.nx) (x : BitVec 32) :
    WrR h (.tup []) id b.n (over off (wb x) b.get) ((lim Tryz.prog σ).call 212 [.sl id off len c, w32 x] h) := by
  rw [call_eq (hσ _ _ _) fn_212 rfl rfl, Tryz.ntmps212, Tryz.results212]
  have a0 : 0 < len := by omega
  have a1 : 1 < len := by omega
  have a2 : 2 < len := by omega
  have a3 : 3 < len := by omega
  have b0 : off < b.n := by omega
  have b1 : off + 1 < b.n := by omega
  have b2 : off + 2 < b.n := by omega
  have b3 : off + 3 < b.n := by omega
  have i0 : ∀ kd, indexAddrT Tryz.prog 164 (.sl id off len c) (.int kd 0) = some (.ptr id off) := fun kd => by
    rw [show (0 : Int) = Int.ofNat 0 from rfl, ia_164]; simp only [go_sem, a0]
  have i1 : ∀ kd, indexAddrT Tryz.prog 164 (.sl id off len c) (.int kd 1) = some (.ptr id (off + 1)) := fun kd => by
    rw [show (1 : Int) = Int.ofNat 1 from rfl, ia_164]; simp only [go_sem, a1]
  have i2 : ∀ kd, indexAddrT Tryz.prog 164 (.sl id off len c) (.int kd 2) = some (.ptr id (off + 2)) := fun kd => by
    rw [show (2 : Int) = Int.ofNat 2 from rfl, ia_164]; simp only [go_sem, a2]
  have i3 : ∀ kd, indexAddrT Tryz.prog 164 (.sl id off len c) (.int kd 3) = some (.ptr id (off + 3)) := fun kd => by
    rw [show (3 : Int) = Int.ofNat 3 from rfl, ia_164]; simp only [go_sem, a3]
  obtain ⟨Q, hQ⟩ : ∃ Q, Q = WrR h (.tup []) id b.n (over off (wb x) b.get) := ⟨_, rfl⟩
  rw [← hQ]
  simp only [go_sem, hb, hro, wadd32, wmul32, wadd64, wmul64, wand32, wor32, wxor32, wand64, wor64, wnot32, wsub32, wsub64, wshr32l, wshl32l, wshr64l, wshl64l, wshr32w, wshl32w, wshr64w, wlt64, wgt64, weq64, wne64, cv265, i0, i1, i2, i3, b0, b1, b2, b3]
  rw [hQ]
  rw [fin_l _ _ _ (by simp only [go_sem]; omega)]
  refine ⟨_, rfl, by simp only [go_sem]; omega, rfl, fun k hk hne => ?_, ⟨_, put_blk_same _ _ _, by simp only [go_sem], by simp only [go_sem, hro], fun i => st4_get hn _ _ _ _ i⟩, by simp only [go_sem]; omega⟩
  simp only [go_sem]
  rw [put_get_ne _ _ _ _ hne, put_get_ne _ _ _ _ hne, put_get_ne _ _ _ _ hne, put_get_ne _ _ _ _ hne]
  simp only [go_sem]

def mulHi (x y : BitVec 64) : BitVec 64 :=
  let m : BitVec 64 := BitVec.ofNat 64 4294967295
  let x0 := x &&& m; let x1 := x >>> 32; let y0 := y &&& m; let y1 := y >>> 32
  let w0 := x0 * y0
  let t := x1 * y0 + w0 >>> 32
  let w1 := (t &&& m) + x0 * y1
  let w2 := t >>> 32
  x1 * y1 + w2 + w1 >>> 32
theorem mul_run (hσ : ∀ f a h, σ f a h = none) (h : H) (x y : BitVec 64) : (lim Tryz.prog σ).call 244 [w64 x, w64 y] h = some (.tup [w64 (mulHi x y), w64 (x * y)], none) := by
  rw [call_eq (hσ _ _ _) fn_244 rfl rfl, Tryz.ntmps244, Tryz.results244]
  have l : CV.int .u64 4294967295 = w64 (BitVec.ofNat 64 4294967295) := rfl
  simp only [go_sem, wadd32, wmul32, wadd64, wmul64, wand32, wor32, wxor32, wand64, wor64, wnot32, wsub32, wsub64, wshr32l, wshl32l, wshr64l, wshl64l, wshr32w, wshl32w, wshr64w, wlt64, wgt64, weq64, wne64, l]
  rw [fin_q _ _ _ rfl rfl]
  rfl
/-- is the cube of x / 2^32 at most p? -/
def within (p x : BitVec 64) : Bool :=
  let high := mulHi x x; let low := x * x
  let carry := mulHi low x; let least := low * x
  let upper := high * x + carry
  decide (upper.toNat < (p <<< 32).toNat) || (decide (upper = p <<< 32) && decide (least = BitVec.ofNat 64 0))
theorem within_run (hσ : ∀ f a h, σ f a h = none) {h : H} {id : Nat} {b : Blk} (p x : BitVec 64) (hb : h.blk id = some b) (h0 : b.get 0 = some (w64 p)) : (lim Tryz.prog σ).call 269 [w64 x, .ptr id 0] h = some (.bool (within p x), none) := by
  rw [call_eq (hσ _ _ _) fn_269 rfl rfl, Tryz.ntmps269, Tryz.results269]
  have l : CV.int .u64 0 = w64 (BitVec.ofNat 64 0) := rfl
  have e1 := mul_run hσ h.lo x x
  have e2 := mul_run hσ h.lo (x * x) x
  simp only [go_sem, wadd32, wmul32, wadd64, wmul64, wand32, wor32, wxor32, wand64, wor64, wnot32, wsub32, wsub64, wshr32l, wshl32l, wshr64l, wshl64l, wshr32w, wshl32w, wshr64w, wlt64, wgt64, weq64, wne64, l, e1, e2, hb, h0]
  unfold within
  by_cases c1 : (mulHi x x * x + mulHi (x * x) x).toNat < (p <<< 32).toNat
  · simp only [go_sem, wadd32, wmul32, wadd64, wmul64, wand32, wor32, wxor32, wand64, wor64, wnot32, wsub32, wsub64, wshr32l, wshl32l, wshr64l, wshl64l, wshr32w, wshl32w, wshr64w, wlt64, wgt64, weq64, wne64, l, e1, e2, hb, h0, c1]
    rw [fin_q _ _ _ rfl rfl]
  · by_cases c2 : mulHi x x * x + mulHi (x * x) x = p <<< 32
    · simp only [go_sem, wadd32, wmul32, wadd64, wmul64, wand32, wor32, wxor32, wand64, wor64, wnot32, wsub32, wsub64, wshr32l, wshl32l, wshr64l, wshl64l, wshr32w, wshl32w, wshr64w, wlt64, wgt64, weq64, wne64, l, e1, e2, hb, h0, c1, c2]
      have c3 : ¬ (p <<< 32).toNat < (p <<< 32).toNat := Nat.lt_irrefl _
      simp only [go_sem, wadd32, wmul32, wadd64, wmul64, wand32, wor32, wxor32, wand64, wor64, wnot32, wsub32, wsub64, wshr32l, wshl32l, wshr64l, wshl64l, wshr32w, wshl32w, wshr64w, wlt64, wgt64, weq64, wne64, l, e1, e2, hb, h0, c1, c2, c3]
      rw [fin_q _ _ _ rfl rfl]
    · simp only [go_sem, wadd32, wmul32, wadd64, wmul64, wand32, wor32, wxor32, wand64, wor64, wnot32, wsub32, wsub64, wshr32l, wshl32l, wshr64l, wshl64l, wshr32w, wshl32w, wshr64w, wlt64, wgt64, weq64, wne64, l, e1, e2, hb, h0, c1, c2]
      rw [fin_q _ _ _ rfl rfl]
end
end Go.Cl.Sh

namespace Go.Cl.Sh
noncomputable section
variable {σ : Sums}
set_option maxRecDepth 1000000

def rootX (p : BitVec 64) : Nat → BitVec 64
  | 0 => BitVec.ofNat 64 0
  | j + 1 => cond (within p (rootX p j ||| (BitVec.ofNat 64 1 <<< (34 - j)))) (rootX p j ||| (BitVec.ofNat 64 1 <<< (34 - j))) (rootX p j)
def rootN (p : BitVec 64) : BitVec 32 := BitVec.ofNat 32 (rootX p 35).toNat
def RetQ (h : H) (v : CV) (r : Option (CV × Option H)) : Prop := r = some (v, none)

theorem root_run (hσ : ∀ f a h, σ f a h = none) (h : H) (p : BitVec 64) : RetQ h (w32 (rootN p)) ((lim Tryz.prog σ).call 247 [w64 p] h) := by
  rw [call_eq (hσ _ _ _) fn_247 rfl rfl, Tryz.ntmps247, Tryz.results247]
  have l0 : CV.int .u64 0 = w64 (BitVec.ofNat 64 0) := rfl
  have l1 : CV.int .u64 1 = w64 (BitVec.ofNat 64 1) := rfl
  simp only [go_sem, wadd32, wmul32, wadd64, wmul64, wand32, wor32, wxor32, wand64, wor64, wnot32, wsub32, wsub64, wshr32l, wshl32l, wshr64l, wshl64l, wshr32w, wshl32w, wshr64w, wlt64, wgt64, weq64, wne64, l0, l1]
  refine loop_ind (Q := RetQ h (w32 (rootN p))) (fun i env h' => evT env 3 = .fn (.func 269) [] [.ptr h.nx 0] ∧ evT env 4 = w64 (rootX p i) ∧ evT env 5 = .int .i64 (34 - Int.ofNat i) ∧ h' = h.lo.alloc (.cells (newBlk [w64 p]))) 35 0 ?_ (by decide) ?_ ?_
  · exact ⟨by simp only [go_sem], by simp only [go_sem, l0]; rfl, by simp only [go_sem]; rfl, rfl⟩
  · rintro i env h' ⟨q3, q4, q5, rfl⟩ hi next
    obtain ⟨j, hj⟩ : ∃ j, 34 - i = j := ⟨_, rfl⟩
    have q5' : evT env 5 = .int .i64 (Int.ofNat j) := by rw [q5]; congr 1; simp; omega
    have c1 : Int.ofNat j ≥ 0 := Int.natCast_nonneg _
    have c3 : IntKind.wrap .i64 (Int.ofNat j - 1) = 34 - Int.ofNat (i + 1) := by
      rw [wrap_i64 (by simp; omega) (by simp; omega)]; simp; omega
    have e := within_run hσ (h := h.lo.alloc (.cells (newBlk [w64 p]))) (id := h.nx) p (rootX p i ||| (BitVec.ofNat 64 1 <<< j)) (alloc_blk_same _ _ _ rfl) (by rw [newBlk_get]; rfl)
    cases hw : within p (rootX p i ||| (BitVec.ofNat 64 1 <<< j))
    · rw [hw] at e
      simp only [go_sem, wadd32, wmul32, wadd64, wmul64, wand32, wor32, wxor32, wand64, wor64, wnot32, wsub32, wsub64, wshr32l, wshl32l, wshr64l, wshl64l, wshr32w, wshl32w, wshr64w, wlt64, wgt64, weq64, wne64, l0, l1, q3, q4, q5', c1, c3, e, wshl64]
      refine next _ _ ⟨by simp only [go_sem, q3], ?_, by simp only [go_sem], rfl⟩
      simp only [go_sem, q4, rootX, hj, hw]
    · rw [hw] at e
      simp only [go_sem, wadd32, wmul32, wadd64, wmul64, wand32, wor32, wxor32, wand64, wor64, wnot32, wsub32, wsub64, wshr32l, wshl32l, wshr64l, wshl64l, wshr32w, wshl32w, wshr64w, wlt64, wgt64, weq64, wne64, l0, l1, q3, q4, q5', c1, c3, e, wshl64]
      refine next _ _ ⟨by simp only [go_sem, q3], ?_, by simp only [go_sem], rfl⟩
      simp only [go_sem, q4, rootX, hj, hw]
  · rintro env h' ⟨q3, q4, q5, rfl⟩
    have q5' : evT env 5 = .int .i64 (-1) := by rw [q5]; rfl
    have hr : BitVec.ofNat 32 (rootX p 35).toNat = rootN p := rfl
    simp only [go_sem, q3, q4, q5', cv3126, hr]
    exact congrArg some (fin_q _ _ _ rfl rfl)

/-! ### primes -/
def prime (n : Nat) : List Nat → Bool
  | [] => true
  | p :: l => if n < p * p then true else if n % p = 0 then false else prime n l
def sieve : Nat → List Nat
  | 0 => []
  | k + 1 => if prime (k + 2) (sieve k) then sieve k ++ [k + 2] else sieve k
/-- the numbers below 312 -/
def primesL : List Nat := sieve 310
def sieveT : Nat → List Nat → Nat → List (List Nat)
  | 0, _, _ => []
  | k + 1, l, n => l :: sieveT k (if prime n l then l ++ [n] else l) (n + 1)
theorem sieveT_get : ∀ (k a i : Nat), i < k → (sieveT k (sieve a) (a + 2))[i]? = some (sieve (a + i))
  | k + 1, a, 0, _ => rfl
  | k + 1, a, i + 1, h => by
    have : (sieveT (k + 1) (sieve a) (a + 2))[i + 1]? = (sieveT k (sieve (a + 1)) (a + 1 + 2))[i]? := rfl
    rw [this, sieveT_get k (a + 1) i (by omega), show a + 1 + i = a + (i + 1) by omega]
def okS (l : List Nat) : Bool := decide (l.length < 64) && l.all fun p => decide (2 ≤ p ∧ p < 400)
theorem sieve_ok : (sieveT 310 [] 2).all okS = true := by decide +kernel
theorem sieve_lt {i : Nat} (hi : i < 310) : (sieve i).length < 64 ∧ ∀ p ∈ sieve i, 2 ≤ p ∧ p < 400 := by
  have h := sieveT_get 310 0 i hi
  rw [Nat.zero_add] at h
  have := List.all_eq_true.1 sieve_ok _ (List.mem_of_getElem? h)
  unfold okS at this
  simp only [Bool.and_eq_true, decide_eq_true_eq, List.all_eq_true] at this
  rw [Nat.zero_add] at this
  exact this
theorem primesL_len : primesL.length = 64 := by decide +kernel

theorem storeA_ok (new : List CV) (b : Blk) (off : Nat) (h : off + new.length ≤ b.n) (ho : new.all CV.one = true) : ∃ b', b.storeA off new = some b' ∧ b'.n = b.n ∧ b'.ro = b.ro ∧ ∀ i, b'.get i = if off ≤ i ∧ i < off + new.length then nth new (i - off) else b.get i := by
  have : ∃ b', b.storeA off new = some b' := by
    obtain ⟨b1, e1, _⟩ := storeN_ok new b off h ho
    unfold Blk.storeA
    cases (Nat.blt 24 new.length && Nat.ble (off + new.length) b.n)
    · exact ⟨b1, e1⟩
    · rw [cond_true]
      cases b.loadF 0 b.n with
      | none => exact ⟨b1, e1⟩
      | some l => rw [ho]; exact ⟨_, rfl⟩
  obtain ⟨b', e⟩ := this
  obtain ⟨h1, h2, _, _, h5⟩ := storeA_spec e
  exact ⟨b', e, h1, h2, fun i => by rw [h5]; split <;> simp [nth_eq]⟩
theorem nlt {α : Type} {l : List α} {i : Nat} {v : α} (h : nth l i = some v) : i < l.length := by
  by_cases q : i < l.length
  · exact q
  · rw [nth_none _ _ (by omega)] at h; cases h
theorem okBL_all {n : Nat} : ∀ {l : List CV}, (∀ c ∈ l, okB n c = true) → okBL n l = true
  | [], _ => rfl
  | c :: l, h => by rw [okBL_cons, h c (by simp), okBL_all fun c hc => h c (by simp [hc])]; rfl
structure PI (h : H) (i : Nat) (env : T CV) (h' : H) : Prop where
  e0 : evT env 0 = .ptr h.nx 0
  e1 : evT env 1 = .ptr (h.nx + 1) 0
  e2 : evT env 2 = .int .i64 (Int.ofNat (sieve i).length)
  e3 : evT env 3 = w64 (BitVec.ofNat 64 (i + 2))
  nx : h'.nx = h.nx + 2
  ext : Ext h h'
  low : h'.low = h.nx
  b0 : ∃ b, h'.blk h.nx = some b ∧ b.n = 64 ∧ b.ro = false
  b1 : ∃ b, h'.blk (h.nx + 1) = some b ∧ b.n = 64 ∧ b.ro = false ∧ ∀ j p, (sieve i)[j]? = some p → b.get j = some (w64 (BitVec.ofNat 64 p))

theorem ty44 (h : H) (id off n : Nat) : sliceT Tryz.prog h 292 (.ptr id off) none (some (.int .i64 (Int.ofNat n))) none = cond (Nat.ble n 64) (some (.sl id off n (.exact 64))) none := by
  simp only [sliceT, Tryz.underlying292, Option.bind_some, sz_24, sliceExact, bnd, toN]
  simp [ble_eq']
theorem prime_c (n p : Nat) (l : List Nat) : prime n (p :: l) = if n < p * p then true else if n % p = 0 then false else prime n l := rfl

theorem primes_run (hσ : ∀ f a h, σ f a h = none) (h : H) : RetQ h (.agg (primesL.map fun p => w64 (BitVec.ofNat 64 p))) ((lim Tryz.prog σ).call 246 [] h) := by
  rw [call_eq (hσ _ _ _) fn_246 rfl rfl, Tryz.ntmps246, Tryz.results246]
  have l0 : CV.int .u64 0 = w64 (BitVec.ofNat 64 0) := rfl
  have l1 : CV.int .u64 1 = w64 (BitVec.ofNat 64 1) := rfl
  have l2 : CV.int .u64 2 = w64 (BitVec.ofNat 64 2) := rfl
  simp only [go_sem, wadd32, wmul32, wadd64, wmul64, wand32, wor32, wxor32, wand64, wor64, wnot32, wsub32, wsub64, wshr32l, wshl32l, wshr64l, wshl64l, wshr32w, wshl32w, wshr64w, wlt64, wgt64, weq64, wne64, l0, l1]
  refine loop_ind (Q := RetQ h (.agg (primesL.map fun p => w64 (BitVec.ofNat 64 p)))) (PI h) 310 0 ?_ (by decide) ?_ ?_
  · refine ⟨by simp only [go_sem], by simp only [go_sem], by simp only [go_sem]; rfl, by simp only [go_sem]; rfl, by simp only [go_sem], ((Ext.lo h).alloc' _).alloc' _, by simp only [go_sem], ⟨_, by simp only [go_sem]; rfl, wnewBlk_n _, newBlk_ro _⟩, ⟨_, by simp only [go_sem]; rfl, wnewBlk_n _, newBlk_ro _, fun j p hj => by simp [sieve] at hj⟩⟩
  · rintro i env h' I hi next
    obtain ⟨hlen, hall⟩ := sieve_lt hi
    have c0 : Int.ofNat (sieve i).length < 64 := by simp; omega
    have c1 : (sieve i).length ≤ 64 := by omega
    have hw : ∀ p, p < 400 → (BitVec.ofNat 64 p).toNat = p := fun p hp => by simp; omega
    -- behind the inner loop
    simp only [go_sem, wadd32, wmul32, wadd64, wmul64, wand32, wor32, wxor32, wand64, wor64, wnot32, wsub32, wsub64, wshr32l, wshl32l, wshr64l, wshl64l, wshr32w, wshl32w, wshr64w, wlt64, wgt64, weq64, wne64, l0, l1, I.e0, I.e1, I.e2, I.e3, c0, ty44, c1]
    obtain ⟨b0, hb0, hn0, hr0⟩ := I.b0
    obtain ⟨b1, hb1, hn1, hr1, hg1⟩ := I.b1
    have hwi : (BitVec.ofNat 64 (i + 2)).toNat = i + 2 := by simp; omega
    have hadd : BitVec.ofNat 64 (i + 2) + BitVec.ofNat 64 1 = BitVec.ofNat 64 (i + 1 + 2) := by
      apply BitVec.eq_of_toNat_eq; simp
    -- what is left of the outer round
    have tail : ∀ (env' : T CV), evT env' 0 = .ptr h.nx 0 → evT env' 1 = .ptr (h.nx + 1) 0 → evT env' 2 = .int .i64 (Int.ofNat (sieve i).length) → evT env' 3 = w64 (BitVec.ofNat 64 (i + 3)) → prime (i + 2) (sieve i) = false → PI h (i + 1) env' h' := by
      intro env' a0 a1 a2 a3 hp
      have hs : sieve (i + 1) = sieve i := by simp [sieve, hp]
      exact ⟨a0, a1, by rw [hs]; exact a2, a3, I.nx, I.ext, I.low, I.b0, by rw [hs]; exact I.b1⟩
    have tail2 : ∀ (env' : T CV) (o : CObj), o = .cells (b1.st (sieve i).length (w64 (BitVec.ofNat 64 (i + 2)))) → evT env' 0 = .ptr h.nx 0 → evT env' 1 = .ptr (h.nx + 1) 0 → evT env' 2 = .int .i64 (Int.ofNat ((sieve i).length + 1)) → evT env' 3 = w64 (BitVec.ofNat 64 (i + 3)) → prime (i + 2) (sieve i) = true → PI h (i + 1) env' (h'.put (h.nx + 1) o) := by
      intro env' o ho a0 a1 a2 a3 hp
      subst ho
      have hs : sieve (i + 1) = sieve i ++ [i + 2] := by simp [sieve, hp]
      refine ⟨a0, a1, by rw [hs, List.length_append]; exact a2, a3, I.nx, I.ext.put _ (by omega), by simp only [go_sem, I.low]; omega, ⟨b0, ?_, hn0, hr0⟩, ⟨_, put_blk_same _ _ _, by rw [st_n]; exact hn1, by rw [st_ro]; exact hr1, fun j p hj => ?_⟩⟩
      · rw [put_blk_ne _ _ _ _ (by omega)]; exact hb0
      · rw [hs, List.getElem?_append] at hj
        split at hj
        · rename_i hlt
          rw [st_get_ne _ _ _ _ (by omega)]; exact hg1 j p hj
        · have : j = (sieve i).length := by
            have := (List.getElem?_eq_some_iff.1 hj).1
            simp at this; omega
          subst this
          simp at hj
          subst hj
          rw [st_get_same _ _ _ (by omega)]
    have hl1 : (sieve i).length < 64 := hlen
    have hsucc : IntKind.wrap .i64 (Int.ofNat (sieve i).length + 1) = Int.ofNat ((sieve i).length + 1) := wrap_succ (by omega)
    refine loop_ind (Q := RetQ h (.agg (primesL.map fun p => w64 (BitVec.ofNat 64 p)))) (fun k env' h'' => h'' = h' ∧ evT env' 0 = .ptr h.nx 0 ∧ evT env' 1 = .ptr (h.nx + 1) 0 ∧ evT env' 2 = .int .i64 (Int.ofNat (sieve i).length) ∧ evT env' 3 = w64 (BitVec.ofNat 64 (i + 2)) ∧
      evT env' 4 = .bool true ∧ evT env' 12 = .sl (h.nx + 1) 0 (sieve i).length (.exact 64) ∧ evT env' 13 = .int .i64 (Int.ofNat (sieve i).length) ∧ evT env' 14 = .int .i64 (Int.ofNat k) ∧ prime (i + 2) (sieve i) = prime (i + 2) ((sieve i).drop k)) (sieve i).length 0 ?_ (Nat.zero_le _) ?_ ?_
    · exact ⟨rfl, by simp only [go_sem, I.e0], by simp only [go_sem, I.e1], by simp only [go_sem, I.e2], by simp only [go_sem, I.e3], by simp only [go_sem], by simp only [go_sem], by simp only [go_sem], by simp only [go_sem]; rfl, rfl⟩
    · rintro k env' h'' ⟨rfl, a0, a1, a2, a3, a4, a12, a13, a14, hpr⟩ hk next2
      have hk2 := ofNat_lt hk
      obtain ⟨p, hp⟩ : ∃ p, (sieve i)[k]? = some p := ⟨_, List.getElem?_eq_getElem hk⟩
      have hgk := hg1 k p hp
      obtain ⟨hp2, hp4⟩ := hall p (List.mem_of_getElem? hp)
      have hdrop : (sieve i).drop k = p :: (sieve i).drop (k + 1) := by
        rw [List.drop_eq_getElem_cons hk]; congr 1
        exact (List.getElem?_eq_some_iff.1 hp).2
      rw [hdrop, prime_c] at hpr
      have hmul : (BitVec.ofNat 64 p * BitVec.ofNat 64 p).toNat = p * p := by
        have : p * p < 400 * 400 := Nat.mul_lt_mul'' hp4 hp4
        simp only [BitVec.toNat_mul, BitVec.toNat_ofNat]
        rw [Nat.mod_eq_of_lt (a := p) (by omega), Nat.mod_eq_of_lt (by omega)]
      have hrem : ∀ t xo yo, binT Tryz.prog .rem t xo yo (w64 (BitVec.ofNat 64 (i + 2))) (w64 (BitVec.ofNat 64 p)) = some (w64 (BitVec.ofNat 64 (i + 2) % BitVec.ofNat 64 p)) := fun t xo yo => wrem64 t xo yo (by simp; omega)
      have hrem2 : BitVec.ofNat 64 (i + 2) % BitVec.ofNat 64 p = BitVec.ofNat 64 0 ↔ (i + 2) % p = 0 := by
        rw [← BitVec.toNat_inj, BitVec.toNat_umod, hwi, BitVec.toNat_ofNat, BitVec.toNat_ofNat, Nat.mod_eq_of_lt (a := p) (by omega)]
      have hks := wrap_succ (i := k) (by omega)
      by_cases c2 : i + 2 < p * p
      · rw [if_pos c2] at hpr
        simp only [go_sem, wadd32, wmul32, wadd64, wmul64, wand32, wor32, wxor32, wand64, wor64, wnot32, wsub32, wsub64, wshr32l, wshl32l, wshr64l, wshl64l, wshr32w, wshl32w, wshr64w, wlt64, wgt64, weq64, wne64, l0, l1, a0, a1, a2, a3, a4, a12, a13, a14, hk2, hk, hb1, Nat.mul_one, Nat.zero_add, hgk, hmul, hwi, c2, hsucc, hl1, hr1, hn1, hadd]
        refine next _ _ (tail2 _ _ rfl ?_ ?_ ?_ ?_ hpr)
        · simp only [go_sem, a0]
        · simp only [go_sem, a1]
        · simp only [go_sem]
        · simp only [go_sem]
      · rw [if_neg c2] at hpr
        by_cases c4 : (i + 2) % p = 0
        · rw [if_pos c4] at hpr
          have c5 := hrem2.2 c4
          simp only [go_sem, wadd32, wmul32, wadd64, wmul64, wand32, wor32, wxor32, wand64, wor64, wnot32, wsub32, wsub64, wshr32l, wshl32l, wshr64l, wshl64l, wshr32w, wshl32w, wshr64w, wlt64, wgt64, weq64, wne64, l0, l1, a0, a1, a2, a3, a4, a12, a13, a14, hk2, hk, hb1, Nat.mul_one, Nat.zero_add, hgk, hmul, hwi, c2, hrem, c5, hadd]
          refine next _ _ (tail _ ?_ ?_ ?_ ?_ hpr)
          · simp only [go_sem, a0]
          · simp only [go_sem, a1]
          · simp only [go_sem, a2]
          · simp only [go_sem]
        · rw [if_neg c4] at hpr
          have c5 : ¬ BitVec.ofNat 64 (i + 2) % BitVec.ofNat 64 p = BitVec.ofNat 64 0 := fun q => c4 (hrem2.1 q)
          simp only [go_sem, wadd32, wmul32, wadd64, wmul64, wand32, wor32, wxor32, wand64, wor64, wnot32, wsub32, wsub64, wshr32l, wshl32l, wshr64l, wshl64l, wshr32w, wshl32w, wshr64w, wlt64, wgt64, weq64, wne64, l0, l1, a0, a1, a2, a3, a4, a12, a13, a14, hk2, hk, hb1, Nat.mul_one, Nat.zero_add, hgk, hmul, hwi, c2, hrem, c5, hks]
          exact next2 _ _ ⟨rfl, by simp only [go_sem, a0], by simp only [go_sem, a1], by simp only [go_sem, a2], by simp only [go_sem, a3], by simp only [go_sem, a4], by simp only [go_sem, a12], by simp only [go_sem, a13], by simp only [go_sem], hpr⟩
    · rintro env' h'' ⟨rfl, a0, a1, a2, a3, a4, a12, a13, a14, hpr⟩
      rw [List.drop_length] at hpr
      have hpr : prime (i + 2) (sieve i) = true := hpr
      have hk2 := ofNat_nlt (Nat.le_refl (sieve i).length)
      simp only [go_sem, wadd32, wmul32, wadd64, wmul64, wand32, wor32, wxor32, wand64, wor64, wnot32, wsub32, wsub64, wshr32l, wshl32l, wshr64l, wshl64l, wshr32w, wshl32w, wshr64w, wlt64, wgt64, weq64, wne64, l0, l1, a0, a1, a2, a3, a4, a12, a13, a14, hk2, hb1, Nat.mul_one, Nat.zero_add, hwi, hsucc, hl1, hr1, hn1, hadd]
      refine next _ _ (tail2 _ _ rfl ?_ ?_ ?_ ?_ hpr)
      · simp only [go_sem, a0]
      · simp only [go_sem, a1]
      · simp only [go_sem]
      · simp only [go_sem]
  · rintro env h' I
    have c0 : ¬ Int.ofNat (sieve 310).length < 64 := by rw [show sieve 310 = primesL from rfl, primesL_len]; decide
    obtain ⟨b0, hb0, hn0, hr0⟩ := I.b0
    obtain ⟨b1, hb1, hn1, hr1, hg1⟩ := I.b1
    have hld : b1.loadN 0 64 = some (primesL.map fun p => w64 (BitVec.ofNat 64 p)) := loadN_of _ _ _ (by rw [List.length_map]; exact primesL_len) fun i v hv => by
      rw [nth_eq, List.getElem?_map] at hv
      obtain ⟨p, hp, rfl⟩ := Option.map_eq_some_iff.1 hv
      rw [Nat.zero_add]; exact hg1 i p hp
    obtain ⟨b2, e2, hn2, hr2, hg2⟩ := storeA_ok (primesL.map fun p => w64 (BitVec.ofNat 64 p)) b0 0 (by rw [List.length_map, primesL_len, hn0]; decide) (List.all_eq_true.2 fun c hc => by obtain ⟨p, _, rfl⟩ := List.mem_map.1 hc; rfl)
    have hlen : (primesL.map fun p => w64 (BitVec.ofNat 64 p)).length = 64 := by rw [List.length_map]; exact primesL_len
    have hld2 : b2.loadN 0 64 = some (primesL.map fun p => w64 (BitVec.ofNat 64 p)) := loadN_of _ _ _ hlen fun i v hv => by
      rw [hg2, if_pos (by have := nlt hv; omega), ← hv, Nat.zero_add]; rfl
    simp only [go_sem, wadd32, wmul32, wadd64, wmul64, wand32, wor32, wxor32, wand64, wor64, wnot32, wsub32, wsub64, wshr32l, wshl32l, wshr64l, wshl64l, wshr32w, wshl32w, wshr64w, wlt64, wgt64, weq64, wne64, l0, l1, I.e0, I.e1, I.e2, I.e3, c0, hb0, hb1, hld, hr0, hlen, e2, hld2]
    exact congrArg some (fin_q _ _ _ (by simp only [go_sem, I.low]; omega) (by rw [okB_agg]; exact okBL_all fun c hc => by obtain ⟨p, _, rfl⟩ := List.mem_map.1 hc; rfl))
end
end Go.Cl.Sh

namespace Go.Cl.Sh
noncomputable section
variable {σ : Sums}
set_option maxRecDepth 1000000

def KL : List (BitVec 32) := primesL.map fun p => rootN (BitVec.ofNat 64 p)
theorem KL_len : KL.length = 64 := by unfold KL; rw [List.length_map]; exact primesL_len
theorem okB_ws (n : Nat) (l : List (BitVec 32)) : okB n (.agg (l.map w32)) = true := by
  rw [okB_agg]; exact okBL_all fun c hc => by obtain ⟨p, _, rfl⟩ := List.mem_map.1 hc; rfl
theorem one_ws (l : List (BitVec 32)) : (l.map w32).all CV.one = true := List.all_eq_true.2 fun c hc => by obtain ⟨p, _, rfl⟩ := List.mem_map.1 hc; rfl

theorem store_step {β : Type} {Q : Option β → Prop} {b : Blk} {L : List CV} {K : H → Option β} {f : Blk → H} (hl : L.length = b.n) (ho : L.all CV.one = true) 
    (k : ∀ b', b'.n = b.n → b'.ro = b.ro → b'.loadN 0 b.n = some L → (∀ i, b'.get i = nth L i) → Q (K (f b'))) : Q (@thn _ β (Option.map f (b.storeA 0 L)) ⟨K⟩) := by
  obtain ⟨b', e, h1, h2, h3⟩ := storeA_ok L b 0 (by omega) ho
  rw [e]
  have hg : ∀ i, b'.get i = nth L i := fun i => by
    rw [h3, Nat.zero_add]
    by_cases h : i < L.length
    · rw [if_pos ⟨Nat.zero_le _, h⟩]; rfl
    · rw [if_neg (fun q => h q.2), nth_none _ _ (by omega)]; exact get_none (by omega)
  exact k b' h1 h2 (loadN_of _ _ _ hl fun i v hv => by rw [Nat.zero_add, hg, hv]) hg

structure KI (h : H) (i : Nat) (env : T CV) (h' : H) : Prop where
  e0 : evT env 0 = .ptr h.nx 0
  e1 : evT env 1 = .ptr (h.nx + 1) 0
  e4 : evT env 4 = .agg (primesL.map fun p => w64 (BitVec.ofNat 64 p))
  e5 : evT env 5 = .int .i64 (Int.ofNat i)
  nx : h'.nx = h.nx + 2
  ext : Ext h h'
  low : h'.low = h.nx
  b0 : ∃ b, h'.blk h.nx = some b ∧ b.n = 64 ∧ b.ro = false
  b1 : ∃ b, h'.blk (h.nx + 1) = some b ∧ b.n = 64 ∧ b.ro = false ∧ ∀ j, j < i → b.get j = (KL[j]?).map w32

theorem constants_run (hσ : ∀ f a h, σ f a h = none) (h : H) : RetQ h (.agg (KL.map w32)) ((lim Tryz.prog σ).call 209 [] h) := by
  rw [call_eq (hσ _ _ _) fn_209 rfl rfl, Tryz.ntmps209, Tryz.results209]
  have hp : ∀ h, (lim Tryz.prog σ).call 246 [] h = some (.agg (primesL.map fun p => w64 (BitVec.ofNat 64 p)), none) := fun h => primes_run hσ h
  simp only [go_sem, wadd32, wmul32, wadd64, wmul64, wand32, wor32, wxor32, wand64, wor64, wnot32, wsub32, wsub64, wshr32l, wshl32l, wshr64l, wshl64l, wshr32w, wshl32w, wshr64w, wlt64, wgt64, weq64, wne64, hp]
  refine loop_ind (Q := RetQ h (.agg (KL.map w32))) (KI h) 64 0 ?_ (by decide) ?_ ?_
  · exact ⟨by simp only [go_sem], by simp only [go_sem], by simp only [go_sem], by simp only [go_sem]; rfl, by simp only [go_sem], ((Ext.lo h).alloc' _).alloc' _, by simp only [go_sem], ⟨_, by simp only [go_sem]; rfl, wnewBlk_n _, newBlk_ro _⟩, ⟨_, by simp only [go_sem]; rfl, wnewBlk_n _, newBlk_ro _, fun j hj => absurd hj (Nat.not_lt_zero _)⟩⟩
  · rintro i env h' I hi next
    obtain ⟨b0, hb0, hn0, hr0⟩ := I.b0
    obtain ⟨b1, hb1, hn1, hr1, hg1⟩ := I.b1
    have c0 : Int.ofNat i < 64 := by simp; omega
    obtain ⟨p, hpp⟩ : ∃ p, primesL[i]? = some p := ⟨_, List.getElem?_eq_getElem (by rw [primesL_len]; exact hi)⟩
    have hnp : nth (primesL.map fun p => w64 (BitVec.ofNat 64 p)) i = some (w64 (BitVec.ofNat 64 p)) := by rw [nth_eq, List.getElem?_map, hpp]; rfl
    have hK : KL[i]? = some (rootN (BitVec.ofNat 64 p)) := by unfold KL; rw [List.getElem?_map, hpp]; rfl
    have hr : ∀ h, (lim Tryz.prog σ).call 247 [w64 (BitVec.ofNat 64 p)] h = some (w32 (rootN (BitVec.ofNat 64 p)), none) := fun h => root_run hσ h _
    have hs := wrap_succ (i := i) (by omega)
    simp only [go_sem, wadd32, wmul32, wadd64, wmul64, wand32, wor32, wxor32, wand64, wor64, wnot32, wsub32, wsub64, wshr32l, wshl32l, wshr64l, wshl64l, wshr32w, wshl32w, wshr64w, wlt64, wgt64, weq64, wne64, I.e0, I.e1, I.e4, I.e5, c0, hi, hnp, hr, hb1, hr1, hn1, Nat.mul_one, hs]
    refine next _ _ ⟨by simp only [go_sem, I.e0], by simp only [go_sem, I.e1], by simp only [go_sem, I.e4], by simp only [go_sem], I.nx, I.ext.put _ (by omega), by simp only [go_sem, I.low]; omega, ⟨b0, ?_, hn0, hr0⟩, ⟨_, put_blk_same _ _ _, by rw [st_n]; exact hn1, by rw [st_ro]; exact hr1, fun j hj => ?_⟩⟩
    · rw [put_blk_ne _ _ _ _ (by omega)]; exact hb0
    · by_cases q : j = i
      · subst q; rw [st_get_same _ _ _ (by omega), hK]; rfl
      · rw [st_get_ne _ _ _ _ q]; exact hg1 j (by omega)
  · rintro env h' I
    obtain ⟨b0, hb0, hn0, hr0⟩ := I.b0
    obtain ⟨b1, hb1, hn1, hr1, hg1⟩ := I.b1
    have c0 : ¬ Int.ofNat 64 < 64 := by decide
    have hld : b1.loadN 0 64 = some (KL.map w32) := loadN_of _ _ _ (by rw [List.length_map, KL_len]) fun i v hv => by
      have hi := nlt hv
      rw [List.length_map, KL_len] at hi
      rw [Nat.zero_add, hg1 i hi, ← hv, nth_eq, List.getElem?_map]
    have hlen : (KL.map w32).length = 64 := by rw [List.length_map, KL_len]
    simp only [go_sem, wadd32, wmul32, wadd64, wmul64, wand32, wor32, wxor32, wand64, wor64, wnot32, wsub32, wsub64, wshr32l, wshl32l, wshr64l, wshl64l, wshr32w, wshl32w, wshr64w, wlt64, wgt64, weq64, wne64, I.e0, I.e1, I.e4, I.e5, c0, hb0, hb1, hld, hr0, hlen]
    refine store_step (Q := RetQ h (.agg (KL.map w32))) (by rw [hlen, hn0]) (one_ws _) fun b' h1 h2 h3 _ => ?_
    rw [hn0] at h3
    simp only [go_sem, h3, I.e0]
    rw [fin_q _ _ _ (by simp only [go_sem, I.low]; omega) (okB_ws _ _)]
    rfl

end
end Go.Cl.Sh

namespace Go.Cl.Sh
noncomputable section
variable {σ : Sums}
set_option maxRecDepth 1000000

/-! ### what it is -/
def byt (xs : List Nat) (i : Nat) : BitVec 32 := BitVec.ofNat 32 (xs[i]?.getD 0)
def wd (xs : List Nat) (t : Nat) : BitVec 32 := byt xs (4 * t) <<< 24 ||| byt xs (4 * t + 1) <<< 16 ||| byt xs (4 * t + 2) <<< 8 ||| byt xs (4 * t + 3)
def sg0 (p : BitVec 32) : BitVec 32 := rotr p 7 ^^^ rotr p 18 ^^^ p >>> 3
def sg1 (q : BitVec 32) : BitVec 32 := rotr q 17 ^^^ rotr q 19 ^^^ q >>> 10
def schN (l : List (BitVec 32)) : BitVec 32 := l[15]?.getD 0 + sg0 (l[14]?.getD 0) + l[6]?.getD 0 + sg1 (l[1]?.getD 0)
def schR (xs : List Nat) : Nat → List (BitVec 32)
  | 0 => []
  | t + 1 => (if t < 16 then wd xs t else schN (schR xs t)) :: schR xs t
def W (xs : List Nat) (t : Nat) : BitVec 32 := (schR xs (t + 1))[0]?.getD 0
theorem schR_get (xs : List Nat) : ∀ n j, j < n → (schR xs n)[j]? = some (W xs (n - 1 - j))
  | n + 1, 0, _ => rfl
  | n + 1, j + 1, h => by
    have : (schR xs (n + 1))[j + 1]? = (schR xs n)[j]? := rfl
    rw [this, schR_get xs n j (by omega), show n + 1 - 1 - (j + 1) = n - 1 - j by omega]
theorem W_lo (xs : List Nat) {t : Nat} (h : t < 16) : W xs t = wd xs t := by
  show (if t < 16 then wd xs t else _) = _
  rw [if_pos h]
theorem W_hi (xs : List Nat) {t : Nat} (h : 16 ≤ t) : W xs t = W xs (t - 16) + sg0 (W xs (t - 15)) + W xs (t - 7) + sg1 (W xs (t - 2)) := by
  show (if t < 16 then wd xs t else schN (schR xs t)) = _
  rw [if_neg (by omega)]
  unfold schN
  rw [schR_get xs t 15 (by omega), schR_get xs t 14 (by omega), schR_get xs t 6 (by omega), schR_get xs t 1 (by omega)]
  simp only [Option.getD_some]
  rw [show t - 1 - 15 = t - 16 by omega, show t - 1 - 14 = t - 15 by omega, show t - 1 - 6 = t - 7 by omega, show t - 1 - 1 = t - 2 by omega]

structure S8 where
  (a b c d e f g h : BitVec 32)
def S8.l (s : S8) : List (BitVec 32) := [s.a, s.b, s.c, s.d, s.e, s.f, s.g, s.h]
def rnd (k w : BitVec 32) (s : S8) : S8 :=
  let x := s.h + (rotr s.e 6 ^^^ rotr s.e 11 ^^^ rotr s.e 25) + ((s.e &&& s.f) ^^^ (~~~ s.e &&& s.g)) + k + w
  let y := (rotr s.a 2 ^^^ rotr s.a 13 ^^^ rotr s.a 22) + ((s.a &&& s.b) ^^^ (s.a &&& s.c) ^^^ (s.b &&& s.c))
  ⟨x + y, s.a, s.b, s.c, s.d + x, s.e, s.f, s.g⟩
def kw (t : Nat) : BitVec 32 := KL[t]?.getD 0
def rnds (xs : List Nat) (s : S8) : Nat → S8
  | 0 => s
  | t + 1 => rnd (kw t) (W xs t) (rnds xs s t)
def S8.add (s r : S8) : S8 := ⟨s.a + r.a, s.b + r.b, s.c + r.c, s.d + r.d, s.e + r.e, s.f + r.f, s.g + r.g, s.h + r.h⟩
def pressS (xs : List Nat) (s : S8) : S8 := s.add (rnds xs s 64)

/-! ### slices of bytes cut -/
def bc (l : List Nat) : List CV := l.map u8
theorem bc_len (l : List Nat) : (bc l).length = l.length := by simp [bc]
def CapOk (h : H) (id off len : Nat) (c : Cap) : Prop := (∃ n, c = .exact n ∧ len ≤ n) ∨ (c = .opn 1 ∧ ∃ b, h.blk id = some b ∧ off + len ≤ b.n)
theorem slc {h : H} {id off len : Nat} {c : Cap} (C : CapOk h id off len c) {lo hi : Nat} (h1 : lo < hi) (h2 : hi ≤ len) :
    ∃ c', sliceT Tryz.prog h 164 (.sl id off len c) (some (.int .i64 (Int.ofNat lo))) (some (.int .i64 (Int.ofNat hi))) none = some (.sl id (off + lo) (hi - lo) c') ∧ CapOk h id (off + lo) (hi - lo) c' := by
  rcases C with ⟨n, rfl, hn⟩ | ⟨rfl, b, hb, hbn⟩
  · refine ⟨.exact (n - lo), ?_, .inl ⟨_, rfl, by omega⟩⟩
    simp only [sliceT, Tryz.underlying164, Option.bind_some, sz_5, sliceExact, bnd, toN, Int.ofNat_eq_natCast, Nat.mul_one]
    simp [ble_eq', beq_eq', show hi ≤ n by omega, show lo ≤ hi by omega, show ¬ n = lo by omega]
  · refine ⟨.opn 1, ?_, .inr ⟨rfl, b, hb, by omega⟩⟩
    simp only [sliceT, Tryz.underlying164, Option.bind_some, sz_5, capK, hb, bnd, toN, Int.ofNat_eq_natCast, Nat.mul_one]
    simp [ble_eq', beq_eq', blt_eq', show hi ≤ b.n - off by omega, show lo ≤ hi by omega, show lo < b.n - off by omega]
theorem ia22 {id off len k : Nat} {c : Cap} (hk : k < len) (kd : IntKind) : indexAddrT Tryz.prog 164 (.sl id off len c) (.int kd (Int.ofNat k)) = some (.ptr id (off + k)) := by
  rw [ia_164, blt_eq', decide_eq_true hk, cond_true, Nat.mul_one]
theorem bload {b : Blk} {off : Nat} {xs : List Nat} (h : b.loadN off xs.length = some (bc xs)) {k : Nat} (hk : k < xs.length) : b.get (off + k) = some (u8 (xs[k]?.getD 0)) := by
  rw [(loadN_spec h).2 k hk]
  simp [bc, hk]

/-! ### the code -/
structure PA (h : H) (h' : H) (env : T CV) (s kk id off : Nat) (c : Cap) (g : Nat → Option CV) : Prop where
  e0 : evT env 0 = .ptr s 0
  e1 : evT env 1 = .ptr kk 0
  e2 : evT env 2 = .sl id off 64 c
  e6 : evT env 6 = .fn (.func 248) [] []
  e7 : evT env 7 = .ptr h.nx 0
  nx : h'.nx = h.nx + 1
  ext : Ext h h'
  low : h'.low = h.nx
  w : ∃ b, h'.blk h.nx = some b ∧ b.n = 64 ∧ b.ro = false ∧ ∀ j v, g j = some v → b.get j = some v

theorem wrap_n {x : Int} {n : Nat} (e : x = Int.ofNat n) (h : n < 1000000000000) : IntKind.wrap .i64 x = Int.ofNat n := by
  rw [e, wrap_i64 (by simp) (by simp; omega)]

def WX (xs : List Nat) (n j : Nat) : Option CV := if j < n then some (w32 (W xs j)) else none

theorem WX_s {xs : List Nat} {i j : Nat} {v : CV} (h : WX xs (i + 1) j = some v) : (j = i ∧ v = w32 (W xs i)) ∨ (j ≠ i ∧ WX xs i j = some v) := by
  unfold WX at h ⊢
  split at h
  · cases h
    by_cases q : j = i
    · subst q; exact .inl ⟨rfl, rfl⟩
    · exact .inr ⟨q, by rw [if_pos (by omega)]⟩
  · cases h
theorem PA.put {h h' : H} {env env' : T CV} {s kk id off i : Nat} {c : Cap} {xs : List Nat} {b : Blk} (I : PA h h' env s kk id off c (WX xs i)) (hb : h'.blk h.nx = some b) (hn : b.n = 64) (hr : b.ro = false) (hg : ∀ j v, WX xs i j = some v → b.get j = some v) (hi : i < 64)
    (e0 : evT env' 0 = .ptr s 0) (e1 : evT env' 1 = .ptr kk 0) (e2 : evT env' 2 = .sl id off 64 c) (e6 : evT env' 6 = .fn (.func 248) [] []) (e7 : evT env' 7 = .ptr h.nx 0) {v : CV} (hv : v = w32 (W xs i)) :
    PA h (h'.put h.nx (.cells (b.st i v))) env' s kk id off c (WX xs (i + 1)) := by
  refine ⟨e0, e1, e2, e6, e7, I.nx, I.ext.put _ (Nat.le_refl _), by rw [put_low, I.low]; omega, _, put_blk_same _ _ _, by rw [st_n]; exact hn, by rw [st_ro]; exact hr, fun j u hj => ?_⟩
  rcases WX_s hj with ⟨rfl, rfl⟩ | ⟨q, hq⟩
  · rw [st_get_same _ _ _ (by omega), hv]
  · rw [st_get_ne _ _ _ _ q]; exact hg j u hq
structure SE (env : T CV) (r : S8) : Prop where
  a : evT env 15 = w32 r.a
  b : evT env 16 = w32 r.b
  c : evT env 17 = w32 r.c
  d : evT env 18 = w32 r.d
  e : evT env 19 = w32 r.e
  f : evT env 20 = w32 r.f
  g : evT env 21 = w32 r.g
  h : evT env 22 = w32 r.h
def S8.at (s : S8) (i : Nat) : BitVec 32 := s.l[i]?.getD 0
theorem S8.nth (s : S8) {i : Nat} (hi : i < 8) : nth (s.l.map w32) i = some (w32 (s.at i)) := by
  match i, hi with
  | 0, _ => rfl
  | 1, _ => rfl
  | 2, _ => rfl
  | 3, _ => rfl
  | 4, _ => rfl
  | 5, _ => rfl
  | 6, _ => rfl
  | 7, _ => rfl
theorem S8.at_add (s r : S8) {i : Nat} (hi : i < 8) : (s.add r).at i = s.at i + r.at i := by
  match i, hi with
  | 0, _ => rfl
  | 1, _ => rfl
  | 2, _ => rfl
  | 3, _ => rfl
  | 4, _ => rfl
  | 5, _ => rfl
  | 6, _ => rfl
  | 7, _ => rfl

theorem press_run (hσ : ∀ f a h, σ f a h = none) {h : H} {s kk id off : Nat} {c : Cap} {xs : List Nat} {st : S8} {bs bk bx : Blk} (hs : h.blk s = some bs) (hsn : bs.n = 8) (hsr : bs.ro = false) (hsg : ∀ i, bs.get i = nth (st.l.map w32) i)
    (hk : h.blk kk = some bk) (hkg : ∀ j, j < 64 → bk.get j = some (w32 (kw j))) (hb : h.blk id = some bx) (hx : xs.length = 64) (hbx : bx.loadN off xs.length = some (bc xs)) (C : CapOk h id off 64 c) (ls : s < h.nx) (lk : kk < h.nx) (li : id < h.nx) :
    WrR h (.tup []) s 8 (nth ((pressS xs st).l.map w32)) ((lim Tryz.prog σ).call 210 [.ptr s 0, .ptr kk 0, .sl id off 64 c] h) := by
  obtain ⟨Q, hQ⟩ : ∃ Q, Q = WrR h (.tup []) s 8 (nth ((pressS xs st).l.map w32)) := ⟨_, rfl⟩
  rw [← hQ]
  rw [call_eq (hσ _ _ _) fn_210 rfl rfl, Tryz.ntmps210, Tryz.results210]
  simp only [go_sem]
  refine loop_ind (Q := Q) (fun i env h' => PA h h' env s kk id off c (WX xs i) ∧ evT env 30 = .int .i64 (Int.ofNat i)) 16 0 ?_ (by decide) ?_ ?_
  · exact ⟨⟨by simp only [go_sem], by simp only [go_sem], by simp only [go_sem], by simp only [go_sem], by simp only [go_sem], by simp only [go_sem], (Ext.lo h).alloc' _, by simp only [go_sem], _, by simp only [go_sem]; rfl, wnewBlk_n _, newBlk_ro _, fun j v hj => by simp [WX] at hj⟩, by simp only [go_sem]; rfl⟩
  · rintro i env h' ⟨I, e30⟩ hi next
    obtain ⟨b, hbw, hbn, hbr, hbg⟩ := I.w
    have c0 : Int.ofNat i < 16 := by simp; omega
    have w1 : IntKind.wrap .i64 (4 * Int.ofNat i) = Int.ofNat (4 * i) := wrap_n (by simp) (by omega)
    have w2 : IntKind.wrap .i64 (Int.ofNat (4 * i) + 4) = Int.ofNat (4 * i + 4) := wrap_n (by simp) (by omega)
    have w3 : IntKind.wrap .i64 (Int.ofNat i + 1) = Int.ofNat (i + 1) := wrap_n (by simp) (by omega)
    have C' : CapOk h' id off 64 c := by
      rcases C with h1 | ⟨h1, b', h2, h3⟩
      · exact .inl h1
      · exact .inr ⟨h1, b', (I.ext.blk li).trans h2, h3⟩
    obtain ⟨c', e1, C2⟩ := slc C' (lo := 4 * i) (hi := 4 * i + 4) (by omega) (by omega)
    rw [show 4 * i + 4 - 4 * i = 4 by omega] at e1
    have hb' : h'.blk id = some bx := (I.ext.blk li).trans hb
    have i0 : ∀ kd, indexAddrT Tryz.prog 164 (.sl id (off + 4 * i) 4 c') (.int kd 0) = some (.ptr id (off + 4 * i + 0)) := fun kd => ia22 (k := 0) (by omega) kd
    have i1 : ∀ kd, indexAddrT Tryz.prog 164 (.sl id (off + 4 * i) 4 c') (.int kd 1) = some (.ptr id (off + 4 * i + 1)) := fun kd => ia22 (k := 1) (by omega) kd
    have i2 : ∀ kd, indexAddrT Tryz.prog 164 (.sl id (off + 4 * i) 4 c') (.int kd 2) = some (.ptr id (off + 4 * i + 2)) := fun kd => ia22 (k := 2) (by omega) kd
    have i3 : ∀ kd, indexAddrT Tryz.prog 164 (.sl id (off + 4 * i) 4 c') (.int kd 3) = some (.ptr id (off + 4 * i + 3)) := fun kd => ia22 (k := 3) (by omega) kd
    have g0 : bx.get (off + 4 * i + 0) = some (u8 (xs[4 * i + 0]?.getD 0)) := by rw [Nat.add_assoc]; exact bload hbx (by omega)
    have g1 : bx.get (off + 4 * i + 1) = some (u8 (xs[4 * i + 1]?.getD 0)) := by rw [Nat.add_assoc]; exact bload hbx (by omega)
    have g2 : bx.get (off + 4 * i + 2) = some (u8 (xs[4 * i + 2]?.getD 0)) := by rw [Nat.add_assoc]; exact bload hbx (by omega)
    have g3 : bx.get (off + 4 * i + 3) = some (u8 (xs[4 * i + 3]?.getD 0)) := by rw [Nat.add_assoc]; exact bload hbx (by omega)
    rw [Nat.add_zero] at i0 g0
    have hi64 : i < 64 := by omega
    simp only [go_sem, wadd32, wmul32, wadd64, wmul64, wand32, wor32, wxor32, wand64, wor64, wnot32, wsub32, wsub64, wshr32l, wshl32l, wshr64l, wshl64l, wshr32w, wshl32w, wshr64w, wlt64, wgt64, weq64, wne64, I.e0, I.e1, I.e2, I.e6, I.e7, e30, c0, w1, w2, w3, e1, hb', i0, i1, i2, i3, g0, g1, g2, g3, cv53, hi64, hbw, hbr, hbn, Nat.mul_one]
    refine cnd_go (Q := Q) (by kernel_rfl) ?_
    simp only [go_sem, wadd32, wmul32, wadd64, wmul64, wand32, wor32, wxor32, wand64, wor64, wnot32, wsub32, wsub64, wshr32l, wshl32l, wshr64l, wshl64l, wshr32w, wshl32w, wshr64w, wlt64, wgt64, weq64, wne64, I.e0, I.e1, I.e2, I.e6, I.e7, e30, c0, w1, w2, w3, e1, hb', i0, i1, i2, i3, g0, g1, g2, g3, cv53, hi64, hbw, hbr, hbn, Nat.mul_one]
    refine cnd_go (Q := Q) (by kernel_rfl) ?_
    refine quiet_go (Q := Q) (by kernel_rfl) ?_
    simp only [go_sem, wadd32, wmul32, wadd64, wmul64, wand32, wor32, wxor32, wand64, wor64, wnot32, wsub32, wsub64, wshr32l, wshl32l, wshr64l, wshl64l, wshr32w, wshl32w, wshr64w, wlt64, wgt64, weq64, wne64, I.e0, I.e1, I.e2, I.e6, I.e7, e30, c0, w1, w2, w3, e1, hb', i0, i1, i2, i3, g0, g1, g2, g3, cv53, hi64, hbw, hbr, hbn, Nat.mul_one]
    exact next _ _ ⟨I.put hbw hbn hbr hbg hi64 (by simp only [go_sem, I.e0]) (by simp only [go_sem, I.e1]) (by simp only [go_sem, I.e2]) (by simp only [go_sem, I.e6]) (by simp only [go_sem, I.e7]) (by rw [W_lo xs hi]; rfl), by simp only [go_sem]⟩
  rintro env h' ⟨I, e30⟩
  have c0 : ¬ Int.ofNat 16 < 16 := by decide
  simp only [go_sem, e30, c0]
  refine loop_ind (Q := Q) (fun i env h' => PA h h' env s kk id off c (WX xs i) ∧ evT env 10 = .int .i64 (Int.ofNat i) ∧ 16 ≤ i) 64 16 ?_ (by decide) ?_ ?_
  · exact ⟨⟨by simp only [go_sem, I.e0], by simp only [go_sem, I.e1], by simp only [go_sem, I.e2], by simp only [go_sem, I.e6], by simp only [go_sem, I.e7], I.nx, I.ext, I.low, I.w⟩, by simp only [go_sem]; rfl, by decide⟩
  · clear I e30 c0 env h'
    rintro i env h' ⟨I, e10, h16⟩ hi next
    obtain ⟨b, hbw, hbn, hbr, hbg⟩ := I.w
    have c0 : Int.ofNat i < 64 := by simp; omega
    have w1 : IntKind.wrap .i64 (Int.ofNat i - 15) = Int.ofNat (i - 15) := wrap_n (by simp; omega) (by omega)
    have w2 : IntKind.wrap .i64 (Int.ofNat i - 2) = Int.ofNat (i - 2) := wrap_n (by simp; omega) (by omega)
    have w3 : IntKind.wrap .i64 (Int.ofNat i - 16) = Int.ofNat (i - 16) := wrap_n (by simp; omega) (by omega)
    have w4 : IntKind.wrap .i64 (Int.ofNat i - 7) = Int.ofNat (i - 7) := wrap_n (by simp; omega) (by omega)
    have w5 : IntKind.wrap .i64 (Int.ofNat i + 1) = Int.ofNat (i + 1) := wrap_n (by simp) (by omega)
    have l1 : i - 15 < 64 := by omega
    have l2 : i - 2 < 64 := by omega
    have l3 : i - 16 < 64 := by omega
    have l4 : i - 7 < 64 := by omega
    have g1 : b.get (i - 15) = some (w32 (W xs (i - 15))) := hbg _ _ (if_pos (by omega))
    have g2 : b.get (i - 2) = some (w32 (W xs (i - 2))) := hbg _ _ (if_pos (by omega))
    have g3 : b.get (i - 16) = some (w32 (W xs (i - 16))) := hbg _ _ (if_pos (by omega))
    have g4 : b.get (i - 7) = some (w32 (W xs (i - 7))) := hbg _ _ (if_pos (by omega))
    have r1 : ∀ h x, (lim Tryz.prog σ).call 248 [w32 x, .int .i64 7] h = some (w32 (rotr x 7), none) := fun h x => right_run hσ h x 7 (by decide) (by decide)
    have r2 : ∀ h x, (lim Tryz.prog σ).call 248 [w32 x, .int .i64 18] h = some (w32 (rotr x 18), none) := fun h x => right_run hσ h x 18 (by decide) (by decide)
    have r3 : ∀ h x, (lim Tryz.prog σ).call 248 [w32 x, .int .i64 17] h = some (w32 (rotr x 17), none) := fun h x => right_run hσ h x 17 (by decide) (by decide)
    have r4 : ∀ h x, (lim Tryz.prog σ).call 248 [w32 x, .int .i64 19] h = some (w32 (rotr x 19), none) := fun h x => right_run hσ h x 19 (by decide) (by decide)
    simp only [go_sem, wadd32, wmul32, wadd64, wmul64, wand32, wor32, wxor32, wand64, wor64, wnot32, wsub32, wsub64, wshr32l, wshl32l, wshr64l, wshl64l, wshr32w, wshl32w, wshr64w, wlt64, wgt64, weq64, wne64, I.e0, I.e1, I.e2, I.e6, I.e7, e10, c0, w1, w2, w3, w4, w5, l1, l2, l3, l4, hi, g1, g2, g3, g4, r1, r2, r3, r4, hbw, hbr, hbn, Nat.mul_one]
    refine cnd_go (Q := Q) (by kernel_rfl) ?_
    simp only [go_sem, wadd32, wmul32, wadd64, wmul64, wand32, wor32, wxor32, wand64, wor64, wnot32, wsub32, wsub64, wshr32l, wshl32l, wshr64l, wshl64l, wshr32w, wshl32w, wshr64w, wlt64, wgt64, weq64, wne64, I.e0, I.e1, I.e2, I.e6, I.e7, e10, c0, w1, w2, w3, w4, w5, l1, l2, l3, l4, hi, g1, g2, g3, g4, r1, r2, r3, r4, hbw, hbr, hbn, Nat.mul_one]
    refine cnd_go (Q := Q) (by kernel_rfl) ?_
    simp only [go_sem, wadd32, wmul32, wadd64, wmul64, wand32, wor32, wxor32, wand64, wor64, wnot32, wsub32, wsub64, wshr32l, wshl32l, wshr64l, wshl64l, wshr32w, wshl32w, wshr64w, wlt64, wgt64, weq64, wne64, I.e0, I.e1, I.e2, I.e6, I.e7, e10, c0, w1, w2, w3, w4, w5, l1, l2, l3, l4, hi, g1, g2, g3, g4, r1, r2, r3, r4, hbw, hbr, hbn, Nat.mul_one]
    refine cnd_go (Q := Q) (by kernel_rfl) ?_
    refine quiet_go (Q := Q) (by kernel_rfl) ?_
    simp only [go_sem, wadd32, wmul32, wadd64, wmul64, wand32, wor32, wxor32, wand64, wor64, wnot32, wsub32, wsub64, wshr32l, wshl32l, wshr64l, wshl64l, wshr32w, wshl32w, wshr64w, wlt64, wgt64, weq64, wne64, I.e0, I.e1, I.e2, I.e6, I.e7, e10, c0, w1, w2, w3, w4, w5, l1, l2, l3, l4, hi, g1, g2, g3, g4, r1, r2, r3, r4, hbw, hbr, hbn, Nat.mul_one]
    exact next _ _ ⟨I.put hbw hbn hbr hbg hi (by simp only [go_sem, I.e0]) (by simp only [go_sem, I.e1]) (by simp only [go_sem, I.e2]) (by simp only [go_sem, I.e6]) (by simp only [go_sem, I.e7]) (by rw [W_hi xs h16]; rfl), by simp only [go_sem], by omega⟩
  clear I e30 c0 env h'
  rintro env h' ⟨I, e10, _⟩
  have c0 : ¬ Int.ofNat 64 < 64 := by decide
  have hs' : h'.blk s = some bs := (I.ext.blk ls).trans hs
  have hk' : h'.blk kk = some bk := (I.ext.blk lk).trans hk
  have g0 : bs.get 0 = some (w32 st.a) := hsg 0
  have g1 : bs.get 1 = some (w32 st.b) := hsg 1
  have g2 : bs.get 2 = some (w32 st.c) := hsg 2
  have g3 : bs.get 3 = some (w32 st.d) := hsg 3
  have g4 : bs.get 4 = some (w32 st.e) := hsg 4
  have g5 : bs.get 5 = some (w32 st.f) := hsg 5
  have g6 : bs.get 6 = some (w32 st.g) := hsg 6
  have g7 : bs.get 7 = some (w32 st.h) := hsg 7
  have ix : ∀ k : Nat, k < 8 → ∀ kd, indexAddrT Tryz.prog 253 (.ptr s 0) (.int kd (Int.ofNat k)) = some (.ptr s k) := fun k hk kd => by
    rw [ia_253, blt_eq', decide_eq_true hk, cond_true, Nat.mul_one, Nat.zero_add]
  have x0 : ∀ kd, indexAddrT Tryz.prog 253 (.ptr s 0) (.int kd 0) = some (.ptr s 0) := ix 0 (by decide)
  have x1 : ∀ kd, indexAddrT Tryz.prog 253 (.ptr s 0) (.int kd 1) = some (.ptr s 1) := ix 1 (by decide)
  have x2 : ∀ kd, indexAddrT Tryz.prog 253 (.ptr s 0) (.int kd 2) = some (.ptr s 2) := ix 2 (by decide)
  have x3 : ∀ kd, indexAddrT Tryz.prog 253 (.ptr s 0) (.int kd 3) = some (.ptr s 3) := ix 3 (by decide)
  have x4 : ∀ kd, indexAddrT Tryz.prog 253 (.ptr s 0) (.int kd 4) = some (.ptr s 4) := ix 4 (by decide)
  have x5 : ∀ kd, indexAddrT Tryz.prog 253 (.ptr s 0) (.int kd 5) = some (.ptr s 5) := ix 5 (by decide)
  have x6 : ∀ kd, indexAddrT Tryz.prog 253 (.ptr s 0) (.int kd 6) = some (.ptr s 6) := ix 6 (by decide)
  have x7 : ∀ kd, indexAddrT Tryz.prog 253 (.ptr s 0) (.int kd 7) = some (.ptr s 7) := ix 7 (by decide)
  simp only [go_sem, wadd32, wmul32, wadd64, wmul64, wand32, wor32, wxor32, wand64, wor64, wnot32, wsub32, wsub64, wshr32l, wshl32l, wshr64l, wshl64l, wshr32w, wshl32w, wshr64w, wlt64, wgt64, weq64, wne64, I.e0, I.e1, I.e2, I.e6, I.e7, e10, c0, hs', g0, g1, g2, g3, g4, g5, g6, g7, x0, x1, x2, x3, x4, x5, x6, x7]
  refine cnd_go (Q := Q) (by kernel_rfl) ?_
  simp only [go_sem, wadd32, wmul32, wadd64, wmul64, wand32, wor32, wxor32, wand64, wor64, wnot32, wsub32, wsub64, wshr32l, wshl32l, wshr64l, wshl64l, wshr32w, wshl32w, wshr64w, wlt64, wgt64, weq64, wne64, I.e0, I.e1, I.e2, I.e6, I.e7, e10, c0, hs', g0, g1, g2, g3, g4, g5, g6, g7, x0, x1, x2, x3, x4, x5, x6, x7]
  refine cnd_go (Q := Q) (by kernel_rfl) ?_
  simp only [go_sem, wadd32, wmul32, wadd64, wmul64, wand32, wor32, wxor32, wand64, wor64, wnot32, wsub32, wsub64, wshr32l, wshl32l, wshr64l, wshl64l, wshr32w, wshl32w, wshr64w, wlt64, wgt64, weq64, wne64, I.e0, I.e1, I.e2, I.e6, I.e7, e10, c0, hs', g0, g1, g2, g3, g4, g5, g6, g7, x0, x1, x2, x3, x4, x5, x6, x7]
  refine loop_ind (Q := Q) (fun i env h' => PA h h' env s kk id off c (WX xs 64) ∧ evT env 144 = .int .i64 (Int.ofNat i) ∧ SE env (rnds xs st i)) 64 0 ?_ (by decide) ?_ ?_
  · exact ⟨⟨by simp only [go_sem, I.e0], by simp only [go_sem, I.e1], by simp only [go_sem, I.e2], by simp only [go_sem, I.e6], by simp only [go_sem, I.e7], I.nx, I.ext, I.low, I.w⟩, by simp only [go_sem]; rfl,
      by simp only [go_sem]; rfl, by simp only [go_sem]; rfl, by simp only [go_sem]; rfl, by simp only [go_sem]; rfl, by simp only [go_sem]; rfl, by simp only [go_sem]; rfl, by simp only [go_sem]; rfl, by simp only [go_sem]; rfl⟩
  · clear I e10 c0 hs' hk' env h'
    rintro i env h' ⟨I, e144, E⟩ hi next
    obtain ⟨b, hbw, hbn, hbr, hbg⟩ := I.w
    have c0 : Int.ofNat i < 64 := by simp; omega
    have hk' : h'.blk kk = some bk := (I.ext.blk lk).trans hk
    have w1 : IntKind.wrap .i64 (Int.ofNat i + 1) = Int.ofNat (i + 1) := wrap_n (by simp) (by omega)
    have gk := hkg i hi
    have gw : b.get i = some (w32 (W xs i)) := hbg _ _ (if_pos hi)
    have rr : ∀ (n : Nat) (_ : 0 < n) (_ : n < 32) h x, (lim Tryz.prog σ).call 248 [w32 x, .int .i64 (Int.ofNat n)] h = some (w32 (rotr x n), none) := fun n h1 h2 h x => right_run hσ h x n h1 h2
    have r1 : ∀ h x, (lim Tryz.prog σ).call 248 [w32 x, .int .i64 6] h = some (w32 (rotr x 6), none) := rr 6 (by decide) (by decide)
    have r2 : ∀ h x, (lim Tryz.prog σ).call 248 [w32 x, .int .i64 11] h = some (w32 (rotr x 11), none) := rr 11 (by decide) (by decide)
    have r3 : ∀ h x, (lim Tryz.prog σ).call 248 [w32 x, .int .i64 25] h = some (w32 (rotr x 25), none) := rr 25 (by decide) (by decide)
    have r4 : ∀ h x, (lim Tryz.prog σ).call 248 [w32 x, .int .i64 2] h = some (w32 (rotr x 2), none) := rr 2 (by decide) (by decide)
    have r5 : ∀ h x, (lim Tryz.prog σ).call 248 [w32 x, .int .i64 13] h = some (w32 (rotr x 13), none) := rr 13 (by decide) (by decide)
    have r6 : ∀ h x, (lim Tryz.prog σ).call 248 [w32 x, .int .i64 22] h = some (w32 (rotr x 22), none) := rr 22 (by decide) (by decide)
    simp only [go_sem, wadd32, wmul32, wadd64, wmul64, wand32, wor32, wxor32, wand64, wor64, wnot32, wsub32, wsub64, wshr32l, wshl32l, wshr64l, wshl64l, wshr32w, wshl32w, wshr64w, wlt64, wgt64, weq64, wne64, I.e0, I.e1, I.e2, I.e6, I.e7, e144, c0, E.a, E.b, E.c, E.d, E.e, E.f, E.g, E.h, w1, hi, hk', gk, gw, hbw, r1, r2, r3, r4, r5, r6, Nat.mul_one]
    refine cnd_go (Q := Q) (by kernel_rfl) ?_
    simp only [go_sem, wadd32, wmul32, wadd64, wmul64, wand32, wor32, wxor32, wand64, wor64, wnot32, wsub32, wsub64, wshr32l, wshl32l, wshr64l, wshl64l, wshr32w, wshl32w, wshr64w, wlt64, wgt64, weq64, wne64, I.e0, I.e1, I.e2, I.e6, I.e7, e144, c0, E.a, E.b, E.c, E.d, E.e, E.f, E.g, E.h, w1, hi, hk', gk, gw, hbw, r1, r2, r3, r4, r5, r6, Nat.mul_one]
    refine next _ _ ⟨⟨by simp only [go_sem, I.e0], by simp only [go_sem, I.e1], by simp only [go_sem, I.e2], by simp only [go_sem, I.e6], by simp only [go_sem, I.e7], I.nx, I.ext, I.low, b, hbw, hbn, hbr, hbg⟩, by simp only [go_sem],
      by simp only [go_sem]; rfl, by simp only [go_sem]; rfl, by simp only [go_sem]; rfl, by simp only [go_sem]; rfl, by simp only [go_sem]; rfl, by simp only [go_sem]; rfl, by simp only [go_sem]; rfl, by simp only [go_sem]; rfl⟩
  clear I e10 c0 hs' hk' env h'
  rintro env h' ⟨I, e144, E⟩
  have c0 : ¬ Int.ofNat 64 < 64 := by decide
  obtain ⟨r, hr⟩ : ∃ r, r = rnds xs st 64 := ⟨_, rfl⟩
  rw [← hr] at E
  simp only [go_sem, wadd32, wmul32, wadd64, wmul64, wand32, wor32, wxor32, wand64, wor64, wnot32, wsub32, wsub64, wshr32l, wshl32l, wshr64l, wshl64l, wshr32w, wshl32w, wshr64w, wlt64, wgt64, weq64, wne64, I.e0, I.e1, I.e2, I.e6, I.e7, e144, c0, E.a, E.b, E.c, E.d, E.e, E.f, E.g, E.h]
  refine loop_ind (Q := Q) (fun i env h' => evT env 0 = .ptr s 0 ∧ evT env 225 = .agg (r.l.map w32) ∧ evT env 226 = .int .i64 (Int.ofNat i) ∧ h'.nx = h.nx + 1 ∧ h'.gn = h.gn ∧ (∀ k, k < h.nx → k ≠ s → h'.t.get k = h.t.get k) ∧ (i = 0 → h'.low = h.nx) ∧ (0 < i → h'.low = s) ∧
    ∃ b, h'.blk s = some b ∧ b.n = 8 ∧ b.ro = false ∧ ∀ j, j < 8 → b.get j = some (w32 (if j < i then st.at j + r.at j else st.at j))) 8 0 ?_ (by decide) ?_ ?_
  · refine ⟨by simp only [go_sem, I.e0], by simp only [go_sem]; rfl, by simp only [go_sem]; rfl, I.nx, I.ext.gn, fun k hk _ => I.ext.old k hk, fun _ => I.low, fun h => absurd h (Nat.lt_irrefl _), bs, (I.ext.blk ls).trans hs, hsn, hsr, fun j hj => by rw [hsg, S8.nth _ hj, if_neg (Nat.not_lt_zero _)]⟩
  · clear I e144 E c0 env h'
    rintro i env h' ⟨e0, e225, e226, hnx, hgn, hold, hlow, hlow2, b, hb8, hbn, hbr, hbg⟩ hi next
    have c0 : Int.ofNat i < 8 := by simp; omega
    have w1 : IntKind.wrap .i64 (Int.ofNat i + 1) = Int.ofNat (i + 1) := wrap_n (by simp) (by omega)
    have gi := hbg i hi
    rw [if_neg (Nat.lt_irrefl _)] at gi
    have gn := S8.nth r hi
    simp only [go_sem, wadd32, wmul32, wadd64, wmul64, wand32, wor32, wxor32, wand64, wor64, wnot32, wsub32, wsub64, wshr32l, wshl32l, wshr64l, wshl64l, wshr32w, wshl32w, wshr64w, wlt64, wgt64, weq64, wne64, e0, e225, e226, c0, w1, hi, gn, gi, hb8, hbn, hbr, ix i hi, Nat.mul_one]
    refine cnd_go (Q := Q) (by kernel_rfl) ?_
    simp only [go_sem, wadd32, wmul32, wadd64, wmul64, wand32, wor32, wxor32, wand64, wor64, wnot32, wsub32, wsub64, wshr32l, wshl32l, wshr64l, wshl64l, wshr32w, wshl32w, wshr64w, wlt64, wgt64, weq64, wne64, e0, e225, e226, c0, w1, hi, gn, gi, hb8, hbn, hbr, ix i hi, Nat.mul_one]
    refine cnd_go (Q := Q) (by kernel_rfl) ?_
    refine quiet_go (Q := Q) (by kernel_rfl) ?_
    simp only [go_sem, wadd32, wmul32, wadd64, wmul64, wand32, wor32, wxor32, wand64, wor64, wnot32, wsub32, wsub64, wshr32l, wshl32l, wshr64l, wshl64l, wshr32w, wshl32w, wshr64w, wlt64, wgt64, weq64, wne64, e0, e225, e226, c0, w1, hi, gn, gi, hb8, hbn, hbr, ix i hi, Nat.mul_one]
    refine next _ _ ⟨by simp only [go_sem, e0], by simp only [go_sem, e225], by simp only [go_sem], hnx, hgn, fun k hk hne => by simp only [go_sem, hne]; exact hold k hk hne, fun q => absurd q (Nat.succ_ne_zero i), fun _ => by simp only [go_sem]; omega, _, put_blk_same _ _ _, by rw [st_n]; exact hbn, by rw [st_ro]; exact hbr, fun j hj => ?_⟩
    by_cases q : j = i
    · subst q; rw [st_get_same _ _ _ (by omega), if_pos (by omega)]
    · rw [st_get_ne _ _ _ _ q, hbg j hj]
      by_cases q2 : j < i
      · rw [if_pos q2, if_pos (by omega)]
      · rw [if_neg q2, if_neg (by omega)]
  · clear I e144 E c0 env h'
    rintro env h' ⟨e0, e225, e226, hnx, hgn, hold, hlow, hlow2, b, hb8, hbn, hbr, hbg⟩
    have c0 : ¬ Int.ofNat 8 < 8 := by decide
    have hlow3 := hlow2 (by decide)
    simp only [go_sem, e226, c0]
    rw [fin_l _ _ _ (by omega), hQ]
    refine ⟨_, rfl, by simp only [go_sem]; omega, hgn, fun k hk hne => hold k hk hne, ⟨b, hb8, hbn, hbr, fun i => ?_⟩, by simp only [go_sem]; omega⟩
    by_cases q : i < 8
    · rw [hbg i q, if_pos q, S8.nth _ q]
      unfold pressS
      rw [S8.at_add _ _ q, hr]
    · rw [get_none (by omega), nth_none _ _ (by rw [List.length_map]; show 8 ≤ i; omega)]
end
end Go.Cl.Sh

namespace Go.Cl.Sh
noncomputable section
variable {σ : Sums}
set_option maxRecDepth 1000000

theorem bc_app (a b : List Nat) : bc (a ++ b) = bc a ++ bc b := by simp [bc]
theorem bc_one (l : List Nat) : (bc l).all CV.one = true := List.all_eq_true.2 fun x hx => by
  obtain ⟨b, _, rfl⟩ := List.mem_map.1 hx; rfl
/-- bytes, of whomever -/
def BV (h : H) (v : CV) (xs : List Nat) : Prop :=
  (xs = [] ∧ (v = .nils ∨ (∃ a b c d, v = .sl0 a b c d) ∨ ∃ a b c d, v = .slend a b c d)) ∨
  ∃ id off c b, v = .sl id off xs.length c ∧ id < h.nx ∧ h.blk id = some b ∧ b.loadN off xs.length = some (bc xs) ∧ CapOk h id off xs.length c
theorem BV.ext {h h' : H} {v : CV} {xs : List Nat} (B : BV h v xs) (e : Ext h h') : BV h' v xs := by
  rcases B with h1 | ⟨id, off, c, b, h1, h2, h3, h4, h5⟩
  · exact .inl h1
  · refine .inr ⟨id, off, c, b, h1, Nat.lt_of_lt_of_le h2 e.nx, (e.blk h2).trans h3, h4, ?_⟩
    rcases h5 with h5 | ⟨h5, b', h6, h7⟩
    · exact .inl h5
    · exact .inr ⟨h5, b', (e.blk h2).trans h6, h7⟩
theorem BV.one {h : H} {v : CV} {xs : List Nat} (B : BV h v xs) : v.one = true ∧ v.cells = [v] := by
  rcases B with ⟨_, rfl | ⟨a, b, c, d, rfl⟩ | ⟨a, b, c, d, rfl⟩⟩ | ⟨id, off, c, b, rfl, _⟩ <;> exact ⟨rfl, rfl⟩
theorem BV.len {h : H} {v : CV} {xs : List Nat} (B : BV h v xs) (h' : H) (ts : List TypeId) (az : List CV) : builtinT Tryz.prog h' .len (164 :: ts) (v :: az) = some (.val (.int .i64 (Int.ofNat xs.length))) := by
  rcases B with ⟨rfl, rfl | ⟨a, b, c, d, rfl⟩ | ⟨a, b, c, d, rfl⟩⟩ | ⟨id, off, c, b, rfl, _⟩ <;> simp [builtinT, Tryz.underlying164, lenC]
theorem app_22e (h : H) (s : CV) (a b c d : Nat) : builtinT Tryz.prog h .append [164, 164] [s, .slend a b c d] = uv (appSb 5 h 1 1 1 s 0 (some [])) := by kernel_rfl
theorem app_22z (h : H) (s : CV) (a b c d : Nat) : builtinT Tryz.prog h .append [164, 164] [s, .sl0 a b c d] = uv (appSb 5 h 1 1 1 s 0 (some [])) := by kernel_rfl
theorem BV.app {h : H} {v : CV} {xs : List Nat} (B : BV h v xs) (s : CV) : builtinT Tryz.prog h .append [164, 164] [s, v] = uv (appSb 5 h 1 1 1 s xs.length (some (bc xs))) := by
  rcases B with ⟨rfl, rfl | ⟨a, b, c, d, rfl⟩ | ⟨a, b, c, d, rfl⟩⟩ | ⟨id, off, c, b, rfl, h1, h2, h3, _⟩
  · rw [app_164_n, ap_164_n]; rfl
  · exact app_22z _ _ _ _ _ _
  · exact app_22e _ _ _ _ _ _
  · rw [app_164, ap_164, firstC_sl, h2, bind_some', Nat.mul_one, h3]
theorem loadN_app {b : Blk} : ∀ (m n off : Nat), b.loadN off (m + n) = (b.loadN off m).bind fun x => (b.loadN (off + m) n).map fun y => x ++ y
  | 0, n, off => by simp [loadN_z, Nat.zero_add]
  | m + 1, n, off => by
    rw [show m + 1 + n = (m + n) + 1 by omega, loadN_s, loadN_s, loadN_app m n (off + 1)]
    cases b.get off with
    | none => rfl
    | some v =>
      simp only [bind_some']
      rw [show off + (m + 1) = off + 1 + m by omega]
      cases b.loadN (off + 1) m with
      | none => rfl
      | some x => simp only [bind_some']; cases b.loadN (off + 1 + m) n <;> rfl
theorem load_cut {b : Blk} {off : Nat} {xs : List Nat} (h : b.loadN off xs.length = some (bc xs)) {lo n : Nat} (hn : lo + n ≤ xs.length) : b.loadN (off + lo) n = some (bc ((xs.drop lo).take n)) := by
  obtain ⟨hl, hg⟩ := loadN_spec h
  refine loadN_of _ _ _ (by rw [bc_len, List.length_take, List.length_drop]; omega) fun i v hv => ?_
  have hi := nlt hv
  rw [bc_len, List.length_take, List.length_drop] at hi
  rw [Nat.add_assoc, hg (lo + i) (by omega), ← hv, nth_eq]
  simp [bc, show lo + i < xs.length by omega, show i < n by omega]
/-- what is left behind a place -/
theorem BV.drop {h : H} {v : CV} {xs : List Nat} (B : BV h v xs) {lo : Nat} (hl : lo ≤ xs.length) : ∃ v', sliceT Tryz.prog h 164 v (some (.int .i64 (Int.ofNat lo))) none none = some v' ∧ BV h v' (xs.drop lo) := by
  rcases B with ⟨rfl, hv⟩ | ⟨id, off, c, b, rfl, h1, h2, h3, h4⟩
  · have : lo = 0 := by simpa using hl
    subst this
    rcases hv with rfl | ⟨a, b, c, d, rfl⟩ | ⟨a, b, c, d, rfl⟩
    · exact ⟨.nils, by kernel_rfl, .inl ⟨rfl, .inl rfl⟩⟩
    · exact ⟨.sl0 a b c d, by kernel_rfl, .inl ⟨rfl, .inr (.inl ⟨_, _, _, _, rfl⟩)⟩⟩
    · exact ⟨.slend a b c d, by kernel_rfl, .inl ⟨rfl, .inr (.inr ⟨_, _, _, _, rfl⟩)⟩⟩
  · have hdl : (xs.drop lo).length = xs.length - lo := List.length_drop
    rcases h4 with ⟨n, rfl, hn⟩ | ⟨rfl, b', hb', hbn⟩
    · by_cases q : n = lo
      · refine ⟨.sl id off 0 (.exact 0), ?_, .inr ⟨id, off, .exact 0, b, by rw [hdl]; congr 1; omega, h1, h2, ?_, .inl ⟨0, rfl, by rw [hdl]; omega⟩⟩⟩
        · simp only [sliceT, Tryz.underlying164, Option.bind_some, sz_5, sliceExact, bnd, toN, Int.ofNat_eq_natCast, Nat.mul_one]
          simp [ble_eq', beq_eq', q, show xs.length ≤ lo by omega, show lo ≤ xs.length by omega, show xs.length - lo = 0 by omega]
        · rw [show (xs.drop lo) = [] from List.drop_eq_nil_of_le (by omega)]; rfl
      · refine ⟨.sl id (off + lo) (xs.length - lo) (.exact (n - lo)), ?_, .inr ⟨id, off + lo, .exact (n - lo), b, by rw [hdl], h1, h2, ?_, .inl ⟨_, rfl, by rw [hdl]; omega⟩⟩⟩
        · simp only [sliceT, Tryz.underlying164, Option.bind_some, sz_5, sliceExact, bnd, toN, Int.ofNat_eq_natCast, Nat.mul_one]
          simp [ble_eq', beq_eq', show xs.length ≤ n by omega, q, show lo ≤ xs.length by omega]
        · have := load_cut h3 (lo := lo) (n := xs.length - lo) (by omega)
          rw [hdl, this, List.take_of_length_le (by rw [hdl]; exact Nat.le_refl _)]
    · rw [h2] at hb'; cases hb'
      by_cases q : lo < b.n - off ∨ lo = 0
      · refine ⟨.sl id (off + lo) (xs.length - lo) (.opn 1), ?_, .inr ⟨id, off + lo, .opn 1, b, by rw [hdl], h1, h2, ?_, .inr ⟨rfl, b, h2, by rw [hdl]; omega⟩⟩⟩
        · simp only [sliceT, Tryz.underlying164, Option.bind_some, sz_5, capK, h2, bnd, toN, Int.ofNat_eq_natCast, Nat.mul_one]
          have hc : (decide (lo < b.n - off) || decide (lo = 0)) = true := by simpa using q
          simp [ble_eq', beq_eq', blt_eq', show xs.length ≤ b.n - off by omega, show lo ≤ xs.length by omega, hc]
        · have := load_cut h3 (lo := lo) (n := xs.length - lo) (by omega)
          rw [hdl, this, List.take_of_length_le (by rw [hdl]; exact Nat.le_refl _)]
      · refine ⟨.slend id off lo 1, ?_, .inl ⟨List.drop_eq_nil_of_le (by omega), .inr (.inr ⟨_, _, _, _, rfl⟩)⟩⟩
        simp only [sliceT, Tryz.underlying164, Option.bind_some, sz_5, capK, h2, bnd, toN, Int.ofNat_eq_natCast, Nat.mul_one]
        have hc : (decide (lo < b.n - off) || decide (lo = 0)) = false := by simpa using q
        simp [ble_eq', beq_eq', blt_eq', show xs.length ≤ b.n - off by omega, show lo ≤ xs.length by omega, hc]

theorem appS_nils {X : H} {m : Nat} {new : List CV} (hm : 0 < m) (hl : new.length = m) (ho : new.all CV.one = true) (hr : m ≤ 70368744177664) : appSb 5 X 1 1 1 .nils m (some new) = some (.sl X.nx 0 m (.opn 1), X.alloc (.cells (growB 1 5 m new))) := by
  unfold appSb
  rw [lenC_nils, bind_some', bind_some']
  have hg : (Nat.blt 0 1 && Nat.ble ((0 + m) * 1) 70368744177664 && Nat.ble (0 + m) 70368744177664 && Nat.beq 1 1 && Nat.beq new.length (m * 1) && new.all CV.one) = true := by
    simp [ho, hl, blt_eq', ble_eq', beq_eq', hr]
  rw [hg, cond_true]
  dsimp only
  rw [beq_eq', decide_eq_false (by omega), cond_false]
  unfold grownB
  rw [List.nil_append, Nat.mul_one]
/-- a copy of one's own -/
theorem copy_step {β : Type} {Q : Option β → Prop} {X : H} {xs : List Nat} {K : Out → Option β} (hr : xs.length ≤ 1000000)
    (k : ∀ v' h', Lst h' 1 v' X.nx xs.length (bc xs) → Ext X h' → h'.low = X.low → (h'.nx = X.nx ∨ h'.nx = X.nx + 1) → (xs ≠ [] → v' = .sl X.nx 0 xs.length (.opn 1) ∧ X.nx < h'.nx) → Q (K (.upd v' h'))) :
    Q (@thn _ β (uv (appSb 5 X 1 1 1 .nils xs.length (some (bc xs)))) ⟨K⟩) := by
  cases xs with
  | nil =>
    rw [show appSb 5 X 1 1 1 .nils ([] : List Nat).length (some (bc [])) = some (.nils, X) from appSb_nils0 rfl (by decide)]
    exact k .nils X (Lst.nil _ _ _) (Ext.refl _) rfl (.inl rfl) fun h => absurd rfl h
  | cons x xs =>
    rw [appS_nils (by simp) (bc_len _) (bc_one _) (by omega)]
    refine k _ _ ⟨by rw [bc_len, Nat.mul_one], .inr ⟨by simp, rfl, by simp only [go_sem], growB 1 5 (x :: xs).length (bc (x :: xs)), alloc_blk_same _ _ _ rfl, wgrowB_ro _ _ _ _, by rw [wgrowB_n, Nat.mul_one], fun i => fillB_get _ _ _ (bc_len _).symm⟩⟩ (Ext.alloc _ _) rfl (.inr rfl) fun _ => ⟨rfl, by simp only [go_sem]⟩
theorem lst_bv {h : H} {v : CV} {id n : Nat} {xs : List Nat} (l : Lst h 1 v id n (bc xs)) : BV h v xs := by
  have hl := l.len
  rw [bc_len, Nat.mul_one] at hl
  rcases l.val with ⟨h0, rfl⟩ | ⟨h0, rfl, h1, b, h2, h3, h4, h5⟩
  · subst h0; exact .inl ⟨List.length_eq_zero_iff.1 hl, .inl rfl⟩
  · exact .inr ⟨id, 0, .opn 1, b, by rw [hl], h1, h2, loadN_of _ _ _ (bc_len _) fun i v hv => by rw [Nat.zero_add, h5, hv], .inr ⟨rfl, b, h2, by omega⟩⟩

/-- a slice of one's own that grew from nothing -/
structure G (h h' : H) (v : CV) (ys : List Nat) (lid : Nat) : Prop where
  ge : h.nx ≤ lid
  lst : Lst h' 1 v lid ys.length (bc ys)
  ext : Ext h h'
  low : h'.low = h.low
  bl : h.low ≤ h.nx
theorem G.alloc {h h' : H} {v : CV} {ys : List Nat} {lid : Nat} (g : G h h' v ys lid) (o : CObj) : G h (h'.alloc o) v ys lid := ⟨g.ge, g.lst.ext (Ext.alloc _ _), g.ext.alloc' _, g.low, g.bl⟩
theorem G.bv {h h' : H} {v : CV} {ys : List Nat} {lid : Nat} (g : G h h' v ys lid) : BV h' v ys := lst_bv g.lst
theorem grow_step {β : Type} {Q : Option β → Prop} {h X : H} {v : CV} {ys ns : List Nat} {lid : Nat} {K : Out → Option β} (g : G h X v ys lid) (hn : 0 < ns.length) (hr : ys.length + ns.length ≤ 1000000)
    (k : ∀ h' v', v' = .sl X.nx 0 (ys ++ ns).length (.opn 1) → G h h' v' (ys ++ ns) X.nx → X.nx < h'.nx → Q (K (.upd v' h'))) :
    Q (@thn _ β (uv (appSb 5 X 1 1 1 v ns.length (some (bc ns)))) ⟨K⟩) := by
  refine app_stepB (Q := Q) (by_ := 1) g.lst hn (by rw [bc_len, Nat.mul_one]) (bc_one _) rfl (by decide) (by omega) (by omega) fun h' L hnx hgn hold hlow hlow2 => ?_
  have hl : (ys ++ ns).length = ys.length + ns.length := List.length_append
  have := k h' _ rfl ⟨g.ext.nx, by rw [hl, bc_app]; exact L, ⟨by have := g.ext.nx; omega, hgn.trans g.ext.gn, fun i hi => (hold i (Nat.lt_of_lt_of_le hi g.ext.nx) fun _ => by have := g.ge; omega).trans (g.ext.old i hi)⟩, by have := g.low; have := g.ge; have := g.bl; omega, g.bl⟩ (by omega)
  rw [hl] at this
  exact this

/-! ### the end of a message -/
def zs (n : Nat) : List Nat := List.replicate n 0
def wbN (x : BitVec 32) : List Nat := [(x >>> 24).toNat % 256, (x >>> 16).toNat % 256, (x >>> 8).toNat % 256, x.toNat % 256]
theorem wb_bc (x : BitVec 32) : wb x = bc (wbN x) := rfl
/-- how many zeros stand behind a message of so many bytes -/
def zn (n : Nat) : Nat := (119 - n % 64) % 64
def cnt (len : Nat) : BitVec 64 := BitVec.ofNat 64 len * BitVec.ofNat 64 8
def padL (xs : List Nat) (len : Nat) : List Nat := xs ++ [128] ++ zs (zn xs.length) ++ wbN (BitVec.ofNat 32 (cnt len >>> 32).toNat) ++ wbN (BitVec.ofNat 32 (cnt len).toNat)

def PadOk (h : H) (ys : List Nat) (r : Option (CV × Option H)) : Prop := ∃ id h', r = some (.sl id 0 ys.length (.opn 1), some h') ∧ h.nx ≤ id ∧ id < h'.nx ∧ Ext h h' ∧ h'.low = min h.low h.nx ∧ BV h' (.sl id 0 ys.length (.opn 1)) ys

theorem app_i8 (h : H) (s : CV) : builtinT Tryz.prog h .append [164, 3] [s, .int .i64 8] = uv (appSb 5 h 1 1 1 s 8 (some (bc (zs 8)))) := by kernel_rfl
theorem rem64i {n : Nat} : ∀ t xo yo, binT Tryz.prog .rem t xo yo (.int .i64 (Int.ofNat n)) (.int .i64 64) = some (.int .i64 (Int.ofNat (n % 64))) := fun _ _ _ => rfl

theorem padded_run (hσ : ∀ f a h, σ f a h = none) {h : H} {v : CV} {xs : List Nat} {len : Nat} (B : BV h v xs) (hx : xs.length ≤ 100000) (hlen : len ≤ 100000) :
    PadOk h (padL xs len) ((lim Tryz.prog σ).call 211 [v, .int .i64 (Int.ofNat len)] h) := by
  obtain ⟨Q, hQ⟩ : ∃ Q, Q = PadOk h (padL xs len) := ⟨_, rfl⟩
  rw [← hQ]
  rw [call_eq (hσ _ _ _) fn_211 rfl rfl, Tryz.ntmps211, Tryz.results211]
  simp only [go_sem, (B.ext (Ext.lo h)).app]
  refine copy_step (Q := Q) (xs := xs) (by omega) fun v1 h1 L1 E1 hlow1 hnx1 hval1 => ?_
  clear hval1
  have G1 : G h.lo h1 v1 xs h.nx := ⟨Nat.le_refl _, L1, E1, hlow1, Nat.le_refl _⟩
  clear L1 E1 hlow1 hnx1
  simp only [go_sem]
  have G2 := G1.alloc (.cells ({ n := 1, d := [CV.int IntKind.u8 0], t := T.nil, ro := false : Blk }.st 0 (CV.int IntKind.u8 128)))
  refine grow_step (Q := Q) (ns := [128]) G2 (by decide) (by simp; omega) fun h2 v2 hv2 G3 hlt => ?_
  simp only [go_sem]
  have hlen1 : (xs ++ [128]).length = xs.length + 1 := by simp
  have hz : ∀ i, (xs ++ [128] ++ zs i).length = xs.length + 1 + i := fun i => by simp [zs]; omega
  refine loop_ind (Q := Q) (fun i env h' => evT env 1 = .int .i64 (Int.ofNat len) ∧ ∃ lid, G h.lo h' (evT env 5) (xs ++ [128] ++ zs i) lid) (zn xs.length) 0 ?_ (Nat.zero_le _) ?_ ?_
  · have G3' : ∃ lid, G h.lo h2 v2 (xs ++ [128] ++ zs 0) lid := ⟨_, by rw [show zs 0 = [] from rfl, List.append_nil]; exact G3⟩
    obtain ⟨lid, G3'⟩ := G3'
    exact ⟨by simp only [go_sem], lid, by simp only [go_sem]; exact G3'⟩
  · rintro i env h' ⟨e1, lid, G4⟩ hi next
    have hzn : zn xs.length < 64 := Nat.mod_lt _ (by decide)
    have c1 : ¬ Int.ofNat ((xs.length + 1 + i) % 64) = 56 := by
      unfold zn at hi hzn
      intro q
      have : (xs.length + 1 + i) % 64 = 56 := Int.ofNat.inj q
      omega
    simp only [go_sem, e1, G4.bv.len, hz, rem64i, c1]
    have G5 := G4.alloc (.cells ({ n := 1, d := [CV.int IntKind.u8 0], t := T.nil, ro := false : Blk }.st 0 (CV.int IntKind.u8 0)))
    refine grow_step (Q := Q) (ns := [0]) G5 (by decide) (by rw [hz]; simp; omega) fun h2 v2 hv2 G6 hlt => ?_
    simp only [go_sem]
    rw [show xs ++ [128] ++ zs i ++ [0] = xs ++ [128] ++ zs (i + 1) by simp [zs, List.replicate_succ']] at G6
    exact next _ _ ⟨by simp only [go_sem, e1], _, by simp only [go_sem]; exact G6⟩
  clear G1 G2 G3 hlt hv2 v2 h2 h1 v1
  rintro env h' ⟨e1, lid, G4⟩
  have hzn : zn xs.length < 64 := Nat.mod_lt _ (by decide)
  have c1 : Int.ofNat ((xs.length + 1 + zn xs.length) % 64) = 56 := by
    have : (xs.length + 1 + zn xs.length) % 64 = 56 := by unfold zn; omega
    rw [this]; rfl
  have l8 : CV.int .u64 8 = w64 (BitVec.ofNat 64 8) := rfl
  simp only [go_sem, wadd32, wmul32, wadd64, wmul64, wand32, wor32, wxor32, wand64, wor64, wnot32, wsub32, wsub64, wshr32l, wshl32l, wshr64l, wshl64l, wshr32w, wshl32w, wshr64w, wlt64, wgt64, weq64, wne64, e1, G4.bv.len, hz, rem64i, c1, cv331, l8, app_i8]
  refine grow_step (Q := Q) (ns := zs 8) G4 (by decide) (by rw [hz]; simp [zs]; omega) fun h2 v2 hv2 G5 hlt => ?_
  obtain ⟨ys, hys⟩ : ∃ ys, ys = xs ++ [128] ++ zs (zn xs.length) := ⟨_, rfl⟩
  rw [← hys] at G5 hv2
  have hyl : ys.length = xs.length + 1 + zn xs.length := by rw [hys]; exact hz _
  have hyz : (ys ++ zs 8).length = ys.length + 8 := by simp [zs]
  rw [hyz] at hv2
  subst hv2
  have hid : h.nx ≤ h'.nx := G5.ge
  have E5 : Ext h h2 := (Ext.lo h).trans G5.ext
  have hlw : h2.low = h.nx := G5.low
  obtain ⟨_, hval⟩ := G5.lst
  rcases hval with ⟨h0, _⟩ | ⟨h0, _, hlt2, b, hb, hbr, hbn, hbg⟩
  · rw [hyz] at h0; omega
  rw [hyz, Nat.mul_one] at hbn
  clear G4 G5 c1
  generalize h'.nx = id at hid hlt hlt2 hb ⊢
  have tl : ∀ k (h : H) (b : Blk), k ≤ 8 → 0 < k → h.blk id = some b → b.n = ys.length + 8 → sliceT Tryz.prog h 164 (.sl id 0 (ys.length + 8) (.opn 1)) (some (.int .i64 (Int.ofNat (ys.length + 8 - k)))) none none = some (.sl id (ys.length + 8 - k) k (.opn 1)) := fun k h b hk hk0 hb hbn => by
    simp only [sliceT, Tryz.underlying164, Option.bind_some, sz_5, capK, hb, bnd, toN, Int.ofNat_eq_natCast, Nat.mul_one]
    simp [ble_eq', beq_eq', blt_eq', hbn, show ys.length + 8 - k < ys.length + 8 by omega, show ys.length + 8 - (ys.length + 8 - k) = k by omega]
  have w8 : IntKind.wrap .i64 (Int.ofNat (ys.length + 8) - 8) = Int.ofNat (ys.length + 8 - 8) := wrap_n (by simp) (by omega)
  have w4 : IntKind.wrap .i64 (Int.ofNat (ys.length + 8) - 4) = Int.ofNat (ys.length + 8 - 4) := wrap_n (by simp; omega) (by omega)
  have t8 := tl 8 h2 b (by decide) (by decide) hb hbn
  have lsl : ∀ (h : H) ts az, builtinT Tryz.prog h .len (164 :: ts) (.sl id 0 (ys.length + 8) (.opn 1) :: az) = some (.val (.int .i64 (Int.ofNat (ys.length + 8)))) := fun h ts az => len_164 _ _ _ _ _ _ _
  have ecnt : BitVec.ofNat 64 len * BitVec.ofNat 64 8 = cnt len := rfl
  obtain ⟨h3, e3, W3⟩ := put_run hσ hb hbr (off := ys.length + 8 - 8) (len := 8) (c := .opn 1) (by omega) (by decide) hlt2 (BitVec.ofNat 32 (cnt len >>> 32).toNat)
  obtain ⟨b3, hb3, hn3, hr3, hg3⟩ := W3.blk
  have t4 := tl 4 h3 b3 (by decide) (by decide) hb3 (by rw [hn3]; exact hbn)
  obtain ⟨h4, e4, W4⟩ := put_run hσ hb3 hr3 (off := ys.length + 8 - 4) (len := 4) (c := .opn 1) (by omega) (by decide) (Nat.lt_of_lt_of_le hlt2 W3.nx) (BitVec.ofNat 32 (cnt len).toNat)
  obtain ⟨b4, hb4, hn4, hr4, hg4⟩ := W4.blk
  simp only [go_sem, wadd32, wmul32, wadd64, wmul64, wand32, wor32, wxor32, wand64, wor64, wnot32, wsub32, wsub64, wshr32l, wshl32l, wshr64l, wshl64l, wshr32w, wshl32w, wshr64w, wlt64, wgt64, weq64, wne64, lsl, w8, w4, t8, ecnt, cv3126, e3, t4, e4]
  rw [fin_new _ _ _ (by rw [okB_sl, blt_eq']; exact decide_eq_false (by omega)), hQ]
  have hpl : padL xs len = ys ++ wbN (BitVec.ofNat 32 (cnt len >>> 32).toNat) ++ wbN (BitVec.ofNat 32 (cnt len).toNat) := by unfold padL; rw [hys]
  have hlen8 : (padL xs len).length = ys.length + 8 := by rw [hpl]; simp [wbN]
  have E : Ext h h4 := ⟨by have := E5.nx; have := W3.nx; have := W4.nx; omega, (W4.gn.trans W3.gn).trans E5.gn, fun k hk => by
    have h1 := E5.nx
    have h2 := W3.nx
    rw [W4.old k (by omega) (by omega), W3.old k (by omega) (by omega), E5.old k hk]⟩
  refine ⟨id, h4.up (min h.low h4.low), by rw [hlen8], hid, by simp only [go_sem]; have := W3.nx; have := W4.nx; omega, E.up' _, by simp only [go_sem]; rw [W4.low, W3.low, hlw]; omega, .inr ⟨id, 0, .opn 1, b4, rfl, by simp only [go_sem]; have := W3.nx; have := W4.nx; omega, hb4, loadN_of _ _ _ (bc_len _) fun i v hv => ?_, .inr ⟨rfl, b4, hb4, by rw [hlen8, hn4, hn3, hbn]; omega⟩⟩⟩
  have hi := nlt hv
  rw [bc_len, hlen8] at hi
  rw [Nat.zero_add, hg4, ← hv, hpl, bc_app, bc_app, nth_app, nth_app, bc_len, List.length_append, bc_len, bc_len]
  have hl4 : ∀ x, (wbN x).length = 4 := fun _ => rfl
  simp only [over, hl4, wb_bc, bc_len]
  by_cases q1 : i < ys.length
  · rw [if_neg (by omega), hg3, over, wb_bc, bc_len, hl4, if_neg (by omega), hbg, bc_app, nth_app, bc_len, if_pos q1, if_pos (by omega), if_pos q1]
  · by_cases q2 : i < ys.length + 4
    · rw [if_neg (by omega), hg3, over, wb_bc, bc_len, hl4, if_pos (by omega), if_pos q2, if_neg q1, show i - (ys.length + 8 - 8) = i - ys.length by omega]
    · rw [if_pos (by omega), if_neg q2, show i - (ys.length + 8 - 4) = i - (ys.length + 4) by omega]
end
end Go.Cl.Sh

namespace Go.Cl.Sh
noncomputable section
variable {σ : Sums}
set_option maxRecDepth 1000000

def stA (ys : List Nat) (s : S8) : Nat → S8
  | 0 => s
  | k + 1 => pressS ((ys.drop (64 * k)).take 64) (stA ys s k)
def s0 : S8 := ⟨BitVec.ofNat 32 1779033703, BitVec.ofNat 32 3144134277, BitVec.ofNat 32 1013904242, BitVec.ofNat 32 2773480762, BitVec.ofNat 32 1359893119, BitVec.ofNat 32 2600822924, BitVec.ofNat 32 528734635, BitVec.ofNat 32 1541459225⟩
def tailL (xs : List Nat) : List Nat := padL (xs.drop (64 * (xs.length / 64))) xs.length
def endS (xs : List Nat) : S8 := stA (tailL xs) (stA xs s0 (xs.length / 64)) ((tailL xs).length / 64)
def digest (xs : List Nat) : List Nat := (endS xs).l.flatMap wbN

theorem tailL_len (xs : List Nat) : (tailL xs).length % 64 = 0 ∧ (tailL xs).length ≤ 128 := by
  unfold tailL padL zs zn
  simp only [List.length_append, List.length_drop, List.length_replicate, List.length_cons, List.length_nil, wbN]
  omega
/-- the package's own table -/
structure HG (h : H) : Prop where
  gn : 0 < h.gn
  nx : 0 < h.nx
  blk : ∃ b, h.blk 0 = some b ∧ b.loadN 0 8 = some (s0.l.map w32)
theorem HG.ext {h h' : H} (g : HG h) (e : Ext h h') : HG h' := ⟨by rw [e.gn]; exact g.gn, Nat.lt_of_lt_of_le g.nx e.nx, by
  obtain ⟨b, h1, h2⟩ := g.blk
  exact ⟨b, (e.blk g.nx).trans h1, h2⟩⟩
theorem ids_ws (q : Nat → Bool) : ∀ l : List (BitVec 32), idsIn q (.agg (l.map w32)) = true
  | [] => rfl
  | x :: l => ids_ws q l
theorem beqC_ws (l : List (BitVec 32)) : beqC (.agg (l.map w32)) (.agg (l.map w32)) = true := by
  have : ∀ l : List (BitVec 32), beqCL (l.map w32) (l.map w32) = true := fun l => by
    induction l with
    | nil => rfl
    | cons x l ih => simp only [List.map_cons, beqCL, beqC_w32, Bool.true_and]; exact ih
  simp only [beqC, this]
theorem quo64i {n : Nat} (h : n < 1000000000) : ∀ t xo yo, binT Tryz.prog .quo t xo yo (.int .i64 (Int.ofNat n)) (.int .i64 64) = some (.int .i64 (Int.ofNat (n / 64))) := fun t xo yo => by
  rw [bin_quo]
  show some (CV.int .i64 (IntKind.wrap .i64 (Int.ofNat (n / 64)))) = _
  rw [wrap_n rfl (by omega)]
def wsAll (l : List (BitVec 32)) : CV := .agg (l.map w32)

structure SI (h : H) (v : CV) (h' : H) (env : T CV) (st : S8) : Prop where
  e0 : evT env 0 = v
  e2 : evT env 2 = .ptr h.nx 0
  e3 : evT env 3 = .ptr (h.nx + 1) 0
  e4 : evT env 4 = .ptr (h.nx + 1 + 1) 0
  nx : h.nx + 3 ≤ h'.nx
  ext : Ext h h'
  low : h'.low = h.nx
  s : ∃ b, h'.blk (h.nx + 1) = some b ∧ b.n = 8 ∧ b.ro = false ∧ ∀ i, b.get i = nth (st.l.map w32) i
  k : ∃ b, h'.blk (h.nx + 1 + 1) = some b ∧ ∀ j, j < 64 → b.get j = some (w32 (kw j))
  o : ∃ b, h'.blk h.nx = some b ∧ b.n = 32 ∧ b.ro = false
theorem Wr.ext {h h1 h2 : H} {id n : Nat} {g : Nat → Option CV} (E : Ext h h1) (W : Wr h1 h2 id n g) (hid : h.nx ≤ id) : Ext h h2 :=
  ⟨Nat.le_trans E.nx W.nx, W.gn.trans E.gn, fun k hk => (W.old k (Nat.lt_of_lt_of_le hk E.nx) (by omega)).trans (E.old k hk)⟩
theorem SI.press {h h' h2 : H} {v : CV} {env env' : T CV} {st st' : S8} (I : SI h v h' env st) (W : Wr h' h2 (h.nx + 1) 8 (nth (st'.l.map w32))) (e0 : evT env' 0 = v) (e2 : evT env' 2 = .ptr h.nx 0) (e3 : evT env' 3 = .ptr (h.nx + 1) 0) (e4 : evT env' 4 = .ptr (h.nx + 1 + 1) 0) : SI h v h2 env' st' := by
  have hn := I.nx
  refine ⟨e0, e2, e3, e4, Nat.le_trans I.nx W.nx, W.ext I.ext (by omega), by rw [W.low, I.low]; omega, W.blk, ?_, ?_⟩
  · obtain ⟨b, hb, hg⟩ := I.k
    exact ⟨b, (blk_eq (W.old _ (by omega) (by omega))).trans hb, hg⟩
  · obtain ⟨b, hb, hg⟩ := I.o
    exact ⟨b, (blk_eq (W.old _ (by omega) (by omega))).trans hb, hg⟩
theorem SI.env {h h' : H} {v : CV} {env env' : T CV} {st : S8} (I : SI h v h' env st) (e0 : evT env' 0 = v) (e2 : evT env' 2 = .ptr h.nx 0) (e3 : evT env' 3 = .ptr (h.nx + 1) 0) (e4 : evT env' 4 = .ptr (h.nx + 1 + 1) 0) : SI h v h' env' st :=
  ⟨e0, e2, e3, e4, I.nx, I.ext, I.low, I.s, I.k, I.o⟩
theorem BV.cut {h : H} {v : CV} {xs : List Nat} (B : BV h v xs) {lo hi : Nat} (h1 : lo < hi) (h2 : hi ≤ xs.length) : ∃ id off c b, sliceT Tryz.prog h 164 v (some (.int .i64 (Int.ofNat lo))) (some (.int .i64 (Int.ofNat hi))) none = some (.sl id off (hi - lo) c) ∧
    id < h.nx ∧ h.blk id = some b ∧ b.loadN off (hi - lo) = some (bc ((xs.drop lo).take (hi - lo))) ∧ CapOk h id off (hi - lo) c := by
  rcases B with ⟨rfl, _⟩ | ⟨id, off, c, b, rfl, q1, q2, q3, q4⟩
  · simp at h2; omega
  · obtain ⟨c', e, C⟩ := slc q4 h1 h2
    exact ⟨id, off + lo, c', b, e, q1, q2, load_cut q3 (by omega), C⟩
theorem BV.wr {h h' : H} {id0 l : Nat} {c0 : Cap} {xs : List Nat} {s n : Nat} {g : Nat → Option CV} (B : BV h (.sl id0 0 l c0) xs) (W : Wr h h' s n g) (hne : id0 ≠ s) : BV h' (.sl id0 0 l c0) xs := by
  rcases B with ⟨h1, h2 | ⟨_, _, _, _, h2⟩ | ⟨_, _, _, _, h2⟩⟩ | ⟨id, off, c, b, h1, h2, h3, h4, h5⟩
  · cases h2
  · cases h2
  · cases h2
  · obtain ⟨rfl, rfl, rfl, rfl⟩ : id = id0 ∧ off = 0 ∧ xs.length = l ∧ c = c0 := by cases h1; exact ⟨rfl, rfl, rfl, rfl⟩
    have hb' := (blk_eq (W.old _ h2 hne)).trans h3
    refine .inr ⟨id, 0, c, b, rfl, Nat.lt_of_lt_of_le h2 W.nx, hb', h4, ?_⟩
    rcases h5 with h5 | ⟨h5, b', h6, h7⟩
    · exact .inl h5
    · rw [h3] at h6; cases h6
      exact .inr ⟨h5, b, hb', h7⟩
theorem dig_at (s : S8) {i r : Nat} (hi : i < 8) (hr : r < 4) : nth (bc (s.l.flatMap wbN)) (4 * i + r) = nth (wb (s.at i)) r := by
  have h1 : i = 0 ∨ i = 1 ∨ i = 2 ∨ i = 3 ∨ i = 4 ∨ i = 5 ∨ i = 6 ∨ i = 7 := by omega
  have h2 : r = 0 ∨ r = 1 ∨ r = 2 ∨ r = 3 := by omega
  rcases h1 with rfl | rfl | rfl | rfl | rfl | rfl | rfl | rfl <;> rcases h2 with rfl | rfl | rfl | rfl <;> rfl
theorem digest_len (xs : List Nat) : (digest xs).length = 32 := rfl

theorem sum_run (hσ : ∀ f a h, σ f a h = none) {h : H} {v : CV} {xs : List Nat} (B : BV h v xs) (g : HG h) (hx : xs.length ≤ 100000) : RetQ h (.agg (bc (digest xs))) ((lim Tryz.prog σ).call 181 [v] h) := by
  obtain ⟨Q, hQ⟩ : ∃ Q, Q = RetQ h (.agg (bc (digest xs))) := ⟨_, rfl⟩
  rw [← hQ]
  rw [call_eq (hσ _ _ _) fn_181 rfl rfl, Tryz.ntmps181, Tryz.results181]
  obtain ⟨gb, hgb, hgl⟩ := g.blk
  have hK : ∀ h, (lim Tryz.prog σ).call 209 [] h = some (.agg (KL.map w32), none) := fun h => constants_run hσ h
  have g0 : 0 < h.gn := g.gn
  have n0 : ¬ 0 = h.nx := by have := g.nx; omega
  have n1 : ¬ 0 = h.nx + 1 := by omega
  have n2 : ¬ 0 = h.nx + 1 + 1 := by omega
  have n3 : 0 < h.nx + 1 := by omega
  have hlen : (KL.map w32).length = 64 := by rw [List.length_map, KL_len]
  have hlen8 : (s0.l.map w32).length = 8 := rfl
  simp only [go_sem, ev_global, g0, n0, hgb, hgl, hK]
  refine cnd_go (Q := Q) (by kernel_rfl) ?_
  simp only [go_sem, ev_global, g0, n0, n1, n2, hgb, hgl, hK, hlen, hlen8]
  refine store_step (Q := Q) (by rw [wnewBlk_n]; rfl) (one_ws _) fun b1 hn1 hr1 hl1 hg1 => ?_
  simp only [go_sem, ev_global, g0, n0, n1, n2, hgb, hgl, hK, hlen, hlen8]
  refine store_step (Q := Q) (by rw [wnewBlk_n, hlen]; rfl) (one_ws _) fun b2 hn2 hr2 hl2 hg2 => ?_
  simp only [go_sem, ev_global, g0, n0, n1, n2, hgb, hgl, hK, hlen, hlen8]
  refine cnd_goF (Q := Q) (by kernel_rfl) ?_
  refine cnd_go' (Q := Q) (by kernel_rfl) ?_
  refine cnd_go' (Q := Q) ?_ ?_
  · rw [show leadN _ _ = 2 from by kernel_rfl]
    simp only [go_sem, List.take_succ_cons, List.take_zero, leadH_blk, leadH_gn, leadH_nx, g.nx, n3, ev_global, g0, n0, n1, n2, hgb, hgl, hK, hlen, hlen8, ids_ws, beqC_ws]
  have hq := quo64i (n := xs.length) (by omega)
  have w0 : IntKind.wrap .i64 (Int.ofNat (xs.length / 64) * 64) = Int.ofNat (64 * (xs.length / 64)) := wrap_n (by simp; omega) (by omega)
  simp only [go_sem, ev_global, g0, n0, n1, n2, hgb, hgl, hK, hlen, hlen8, B.len, hq, w0]
  have hKk : ∀ j, j < 64 → b2.get j = some (w32 (kw j)) := fun j hj => by
    rw [hg2, nth_eq, List.getElem?_map]
    unfold kw
    rw [List.getElem?_eq_getElem (by rw [KL_len]; exact hj)]; rfl
  refine loop_ind (Q := Q) (fun i env h' => SI h v h' env (stA xs s0 i) ∧ evT env 5 = .int .i64 (Int.ofNat (64 * (xs.length / 64))) ∧ evT env 6 = .int .i64 (Int.ofNat (64 * i))) (xs.length / 64) 0 ?_ (Nat.zero_le _) ?_ ?_
  · refine ⟨⟨by simp only [go_sem], by simp only [go_sem], by simp only [go_sem], by simp only [go_sem], by simp only [go_sem]; omega, ((((((Ext.lo h).alloc' _).alloc' _).alloc' _).put _ (by omega)).put _ (by omega)), by simp only [go_sem]; omega, ⟨b1, by simp only [go_sem], by rw [hn1, wnewBlk_n]; rfl, by rw [hr1, newBlk_ro], hg1⟩, ⟨b2, by simp only [go_sem], hKk⟩, ⟨_, by simp only [go_sem]; rfl, wnewBlk_n _, newBlk_ro _⟩⟩, by simp only [go_sem], by simp only [go_sem]; rfl⟩
  · rintro i env h' ⟨I, e5, e6⟩ hi next
    have hm : 64 * (i + 1) ≤ xs.length := by omega
    have c1 : Int.ofNat (64 * i) < Int.ofNat (64 * (xs.length / 64)) := by simp; omega
    have w1 : IntKind.wrap .i64 (Int.ofNat (64 * i) + 64) = Int.ofNat (64 * i + 64) := wrap_n (by simp) (by omega)
    obtain ⟨id, off, c, b, e1, q1, q2, q3, q4⟩ := (B.ext I.ext).cut (lo := 64 * i) (hi := 64 * i + 64) (by omega) (by omega)
    rw [show 64 * i + 64 - 64 * i = 64 by omega] at e1 q3 q4
    obtain ⟨bs, hb1, hb2, hb3, hb4⟩ := I.s
    obtain ⟨bk, hk1, hk2⟩ := I.k
    have hl64 : ((xs.drop (64 * i)).take 64).length = 64 := by rw [List.length_take, List.length_drop]; omega
    have hin := I.nx
    obtain ⟨h2, e2, W2⟩ := press_run hσ hb1 hb2 hb3 hb4 hk1 hk2 q2 hl64 (by rw [hl64]; exact q3) q4 (by omega) (by omega) q1
    simp only [go_sem, I.e0, I.e3, I.e4, e5, e6, c1, w1, e1, e2]
    refine next _ _ ⟨I.press W2 (by simp only [go_sem, I.e0]) (by simp only [go_sem, I.e2]) (by simp only [go_sem, I.e3]) (by simp only [go_sem, I.e4]), by simp only [go_sem, e5], by simp only [go_sem]; rfl⟩
  rintro env h' ⟨I, e5, e6⟩
  have c1 : ¬ Int.ofNat (64 * (xs.length / 64)) < Int.ofNat (64 * (xs.length / 64)) := Int.lt_irrefl _
  have Bx := B.ext I.ext
  obtain ⟨v2, e1, B2⟩ := Bx.drop (lo := 64 * (xs.length / 64)) (by omega)
  obtain ⟨id, h2, e2, hid, hid2, E2, hlow2, BT⟩ := padded_run hσ B2 (len := xs.length) (by rw [List.length_drop]; omega) hx
  obtain ⟨hT1, hT2⟩ := tailL_len xs
  have hT : padL (xs.drop (64 * (xs.length / 64))) xs.length = tailL xs := rfl
  rw [hT] at e2 BT
  have hin := I.nx
  have I2 : SI h v h2 env (stA xs s0 (xs.length / 64)) := ⟨I.e0, I.e2, I.e3, I.e4, by have := E2.nx; omega, I.ext.trans E2, by rw [hlow2, I.low]; omega, by
      obtain ⟨b, q1, q2⟩ := I.s; exact ⟨b, (E2.blk (by omega)).trans q1, q2⟩, by
      obtain ⟨b, q1, q2⟩ := I.k; exact ⟨b, (E2.blk (by omega)).trans q1, q2⟩, by
      obtain ⟨b, q1, q2⟩ := I.o; exact ⟨b, (E2.blk (by omega)).trans q1, q2⟩⟩
  simp only [go_sem, I.e0, I.e3, I.e4, e5, e6, c1, e1, Bx.len, e2]
  clear B2 Bx E2 hlow2 e2 e1 hKk hg2 hl2 hg1 hl1
  refine loop_ind (Q := Q) (fun i env' h3 => SI h v h3 env' (stA (tailL xs) (stA xs s0 (xs.length / 64)) i) ∧ BV h3 (.sl id 0 (tailL xs).length (.opn 1)) (tailL xs) ∧ evT env' 7 = .sl id 0 (tailL xs).length (.opn 1) ∧ evT env' 8 = .int .i64 (Int.ofNat (64 * i))) ((tailL xs).length / 64) 0 ?_ (Nat.zero_le _) ?_ ?_
  · exact ⟨I2.env (by simp only [go_sem, I.e0]) (by simp only [go_sem, I.e2]) (by simp only [go_sem, I.e3]) (by simp only [go_sem, I.e4]), BT, by simp only [go_sem], by simp only [go_sem]; rfl⟩
  · clear I I2 e5 e6 c1 BT env
    rintro i env h3 ⟨I, BT, e7, e8⟩ hi next
    have c1 : Int.ofNat (64 * i) < Int.ofNat (tailL xs).length := by simp; omega
    have w1 : IntKind.wrap .i64 (Int.ofNat (64 * i) + 64) = Int.ofNat (64 * i + 64) := wrap_n (by simp) (by omega)
    obtain ⟨id', off, c, b, e1, q1, q2, q3, q4⟩ := BT.cut (lo := 64 * i) (hi := 64 * i + 64) (by omega) (by omega)
    rw [show 64 * i + 64 - 64 * i = 64 by omega] at e1 q3 q4
    obtain ⟨bs, hb1, hb2, hb3, hb4⟩ := I.s
    obtain ⟨bk, hk1, hk2⟩ := I.k
    have hl64 : (((tailL xs).drop (64 * i)).take 64).length = 64 := by rw [List.length_take, List.length_drop]; omega
    have hin3 := I.nx
    obtain ⟨h4, e2, W2⟩ := press_run hσ hb1 hb2 hb3 hb4 hk1 hk2 q2 hl64 (by rw [hl64]; exact q3) q4 (by omega) (by omega) q1
    simp only [go_sem, I.e0, I.e3, I.e4, e7, e8, BT.len, c1, w1, e1, e2]
    exact next _ _ ⟨I.press W2 (by simp only [go_sem, I.e0]) (by simp only [go_sem, I.e2]) (by simp only [go_sem, I.e3]) (by simp only [go_sem, I.e4]), BT.wr W2 (by omega), by simp only [go_sem, e7], by simp only [go_sem]; rfl⟩
  clear I I2 e5 e6 c1 BT env
  rintro env h3 ⟨I, BT, e7, e8⟩
  have c1 : ¬ Int.ofNat (64 * ((tailL xs).length / 64)) < Int.ofNat (tailL xs).length := by simp; omega
  have hE : stA (tailL xs) (stA xs s0 (xs.length / 64)) ((tailL xs).length / 64) = endS xs := rfl
  rw [hE] at I
  obtain ⟨bs, hb1, hb2, hb3, hb4⟩ := I.s
  have hld : bs.loadN 0 8 = some ((endS xs).l.map w32) := loadN_of _ _ _ rfl fun i v hv => by rw [Nat.zero_add, hb4, hv]
  have hin3 := I.nx
  have l1 : ¬ h.nx + 1 = h3.nx := by omega
  simp only [go_sem, I.e0, I.e2, I.e3, I.e4, e7, e8, BT.len, c1, hb1, l1, hld]
  obtain ⟨o, ho⟩ : ∃ o, o = h3.nx := ⟨_, rfl⟩
  refine loop_ind (Q := Q) (fun i env' h4 => evT env' 2 = .ptr h.nx 0 ∧ evT env' 9 = .ptr o 0 ∧ evT env' 47 = .agg ((endS xs).l.map w32) ∧ evT env' 48 = .int .i64 (Int.ofNat i) ∧ o < h4.nx ∧ Ext h h4 ∧ h4.low = h.nx ∧ (∃ b, h4.blk h.nx = some b ∧ b.n = 32 ∧ b.ro = false) ∧
    ∃ b, h4.blk o = some b ∧ b.n = 32 ∧ b.ro = false ∧ ∀ j, j < 4 * i → b.get j = nth (bc (digest xs)) j) 8 0 ?_ (by decide) ?_ ?_
  · refine ⟨by simp only [go_sem, I.e2], by simp only [go_sem, ho], by simp only [go_sem], by simp only [go_sem]; rfl, by simp only [go_sem]; omega, I.ext.alloc' _, by simp only [go_sem, I.low], ?_, ⟨_, by rw [ho]; exact alloc_blk_same _ _ _ rfl, aB_n _ _, aB_r _ _, fun j hj => absurd hj (Nat.not_lt_zero _)⟩⟩
    obtain ⟨b, q1, q2⟩ := I.o
    exact ⟨b, (alloc_blk_ne _ _ _ (by omega)).trans q1, q2⟩
  · clear I e7 e8 c1 BT env hb1 l1
    rintro i env h4 ⟨e2, e9, e47, e48, hon, E, hlow, ⟨b0, ho1, ho2, ho3⟩, b, hb1, hb2, hb3, hb4⟩ hi next
    have c0 : Int.ofNat i < 8 := by simp; omega
    have w1 : IntKind.wrap .i64 (4 * Int.ofNat i) = Int.ofNat (4 * i) := wrap_n (by simp) (by omega)
    have w2 : IntKind.wrap .i64 (Int.ofNat i + 1) = Int.ofNat (i + 1) := wrap_n (by simp) (by omega)
    have gn := S8.nth (endS xs) hi
    have es : sliceT Tryz.prog h4 234 (.ptr o 0) (some (.int .i64 (Int.ofNat (4 * i)))) none none = some (.sl o (4 * i) (32 - 4 * i) (.exact (32 - 4 * i))) := by
      simp only [sliceT, Tryz.underlying234, Option.bind_some, sz_5, sliceExact, bnd, toN, Int.ofNat_eq_natCast, Nat.mul_one]
      simp [ble_eq', beq_eq', show 4 * i ≤ 32 by omega, show ¬ 32 = 4 * i by omega]
    obtain ⟨h5, e5, W5⟩ := put_run hσ hb1 hb3 (off := 4 * i) (len := 32 - 4 * i) (c := .exact (32 - 4 * i)) (by omega) (by omega) hon ((endS xs).at i)
    simp only [go_sem, e2, e9, e47, e48, c0, hi, gn, w1, w2, es, e5, Nat.mul_one]
    obtain ⟨b5, hb5, hn5, hr5, hg5⟩ := W5.blk
    have hoh : h.nx < o := by omega
    refine next _ _ ⟨by simp only [go_sem, e2], by simp only [go_sem, e9], by simp only [go_sem, e47], by simp only [go_sem], Nat.lt_of_lt_of_le hon W5.nx, W5.ext E (by omega), by show h5.low = h.nx; rw [W5.low, hlow]; omega, ⟨b0, (blk_eq (W5.old _ (by omega) (by omega))).trans ho1, ho2, ho3⟩, b5, hb5, hn5.trans hb2, hr5, fun j hj => ?_⟩
    rw [hg5, over, show (wb ((endS xs).at i)).length = 4 from rfl]
    by_cases q : 4 * i ≤ j
    · rw [if_pos (by omega)]
      have := dig_at (endS xs) hi (r := j - 4 * i) (by omega)
      rw [show 4 * i + (j - 4 * i) = j by omega] at this
      exact this.symm
    · rw [if_neg (by omega)]
      exact hb4 j (by omega)
  · clear I e7 e8 c1 BT env hb1 l1
    rintro env h4 ⟨e2, e9, e47, e48, hon, E, hlow, ⟨b0, ho1, ho2, ho3⟩, b, hb1, hb2, hb3, hb4⟩
    have c0 : ¬ Int.ofNat 8 < 8 := by decide
    have hld : b.loadN 0 32 = some (bc (digest xs)) := loadN_of _ _ _ (bc_len _) fun i v hv => by
      have hi := nlt hv
      rw [bc_len, digest_len] at hi
      rw [Nat.zero_add, hb4 i (by omega), hv]
    have hl32 : (bc (digest xs)).length = 32 := bc_len _
    simp only [go_sem, e2, e9, e47, e48, c0, hb1, hld, ho1, ho2, ho3, hl32]
    refine store_step (Q := Q) (by rw [hl32, ho2]) (bc_one _) fun b' q1 q2 q3 _ => ?_
    rw [ho2] at q3
    simp only [go_sem, e2, q3]
    rw [fin_q _ _ _ (by simp only [go_sem, hlow]; omega) (by rw [okB_agg]; exact okBL_all fun c hc => by obtain ⟨p, _, rfl⟩ := List.mem_map.1 hc; rfl), hQ]
    rfl
end
end Go.Cl.Sh

namespace Go.Cl.Sh
noncomputable section
def startV : List Int := [1779033703, 3144134277, 1013904242, 2773480762, 1359893119, 2600822924, 528734635, 1541459225]
theorem HG.tab (h : (tabH .u32 startV).blk 0 = some (tabB .u32 startV)) : HG (tabH .u32 startV) := ⟨by decide, by decide, _, h, tab_load .u32 startV⟩
end
end Go.Cl.Sh

namespace Go.Cl.Sh
variable {σ : Sums}
set_option maxRecDepth 1000000

theorem rot_add (x : BitVec 32) (n : Nat) : x >>> n + x <<< (32 - n) = rotr x n := by
  unfold rotr
  rw [BitVec.add_eq_or_of_and_eq_zero, BitVec.or_comm]
  apply BitVec.eq_of_getLsbD_eq
  intro i hi
  simp only [BitVec.getLsbD_and, BitVec.getLsbD_ushiftRight, BitVec.getLsbD_shiftLeft, BitVec.getLsbD_zero]
  by_cases h : i < 32 - n
  · simp [h]
  · rw [BitVec.getLsbD_of_ge x (n + i) (by omega)]; simp
theorem byte_bit {y i : Nat} (hy : y < 256) (hi : 8 ≤ i) : (BitVec.ofNat 32 y).getLsbD i = false := by
  rw [BitVec.getLsbD_ofNat, Nat.testBit_lt_two_pow (Nat.lt_of_lt_of_le hy (Nat.pow_le_pow_right (n := 2) (by decide) hi))]
  simp
theorem mul24 (x : BitVec 32) : x * BitVec.ofNat 32 16777216 = x <<< 24 := by rw [BitVec.shiftLeft_eq_mul_twoPow]; rfl
theorem mul16 (x : BitVec 32) : x * BitVec.ofNat 32 65536 = x <<< 16 := by rw [BitVec.shiftLeft_eq_mul_twoPow]; rfl
theorem mul8 (x : BitVec 32) : x * BitVec.ofNat 32 256 = x <<< 8 := by rw [BitVec.shiftLeft_eq_mul_twoPow]; rfl
theorem wd_add {a b c d : Nat} (ha : a < 256) (hb : b < 256) (hc : c < 256) (hd : d < 256) :
    BitVec.ofNat 32 a * BitVec.ofNat 32 16777216 + BitVec.ofNat 32 b * BitVec.ofNat 32 65536 + BitVec.ofNat 32 c * BitVec.ofNat 32 256 + BitVec.ofNat 32 d = BitVec.ofNat 32 a <<< 24 ||| BitVec.ofNat 32 b <<< 16 ||| BitVec.ofNat 32 c <<< 8 ||| BitVec.ofNat 32 d := by
  rw [mul24, mul16, mul8]
  rw [BitVec.add_eq_or_of_and_eq_zero (BitVec.ofNat 32 a <<< 24) (BitVec.ofNat 32 b <<< 16), BitVec.add_eq_or_of_and_eq_zero _ (BitVec.ofNat 32 c <<< 8), BitVec.add_eq_or_of_and_eq_zero _ (BitVec.ofNat 32 d)]
  · apply BitVec.eq_of_getLsbD_eq
    intro i hi
    simp only [BitVec.getLsbD_and, BitVec.getLsbD_or, BitVec.getLsbD_shiftLeft, BitVec.getLsbD_zero]
    by_cases h : 8 ≤ i
    · rw [byte_bit hd h]; simp
    · simp [show i < 24 by omega, show i < 16 by omega, show i < 8 by omega]
  · apply BitVec.eq_of_getLsbD_eq
    intro i hi
    simp only [BitVec.getLsbD_and, BitVec.getLsbD_or, BitVec.getLsbD_shiftLeft, BitVec.getLsbD_zero]
    by_cases h : 16 ≤ i
    · rw [byte_bit hc (show 8 ≤ i - 8 by omega)]; simp
    · simp [show i < 24 by omega, show i < 16 by omega]
  · apply BitVec.eq_of_getLsbD_eq
    intro i hi
    simp only [BitVec.getLsbD_and, BitVec.getLsbD_shiftLeft, BitVec.getLsbD_zero]
    by_cases h : 24 ≤ i
    · rw [byte_bit hb (show 8 ≤ i - 16 by omega)]; simp
    · simp [show i < 24 by omega]
theorem div8 (x : BitVec 32) : x / BitVec.ofNat 32 8 = x >>> 3 := by
  apply BitVec.eq_of_toNat_eq
  rw [BitVec.toNat_udiv, BitVec.toNat_ushiftRight, Nat.shiftRight_eq_div_pow]; rfl
theorem div1024 (x : BitVec 32) : x / BitVec.ofNat 32 1024 = x >>> 10 := by
  apply BitVec.eq_of_toNat_eq
  rw [BitVec.toNat_udiv, BitVec.toNat_ushiftRight, Nat.shiftRight_eq_div_pow]; rfl
theorem sub_not (x : BitVec 32) : BitVec.ofNat 32 4294967295 - x = ~~~ x := by
  rw [show BitVec.ofNat 32 4294967295 = BitVec.allOnes 32 from rfl, BitVec.allOnes_sub_eq_not]

end Go.Cl.Sh

namespace Go.Cl.Sh
noncomputable section
variable {σ : Sums}
set_option maxRecDepth 1000000

def be8 (c : BitVec 64) : Nat → List Nat
  | 0 => []
  | i + 1 => be8 c i ++ [(c >>> (8 * (7 - i))).toNat % 256]
def fullL (xs : List Nat) : List Nat := xs ++ [128] ++ zs (zn xs.length) ++ be8 (cnt xs.length) 8
def rendS (xs : List Nat) : S8 := stA (fullL xs) s0 ((fullL xs).length / 64)
def rdigest (xs : List Nat) : List Nat := (rendS xs).l.flatMap wbN
theorem be8_len (c : BitVec 64) : ∀ i, (be8 c i).length = i
  | 0 => rfl
  | i + 1 => by simp [be8, be8_len c i]
theorem fullL_len (xs : List Nat) : (fullL xs).length % 64 = 0 ∧ (fullL xs).length ≤ xs.length + 128 ∧ 64 ≤ (fullL xs).length := by
  unfold fullL zs zn
  simp only [List.length_append, List.length_replicate, List.length_cons, List.length_nil, be8_len]
  omega
theorem fullL_byte (xs : List Nat) (h : ∀ b ∈ xs, b < 256) : ∀ b ∈ fullL xs, b < 256 := by
  have hb : ∀ (c : BitVec 64) i, ∀ b ∈ be8 c i, b < 256 := fun c i => by
    induction i with
    | zero => intro b hb; cases hb
    | succ i ih =>
      intro b hb
      rcases List.mem_append.1 hb with hb | hb
      · exact ih b hb
      · rw [List.mem_singleton.1 hb]; exact Nat.mod_lt _ (by decide)
  intro b hm
  unfold fullL at hm
  rcases List.mem_append.1 hm with hm | hm
  · rcases List.mem_append.1 hm with hm | hm
    · rcases List.mem_append.1 hm with hm | hm
      · exact h b hm
      · rw [List.mem_singleton.1 hm]; decide
    · rw [(List.mem_replicate.1 hm).2]; decide
  · exact hb _ _ b hm
theorem wb_at (x : BitVec 32) {r : Nat} (hr : r < 4) : nth (wb x) r = some (u8 ((x >>> (24 - 8 * r)).toNat % 256)) := by
  have h2 : r = 0 ∨ r = 1 ∨ r = 2 ∨ r = 3 := by omega
  rcases h2 with rfl | rfl | rfl | rfl
  · rfl
  · rfl
  · rfl
  · rw [show 24 - 8 * 3 = 0 from rfl, BitVec.ushiftRight_zero]; rfl
end
end Go.Cl.Sh

namespace Go.Cl.Sh
noncomputable section
variable {σ : Sums}
set_option maxRecDepth 1000000

theorem stA_lo (A T : List Nat) (s : S8) : ∀ k, 64 * k ≤ A.length → stA (A ++ T) s k = stA A s k
  | 0, _ => rfl
  | k + 1, h => by
    simp only [stA]
    rw [stA_lo A T s k (by omega)]
    congr 1
    rw [List.drop_append_of_le_length (by omega), List.take_append_of_le_length (by rw [List.length_drop]; omega)]
theorem stA_hi (A T : List Nat) (s : S8) (n : Nat) (h : A.length = 64 * n) : ∀ k, stA (A ++ T) s (n + k) = stA T (stA A s n) k
  | 0 => stA_lo A T s n (by omega)
  | k + 1 => by
    rw [← Nat.add_assoc]
    simp only [stA]
    rw [stA_hi A T s n h k]
    congr 1
    rw [show 64 * (n + k) = A.length + 64 * k by omega, ← List.drop_drop, List.drop_left]
theorem shr_byte (c : BitVec 64) (a b : Nat) (hb : b + 8 ≤ 32) : ((BitVec.ofNat 32 (c >>> a).toNat) >>> b).toNat % 256 = (c >>> (a + b)).toNat % 256 := by
  rw [BitVec.toNat_ushiftRight, BitVec.toNat_ofNat, BitVec.toNat_ushiftRight, BitVec.toNat_ushiftRight, Nat.shiftRight_eq_div_pow, Nat.shiftRight_eq_div_pow, Nat.shiftRight_eq_div_pow, Nat.pow_add, ← Nat.div_div_eq_div_mul]
  generalize c.toNat / 2 ^ a = x
  have h1 : (2 : Nat) ^ 32 = 2 ^ b * 2 ^ (32 - b) := by rw [← Nat.pow_add]; congr 1; omega
  have h2 : (2 : Nat) ^ (32 - b) = 256 * 2 ^ (32 - b - 8) := by
    rw [show (256 : Nat) = 2 ^ 8 from rfl, ← Nat.pow_add]; congr 1; omega
  rw [h1, Nat.mod_mul_right_div_self, h2, Nat.mod_mul_right_mod]
theorem be8_wb (c : BitVec 64) : be8 c 8 = wbN (BitVec.ofNat 32 (c >>> 32).toNat) ++ wbN (BitVec.ofNat 32 c.toNat) := by
  have z : ∀ x : BitVec 32, x.toNat = (x >>> 0).toNat := fun x => by rw [BitVec.ushiftRight_zero]
  have z2 : c.toNat = (c >>> 0).toNat := by rw [BitVec.ushiftRight_zero]
  have e : ∀ b, b + 8 ≤ 32 → ((BitVec.ofNat 32 c.toNat) >>> b).toNat % 256 = (c >>> (0 + b)).toNat % 256 := fun b hb => by
    have := shr_byte c 0 b hb
    rwa [BitVec.ushiftRight_zero] at this
  simp only [wbN]
  rw [z (BitVec.ofNat 32 (c >>> 32).toNat), z (BitVec.ofNat 32 c.toNat)]
  rw [shr_byte c 32 24 (by decide), shr_byte c 32 16 (by decide), shr_byte c 32 8 (by decide), shr_byte c 32 0 (by decide), e 24 (by decide), e 16 (by decide), e 8 (by decide), e 0 (by decide)]
  rfl
theorem digest_same (xs : List Nat) : rdigest xs = digest xs := by
  have hA : (xs.take (64 * (xs.length / 64))).length = 64 * (xs.length / 64) := by rw [List.length_take]; omega
  have hxs : xs.take (64 * (xs.length / 64)) ++ xs.drop (64 * (xs.length / 64)) = xs := List.take_append_drop _ _
  have hz : zn (xs.drop (64 * (xs.length / 64))).length = zn xs.length := by
    unfold zn; rw [List.length_drop]; omega
  have hfull : fullL xs = xs.take (64 * (xs.length / 64)) ++ tailL xs := by
    unfold fullL tailL padL
    rw [hz, be8_wb]
    simp only [← List.append_assoc]
    rw [hxs]
  obtain ⟨h1, h2⟩ := tailL_len xs
  have hlen : (fullL xs).length / 64 = xs.length / 64 + (tailL xs).length / 64 := by rw [hfull, List.length_append, hA]; omega
  have : rendS xs = endS xs := by
    unfold rendS endS
    rw [hlen, hfull, stA_hi _ _ _ _ hA]
    congr 1
    have := stA_lo (xs.take (64 * (xs.length / 64))) (xs.drop (64 * (xs.length / 64))) s0 (xs.length / 64) (by omega)
    rw [hxs] at this
    exact this.symm
  unfold rdigest digest
  rw [this]

/-! ### the beginning of a hash, as a number -/
def shV (D : List Nat) : Nat → BitVec 64
  | 0 => BitVec.ofNat 64 0
  | i + 1 => shV D i <<< 8 ||| BitVec.ofNat 64 (D[i]?.getD 0)
def rshV (D : List Nat) : Nat → BitVec 64
  | 0 => BitVec.ofNat 64 0
  | i + 1 => BitVec.ofNat 64 256 * rshV D i + BitVec.ofNat 64 (D[i]?.getD 0)
theorem byte_bit64 {y i : Nat} (hy : y < 256) (hi : 8 ≤ i) : (BitVec.ofNat 64 y).getLsbD i = false := by
  rw [BitVec.getLsbD_ofNat, Nat.testBit_lt_two_pow (Nat.lt_of_lt_of_le hy (Nat.pow_le_pow_right (n := 2) (by decide) hi))]
  simp
theorem shV_same (D : List Nat) (h : ∀ b ∈ D, b < 256) : ∀ i, rshV D i = shV D i
  | 0 => rfl
  | i + 1 => by
    simp only [rshV, shV]
    rw [shV_same D h i, BitVec.mul_comm, show BitVec.ofNat 64 256 = BitVec.twoPow 64 8 from rfl, ← BitVec.shiftLeft_eq_mul_twoPow, BitVec.add_eq_or_of_and_eq_zero]
    apply BitVec.eq_of_getLsbD_eq
    intro j hj
    have hy : D[i]?.getD 0 < 256 := by
      cases hd : D[i]? with
      | none => decide
      | some y => exact h y (List.mem_of_getElem? hd)
    simp only [BitVec.getLsbD_and, BitVec.getLsbD_shiftLeft, BitVec.getLsbD_zero]
    by_cases q : 8 ≤ j
    · rw [byte_bit64 hy q]; simp
    · simp [show j < 8 by omega]
theorem digest_byte (xs : List Nat) : ∀ b ∈ digest xs, b < 256 := by
  intro b hb
  unfold digest at hb
  obtain ⟨x, _, hx⟩ := List.mem_flatMap.1 hb
  simp only [wbN, List.mem_cons, List.not_mem_nil, or_false] at hx
  rcases hx with rfl | rfl | rfl | rfl <;> exact Nat.mod_lt _ (by decide)
end
end Go.Cl.Sh
