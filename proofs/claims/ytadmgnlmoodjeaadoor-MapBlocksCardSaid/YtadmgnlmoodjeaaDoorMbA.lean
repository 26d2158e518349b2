/- The program's functions, run by the rewriting evaluator: what each answers and leaves (MbA). -/
import Derived.Test.YtadmgnlmoodjeaaDoorClH
set_option linter.all false
open Go Go.Cl Go.Proofs
namespace Go.Cl.Sh.W
open Go Go.Cl
def told (f : FuncId) : Bool := Nat.beq f 17
end Go.Cl.Sh.W

namespace Go.Cl.Sh
variable {σ : Sums}

theorem cv53 (h n) : convT Tryd.prog h 5 103 (u8 n) = some (.val (w32 (BitVec.ofNat 32 n))) := by
  rw [← w32_of]; exact cv_5_103 h .u8 _
theorem cv265 (h x) : convT Tryd.prog h 103 5 (w32 x) = some (.val (u8 (x.toNat % 256))) := by
  rw [← cw32_8]; exact cv_103_5 h .u32 _
theorem cv3126 (h x) : convT Tryd.prog h 23 103 (w64 x) = some (.val (w32 (BitVec.ofNat 32 x.toNat))) := by
  rw [← cw64_32]; exact cv_23_103 h .u64 _
theorem cv331 (h) (n : Nat) : convT Tryd.prog h 3 23 (.int .i64 (Int.ofNat n)) = some (.val (w64 (BitVec.ofNat 64 n))) := by
  rw [← w64_of]; exact cv_3_23 h .i64 _

def rotr (x : BitVec 32) (n : Nat) : BitVec 32 := x <<< (32 - n) ||| x >>> n

theorem rot_run (hσ : ∀ f a h, W.told f = false → σ f a h = none) (h : H) (x : BitVec 32) (n : Nat) (h1 : 0 < n) (h2 : n < 32) :
    (lim Tryd.prog σ).call 86 [w32 x, .int .i64 (-(Int.ofNat n))] h = some (w32 (rotr x n), none) := by
  rw [call_eq (hσ _ _ _ (by decide)) fn_86 rfl rfl, Tryd.ntmps86, Tryd.results86]
  have e1 : convT Tryd.prog h.lo 3 92 (.int .i64 (-(Int.ofNat n))) = some (.val (w64 (BitVec.ofNat 64 (18446744073709551616 - n)))) := by
    rw [cv_3_92]
    unfold w64
    rw [BitVec.toNat_ofNat, show IntKind.wrap .u64 (-(Int.ofNat n)) = Int.ofNat ((18446744073709551616 - n) % 2 ^ 64) from ?_]
    simp only [IntKind.wrap, IntKind.bits, IntKind.signed, Bool.false_and]
    simp
    omega
  have e2 : BitVec.ofNat 64 (18446744073709551616 - n) &&& BitVec.ofNat 64 31 = BitVec.ofNat 64 (32 - n) := by
    have : ∀ n : Fin 32, 0 < n.val → BitVec.ofNat 64 (18446744073709551616 - n.val) &&& BitVec.ofNat 64 31 = BitVec.ofNat 64 (32 - n.val) := by decide +kernel
    exact this ⟨n, h2⟩ h1
  have l31 : CV.int .u64 31 = w64 (BitVec.ofNat 64 31) := rfl
  have l32 : CV.int .u64 32 = w64 (BitVec.ofNat 64 32) := rfl
  have e3 : BitVec.ofNat 64 32 - BitVec.ofNat 64 (32 - n) = BitVec.ofNat 64 n := by
    apply BitVec.eq_of_toNat_eq; simp; omega
  have e4 : (BitVec.ofNat 64 (32 - n)).toNat = 32 - n := by simp; omega
  have e5 : (BitVec.ofNat 64 n).toNat = n := by simp; omega
  simp only [go_sem, Nat.reduceLT, Nat.reduceLeDiff, Nat.reduceEqDiff, Nat.reduceAdd, Nat.reduceSub, Nat.reduceMul, reduceCtorEq, Int.reduceBEq, Int.reduceLT, Int.reduceLE, Int.reduceAdd, Int.reduceSub, Int.reduceEq, Int.reduceNeg, Int.reduceToNat, Int.reduceGT, Int.reduceGE, e1, l31, l32, wadd32, wmul32, wadd64, wmul64, wand32, wor32, wxor32, wand64, wor64, wnot32, wsub32, wsub64, wshr32l, wshl32l, wshr64l, wshl64l, wshr32w, wshl32w, wshr64w, wlt64, wgt64, weq64, wne64, e2, e3, e4, e5]
  rw [fin_q _ _ _ rfl rfl]
  rfl

theorem right_run (hσ : ∀ f a h, W.told f = false → σ f a h = none) (h : H) (x : BitVec 32) (n : Nat) (h1 : 0 < n) (h2 : n < 32) :
    (lim Tryd.prog σ).call 85 [w32 x, .int .i64 (Int.ofNat n)] h = some (w32 (rotr x n), none) := by
  rw [call_eq (hσ _ _ _ (by decide)) fn_85 rfl rfl, Tryd.ntmps85, Tryd.results85]
  have e0 : IntKind.wrap .i64 (0 - Int.ofNat n) = -(Int.ofNat n) := by
    rw [wrap_i64 (by simp; omega) (by simp; omega)]; simp
  have e := rot_run hσ h.lo x n h1 h2
  simp only [go_sem, Nat.reduceLT, Nat.reduceLeDiff, Nat.reduceEqDiff, Nat.reduceAdd, Nat.reduceSub, Nat.reduceMul, reduceCtorEq, Int.reduceBEq, Int.reduceLT, Int.reduceLE, Int.reduceAdd, Int.reduceSub, Int.reduceEq, Int.reduceNeg, Int.reduceToNat, Int.reduceGT, Int.reduceGE, e0, e]
  rw [fin_q _ _ _ rfl rfl]

/-- one block is written, others are new -/
structure Wr (h h' : H) (id n : Nat) (g : Nat → Option CV) : Prop where
  nx : h.nx ≤ h'.nx
  gn : h'.gn = h.gn
  old : ∀ k, k < h.nx → k ≠ id → h'.t.get k = h.t.get k
  blk : ∃ b, h'.blk id = some b ∧ b.n = n ∧ b.ro = false ∧ ∀ i, b.get i = g i
  low : h'.low = min h.low id
def wb (x : BitVec 32) : List CV := [u8 ((x >>> 24).toNat % 256), u8 ((x >>> 16).toNat % 256), u8 ((x >>> 8).toNat % 256), u8 (x.toNat % 256)]
def over (off : Nat) (l : List CV) (g : Nat → Option CV) (i : Nat) : Option CV := if off ≤ i ∧ i < off + l.length then nth l (i - off) else g i

theorem st4_get {b : Blk} {off : Nat} (hn : off + 4 ≤ b.n) (v0 v1 v2 v3 : CV) (i : Nat) : ((((b.st off v0).st (off + 1) v1).st (off + 2) v2).st (off + 3) v3).get i = over off [v0, v1, v2, v3] b.get i := by
  unfold over
  simp only [List.length_cons, List.length_nil]
  by_cases h : off ≤ i ∧ i < off + (0 + 1 + 1 + 1 + 1)
  · rw [if_pos h]
    obtain ⟨j, rfl⟩ := Nat.exists_eq_add_of_le h.1
    have hj : j < 4 := by omega
    have hcase : j = 0 ∨ j = 1 ∨ j = 2 ∨ j = 3 := by omega
    rcases hcase with rfl | rfl | rfl | rfl
    · rw [st_get_ne _ _ _ _ (by omega), st_get_ne _ _ _ _ (by omega), st_get_ne _ _ _ _ (by omega), Nat.add_zero, st_get_same _ _ _ (by omega)]; simp [nth]
    · rw [st_get_ne _ _ _ _ (by omega), st_get_ne _ _ _ _ (by omega), st_get_same _ _ _ (by simp only [st_n]; omega), Nat.add_sub_cancel_left]; simp [nth]
    · rw [st_get_ne _ _ _ _ (by omega), st_get_same _ _ _ (by simp only [st_n]; omega), Nat.add_sub_cancel_left]; simp [nth]
    · rw [st_get_same _ _ _ (by simp only [st_n]; omega), Nat.add_sub_cancel_left]; simp [nth]
  · rw [if_neg h, st_get_ne _ _ _ _ (by omega), st_get_ne _ _ _ _ (by omega), st_get_ne _ _ _ _ (by omega), st_get_ne _ _ _ _ (by omega)]

def WrR (h : H) (v : CV) (id n : Nat) (g : Nat → Option CV) (r : Option (CV × Option H)) : Prop := ∃ h', r = some (v, some h') ∧ Wr h h' id n g
set_option maxRecDepth 1000000
/-- a slice of bytes that may be written: where it begins, and what it holds -/
theorem put_run (hσ : ∀ f a h, W.told f = false → σ f a h = none) {h : H} {id off len : Nat} {c : Cap} {b : Blk} (hb : h.blk id = some b) (hro : b.ro = false) (hn : off + 4 ≤ b.n) (hl : 4 ≤ len) (hid : id < h.nx) (x : BitVec 32) :
    WrR h (.tup []) id b.n (over off (wb x) b.get) ((lim Tryd.prog σ).call 69 [.sl id off len c, w32 x] h) := by
  rw [call_eq (hσ _ _ _ (by decide)) fn_69 rfl rfl, Tryd.ntmps69, Tryd.results69]
  have a0 : 0 < len := by omega
  have a1 : 1 < len := by omega
  have a2 : 2 < len := by omega
  have a3 : 3 < len := by omega
  have b0 : off < b.n := by omega
  have b1 : off + 1 < b.n := by omega
  have b2 : off + 2 < b.n := by omega
  have b3 : off + 3 < b.n := by omega
  have i0 : ∀ kd, indexAddrT Tryd.prog 24 (.sl id off len c) (.int kd 0) = some (.ptr id off) := fun kd => by
    rw [show (0 : Int) = Int.ofNat 0 from rfl, ia_24]; simp only [go_sem, Nat.reduceLT, Nat.reduceLeDiff, Nat.reduceEqDiff, Nat.reduceAdd, Nat.reduceSub, Nat.reduceMul, reduceCtorEq, Int.reduceBEq, Int.reduceLT, Int.reduceLE, Int.reduceAdd, Int.reduceSub, Int.reduceEq, Int.reduceNeg, Int.reduceToNat, Int.reduceGT, Int.reduceGE, a0]
  have i1 : ∀ kd, indexAddrT Tryd.prog 24 (.sl id off len c) (.int kd 1) = some (.ptr id (off + 1)) := fun kd => by
    rw [show (1 : Int) = Int.ofNat 1 from rfl, ia_24]; simp only [go_sem, Nat.reduceLT, Nat.reduceLeDiff, Nat.reduceEqDiff, Nat.reduceAdd, Nat.reduceSub, Nat.reduceMul, reduceCtorEq, Int.reduceBEq, Int.reduceLT, Int.reduceLE, Int.reduceAdd, Int.reduceSub, Int.reduceEq, Int.reduceNeg, Int.reduceToNat, Int.reduceGT, Int.reduceGE, a1]
  have i2 : ∀ kd, indexAddrT Tryd.prog 24 (.sl id off len c) (.int kd 2) = some (.ptr id (off + 2)) := fun kd => by
    rw [show (2 : Int) = Int.ofNat 2 from rfl, ia_24]; simp only [go_sem, Nat.reduceLT, Nat.reduceLeDiff, Nat.reduceEqDiff, Nat.reduceAdd, Nat.reduceSub, Nat.reduceMul, reduceCtorEq, Int.reduceBEq, Int.reduceLT, Int.reduceLE, Int.reduceAdd, Int.reduceSub, Int.reduceEq, Int.reduceNeg, Int.reduceToNat, Int.reduceGT, Int.reduceGE, a2]
  have i3 : ∀ kd, indexAddrT Tryd.prog 24 (.sl id off len c) (.int kd 3) = some (.ptr id (off + 3)) := fun kd => by
    rw [show (3 : Int) = Int.ofNat 3 from rfl, ia_24]; simp only [go_sem, Nat.reduceLT, Nat.reduceLeDiff, Nat.reduceEqDiff, Nat.reduceAdd, Nat.reduceSub, Nat.reduceMul, reduceCtorEq, Int.reduceBEq, Int.reduceLT, Int.reduceLE, Int.reduceAdd, Int.reduceSub, Int.reduceEq, Int.reduceNeg, Int.reduceToNat, Int.reduceGT, Int.reduceGE, a3]
  obtain ⟨Q, hQ⟩ : ∃ Q, Q = WrR h (.tup []) id b.n (over off (wb x) b.get) := ⟨_, rfl⟩
  rw [← hQ]
  simp only [go_sem, Nat.reduceLT, Nat.reduceLeDiff, Nat.reduceEqDiff, Nat.reduceAdd, Nat.reduceSub, Nat.reduceMul, reduceCtorEq, Int.reduceBEq, Int.reduceLT, Int.reduceLE, Int.reduceAdd, Int.reduceSub, Int.reduceEq, Int.reduceNeg, Int.reduceToNat, Int.reduceGT, Int.reduceGE, hb, hro, wadd32, wmul32, wadd64, wmul64, wand32, wor32, wxor32, wand64, wor64, wnot32, wsub32, wsub64, wshr32l, wshl32l, wshr64l, wshl64l, wshr32w, wshl32w, wshr64w, wlt64, wgt64, weq64, wne64, cv265, i0, i1, i2, i3, b0, b1, b2, b3]
  rw [hQ]
  rw [fin_l _ _ _ (by simp only [go_sem, Nat.reduceLT, Nat.reduceLeDiff, Nat.reduceEqDiff, Nat.reduceAdd, Nat.reduceSub, Nat.reduceMul, reduceCtorEq, Int.reduceBEq, Int.reduceLT, Int.reduceLE, Int.reduceAdd, Int.reduceSub, Int.reduceEq, Int.reduceNeg, Int.reduceToNat, Int.reduceGT, Int.reduceGE]; omega)]
  refine ⟨_, rfl, by simp only [go_sem, Nat.reduceLT, Nat.reduceLeDiff, Nat.reduceEqDiff, Nat.reduceAdd, Nat.reduceSub, Nat.reduceMul, reduceCtorEq, Int.reduceBEq, Int.reduceLT, Int.reduceLE, Int.reduceAdd, Int.reduceSub, Int.reduceEq, Int.reduceNeg, Int.reduceToNat, Int.reduceGT, Int.reduceGE]; omega, rfl, fun k hk hne => ?_, ⟨_, put_blk_same _ _ _, by simp only [go_sem, Nat.reduceLT, Nat.reduceLeDiff, Nat.reduceEqDiff, Nat.reduceAdd, Nat.reduceSub, Nat.reduceMul, reduceCtorEq, Int.reduceBEq, Int.reduceLT, Int.reduceLE, Int.reduceAdd, Int.reduceSub, Int.reduceEq, Int.reduceNeg, Int.reduceToNat, Int.reduceGT, Int.reduceGE], by simp only [go_sem, Nat.reduceLT, Nat.reduceLeDiff, Nat.reduceEqDiff, Nat.reduceAdd, Nat.reduceSub, Nat.reduceMul, reduceCtorEq, Int.reduceBEq, Int.reduceLT, Int.reduceLE, Int.reduceAdd, Int.reduceSub, Int.reduceEq, Int.reduceNeg, Int.reduceToNat, Int.reduceGT, Int.reduceGE, hro], fun i => st4_get hn _ _ _ _ i⟩, by simp only [go_sem, Nat.reduceLT, Nat.reduceLeDiff, Nat.reduceEqDiff, Nat.reduceAdd, Nat.reduceSub, Nat.reduceMul, reduceCtorEq, Int.reduceBEq, Int.reduceLT, Int.reduceLE, Int.reduceAdd, Int.reduceSub, Int.reduceEq, Int.reduceNeg, Int.reduceToNat, Int.reduceGT, Int.reduceGE]; omega⟩
  simp only [go_sem, Nat.reduceLT, Nat.reduceLeDiff, Nat.reduceEqDiff, Nat.reduceAdd, Nat.reduceSub, Nat.reduceMul, reduceCtorEq, Int.reduceBEq, Int.reduceLT, Int.reduceLE, Int.reduceAdd, Int.reduceSub, Int.reduceEq, Int.reduceNeg, Int.reduceToNat, Int.reduceGT, Int.reduceGE]
  rw [put_get_ne _ _ _ _ hne, put_get_ne _ _ _ _ hne, put_get_ne _ _ _ _ hne, put_get_ne _ _ _ _ hne]
  simp only [go_sem, Nat.reduceLT, Nat.reduceLeDiff, Nat.reduceEqDiff, Nat.reduceAdd, Nat.reduceSub, Nat.reduceMul, reduceCtorEq, Int.reduceBEq, Int.reduceLT, Int.reduceLE, Int.reduceAdd, Int.reduceSub, Int.reduceEq, Int.reduceNeg, Int.reduceToNat, Int.reduceGT, Int.reduceGE]

def mulHi (x y : BitVec 64) : BitVec 64 :=
  let m : BitVec 64 := BitVec.ofNat 64 4294967295
  let x0 := x &&& m; let x1 := x >>> 32; let y0 := y &&& m; let y1 := y >>> 32
  let w0 := x0 * y0
  let t := x1 * y0 + w0 >>> 32
  let w1 := (t &&& m) + x0 * y1
  let w2 := t >>> 32
  x1 * y1 + w2 + w1 >>> 32
theorem mul_run (hσ : ∀ f a h, W.told f = false → σ f a h = none) (h : H) (x y : BitVec 64) : (lim Tryd.prog σ).call 92 [w64 x, w64 y] h = some (.tup [w64 (mulHi x y), w64 (x * y)], none) := by
  rw [call_eq (hσ _ _ _ (by decide)) fn_92 rfl rfl, Tryd.ntmps92, Tryd.results92]
  have l : CV.int .u64 4294967295 = w64 (BitVec.ofNat 64 4294967295) := rfl
  simp only [go_sem, Nat.reduceLT, Nat.reduceLeDiff, Nat.reduceEqDiff, Nat.reduceAdd, Nat.reduceSub, Nat.reduceMul, reduceCtorEq, Int.reduceBEq, Int.reduceLT, Int.reduceLE, Int.reduceAdd, Int.reduceSub, Int.reduceEq, Int.reduceNeg, Int.reduceToNat, Int.reduceGT, Int.reduceGE, wadd32, wmul32, wadd64, wmul64, wand32, wor32, wxor32, wand64, wor64, wnot32, wsub32, wsub64, wshr32l, wshl32l, wshr64l, wshl64l, wshr32w, wshl32w, wshr64w, wlt64, wgt64, weq64, wne64, l]
  rw [fin_q _ _ _ rfl rfl]
  rfl
/-- is the cube of x / 2^32 at most p? -/
def within (p x : BitVec 64) : Bool :=
  let high := mulHi x x; let low := x * x
  let carry := mulHi low x; let least := low * x
  let upper := high * x + carry
  decide (upper.toNat < (p <<< 32).toNat) || (decide (upper = p <<< 32) && decide (least = BitVec.ofNat 64 0))
theorem within_run (hσ : ∀ f a h, W.told f = false → σ f a h = none) {h : H} {id : Nat} {b : Blk} (p x : BitVec 64) (hb : h.blk id = some b) (h0 : b.get 0 = some (w64 p)) : (lim Tryd.prog σ).call 91 [w64 x, .ptr id 0] h = some (.bool (within p x), none) := by
  rw [call_eq (hσ _ _ _ (by decide)) fn_91 rfl rfl, Tryd.ntmps91, Tryd.results91]
  have l : CV.int .u64 0 = w64 (BitVec.ofNat 64 0) := rfl
  have e1 := mul_run hσ h.lo x x
  have e2 := mul_run hσ h.lo (x * x) x
  simp only [go_sem, Nat.reduceLT, Nat.reduceLeDiff, Nat.reduceEqDiff, Nat.reduceAdd, Nat.reduceSub, Nat.reduceMul, reduceCtorEq, Int.reduceBEq, Int.reduceLT, Int.reduceLE, Int.reduceAdd, Int.reduceSub, Int.reduceEq, Int.reduceNeg, Int.reduceToNat, Int.reduceGT, Int.reduceGE, wadd32, wmul32, wadd64, wmul64, wand32, wor32, wxor32, wand64, wor64, wnot32, wsub32, wsub64, wshr32l, wshl32l, wshr64l, wshl64l, wshr32w, wshl32w, wshr64w, wlt64, wgt64, weq64, wne64, l, e1, e2, hb, h0]
  unfold within
  by_cases c1 : (mulHi x x * x + mulHi (x * x) x).toNat < (p <<< 32).toNat
  · simp only [go_sem, Nat.reduceLT, Nat.reduceLeDiff, Nat.reduceEqDiff, Nat.reduceAdd, Nat.reduceSub, Nat.reduceMul, reduceCtorEq, Int.reduceBEq, Int.reduceLT, Int.reduceLE, Int.reduceAdd, Int.reduceSub, Int.reduceEq, Int.reduceNeg, Int.reduceToNat, Int.reduceGT, Int.reduceGE, wadd32, wmul32, wadd64, wmul64, wand32, wor32, wxor32, wand64, wor64, wnot32, wsub32, wsub64, wshr32l, wshl32l, wshr64l, wshl64l, wshr32w, wshl32w, wshr64w, wlt64, wgt64, weq64, wne64, l, e1, e2, hb, h0, c1]
    rw [fin_q _ _ _ rfl rfl]
  · by_cases c2 : mulHi x x * x + mulHi (x * x) x = p <<< 32
    · simp only [go_sem, Nat.reduceLT, Nat.reduceLeDiff, Nat.reduceEqDiff, Nat.reduceAdd, Nat.reduceSub, Nat.reduceMul, reduceCtorEq, Int.reduceBEq, Int.reduceLT, Int.reduceLE, Int.reduceAdd, Int.reduceSub, Int.reduceEq, Int.reduceNeg, Int.reduceToNat, Int.reduceGT, Int.reduceGE, wadd32, wmul32, wadd64, wmul64, wand32, wor32, wxor32, wand64, wor64, wnot32, wsub32, wsub64, wshr32l, wshl32l, wshr64l, wshl64l, wshr32w, wshl32w, wshr64w, wlt64, wgt64, weq64, wne64, l, e1, e2, hb, h0, c1, c2]
      have c3 : ¬ (p <<< 32).toNat < (p <<< 32).toNat := Nat.lt_irrefl _
      simp only [go_sem, Nat.reduceLT, Nat.reduceLeDiff, Nat.reduceEqDiff, Nat.reduceAdd, Nat.reduceSub, Nat.reduceMul, reduceCtorEq, Int.reduceBEq, Int.reduceLT, Int.reduceLE, Int.reduceAdd, Int.reduceSub, Int.reduceEq, Int.reduceNeg, Int.reduceToNat, Int.reduceGT, Int.reduceGE, wadd32, wmul32, wadd64, wmul64, wand32, wor32, wxor32, wand64, wor64, wnot32, wsub32, wsub64, wshr32l, wshl32l, wshr64l, wshl64l, wshr32w, wshl32w, wshr64w, wlt64, wgt64, weq64, wne64, l, e1, e2, hb, h0, c1, c2, c3]
      rw [fin_q _ _ _ rfl rfl]
    · simp only [go_sem, Nat.reduceLT, Nat.reduceLeDiff, Nat.reduceEqDiff, Nat.reduceAdd, Nat.reduceSub, Nat.reduceMul, reduceCtorEq, Int.reduceBEq, Int.reduceLT, Int.reduceLE, Int.reduceAdd, Int.reduceSub, Int.reduceEq, Int.reduceNeg, Int.reduceToNat, Int.reduceGT, Int.reduceGE, wadd32, wmul32, wadd64, wmul64, wand32, wor32, wxor32, wand64, wor64, wnot32, wsub32, wsub64, wshr32l, wshl32l, wshr64l, wshl64l, wshr32w, wshl32w, wshr64w, wlt64, wgt64, weq64, wne64, l, e1, e2, hb, h0, c1, c2]
      rw [fin_q _ _ _ rfl rfl]
end Go.Cl.Sh

namespace Go.Cl.Sh
variable {σ : Sums}
set_option maxRecDepth 1000000

def rootX (p : BitVec 64) : Nat → BitVec 64
  | 0 => BitVec.ofNat 64 0
  | j + 1 => cond (within p (rootX p j ||| (BitVec.ofNat 64 1 <<< (34 - j)))) (rootX p j ||| (BitVec.ofNat 64 1 <<< (34 - j))) (rootX p j)
def rootN (p : BitVec 64) : BitVec 32 := BitVec.ofNat 32 (rootX p 35).toNat
def RetQ (h : H) (v : CV) (r : Option (CV × Option H)) : Prop := r = some (v, none)

theorem root_run (hσ : ∀ f a h, W.told f = false → σ f a h = none) (h : H) (p : BitVec 64) : RetQ h (w32 (rootN p)) ((lim Tryd.prog σ).call 84 [w64 p] h) := by
  rw [call_eq (hσ _ _ _ (by decide)) fn_84 rfl rfl, Tryd.ntmps84, Tryd.results84]
  have l0 : CV.int .u64 0 = w64 (BitVec.ofNat 64 0) := rfl
  have l1 : CV.int .u64 1 = w64 (BitVec.ofNat 64 1) := rfl
  simp only [go_sem, Nat.reduceLT, Nat.reduceLeDiff, Nat.reduceEqDiff, Nat.reduceAdd, Nat.reduceSub, Nat.reduceMul, reduceCtorEq, Int.reduceBEq, Int.reduceLT, Int.reduceLE, Int.reduceAdd, Int.reduceSub, Int.reduceEq, Int.reduceNeg, Int.reduceToNat, Int.reduceGT, Int.reduceGE, wadd32, wmul32, wadd64, wmul64, wand32, wor32, wxor32, wand64, wor64, wnot32, wsub32, wsub64, wshr32l, wshl32l, wshr64l, wshl64l, wshr32w, wshl32w, wshr64w, wlt64, wgt64, weq64, wne64, l0, l1]
  refine loop_ind (Q := RetQ h (w32 (rootN p))) (fun i env h' => evT env 3 = .fn (.func 91) [] [.ptr h.nx 0] ∧ evT env 4 = w64 (rootX p i) ∧ evT env 5 = .int .i64 (34 - Int.ofNat i) ∧ h' = h.lo.alloc (.cells (newBlk [w64 p]))) 35 0 ?_ (by decide) ?_ ?_
  · exact ⟨by simp only [go_sem, Nat.reduceLT, Nat.reduceLeDiff, Nat.reduceEqDiff, Nat.reduceAdd, Nat.reduceSub, Nat.reduceMul, reduceCtorEq, Int.reduceBEq, Int.reduceLT, Int.reduceLE, Int.reduceAdd, Int.reduceSub, Int.reduceEq, Int.reduceNeg, Int.reduceToNat, Int.reduceGT, Int.reduceGE], by simp only [go_sem, Nat.reduceLT, Nat.reduceLeDiff, Nat.reduceEqDiff, Nat.reduceAdd, Nat.reduceSub, Nat.reduceMul, reduceCtorEq, Int.reduceBEq, Int.reduceLT, Int.reduceLE, Int.reduceAdd, Int.reduceSub, Int.reduceEq, Int.reduceNeg, Int.reduceToNat, Int.reduceGT, Int.reduceGE, l0]; rfl, by simp only [go_sem, Nat.reduceLT, Nat.reduceLeDiff, Nat.reduceEqDiff, Nat.reduceAdd, Nat.reduceSub, Nat.reduceMul, reduceCtorEq, Int.reduceBEq, Int.reduceLT, Int.reduceLE, Int.reduceAdd, Int.reduceSub, Int.reduceEq, Int.reduceNeg, Int.reduceToNat, Int.reduceGT, Int.reduceGE]; rfl, rfl⟩
  · rintro i env h' ⟨q3, q4, q5, rfl⟩ hi next
    obtain ⟨j, hj⟩ : ∃ j, 34 - i = j := ⟨_, rfl⟩
    have q5' : evT env 5 = .int .i64 (Int.ofNat j) := by rw [q5]; congr 1; simp; omega
    have c1 : Int.ofNat j ≥ 0 := Int.natCast_nonneg _
    have c3 : IntKind.wrap .i64 (Int.ofNat j - 1) = 34 - Int.ofNat (i + 1) := by
      rw [wrap_i64 (by simp; omega) (by simp; omega)]; simp; omega
    have e := within_run hσ (h := h.lo.alloc (.cells (newBlk [w64 p]))) (id := h.nx) p (rootX p i ||| (BitVec.ofNat 64 1 <<< j)) (alloc_blk_same _ _ _ rfl) (by rw [newBlk_get]; rfl)
    cases hw : within p (rootX p i ||| (BitVec.ofNat 64 1 <<< j))
    · rw [hw] at e
      simp only [go_sem, Nat.reduceLT, Nat.reduceLeDiff, Nat.reduceEqDiff, Nat.reduceAdd, Nat.reduceSub, Nat.reduceMul, reduceCtorEq, Int.reduceBEq, Int.reduceLT, Int.reduceLE, Int.reduceAdd, Int.reduceSub, Int.reduceEq, Int.reduceNeg, Int.reduceToNat, Int.reduceGT, Int.reduceGE, wadd32, wmul32, wadd64, wmul64, wand32, wor32, wxor32, wand64, wor64, wnot32, wsub32, wsub64, wshr32l, wshl32l, wshr64l, wshl64l, wshr32w, wshl32w, wshr64w, wlt64, wgt64, weq64, wne64, l0, l1, q3, q4, q5', c1, c3, e, wshl64]
      refine next _ _ ⟨by simp only [go_sem, Nat.reduceLT, Nat.reduceLeDiff, Nat.reduceEqDiff, Nat.reduceAdd, Nat.reduceSub, Nat.reduceMul, reduceCtorEq, Int.reduceBEq, Int.reduceLT, Int.reduceLE, Int.reduceAdd, Int.reduceSub, Int.reduceEq, Int.reduceNeg, Int.reduceToNat, Int.reduceGT, Int.reduceGE, q3], ?_, by simp only [go_sem, Nat.reduceLT, Nat.reduceLeDiff, Nat.reduceEqDiff, Nat.reduceAdd, Nat.reduceSub, Nat.reduceMul, reduceCtorEq, Int.reduceBEq, Int.reduceLT, Int.reduceLE, Int.reduceAdd, Int.reduceSub, Int.reduceEq, Int.reduceNeg, Int.reduceToNat, Int.reduceGT, Int.reduceGE], rfl⟩
      simp only [go_sem, Nat.reduceLT, Nat.reduceLeDiff, Nat.reduceEqDiff, Nat.reduceAdd, Nat.reduceSub, Nat.reduceMul, reduceCtorEq, Int.reduceBEq, Int.reduceLT, Int.reduceLE, Int.reduceAdd, Int.reduceSub, Int.reduceEq, Int.reduceNeg, Int.reduceToNat, Int.reduceGT, Int.reduceGE, q4, rootX, hj, hw]
    · rw [hw] at e
      simp only [go_sem, Nat.reduceLT, Nat.reduceLeDiff, Nat.reduceEqDiff, Nat.reduceAdd, Nat.reduceSub, Nat.reduceMul, reduceCtorEq, Int.reduceBEq, Int.reduceLT, Int.reduceLE, Int.reduceAdd, Int.reduceSub, Int.reduceEq, Int.reduceNeg, Int.reduceToNat, Int.reduceGT, Int.reduceGE, wadd32, wmul32, wadd64, wmul64, wand32, wor32, wxor32, wand64, wor64, wnot32, wsub32, wsub64, wshr32l, wshl32l, wshr64l, wshl64l, wshr32w, wshl32w, wshr64w, wlt64, wgt64, weq64, wne64, l0, l1, q3, q4, q5', c1, c3, e, wshl64]
      refine next _ _ ⟨by simp only [go_sem, Nat.reduceLT, Nat.reduceLeDiff, Nat.reduceEqDiff, Nat.reduceAdd, Nat.reduceSub, Nat.reduceMul, reduceCtorEq, Int.reduceBEq, Int.reduceLT, Int.reduceLE, Int.reduceAdd, Int.reduceSub, Int.reduceEq, Int.reduceNeg, Int.reduceToNat, Int.reduceGT, Int.reduceGE, q3], ?_, by simp only [go_sem, Nat.reduceLT, Nat.reduceLeDiff, Nat.reduceEqDiff, Nat.reduceAdd, Nat.reduceSub, Nat.reduceMul, reduceCtorEq, Int.reduceBEq, Int.reduceLT, Int.reduceLE, Int.reduceAdd, Int.reduceSub, Int.reduceEq, Int.reduceNeg, Int.reduceToNat, Int.reduceGT, Int.reduceGE], rfl⟩
      simp only [go_sem, Nat.reduceLT, Nat.reduceLeDiff, Nat.reduceEqDiff, Nat.reduceAdd, Nat.reduceSub, Nat.reduceMul, reduceCtorEq, Int.reduceBEq, Int.reduceLT, Int.reduceLE, Int.reduceAdd, Int.reduceSub, Int.reduceEq, Int.reduceNeg, Int.reduceToNat, Int.reduceGT, Int.reduceGE, q4, rootX, hj, hw]
  · rintro env h' ⟨q3, q4, q5, rfl⟩
    have q5' : evT env 5 = .int .i64 (-1) := by rw [q5]; rfl
    have hr : BitVec.ofNat 32 (rootX p 35).toNat = rootN p := rfl
    simp only [go_sem, Nat.reduceLT, Nat.reduceLeDiff, Nat.reduceEqDiff, Nat.reduceAdd, Nat.reduceSub, Nat.reduceMul, reduceCtorEq, Int.reduceBEq, Int.reduceLT, Int.reduceLE, Int.reduceAdd, Int.reduceSub, Int.reduceEq, Int.reduceNeg, Int.reduceToNat, Int.reduceGT, Int.reduceGE, q3, q4, q5', cv3126, hr]
    exact congrArg some (fin_q _ _ _ rfl rfl)

/-! ### primes -/
def prime (n : Nat) : List Nat → Bool
  | [] => true
  | p :: l => if n < p * p then true else if n % p = 0 then false else prime n l
def sieve : Nat → List Nat
  | 0 => []
  | k + 1 => if prime (k + 2) (sieve k) then sieve k ++ [k + 2] else sieve k
/-- the numbers below 312 -/
def primesL : List Nat := sieve 310
def sieveT : Nat → List Nat → Nat → List (List Nat)
  | 0, _, _ => []
  | k + 1, l, n => l :: sieveT k (if prime n l then l ++ [n] else l) (n + 1)
theorem sieveT_get : ∀ (k a i : Nat), i < k → (sieveT k (sieve a) (a + 2))[i]? = some (sieve (a + i))
  | k + 1, a, 0, _ => rfl
  | k + 1, a, i + 1, h => by
    have : (sieveT (k + 1) (sieve a) (a + 2))[i + 1]? = (sieveT k (sieve (a + 1)) (a + 1 + 2))[i]? := rfl
    rw [this, sieveT_get k (a + 1) i (by omega), show a + 1 + i = a + (i + 1) by omega]
def okS (l : List Nat) : Bool := decide (l.length < 64) && l.all fun p => decide (2 ≤ p ∧ p < 400)
theorem sieve_ok : (sieveT 310 [] 2).all okS = true := by decide +kernel
theorem sieve_lt {i : Nat} (hi : i < 310) : (sieve i).length < 64 ∧ ∀ p ∈ sieve i, 2 ≤ p ∧ p < 400 := by
  have h := sieveT_get 310 0 i hi
  rw [Nat.zero_add] at h
  have := List.all_eq_true.1 sieve_ok _ (List.mem_of_getElem? h)
  unfold okS at this
  simp only [Bool.and_eq_true, decide_eq_true_eq, List.all_eq_true] at this
  rw [Nat.zero_add] at this
  exact this
theorem primesL_len : primesL.length = 64 := by decide +kernel

theorem storeA_ok (new : List CV) (b : Blk) (off : Nat) (h : off + new.length ≤ b.n) (ho : new.all CV.one = true) : ∃ b', b.storeA off new = some b' ∧ b'.n = b.n ∧ b'.ro = b.ro ∧ ∀ i, b'.get i = if off ≤ i ∧ i < off + new.length then nth new (i - off) else b.get i := by
  have : ∃ b', b.storeA off new = some b' := by
    obtain ⟨b1, e1, _⟩ := storeN_ok new b off h ho
    unfold Blk.storeA
    cases (Nat.blt 24 new.length && Nat.ble (off + new.length) b.n)
    · exact ⟨b1, e1⟩
    · rw [cond_true]
      cases b.loadF 0 b.n with
      | none => exact ⟨b1, e1⟩
      | some l => rw [ho]; exact ⟨_, rfl⟩
  obtain ⟨b', e⟩ := this
  obtain ⟨h1, h2, _, _, h5⟩ := storeA_spec e
  exact ⟨b', e, h1, h2, fun i => by rw [h5]; split <;> simp [nth_eq]⟩
theorem nlt {α : Type} {l : List α} {i : Nat} {v : α} (h : nth l i = some v) : i < l.length := by
  by_cases q : i < l.length
  · exact q
  · rw [nth_none _ _ (by omega)] at h; cases h
theorem okBL_all {n : Nat} : ∀ {l : List CV}, (∀ c ∈ l, okB n c = true) → okBL n l = true
  | [], _ => rfl
  | c :: l, h => by rw [okBL_cons, h c (by simp), okBL_all fun c hc => h c (by simp [hc])]; rfl
structure PI (h : H) (i : Nat) (env : T CV) (h' : H) : Prop where
  e0 : evT env 0 = .ptr h.nx 0
  e1 : evT env 1 = .ptr (h.nx + 1) 0
  e2 : evT env 2 = .int .i64 (Int.ofNat (sieve i).length)
  e3 : evT env 3 = w64 (BitVec.ofNat 64 (i + 2))
  nx : h'.nx = h.nx + 2
  ext : Ext h h'
  low : h'.low = h.nx
  b0 : ∃ b, h'.blk h.nx = some b ∧ b.n = 64 ∧ b.ro = false
  b1 : ∃ b, h'.blk (h.nx + 1) = some b ∧ b.n = 64 ∧ b.ro = false ∧ ∀ j p, (sieve i)[j]? = some p → b.get j = some (w64 (BitVec.ofNat 64 p))

theorem ty44 (h : H) (id off n : Nat) : sliceT Tryd.prog h 123 (.ptr id off) none (some (.int .i64 (Int.ofNat n))) none = cond (Nat.ble n 64) (some (.sl id off n (.exact 64))) none := by
  simp only [sliceT, Tryd.underlying123, Option.bind_some, sz_23, sliceExact, bnd, toN]
  simp [ble_eq']
theorem prime_c (n p : Nat) (l : List Nat) : prime n (p :: l) = if n < p * p then true else if n % p = 0 then false else prime n l := rfl

theorem primes_run (hσ : ∀ f a h, W.told f = false → σ f a h = none) (h : H) : RetQ h (.agg (primesL.map fun p => w64 (BitVec.ofNat 64 p))) ((lim Tryd.prog σ).call 83 [] h) := by
  rw [call_eq (hσ _ _ _ (by decide)) fn_83 rfl rfl, Tryd.ntmps83, Tryd.results83]
  have l0 : CV.int .u64 0 = w64 (BitVec.ofNat 64 0) := rfl
  have l1 : CV.int .u64 1 = w64 (BitVec.ofNat 64 1) := rfl
  have l2 : CV.int .u64 2 = w64 (BitVec.ofNat 64 2) := rfl
  simp only [go_sem, Nat.reduceLT, Nat.reduceLeDiff, Nat.reduceEqDiff, Nat.reduceAdd, Nat.reduceSub, Nat.reduceMul, reduceCtorEq, Int.reduceBEq, Int.reduceLT, Int.reduceLE, Int.reduceAdd, Int.reduceSub, Int.reduceEq, Int.reduceNeg, Int.reduceToNat, Int.reduceGT, Int.reduceGE, wadd32, wmul32, wadd64, wmul64, wand32, wor32, wxor32, wand64, wor64, wnot32, wsub32, wsub64, wshr32l, wshl32l, wshr64l, wshl64l, wshr32w, wshl32w, wshr64w, wlt64, wgt64, weq64, wne64, l0, l1]
  refine loop_ind (Q := RetQ h (.agg (primesL.map fun p => w64 (BitVec.ofNat 64 p)))) (PI h) 310 0 ?_ (by decide) ?_ ?_
  · refine ⟨by simp only [go_sem, Nat.reduceLT, Nat.reduceLeDiff, Nat.reduceEqDiff, Nat.reduceAdd, Nat.reduceSub, Nat.reduceMul, reduceCtorEq, Int.reduceBEq, Int.reduceLT, Int.reduceLE, Int.reduceAdd, Int.reduceSub, Int.reduceEq, Int.reduceNeg, Int.reduceToNat, Int.reduceGT, Int.reduceGE], by simp only [go_sem, Nat.reduceLT, Nat.reduceLeDiff, Nat.reduceEqDiff, Nat.reduceAdd, Nat.reduceSub, Nat.reduceMul, reduceCtorEq, Int.reduceBEq, Int.reduceLT, Int.reduceLE, Int.reduceAdd, Int.reduceSub, Int.reduceEq, Int.reduceNeg, Int.reduceToNat, Int.reduceGT, Int.reduceGE], by simp only [go_sem, Nat.reduceLT, Nat.reduceLeDiff, Nat.reduceEqDiff, Nat.reduceAdd, Nat.reduceSub, Nat.reduceMul, reduceCtorEq, Int.reduceBEq, Int.reduceLT, Int.reduceLE, Int.reduceAdd, Int.reduceSub, Int.reduceEq, Int.reduceNeg, Int.reduceToNat, Int.reduceGT, Int.reduceGE]; rfl, by simp only [go_sem, Nat.reduceLT, Nat.reduceLeDiff, Nat.reduceEqDiff, Nat.reduceAdd, Nat.reduceSub, Nat.reduceMul, reduceCtorEq, Int.reduceBEq, Int.reduceLT, Int.reduceLE, Int.reduceAdd, Int.reduceSub, Int.reduceEq, Int.reduceNeg, Int.reduceToNat, Int.reduceGT, Int.reduceGE]; rfl, by simp only [go_sem, Nat.reduceLT, Nat.reduceLeDiff, Nat.reduceEqDiff, Nat.reduceAdd, Nat.reduceSub, Nat.reduceMul, reduceCtorEq, Int.reduceBEq, Int.reduceLT, Int.reduceLE, Int.reduceAdd, Int.reduceSub, Int.reduceEq, Int.reduceNeg, Int.reduceToNat, Int.reduceGT, Int.reduceGE], ((Ext.lo h).alloc' _).alloc' _, by simp only [go_sem, Nat.reduceLT, Nat.reduceLeDiff, Nat.reduceEqDiff, Nat.reduceAdd, Nat.reduceSub, Nat.reduceMul, reduceCtorEq, Int.reduceBEq, Int.reduceLT, Int.reduceLE, Int.reduceAdd, Int.reduceSub, Int.reduceEq, Int.reduceNeg, Int.reduceToNat, Int.reduceGT, Int.reduceGE], ⟨_, by simp only [go_sem, Nat.reduceLT, Nat.reduceLeDiff, Nat.reduceEqDiff, Nat.reduceAdd, Nat.reduceSub, Nat.reduceMul, reduceCtorEq, Int.reduceBEq, Int.reduceLT, Int.reduceLE, Int.reduceAdd, Int.reduceSub, Int.reduceEq, Int.reduceNeg, Int.reduceToNat, Int.reduceGT, Int.reduceGE]; rfl, wnewBlk_n _, newBlk_ro _⟩, ⟨_, by simp only [go_sem, Nat.reduceLT, Nat.reduceLeDiff, Nat.reduceEqDiff, Nat.reduceAdd, Nat.reduceSub, Nat.reduceMul, reduceCtorEq, Int.reduceBEq, Int.reduceLT, Int.reduceLE, Int.reduceAdd, Int.reduceSub, Int.reduceEq, Int.reduceNeg, Int.reduceToNat, Int.reduceGT, Int.reduceGE]; rfl, wnewBlk_n _, newBlk_ro _, fun j p hj => by simp [sieve] at hj⟩⟩
  · rintro i env h' I hi next
    obtain ⟨hlen, hall⟩ := sieve_lt hi
    have c0 : Int.ofNat (sieve i).length < 64 := by simp; omega
    have c1 : (sieve i).length ≤ 64 := by omega
    have hw : ∀ p, p < 400 → (BitVec.ofNat 64 p).toNat = p := fun p hp => by simp; omega
    -- behind the inner loop
    simp only [go_sem, Nat.reduceLT, Nat.reduceLeDiff, Nat.reduceEqDiff, Nat.reduceAdd, Nat.reduceSub, Nat.reduceMul, reduceCtorEq, Int.reduceBEq, Int.reduceLT, Int.reduceLE, Int.reduceAdd, Int.reduceSub, Int.reduceEq, Int.reduceNeg, Int.reduceToNat, Int.reduceGT, Int.reduceGE, wadd32, wmul32, wadd64, wmul64, wand32, wor32, wxor32, wand64, wor64, wnot32, wsub32, wsub64, wshr32l, wshl32l, wshr64l, wshl64l, wshr32w, wshl32w, wshr64w, wlt64, wgt64, weq64, wne64, l0, l1, I.e0, I.e1, I.e2, I.e3, c0, ty44, c1]
    obtain ⟨b0, hb0, hn0, hr0⟩ := I.b0
    obtain ⟨b1, hb1, hn1, hr1, hg1⟩ := I.b1
    have hwi : (BitVec.ofNat 64 (i + 2)).toNat = i + 2 := by simp; omega
    have hadd : BitVec.ofNat 64 (i + 2) + BitVec.ofNat 64 1 = BitVec.ofNat 64 (i + 1 + 2) := by
      apply BitVec.eq_of_toNat_eq; simp
    -- what is left of the outer round
    have tail : ∀ (env' : T CV), evT env' 0 = .ptr h.nx 0 → evT env' 1 = .ptr (h.nx + 1) 0 → evT env' 2 = .int .i64 (Int.ofNat (sieve i).length) → evT env' 3 = w64 (BitVec.ofNat 64 (i + 3)) → prime (i + 2) (sieve i) = false → PI h (i + 1) env' h' := by
      intro env' a0 a1 a2 a3 hp
      have hs : sieve (i + 1) = sieve i := by simp [sieve, hp]
      exact ⟨a0, a1, by rw [hs]; exact a2, a3, I.nx, I.ext, I.low, I.b0, by rw [hs]; exact I.b1⟩
    have tail2 : ∀ (env' : T CV) (o : CObj), o = .cells (b1.st (sieve i).length (w64 (BitVec.ofNat 64 (i + 2)))) → evT env' 0 = .ptr h.nx 0 → evT env' 1 = .ptr (h.nx + 1) 0 → evT env' 2 = .int .i64 (Int.ofNat ((sieve i).length + 1)) → evT env' 3 = w64 (BitVec.ofNat 64 (i + 3)) → prime (i + 2) (sieve i) = true → PI h (i + 1) env' (h'.put (h.nx + 1) o) := by
      intro env' o ho a0 a1 a2 a3 hp
      subst ho
      have hs : sieve (i + 1) = sieve i ++ [i + 2] := by simp [sieve, hp]
      refine ⟨a0, a1, by rw [hs, List.length_append]; exact a2, a3, I.nx, I.ext.put _ (by omega), by simp only [go_sem, Nat.reduceLT, Nat.reduceLeDiff, Nat.reduceEqDiff, Nat.reduceAdd, Nat.reduceSub, Nat.reduceMul, reduceCtorEq, Int.reduceBEq, Int.reduceLT, Int.reduceLE, Int.reduceAdd, Int.reduceSub, Int.reduceEq, Int.reduceNeg, Int.reduceToNat, Int.reduceGT, Int.reduceGE, I.low]; omega, ⟨b0, ?_, hn0, hr0⟩, ⟨_, put_blk_same _ _ _, by rw [st_n]; exact hn1, by rw [st_ro]; exact hr1, fun j p hj => ?_⟩⟩
      · rw [put_blk_ne _ _ _ _ (by omega)]; exact hb0
      · rw [hs, List.getElem?_append] at hj
        split at hj
        · rename_i hlt
          rw [st_get_ne _ _ _ _ (by omega)]; exact hg1 j p hj
        · have : j = (sieve i).length := by
            have := (List.getElem?_eq_some_iff.1 hj).1
            simp at this; omega
          subst this
          simp at hj
          subst hj
          rw [st_get_same _ _ _ (by omega)]
    have hl1 : (sieve i).length < 64 := hlen
    have hsucc : IntKind.wrap .i64 (Int.ofNat (sieve i).length + 1) = Int.ofNat ((sieve i).length + 1) := wrap_succ (by omega)
    refine loop_ind (Q := RetQ h (.agg (primesL.map fun p => w64 (BitVec.ofNat 64 p)))) (fun k env' h'' => h'' = h' ∧ evT env' 0 = .ptr h.nx 0 ∧ evT env' 1 = .ptr (h.nx + 1) 0 ∧ evT env' 2 = .int .i64 (Int.ofNat (sieve i).length) ∧ evT env' 3 = w64 (BitVec.ofNat 64 (i + 2)) ∧
      evT env' 4 = .bool true ∧ evT env' 12 = .sl (h.nx + 1) 0 (sieve i).length (.exact 64) ∧ evT env' 13 = .int .i64 (Int.ofNat (sieve i).length) ∧ evT env' 14 = .int .i64 (Int.ofNat k) ∧ prime (i + 2) (sieve i) = prime (i + 2) ((sieve i).drop k)) (sieve i).length 0 ?_ (Nat.zero_le _) ?_ ?_
    · exact ⟨rfl, by simp only [go_sem, Nat.reduceLT, Nat.reduceLeDiff, Nat.reduceEqDiff, Nat.reduceAdd, Nat.reduceSub, Nat.reduceMul, reduceCtorEq, Int.reduceBEq, Int.reduceLT, Int.reduceLE, Int.reduceAdd, Int.reduceSub, Int.reduceEq, Int.reduceNeg, Int.reduceToNat, Int.reduceGT, Int.reduceGE, I.e0], by simp only [go_sem, Nat.reduceLT, Nat.reduceLeDiff, Nat.reduceEqDiff, Nat.reduceAdd, Nat.reduceSub, Nat.reduceMul, reduceCtorEq, Int.reduceBEq, Int.reduceLT, Int.reduceLE, Int.reduceAdd, Int.reduceSub, Int.reduceEq, Int.reduceNeg, Int.reduceToNat, Int.reduceGT, Int.reduceGE, I.e1], by simp only [go_sem, Nat.reduceLT, Nat.reduceLeDiff, Nat.reduceEqDiff, Nat.reduceAdd, Nat.reduceSub, Nat.reduceMul, reduceCtorEq, Int.reduceBEq, Int.reduceLT, Int.reduceLE, Int.reduceAdd, Int.reduceSub, Int.reduceEq, Int.reduceNeg, Int.reduceToNat, Int.reduceGT, Int.reduceGE, I.e2], by simp only [go_sem, Nat.reduceLT, Nat.reduceLeDiff, Nat.reduceEqDiff, Nat.reduceAdd, Nat.reduceSub, Nat.reduceMul, reduceCtorEq, Int.reduceBEq, Int.reduceLT, Int.reduceLE, Int.reduceAdd, Int.reduceSub, Int.reduceEq, Int.reduceNeg, Int.reduceToNat, Int.reduceGT, Int.reduceGE, I.e3], by simp only [go_sem, Nat.reduceLT, Nat.reduceLeDiff, Nat.reduceEqDiff, Nat.reduceAdd, Nat.reduceSub, Nat.reduceMul, reduceCtorEq, Int.reduceBEq, Int.reduceLT, Int.reduceLE, Int.reduceAdd, Int.reduceSub, Int.reduceEq, Int.reduceNeg, Int.reduceToNat, Int.reduceGT, Int.reduceGE], by simp only [go_sem, Nat.reduceLT, Nat.reduceLeDiff, Nat.reduceEqDiff, Nat.reduceAdd, Nat.reduceSub, Nat.reduceMul, reduceCtorEq, Int.reduceBEq, Int.reduceLT, Int.reduceLE, Int.reduceAdd, Int.reduceSub, Int.reduceEq, Int.reduceNeg, Int.reduceToNat, Int.reduceGT, Int.reduceGE], by simp only [go_sem, Nat.reduceLT, Nat.reduceLeDiff, Nat.reduceEqDiff, Nat.reduceAdd, Nat.reduceSub, Nat.reduceMul, reduceCtorEq, Int.reduceBEq, Int.reduceLT, Int.reduceLE, Int.reduceAdd, Int.reduceSub, Int.reduceEq, Int.reduceNeg, Int.reduceToNat, Int.reduceGT, Int.reduceGE], by simp only [go_sem, Nat.reduceLT, Nat.reduceLeDiff, Nat.reduceEqDiff, Nat.reduceAdd, Nat.reduceSub, Nat.reduceMul, reduceCtorEq, Int.reduceBEq, Int.reduceLT, Int.reduceLE, Int.reduceAdd, Int.reduceSub, Int.reduceEq, Int.reduceNeg, Int.reduceToNat, Int.reduceGT, Int.reduceGE]; rfl, rfl⟩
    · rintro k env' h'' ⟨rfl, a0, a1, a2, a3, a4, a12, a13, a14, hpr⟩ hk next2
      have hk2 := ofNat_lt hk
      obtain ⟨p, hp⟩ : ∃ p, (sieve i)[k]? = some p := ⟨_, List.getElem?_eq_getElem hk⟩
      have hgk := hg1 k p hp
      obtain ⟨hp2, hp4⟩ := hall p (List.mem_of_getElem? hp)
      have hdrop : (sieve i).drop k = p :: (sieve i).drop (k + 1) := by
        rw [List.drop_eq_getElem_cons hk]; congr 1
        exact (List.getElem?_eq_some_iff.1 hp).2
      rw [hdrop, prime_c] at hpr
      have hmul : (BitVec.ofNat 64 p * BitVec.ofNat 64 p).toNat = p * p := by
        have : p * p < 400 * 400 := Nat.mul_lt_mul'' hp4 hp4
        simp only [BitVec.toNat_mul, BitVec.toNat_ofNat]
        rw [Nat.mod_eq_of_lt (a := p) (by omega), Nat.mod_eq_of_lt (by omega)]
      have hrem : ∀ t xo yo, binT Tryd.prog .rem t xo yo (w64 (BitVec.ofNat 64 (i + 2))) (w64 (BitVec.ofNat 64 p)) = some (w64 (BitVec.ofNat 64 (i + 2) % BitVec.ofNat 64 p)) := fun t xo yo => wrem64 t xo yo (by simp; omega)
      have hrem2 : BitVec.ofNat 64 (i + 2) % BitVec.ofNat 64 p = BitVec.ofNat 64 0 ↔ (i + 2) % p = 0 := by
        rw [← BitVec.toNat_inj, BitVec.toNat_umod, hwi, BitVec.toNat_ofNat, BitVec.toNat_ofNat, Nat.mod_eq_of_lt (a := p) (by omega)]
      have hks := wrap_succ (i := k) (by omega)
      by_cases c2 : i + 2 < p * p
      · rw [if_pos c2] at hpr
        simp only [go_sem, Nat.reduceLT, Nat.reduceLeDiff, Nat.reduceEqDiff, Nat.reduceAdd, Nat.reduceSub, Nat.reduceMul, reduceCtorEq, Int.reduceBEq, Int.reduceLT, Int.reduceLE, Int.reduceAdd, Int.reduceSub, Int.reduceEq, Int.reduceNeg, Int.reduceToNat, Int.reduceGT, Int.reduceGE, wadd32, wmul32, wadd64, wmul64, wand32, wor32, wxor32, wand64, wor64, wnot32, wsub32, wsub64, wshr32l, wshl32l, wshr64l, wshl64l, wshr32w, wshl32w, wshr64w, wlt64, wgt64, weq64, wne64, l0, l1, a0, a1, a2, a3, a4, a12, a13, a14, hk2, hk, hb1, Nat.mul_one, Nat.zero_add, hgk, hmul, hwi, c2, hsucc, hl1, hr1, hn1, hadd]
        refine next _ _ (tail2 _ _ rfl ?_ ?_ ?_ ?_ hpr)
        · simp only [go_sem, Nat.reduceLT, Nat.reduceLeDiff, Nat.reduceEqDiff, Nat.reduceAdd, Nat.reduceSub, Nat.reduceMul, reduceCtorEq, Int.reduceBEq, Int.reduceLT, Int.reduceLE, Int.reduceAdd, Int.reduceSub, Int.reduceEq, Int.reduceNeg, Int.reduceToNat, Int.reduceGT, Int.reduceGE, a0]
        · simp only [go_sem, Nat.reduceLT, Nat.reduceLeDiff, Nat.reduceEqDiff, Nat.reduceAdd, Nat.reduceSub, Nat.reduceMul, reduceCtorEq, Int.reduceBEq, Int.reduceLT, Int.reduceLE, Int.reduceAdd, Int.reduceSub, Int.reduceEq, Int.reduceNeg, Int.reduceToNat, Int.reduceGT, Int.reduceGE, a1]
        · simp only [go_sem, Nat.reduceLT, Nat.reduceLeDiff, Nat.reduceEqDiff, Nat.reduceAdd, Nat.reduceSub, Nat.reduceMul, reduceCtorEq, Int.reduceBEq, Int.reduceLT, Int.reduceLE, Int.reduceAdd, Int.reduceSub, Int.reduceEq, Int.reduceNeg, Int.reduceToNat, Int.reduceGT, Int.reduceGE]
        · simp only [go_sem, Nat.reduceLT, Nat.reduceLeDiff, Nat.reduceEqDiff, Nat.reduceAdd, Nat.reduceSub, Nat.reduceMul, reduceCtorEq, Int.reduceBEq, Int.reduceLT, Int.reduceLE, Int.reduceAdd, Int.reduceSub, Int.reduceEq, Int.reduceNeg, Int.reduceToNat, Int.reduceGT, Int.reduceGE]
      · rw [if_neg c2] at hpr
        by_cases c4 : (i + 2) % p = 0
        · rw [if_pos c4] at hpr
          have c5 := hrem2.2 c4
          simp only [go_sem, Nat.reduceLT, Nat.reduceLeDiff, Nat.reduceEqDiff, Nat.reduceAdd, Nat.reduceSub, Nat.reduceMul, reduceCtorEq, Int.reduceBEq, Int.reduceLT, Int.reduceLE, Int.reduceAdd, Int.reduceSub, Int.reduceEq, Int.reduceNeg, Int.reduceToNat, Int.reduceGT, Int.reduceGE, wadd32, wmul32, wadd64, wmul64, wand32, wor32, wxor32, wand64, wor64, wnot32, wsub32, wsub64, wshr32l, wshl32l, wshr64l, wshl64l, wshr32w, wshl32w, wshr64w, wlt64, wgt64, weq64, wne64, l0, l1, a0, a1, a2, a3, a4, a12, a13, a14, hk2, hk, hb1, Nat.mul_one, Nat.zero_add, hgk, hmul, hwi, c2, hrem, c5, hadd]
          refine next _ _ (tail _ ?_ ?_ ?_ ?_ hpr)
          · simp only [go_sem, Nat.reduceLT, Nat.reduceLeDiff, Nat.reduceEqDiff, Nat.reduceAdd, Nat.reduceSub, Nat.reduceMul, reduceCtorEq, Int.reduceBEq, Int.reduceLT, Int.reduceLE, Int.reduceAdd, Int.reduceSub, Int.reduceEq, Int.reduceNeg, Int.reduceToNat, Int.reduceGT, Int.reduceGE, a0]
          · simp only [go_sem, Nat.reduceLT, Nat.reduceLeDiff, Nat.reduceEqDiff, Nat.reduceAdd, Nat.reduceSub, Nat.reduceMul, reduceCtorEq, Int.reduceBEq, Int.reduceLT, Int.reduceLE, Int.reduceAdd, Int.reduceSub, Int.reduceEq, Int.reduceNeg, Int.reduceToNat, Int.reduceGT, Int.reduceGE, a1]
          · simp only [go_sem, Nat.reduceLT, Nat.reduceLeDiff, Nat.reduceEqDiff, Nat.reduceAdd, Nat.reduceSub, Nat.reduceMul, reduceCtorEq, Int.reduceBEq, Int.reduceLT, Int.reduceLE, Int.reduceAdd, Int.reduceSub, Int.reduceEq, Int.reduceNeg, Int.reduceToNat, Int.reduceGT, Int.reduceGE, a2]
          · simp only [go_sem, Nat.reduceLT, Nat.reduceLeDiff, Nat.reduceEqDiff, Nat.reduceAdd, Nat.reduceSub, Nat.reduceMul, reduceCtorEq, Int.reduceBEq, Int.reduceLT, Int.reduceLE, Int.reduceAdd, Int.reduceSub, Int.reduceEq, Int.reduceNeg, Int.reduceToNat, Int.reduceGT, Int.reduceGE]
        · rw [if_neg c4] at hpr
          have c5 : ¬ BitVec.ofNat 64 (i + 2) % BitVec.ofNat 64 p = BitVec.ofNat 64 0 := fun q => c4 (hrem2.1 q)
          simp only [go_sem, Nat.reduceLT, Nat.reduceLeDiff, Nat.reduceEqDiff, Nat.reduceAdd, Nat.reduceSub, Nat.reduceMul, reduceCtorEq, Int.reduceBEq, Int.reduceLT, Int.reduceLE, Int.reduceAdd, Int.reduceSub, Int.reduceEq, Int.reduceNeg, Int.reduceToNat, Int.reduceGT, Int.reduceGE, wadd32, wmul32, wadd64, wmul64, wand32, wor32, wxor32, wand64, wor64, wnot32, wsub32, wsub64, wshr32l, wshl32l, wshr64l, wshl64l, wshr32w, wshl32w, wshr64w, wlt64, wgt64, weq64, wne64, l0, l1, a0, a1, a2, a3, a4, a12, a13, a14, hk2, hk, hb1, Nat.mul_one, Nat.zero_add, hgk, hmul, hwi, c2, hrem, c5, hks]
          exact next2 _ _ ⟨rfl, by simp only [go_sem, Nat.reduceLT, Nat.reduceLeDiff, Nat.reduceEqDiff, Nat.reduceAdd, Nat.reduceSub, Nat.reduceMul, reduceCtorEq, Int.reduceBEq, Int.reduceLT, Int.reduceLE, Int.reduceAdd, Int.reduceSub, Int.reduceEq, Int.reduceNeg, Int.reduceToNat, Int.reduceGT, Int.reduceGE, a0], by simp only [go_sem, Nat.reduceLT, Nat.reduceLeDiff, Nat.reduceEqDiff, Nat.reduceAdd, Nat.reduceSub, Nat.reduceMul, reduceCtorEq, Int.reduceBEq, Int.reduceLT, Int.reduceLE, Int.reduceAdd, Int.reduceSub, Int.reduceEq, Int.reduceNeg, Int.reduceToNat, Int.reduceGT, Int.reduceGE, a1], by simp only [go_sem, Nat.reduceLT, Nat.reduceLeDiff, Nat.reduceEqDiff, Nat.reduceAdd, Nat.reduceSub, Nat.reduceMul, reduceCtorEq, Int.reduceBEq, Int.reduceLT, Int.reduceLE, Int.reduceAdd, Int.reduceSub, Int.reduceEq, Int.reduceNeg, Int.reduceToNat, Int.reduceGT, Int.reduceGE, a2], by simp only [go_sem, Nat.reduceLT, Nat.reduceLeDiff, Nat.reduceEqDiff, Nat.reduceAdd, Nat.reduceSub, Nat.reduceMul, reduceCtorEq, Int.reduceBEq, Int.reduceLT, Int.reduceLE, Int.reduceAdd, Int.reduceSub, Int.reduceEq, Int.reduceNeg, Int.reduceToNat, Int.reduceGT, Int.reduceGE, a3], by simp only [go_sem, Nat.reduceLT, Nat.reduceLeDiff, Nat.reduceEqDiff, Nat.reduceAdd, Nat.reduceSub, Nat.reduceMul, reduceCtorEq, Int.reduceBEq, Int.reduceLT, Int.reduceLE, Int.reduceAdd, Int.reduceSub, Int.reduceEq, Int.reduceNeg, Int.reduceToNat, Int.reduceGT, Int.reduceGE, a4], by simp only [go_sem, Nat.reduceLT, Nat.reduceLeDiff, Nat.reduceEqDiff, Nat.reduceAdd, Nat.reduceSub, Nat.reduceMul, reduceCtorEq, Int.reduceBEq, Int.reduceLT, Int.reduceLE, Int.reduceAdd, Int.reduceSub, Int.reduceEq, Int.reduceNeg, Int.reduceToNat, Int.reduceGT, Int.reduceGE, a12], by simp only [go_sem, Nat.reduceLT, Nat.reduceLeDiff, Nat.reduceEqDiff, Nat.reduceAdd, Nat.reduceSub, Nat.reduceMul, reduceCtorEq, Int.reduceBEq, Int.reduceLT, Int.reduceLE, Int.reduceAdd, Int.reduceSub, Int.reduceEq, Int.reduceNeg, Int.reduceToNat, Int.reduceGT, Int.reduceGE, a13], by simp only [go_sem, Nat.reduceLT, Nat.reduceLeDiff, Nat.reduceEqDiff, Nat.reduceAdd, Nat.reduceSub, Nat.reduceMul, reduceCtorEq, Int.reduceBEq, Int.reduceLT, Int.reduceLE, Int.reduceAdd, Int.reduceSub, Int.reduceEq, Int.reduceNeg, Int.reduceToNat, Int.reduceGT, Int.reduceGE], hpr⟩
    · rintro env' h'' ⟨rfl, a0, a1, a2, a3, a4, a12, a13, a14, hpr⟩
      rw [List.drop_length] at hpr
      have hpr : prime (i + 2) (sieve i) = true := hpr
      have hk2 := ofNat_nlt (Nat.le_refl (sieve i).length)
      simp only [go_sem, Nat.reduceLT, Nat.reduceLeDiff, Nat.reduceEqDiff, Nat.reduceAdd, Nat.reduceSub, Nat.reduceMul, reduceCtorEq, Int.reduceBEq, Int.reduceLT, Int.reduceLE, Int.reduceAdd, Int.reduceSub, Int.reduceEq, Int.reduceNeg, Int.reduceToNat, Int.reduceGT, Int.reduceGE, wadd32, wmul32, wadd64, wmul64, wand32, wor32, wxor32, wand64, wor64, wnot32, wsub32, wsub64, wshr32l, wshl32l, wshr64l, wshl64l, wshr32w, wshl32w, wshr64w, wlt64, wgt64, weq64, wne64, l0, l1, a0, a1, a2, a3, a4, a12, a13, a14, hk2, hb1, Nat.mul_one, Nat.zero_add, hwi, hsucc, hl1, hr1, hn1, hadd]
      refine next _ _ (tail2 _ _ rfl ?_ ?_ ?_ ?_ hpr)
      · simp only [go_sem, Nat.reduceLT, Nat.reduceLeDiff, Nat.reduceEqDiff, Nat.reduceAdd, Nat.reduceSub, Nat.reduceMul, reduceCtorEq, Int.reduceBEq, Int.reduceLT, Int.reduceLE, Int.reduceAdd, Int.reduceSub, Int.reduceEq, Int.reduceNeg, Int.reduceToNat, Int.reduceGT, Int.reduceGE, a0]
      · simp only [go_sem, Nat.reduceLT, Nat.reduceLeDiff, Nat.reduceEqDiff, Nat.reduceAdd, Nat.reduceSub, Nat.reduceMul, reduceCtorEq, Int.reduceBEq, Int.reduceLT, Int.reduceLE, Int.reduceAdd, Int.reduceSub, Int.reduceEq, Int.reduceNeg, Int.reduceToNat, Int.reduceGT, Int.reduceGE, a1]
      · simp only [go_sem, Nat.reduceLT, Nat.reduceLeDiff, Nat.reduceEqDiff, Nat.reduceAdd, Nat.reduceSub, Nat.reduceMul, reduceCtorEq, Int.reduceBEq, Int.reduceLT, Int.reduceLE, Int.reduceAdd, Int.reduceSub, Int.reduceEq, Int.reduceNeg, Int.reduceToNat, Int.reduceGT, Int.reduceGE]
      · simp only [go_sem, Nat.reduceLT, Nat.reduceLeDiff, Nat.reduceEqDiff, Nat.reduceAdd, Nat.reduceSub, Nat.reduceMul, reduceCtorEq, Int.reduceBEq, Int.reduceLT, Int.reduceLE, Int.reduceAdd, Int.reduceSub, Int.reduceEq, Int.reduceNeg, Int.reduceToNat, Int.reduceGT, Int.reduceGE]
  · rintro env h' I
    have c0 : ¬ Int.ofNat (sieve 310).length < 64 := by rw [show sieve 310 = primesL from rfl, primesL_len]; decide
    obtain ⟨b0, hb0, hn0, hr0⟩ := I.b0
    obtain ⟨b1, hb1, hn1, hr1, hg1⟩ := I.b1
    have hld : b1.loadN 0 64 = some (primesL.map fun p => w64 (BitVec.ofNat 64 p)) := loadN_of _ _ _ (by rw [List.length_map]; exact primesL_len) fun i v hv => by
      rw [nth_eq, List.getElem?_map] at hv
      obtain ⟨p, hp, rfl⟩ := Option.map_eq_some_iff.1 hv
      rw [Nat.zero_add]; exact hg1 i p hp
    obtain ⟨b2, e2, hn2, hr2, hg2⟩ := storeA_ok (primesL.map fun p => w64 (BitVec.ofNat 64 p)) b0 0 (by rw [List.length_map, primesL_len, hn0]; decide) (List.all_eq_true.2 fun c hc => by obtain ⟨p, _, rfl⟩ := List.mem_map.1 hc; rfl)
    have hlen : (primesL.map fun p => w64 (BitVec.ofNat 64 p)).length = 64 := by rw [List.length_map]; exact primesL_len
    have hld2 : b2.loadN 0 64 = some (primesL.map fun p => w64 (BitVec.ofNat 64 p)) := loadN_of _ _ _ hlen fun i v hv => by
      rw [hg2, if_pos (by have := nlt hv; omega), ← hv, Nat.zero_add]; rfl
    simp only [go_sem, Nat.reduceLT, Nat.reduceLeDiff, Nat.reduceEqDiff, Nat.reduceAdd, Nat.reduceSub, Nat.reduceMul, reduceCtorEq, Int.reduceBEq, Int.reduceLT, Int.reduceLE, Int.reduceAdd, Int.reduceSub, Int.reduceEq, Int.reduceNeg, Int.reduceToNat, Int.reduceGT, Int.reduceGE, wadd32, wmul32, wadd64, wmul64, wand32, wor32, wxor32, wand64, wor64, wnot32, wsub32, wsub64, wshr32l, wshl32l, wshr64l, wshl64l, wshr32w, wshl32w, wshr64w, wlt64, wgt64, weq64, wne64, l0, l1, I.e0, I.e1, I.e2, I.e3, c0, hb0, hb1, hld, hr0, hlen, e2, hld2]
    exact congrArg some (fin_q _ _ _ (by simp only [go_sem, Nat.reduceLT, Nat.reduceLeDiff, Nat.reduceEqDiff, Nat.reduceAdd, Nat.reduceSub, Nat.reduceMul, reduceCtorEq, Int.reduceBEq, Int.reduceLT, Int.reduceLE, Int.reduceAdd, Int.reduceSub, Int.reduceEq, Int.reduceNeg, Int.reduceToNat, Int.reduceGT, Int.reduceGE, I.low]; omega) (by rw [okB_agg]; exact okBL_all fun c hc => by obtain ⟨p, _, rfl⟩ := List.mem_map.1 hc; rfl))
end Go.Cl.Sh

namespace Go.Cl.Sh
variable {σ : Sums}
set_option maxRecDepth 1000000

def KL : List (BitVec 32) := primesL.map fun p => rootN (BitVec.ofNat 64 p)
theorem KL_len : KL.length = 64 := by unfold KL; rw [List.length_map]; exact primesL_len
theorem okB_ws (n : Nat) (l : List (BitVec 32)) : okB n (.agg (l.map w32)) = true := by
  rw [okB_agg]; exact okBL_all fun c hc => by obtain ⟨p, _, rfl⟩ := List.mem_map.1 hc; rfl
theorem one_ws (l : List (BitVec 32)) : (l.map w32).all CV.one = true := List.all_eq_true.2 fun c hc => by obtain ⟨p, _, rfl⟩ := List.mem_map.1 hc; rfl

theorem store_step {β : Type} {Q : Option β → Prop} {b : Blk} {L : List CV} {K : H → Option β} {f : Blk → H} (hl : L.length = b.n) (ho : L.all CV.one = true) 
    (k : ∀ b', b'.n = b.n → b'.ro = b.ro → b'.loadN 0 b.n = some L → (∀ i, b'.get i = nth L i) → Q (K (f b'))) : Q (@thn _ β (Option.map f (b.storeA 0 L)) ⟨K⟩) := by
  obtain ⟨b', e, h1, h2, h3⟩ := storeA_ok L b 0 (by omega) ho
  rw [e]
  have hg : ∀ i, b'.get i = nth L i := fun i => by
    rw [h3, Nat.zero_add]
    by_cases h : i < L.length
    · rw [if_pos ⟨Nat.zero_le _, h⟩]; rfl
    · rw [if_neg (fun q => h q.2), nth_none _ _ (by omega)]; exact get_none (by omega)
  exact k b' h1 h2 (loadN_of _ _ _ hl fun i v hv => by rw [Nat.zero_add, hg, hv]) hg

structure KI (h : H) (i : Nat) (env : T CV) (h' : H) : Prop where
  e0 : evT env 0 = .ptr h.nx 0
  e1 : evT env 1 = .ptr (h.nx + 1) 0
  e4 : evT env 4 = .agg (primesL.map fun p => w64 (BitVec.ofNat 64 p))
  e5 : evT env 5 = .int .i64 (Int.ofNat i)
  nx : h'.nx = h.nx + 2
  ext : Ext h h'
  low : h'.low = h.nx
  b0 : ∃ b, h'.blk h.nx = some b ∧ b.n = 64 ∧ b.ro = false
  b1 : ∃ b, h'.blk (h.nx + 1) = some b ∧ b.n = 64 ∧ b.ro = false ∧ ∀ j, j < i → b.get j = (KL[j]?).map w32

theorem constants_run (hσ : ∀ f a h, W.told f = false → σ f a h = none) (h : H) : RetQ h (.agg (KL.map w32)) ((lim Tryd.prog σ).call 66 [] h) := by
  rw [call_eq (hσ _ _ _ (by decide)) fn_66 rfl rfl, Tryd.ntmps66, Tryd.results66]
  have hp : ∀ h, (lim Tryd.prog σ).call 83 [] h = some (.agg (primesL.map fun p => w64 (BitVec.ofNat 64 p)), none) := fun h => primes_run hσ h
  simp only [go_sem, Nat.reduceLT, Nat.reduceLeDiff, Nat.reduceEqDiff, Nat.reduceAdd, Nat.reduceSub, Nat.reduceMul, reduceCtorEq, Int.reduceBEq, Int.reduceLT, Int.reduceLE, Int.reduceAdd, Int.reduceSub, Int.reduceEq, Int.reduceNeg, Int.reduceToNat, Int.reduceGT, Int.reduceGE, wadd32, wmul32, wadd64, wmul64, wand32, wor32, wxor32, wand64, wor64, wnot32, wsub32, wsub64, wshr32l, wshl32l, wshr64l, wshl64l, wshr32w, wshl32w, wshr64w, wlt64, wgt64, weq64, wne64, hp]
  refine loop_ind (Q := RetQ h (.agg (KL.map w32))) (KI h) 64 0 ?_ (by decide) ?_ ?_
  · exact ⟨by simp only [go_sem, Nat.reduceLT, Nat.reduceLeDiff, Nat.reduceEqDiff, Nat.reduceAdd, Nat.reduceSub, Nat.reduceMul, reduceCtorEq, Int.reduceBEq, Int.reduceLT, Int.reduceLE, Int.reduceAdd, Int.reduceSub, Int.reduceEq, Int.reduceNeg, Int.reduceToNat, Int.reduceGT, Int.reduceGE], by simp only [go_sem, Nat.reduceLT, Nat.reduceLeDiff, Nat.reduceEqDiff, Nat.reduceAdd, Nat.reduceSub, Nat.reduceMul, reduceCtorEq, Int.reduceBEq, Int.reduceLT, Int.reduceLE, Int.reduceAdd, Int.reduceSub, Int.reduceEq, Int.reduceNeg, Int.reduceToNat, Int.reduceGT, Int.reduceGE], by simp only [go_sem, Nat.reduceLT, Nat.reduceLeDiff, Nat.reduceEqDiff, Nat.reduceAdd, Nat.reduceSub, Nat.reduceMul, reduceCtorEq, Int.reduceBEq, Int.reduceLT, Int.reduceLE, Int.reduceAdd, Int.reduceSub, Int.reduceEq, Int.reduceNeg, Int.reduceToNat, Int.reduceGT, Int.reduceGE], by simp only [go_sem, Nat.reduceLT, Nat.reduceLeDiff, Nat.reduceEqDiff, Nat.reduceAdd, Nat.reduceSub, Nat.reduceMul, reduceCtorEq, Int.reduceBEq, Int.reduceLT, Int.reduceLE, Int.reduceAdd, Int.reduceSub, Int.reduceEq, Int.reduceNeg, Int.reduceToNat, Int.reduceGT, Int.reduceGE]; rfl, by simp only [go_sem, Nat.reduceLT, Nat.reduceLeDiff, Nat.reduceEqDiff, Nat.reduceAdd, Nat.reduceSub, Nat.reduceMul, reduceCtorEq, Int.reduceBEq, Int.reduceLT, Int.reduceLE, Int.reduceAdd, Int.reduceSub, Int.reduceEq, Int.reduceNeg, Int.reduceToNat, Int.reduceGT, Int.reduceGE], ((Ext.lo h).alloc' _).alloc' _, by simp only [go_sem, Nat.reduceLT, Nat.reduceLeDiff, Nat.reduceEqDiff, Nat.reduceAdd, Nat.reduceSub, Nat.reduceMul, reduceCtorEq, Int.reduceBEq, Int.reduceLT, Int.reduceLE, Int.reduceAdd, Int.reduceSub, Int.reduceEq, Int.reduceNeg, Int.reduceToNat, Int.reduceGT, Int.reduceGE], ⟨_, by simp only [go_sem, Nat.reduceLT, Nat.reduceLeDiff, Nat.reduceEqDiff, Nat.reduceAdd, Nat.reduceSub, Nat.reduceMul, reduceCtorEq, Int.reduceBEq, Int.reduceLT, Int.reduceLE, Int.reduceAdd, Int.reduceSub, Int.reduceEq, Int.reduceNeg, Int.reduceToNat, Int.reduceGT, Int.reduceGE]; rfl, wnewBlk_n _, newBlk_ro _⟩, ⟨_, by simp only [go_sem, Nat.reduceLT, Nat.reduceLeDiff, Nat.reduceEqDiff, Nat.reduceAdd, Nat.reduceSub, Nat.reduceMul, reduceCtorEq, Int.reduceBEq, Int.reduceLT, Int.reduceLE, Int.reduceAdd, Int.reduceSub, Int.reduceEq, Int.reduceNeg, Int.reduceToNat, Int.reduceGT, Int.reduceGE]; rfl, wnewBlk_n _, newBlk_ro _, fun j hj => absurd hj (Nat.not_lt_zero _)⟩⟩
  · rintro i env h' I hi next
    obtain ⟨b0, hb0, hn0, hr0⟩ := I.b0
    obtain ⟨b1, hb1, hn1, hr1, hg1⟩ := I.b1
    have c0 : Int.ofNat i < 64 := by simp; omega
    obtain ⟨p, hpp⟩ : ∃ p, primesL[i]? = some p := ⟨_, List.getElem?_eq_getElem (by rw [primesL_len]; exact hi)⟩
    have hnp : nth (primesL.map fun p => w64 (BitVec.ofNat 64 p)) i = some (w64 (BitVec.ofNat 64 p)) := by rw [nth_eq, List.getElem?_map, hpp]; rfl
    have hK : KL[i]? = some (rootN (BitVec.ofNat 64 p)) := by unfold KL; rw [List.getElem?_map, hpp]; rfl
    have hr : ∀ h, (lim Tryd.prog σ).call 84 [w64 (BitVec.ofNat 64 p)] h = some (w32 (rootN (BitVec.ofNat 64 p)), none) := fun h => root_run hσ h _
    have hs := wrap_succ (i := i) (by omega)
    simp only [go_sem, Nat.reduceLT, Nat.reduceLeDiff, Nat.reduceEqDiff, Nat.reduceAdd, Nat.reduceSub, Nat.reduceMul, reduceCtorEq, Int.reduceBEq, Int.reduceLT, Int.reduceLE, Int.reduceAdd, Int.reduceSub, Int.reduceEq, Int.reduceNeg, Int.reduceToNat, Int.reduceGT, Int.reduceGE, wadd32, wmul32, wadd64, wmul64, wand32, wor32, wxor32, wand64, wor64, wnot32, wsub32, wsub64, wshr32l, wshl32l, wshr64l, wshl64l, wshr32w, wshl32w, wshr64w, wlt64, wgt64, weq64, wne64, I.e0, I.e1, I.e4, I.e5, c0, hi, hnp, hr, hb1, hr1, hn1, Nat.mul_one, hs]
    refine next _ _ ⟨by simp only [go_sem, Nat.reduceLT, Nat.reduceLeDiff, Nat.reduceEqDiff, Nat.reduceAdd, Nat.reduceSub, Nat.reduceMul, reduceCtorEq, Int.reduceBEq, Int.reduceLT, Int.reduceLE, Int.reduceAdd, Int.reduceSub, Int.reduceEq, Int.reduceNeg, Int.reduceToNat, Int.reduceGT, Int.reduceGE, I.e0], by simp only [go_sem, Nat.reduceLT, Nat.reduceLeDiff, Nat.reduceEqDiff, Nat.reduceAdd, Nat.reduceSub, Nat.reduceMul, reduceCtorEq, Int.reduceBEq, Int.reduceLT, Int.reduceLE, Int.reduceAdd, Int.reduceSub, Int.reduceEq, Int.reduceNeg, Int.reduceToNat, Int.reduceGT, Int.reduceGE, I.e1], by simp only [go_sem, Nat.reduceLT, Nat.reduceLeDiff, Nat.reduceEqDiff, Nat.reduceAdd, Nat.reduceSub, Nat.reduceMul, reduceCtorEq, Int.reduceBEq, Int.reduceLT, Int.reduceLE, Int.reduceAdd, Int.reduceSub, Int.reduceEq, Int.reduceNeg, Int.reduceToNat, Int.reduceGT, Int.reduceGE, I.e4], by simp only [go_sem, Nat.reduceLT, Nat.reduceLeDiff, Nat.reduceEqDiff, Nat.reduceAdd, Nat.reduceSub, Nat.reduceMul, reduceCtorEq, Int.reduceBEq, Int.reduceLT, Int.reduceLE, Int.reduceAdd, Int.reduceSub, Int.reduceEq, Int.reduceNeg, Int.reduceToNat, Int.reduceGT, Int.reduceGE], I.nx, I.ext.put _ (by omega), by simp only [go_sem, Nat.reduceLT, Nat.reduceLeDiff, Nat.reduceEqDiff, Nat.reduceAdd, Nat.reduceSub, Nat.reduceMul, reduceCtorEq, Int.reduceBEq, Int.reduceLT, Int.reduceLE, Int.reduceAdd, Int.reduceSub, Int.reduceEq, Int.reduceNeg, Int.reduceToNat, Int.reduceGT, Int.reduceGE, I.low]; omega, ⟨b0, ?_, hn0, hr0⟩, ⟨_, put_blk_same _ _ _, by rw [st_n]; exact hn1, by rw [st_ro]; exact hr1, fun j hj => ?_⟩⟩
    · rw [put_blk_ne _ _ _ _ (by omega)]; exact hb0
    · by_cases q : j = i
      · subst q; rw [st_get_same _ _ _ (by omega), hK]; rfl
      · rw [st_get_ne _ _ _ _ q]; exact hg1 j (by omega)
  · rintro env h' I
    obtain ⟨b0, hb0, hn0, hr0⟩ := I.b0
    obtain ⟨b1, hb1, hn1, hr1, hg1⟩ := I.b1
    have c0 : ¬ Int.ofNat 64 < 64 := by decide
    have hld : b1.loadN 0 64 = some (KL.map w32) := loadN_of _ _ _ (by rw [List.length_map, KL_len]) fun i v hv => by
      have hi := nlt hv
      rw [List.length_map, KL_len] at hi
      rw [Nat.zero_add, hg1 i hi, ← hv, nth_eq, List.getElem?_map]
    have hlen : (KL.map w32).length = 64 := by rw [List.length_map, KL_len]
    simp only [go_sem, Nat.reduceLT, Nat.reduceLeDiff, Nat.reduceEqDiff, Nat.reduceAdd, Nat.reduceSub, Nat.reduceMul, reduceCtorEq, Int.reduceBEq, Int.reduceLT, Int.reduceLE, Int.reduceAdd, Int.reduceSub, Int.reduceEq, Int.reduceNeg, Int.reduceToNat, Int.reduceGT, Int.reduceGE, wadd32, wmul32, wadd64, wmul64, wand32, wor32, wxor32, wand64, wor64, wnot32, wsub32, wsub64, wshr32l, wshl32l, wshr64l, wshl64l, wshr32w, wshl32w, wshr64w, wlt64, wgt64, weq64, wne64, I.e0, I.e1, I.e4, I.e5, c0, hb0, hb1, hld, hr0, hlen]
    refine store_step (Q := RetQ h (.agg (KL.map w32))) (by rw [hlen, hn0]) (one_ws _) fun b' h1 h2 h3 _ => ?_
    rw [hn0] at h3
    simp only [go_sem, Nat.reduceLT, Nat.reduceLeDiff, Nat.reduceEqDiff, Nat.reduceAdd, Nat.reduceSub, Nat.reduceMul, reduceCtorEq, Int.reduceBEq, Int.reduceLT, Int.reduceLE, Int.reduceAdd, Int.reduceSub, Int.reduceEq, Int.reduceNeg, Int.reduceToNat, Int.reduceGT, Int.reduceGE, h3, I.e0]
    rw [fin_q _ _ _ (by simp only [go_sem, Nat.reduceLT, Nat.reduceLeDiff, Nat.reduceEqDiff, Nat.reduceAdd, Nat.reduceSub, Nat.reduceMul, reduceCtorEq, Int.reduceBEq, Int.reduceLT, Int.reduceLE, Int.reduceAdd, Int.reduceSub, Int.reduceEq, Int.reduceNeg, Int.reduceToNat, Int.reduceGT, Int.reduceGE, I.low]; omega) (okB_ws _ _)]
    rfl

end Go.Cl.Sh

namespace Go.Cl.Sh
variable {σ : Sums}
set_option maxRecDepth 1000000

/-! ### what it is -/
def byt (xs : List Nat) (i : Nat) : BitVec 32 := BitVec.ofNat 32 (xs[i]?.getD 0)
def wd (xs : List Nat) (t : Nat) : BitVec 32 := byt xs (4 * t) <<< 24 ||| byt xs (4 * t + 1) <<< 16 ||| byt xs (4 * t + 2) <<< 8 ||| byt xs (4 * t + 3)
def sg0 (p : BitVec 32) : BitVec 32 := rotr p 7 ^^^ rotr p 18 ^^^ p >>> 3
def sg1 (q : BitVec 32) : BitVec 32 := rotr q 17 ^^^ rotr q 19 ^^^ q >>> 10
def schN (l : List (BitVec 32)) : BitVec 32 := l[15]?.getD 0 + sg0 (l[14]?.getD 0) + l[6]?.getD 0 + sg1 (l[1]?.getD 0)
def schR (xs : List Nat) : Nat → List (BitVec 32)
  | 0 => []
  | t + 1 => (if t < 16 then wd xs t else schN (schR xs t)) :: schR xs t
def W (xs : List Nat) (t : Nat) : BitVec 32 := (schR xs (t + 1))[0]?.getD 0
theorem schR_get (xs : List Nat) : ∀ n j, j < n → (schR xs n)[j]? = some (W xs (n - 1 - j))
  | n + 1, 0, _ => rfl
  | n + 1, j + 1, h => by
    have : (schR xs (n + 1))[j + 1]? = (schR xs n)[j]? := rfl
    rw [this, schR_get xs n j (by omega), show n + 1 - 1 - (j + 1) = n - 1 - j by omega]
theorem W_lo (xs : List Nat) {t : Nat} (h : t < 16) : W xs t = wd xs t := by
  show (if t < 16 then wd xs t else _) = _
  rw [if_pos h]
theorem W_hi (xs : List Nat) {t : Nat} (h : 16 ≤ t) : W xs t = W xs (t - 16) + sg0 (W xs (t - 15)) + W xs (t - 7) + sg1 (W xs (t - 2)) := by
  show (if t < 16 then wd xs t else schN (schR xs t)) = _
  rw [if_neg (by omega)]
  unfold schN
  rw [schR_get xs t 15 (by omega), schR_get xs t 14 (by omega), schR_get xs t 6 (by omega), schR_get xs t 1 (by omega)]
  simp only [Option.getD_some]
  rw [show t - 1 - 15 = t - 16 by omega, show t - 1 - 14 = t - 15 by omega, show t - 1 - 6 = t - 7 by omega, show t - 1 - 1 = t - 2 by omega]

structure S8 where
  (a b c d e f g h : BitVec 32)
def S8.l (s : S8) : List (BitVec 32) := [s.a, s.b, s.c, s.d, s.e, s.f, s.g, s.h]
def rnd (k w : BitVec 32) (s : S8) : S8 :=
  let x := s.h + (rotr s.e 6 ^^^ rotr s.e 11 ^^^ rotr s.e 25) + ((s.e &&& s.f) ^^^ (~~~ s.e &&& s.g)) + k + w
  let y := (rotr s.a 2 ^^^ rotr s.a 13 ^^^ rotr s.a 22) + ((s.a &&& s.b) ^^^ (s.a &&& s.c) ^^^ (s.b &&& s.c))
  ⟨x + y, s.a, s.b, s.c, s.d + x, s.e, s.f, s.g⟩
def kw (t : Nat) : BitVec 32 := KL[t]?.getD 0
def rnds (xs : List Nat) (s : S8) : Nat → S8
  | 0 => s
  | t + 1 => rnd (kw t) (W xs t) (rnds xs s t)
def S8.add (s r : S8) : S8 := ⟨s.a + r.a, s.b + r.b, s.c + r.c, s.d + r.d, s.e + r.e, s.f + r.f, s.g + r.g, s.h + r.h⟩
def pressS (xs : List Nat) (s : S8) : S8 := s.add (rnds xs s 64)

/-! ### slices of bytes cut -/
def bc (l : List Nat) : List CV := l.map u8
theorem bc_len (l : List Nat) : (bc l).length = l.length := by simp [bc]
def CapOk (h : H) (id off len : Nat) (c : Cap) : Prop := (∃ n, c = .exact n ∧ len ≤ n) ∨ (c = .opn 1 ∧ ∃ b, h.blk id = some b ∧ off + len ≤ b.n)
theorem slc {h : H} {id off len : Nat} {c : Cap} (C : CapOk h id off len c) {lo hi : Nat} (h1 : lo < hi) (h2 : hi ≤ len) :
    ∃ c', sliceT Tryd.prog h 24 (.sl id off len c) (some (.int .i64 (Int.ofNat lo))) (some (.int .i64 (Int.ofNat hi))) none = some (.sl id (off + lo) (hi - lo) c') ∧ CapOk h id (off + lo) (hi - lo) c' := by
  rcases C with ⟨n, rfl, hn⟩ | ⟨rfl, b, hb, hbn⟩
  · refine ⟨.exact (n - lo), ?_, .inl ⟨_, rfl, by omega⟩⟩
    simp only [sliceT, Tryd.underlying24, Option.bind_some, sz_5, sliceExact, bnd, toN, Int.ofNat_eq_natCast, Nat.mul_one]
    simp [ble_eq', beq_eq', show hi ≤ n by omega, show lo ≤ hi by omega, show ¬ n = lo by omega]
  · refine ⟨.opn 1, ?_, .inr ⟨rfl, b, hb, by omega⟩⟩
    simp only [sliceT, Tryd.underlying24, Option.bind_some, sz_5, capK, hb, bnd, toN, Int.ofNat_eq_natCast, Nat.mul_one]
    simp [ble_eq', beq_eq', blt_eq', show hi ≤ b.n - off by omega, show lo ≤ hi by omega, show lo < b.n - off by omega]
theorem ia22 {id off len k : Nat} {c : Cap} (hk : k < len) (kd : IntKind) : indexAddrT Tryd.prog 24 (.sl id off len c) (.int kd (Int.ofNat k)) = some (.ptr id (off + k)) := by
  rw [ia_24, blt_eq', decide_eq_true hk, cond_true, Nat.mul_one]
theorem bload {b : Blk} {off : Nat} {xs : List Nat} (h : b.loadN off xs.length = some (bc xs)) {k : Nat} (hk : k < xs.length) : b.get (off + k) = some (u8 (xs[k]?.getD 0)) := by
  rw [(loadN_spec h).2 k hk]
  simp [bc, hk]

/-! ### the code -/
structure PA (h : H) (h' : H) (env : T CV) (s kk id off : Nat) (c : Cap) (g : Nat → Option CV) : Prop where
  e0 : evT env 0 = .ptr s 0
  e1 : evT env 1 = .ptr kk 0
  e2 : evT env 2 = .sl id off 64 c
  e6 : evT env 6 = .fn (.func 85) [] []
  e7 : evT env 7 = .ptr h.nx 0
  nx : h'.nx = h.nx + 1
  ext : Ext h h'
  low : h'.low = h.nx
  w : ∃ b, h'.blk h.nx = some b ∧ b.n = 64 ∧ b.ro = false ∧ ∀ j v, g j = some v → b.get j = some v

theorem wrap_n {x : Int} {n : Nat} (e : x = Int.ofNat n) (h : n < 1000000000000) : IntKind.wrap .i64 x = Int.ofNat n := by
  rw [e, wrap_i64 (by simp) (by simp; omega)]

def WX (xs : List Nat) (n j : Nat) : Option CV := if j < n then some (w32 (W xs j)) else none

theorem WX_s {xs : List Nat} {i j : Nat} {v : CV} (h : WX xs (i + 1) j = some v) : (j = i ∧ v = w32 (W xs i)) ∨ (j ≠ i ∧ WX xs i j = some v) := by
  unfold WX at h ⊢
  split at h
  · cases h
    by_cases q : j = i
    · subst q; exact .inl ⟨rfl, rfl⟩
    · exact .inr ⟨q, by rw [if_pos (by omega)]⟩
  · cases h
theorem PA.put {h h' : H} {env env' : T CV} {s kk id off i : Nat} {c : Cap} {xs : List Nat} {b : Blk} (I : PA h h' env s kk id off c (WX xs i)) (hb : h'.blk h.nx = some b) (hn : b.n = 64) (hr : b.ro = false) (hg : ∀ j v, WX xs i j = some v → b.get j = some v) (hi : i < 64)
    (e0 : evT env' 0 = .ptr s 0) (e1 : evT env' 1 = .ptr kk 0) (e2 : evT env' 2 = .sl id off 64 c) (e6 : evT env' 6 = .fn (.func 85) [] []) (e7 : evT env' 7 = .ptr h.nx 0) {v : CV} (hv : v = w32 (W xs i)) :
    PA h (h'.put h.nx (.cells (b.st i v))) env' s kk id off c (WX xs (i + 1)) := by
  refine ⟨e0, e1, e2, e6, e7, I.nx, I.ext.put _ (Nat.le_refl _), by rw [put_low, I.low]; omega, _, put_blk_same _ _ _, by rw [st_n]; exact hn, by rw [st_ro]; exact hr, fun j u hj => ?_⟩
  rcases WX_s hj with ⟨rfl, rfl⟩ | ⟨q, hq⟩
  · rw [st_get_same _ _ _ (by omega), hv]
  · rw [st_get_ne _ _ _ _ q]; exact hg j u hq
structure SE (env : T CV) (r : S8) : Prop where
  a : evT env 15 = w32 r.a
  b : evT env 16 = w32 r.b
  c : evT env 17 = w32 r.c
  d : evT env 18 = w32 r.d
  e : evT env 19 = w32 r.e
  f : evT env 20 = w32 r.f
  g : evT env 21 = w32 r.g
  h : evT env 22 = w32 r.h
def S8.at (s : S8) (i : Nat) : BitVec 32 := s.l[i]?.getD 0
theorem S8.nth (s : S8) {i : Nat} (hi : i < 8) : nth (s.l.map w32) i = some (w32 (s.at i)) := by
  match i, hi with
  | 0, _ => rfl
  | 1, _ => rfl
  | 2, _ => rfl
  | 3, _ => rfl
  | 4, _ => rfl
  | 5, _ => rfl
  | 6, _ => rfl
  | 7, _ => rfl
theorem S8.at_add (s r : S8) {i : Nat} (hi : i < 8) : (s.add r).at i = s.at i + r.at i := by
  match i, hi with
  | 0, _ => rfl
  | 1, _ => rfl
  | 2, _ => rfl
  | 3, _ => rfl
  | 4, _ => rfl
  | 5, _ => rfl
  | 6, _ => rfl
  | 7, _ => rfl

theorem press_run (hσ : ∀ f a h, W.told f = false → σ f a h = none) {h : H} {s kk id off : Nat} {c : Cap} {xs : List Nat} {st : S8} {bs bk bx : Blk} (hs : h.blk s = some bs) (hsn : bs.n = 8) (hsr : bs.ro = false) (hsg : ∀ i, bs.get i = nth (st.l.map w32) i)
    (hk : h.blk kk = some bk) (hkg : ∀ j, j < 64 → bk.get j = some (w32 (kw j))) (hb : h.blk id = some bx) (hx : xs.length = 64) (hbx : bx.loadN off xs.length = some (bc xs)) (C : CapOk h id off 64 c) (ls : s < h.nx) (lk : kk < h.nx) (li : id < h.nx) :
    WrR h (.tup []) s 8 (nth ((pressS xs st).l.map w32)) ((lim Tryd.prog σ).call 67 [.ptr s 0, .ptr kk 0, .sl id off 64 c] h) := by
  obtain ⟨Q, hQ⟩ : ∃ Q, Q = WrR h (.tup []) s 8 (nth ((pressS xs st).l.map w32)) := ⟨_, rfl⟩
  rw [← hQ]
  rw [call_eq (hσ _ _ _ (by decide)) fn_67 rfl rfl, Tryd.ntmps67, Tryd.results67]
  simp only [go_sem, Nat.reduceLT, Nat.reduceLeDiff, Nat.reduceEqDiff, Nat.reduceAdd, Nat.reduceSub, Nat.reduceMul, reduceCtorEq, Int.reduceBEq, Int.reduceLT, Int.reduceLE, Int.reduceAdd, Int.reduceSub, Int.reduceEq, Int.reduceNeg, Int.reduceToNat, Int.reduceGT, Int.reduceGE]
  refine loop_ind (Q := Q) (fun i env h' => PA h h' env s kk id off c (WX xs i) ∧ evT env 30 = .int .i64 (Int.ofNat i)) 16 0 ?_ (by decide) ?_ ?_
  · exact ⟨⟨by simp only [go_sem, Nat.reduceLT, Nat.reduceLeDiff, Nat.reduceEqDiff, Nat.reduceAdd, Nat.reduceSub, Nat.reduceMul, reduceCtorEq, Int.reduceBEq, Int.reduceLT, Int.reduceLE, Int.reduceAdd, Int.reduceSub, Int.reduceEq, Int.reduceNeg, Int.reduceToNat, Int.reduceGT, Int.reduceGE], by simp only [go_sem, Nat.reduceLT, Nat.reduceLeDiff, Nat.reduceEqDiff, Nat.reduceAdd, Nat.reduceSub, Nat.reduceMul, reduceCtorEq, Int.reduceBEq, Int.reduceLT, Int.reduceLE, Int.reduceAdd, Int.reduceSub, Int.reduceEq, Int.reduceNeg, Int.reduceToNat, Int.reduceGT, Int.reduceGE], by simp only [go_sem, Nat.reduceLT, Nat.reduceLeDiff, Nat.reduceEqDiff, Nat.reduceAdd, Nat.reduceSub, Nat.reduceMul, reduceCtorEq, Int.reduceBEq, Int.reduceLT, Int.reduceLE, Int.reduceAdd, Int.reduceSub, Int.reduceEq, Int.reduceNeg, Int.reduceToNat, Int.reduceGT, Int.reduceGE], by simp only [go_sem, Nat.reduceLT, Nat.reduceLeDiff, Nat.reduceEqDiff, Nat.reduceAdd, Nat.reduceSub, Nat.reduceMul, reduceCtorEq, Int.reduceBEq, Int.reduceLT, Int.reduceLE, Int.reduceAdd, Int.reduceSub, Int.reduceEq, Int.reduceNeg, Int.reduceToNat, Int.reduceGT, Int.reduceGE], by simp only [go_sem, Nat.reduceLT, Nat.reduceLeDiff, Nat.reduceEqDiff, Nat.reduceAdd, Nat.reduceSub, Nat.reduceMul, reduceCtorEq, Int.reduceBEq, Int.reduceLT, Int.reduceLE, Int.reduceAdd, Int.reduceSub, Int.reduceEq, Int.reduceNeg, Int.reduceToNat, Int.reduceGT, Int.reduceGE], by simp only [go_sem, Nat.reduceLT, Nat.reduceLeDiff, Nat.reduceEqDiff, Nat.reduceAdd, Nat.reduceSub, Nat.reduceMul, reduceCtorEq, Int.reduceBEq, Int.reduceLT, Int.reduceLE, Int.reduceAdd, Int.reduceSub, Int.reduceEq, Int.reduceNeg, Int.reduceToNat, Int.reduceGT, Int.reduceGE], (Ext.lo h).alloc' _, by simp only [go_sem, Nat.reduceLT, Nat.reduceLeDiff, Nat.reduceEqDiff, Nat.reduceAdd, Nat.reduceSub, Nat.reduceMul, reduceCtorEq, Int.reduceBEq, Int.reduceLT, Int.reduceLE, Int.reduceAdd, Int.reduceSub, Int.reduceEq, Int.reduceNeg, Int.reduceToNat, Int.reduceGT, Int.reduceGE], _, by simp only [go_sem, Nat.reduceLT, Nat.reduceLeDiff, Nat.reduceEqDiff, Nat.reduceAdd, Nat.reduceSub, Nat.reduceMul, reduceCtorEq, Int.reduceBEq, Int.reduceLT, Int.reduceLE, Int.reduceAdd, Int.reduceSub, Int.reduceEq, Int.reduceNeg, Int.reduceToNat, Int.reduceGT, Int.reduceGE]; rfl, wnewBlk_n _, newBlk_ro _, fun j v hj => by simp [WX] at hj⟩, by simp only [go_sem, Nat.reduceLT, Nat.reduceLeDiff, Nat.reduceEqDiff, Nat.reduceAdd, Nat.reduceSub, Nat.reduceMul, reduceCtorEq, Int.reduceBEq, Int.reduceLT, Int.reduceLE, Int.reduceAdd, Int.reduceSub, Int.reduceEq, Int.reduceNeg, Int.reduceToNat, Int.reduceGT, Int.reduceGE]; rfl⟩
  · rintro i env h' ⟨I, e30⟩ hi next
    obtain ⟨b, hbw, hbn, hbr, hbg⟩ := I.w
    have c0 : Int.ofNat i < 16 := by simp; omega
    have w1 : IntKind.wrap .i64 (4 * Int.ofNat i) = Int.ofNat (4 * i) := wrap_n (by simp) (by omega)
    have w2 : IntKind.wrap .i64 (Int.ofNat (4 * i) + 4) = Int.ofNat (4 * i + 4) := wrap_n (by simp) (by omega)
    have w3 : IntKind.wrap .i64 (Int.ofNat i + 1) = Int.ofNat (i + 1) := wrap_n (by simp) (by omega)
    have C' : CapOk h' id off 64 c := by
      rcases C with h1 | ⟨h1, b', h2, h3⟩
      · exact .inl h1
      · exact .inr ⟨h1, b', (I.ext.blk li).trans h2, h3⟩
    obtain ⟨c', e1, C2⟩ := slc C' (lo := 4 * i) (hi := 4 * i + 4) (by omega) (by omega)
    rw [show 4 * i + 4 - 4 * i = 4 by omega] at e1
    have hb' : h'.blk id = some bx := (I.ext.blk li).trans hb
    have i0 : ∀ kd, indexAddrT Tryd.prog 24 (.sl id (off + 4 * i) 4 c') (.int kd 0) = some (.ptr id (off + 4 * i + 0)) := fun kd => ia22 (k := 0) (by omega) kd
    have i1 : ∀ kd, indexAddrT Tryd.prog 24 (.sl id (off + 4 * i) 4 c') (.int kd 1) = some (.ptr id (off + 4 * i + 1)) := fun kd => ia22 (k := 1) (by omega) kd
    have i2 : ∀ kd, indexAddrT Tryd.prog 24 (.sl id (off + 4 * i) 4 c') (.int kd 2) = some (.ptr id (off + 4 * i + 2)) := fun kd => ia22 (k := 2) (by omega) kd
    have i3 : ∀ kd, indexAddrT Tryd.prog 24 (.sl id (off + 4 * i) 4 c') (.int kd 3) = some (.ptr id (off + 4 * i + 3)) := fun kd => ia22 (k := 3) (by omega) kd
    have g0 : bx.get (off + 4 * i + 0) = some (u8 (xs[4 * i + 0]?.getD 0)) := by rw [Nat.add_assoc]; exact bload hbx (by omega)
    have g1 : bx.get (off + 4 * i + 1) = some (u8 (xs[4 * i + 1]?.getD 0)) := by rw [Nat.add_assoc]; exact bload hbx (by omega)
    have g2 : bx.get (off + 4 * i + 2) = some (u8 (xs[4 * i + 2]?.getD 0)) := by rw [Nat.add_assoc]; exact bload hbx (by omega)
    have g3 : bx.get (off + 4 * i + 3) = some (u8 (xs[4 * i + 3]?.getD 0)) := by rw [Nat.add_assoc]; exact bload hbx (by omega)
    rw [Nat.add_zero] at i0 g0
    have hi64 : i < 64 := by omega
    simp only [go_sem, Nat.reduceLT, Nat.reduceLeDiff, Nat.reduceEqDiff, Nat.reduceAdd, Nat.reduceSub, Nat.reduceMul, reduceCtorEq, Int.reduceBEq, Int.reduceLT, Int.reduceLE, Int.reduceAdd, Int.reduceSub, Int.reduceEq, Int.reduceNeg, Int.reduceToNat, Int.reduceGT, Int.reduceGE, wadd32, wmul32, wadd64, wmul64, wand32, wor32, wxor32, wand64, wor64, wnot32, wsub32, wsub64, wshr32l, wshl32l, wshr64l, wshl64l, wshr32w, wshl32w, wshr64w, wlt64, wgt64, weq64, wne64, I.e0, I.e1, I.e2, I.e6, I.e7, e30, c0, w1, w2, w3, e1, hb', i0, i1, i2, i3, g0, g1, g2, g3, cv53, hi64, hbw, hbr, hbn, Nat.mul_one]
    refine cnd_go (Q := Q) (by kernel_rfl) ?_
    simp only [go_sem, Nat.reduceLT, Nat.reduceLeDiff, Nat.reduceEqDiff, Nat.reduceAdd, Nat.reduceSub, Nat.reduceMul, reduceCtorEq, Int.reduceBEq, Int.reduceLT, Int.reduceLE, Int.reduceAdd, Int.reduceSub, Int.reduceEq, Int.reduceNeg, Int.reduceToNat, Int.reduceGT, Int.reduceGE, wadd32, wmul32, wadd64, wmul64, wand32, wor32, wxor32, wand64, wor64, wnot32, wsub32, wsub64, wshr32l, wshl32l, wshr64l, wshl64l, wshr32w, wshl32w, wshr64w, wlt64, wgt64, weq64, wne64, I.e0, I.e1, I.e2, I.e6, I.e7, e30, c0, w1, w2, w3, e1, hb', i0, i1, i2, i3, g0, g1, g2, g3, cv53, hi64, hbw, hbr, hbn, Nat.mul_one]
    refine cnd_go (Q := Q) (by kernel_rfl) ?_
    refine quiet_go (Q := Q) (by kernel_rfl) ?_
    simp only [go_sem, Nat.reduceLT, Nat.reduceLeDiff, Nat.reduceEqDiff, Nat.reduceAdd, Nat.reduceSub, Nat.reduceMul, reduceCtorEq, Int.reduceBEq, Int.reduceLT, Int.reduceLE, Int.reduceAdd, Int.reduceSub, Int.reduceEq, Int.reduceNeg, Int.reduceToNat, Int.reduceGT, Int.reduceGE, wadd32, wmul32, wadd64, wmul64, wand32, wor32, wxor32, wand64, wor64, wnot32, wsub32, wsub64, wshr32l, wshl32l, wshr64l, wshl64l, wshr32w, wshl32w, wshr64w, wlt64, wgt64, weq64, wne64, I.e0, I.e1, I.e2, I.e6, I.e7, e30, c0, w1, w2, w3, e1, hb', i0, i1, i2, i3, g0, g1, g2, g3, cv53, hi64, hbw, hbr, hbn, Nat.mul_one]
    exact next _ _ ⟨I.put hbw hbn hbr hbg hi64 (by simp only [go_sem, Nat.reduceLT, Nat.reduceLeDiff, Nat.reduceEqDiff, Nat.reduceAdd, Nat.reduceSub, Nat.reduceMul, reduceCtorEq, Int.reduceBEq, Int.reduceLT, Int.reduceLE, Int.reduceAdd, Int.reduceSub, Int.reduceEq, Int.reduceNeg, Int.reduceToNat, Int.reduceGT, Int.reduceGE, I.e0]) (by simp only [go_sem, Nat.reduceLT, Nat.reduceLeDiff, Nat.reduceEqDiff, Nat.reduceAdd, Nat.reduceSub, Nat.reduceMul, reduceCtorEq, Int.reduceBEq, Int.reduceLT, Int.reduceLE, Int.reduceAdd, Int.reduceSub, Int.reduceEq, Int.reduceNeg, Int.reduceToNat, Int.reduceGT, Int.reduceGE, I.e1]) (by simp only [go_sem, Nat.reduceLT, Nat.reduceLeDiff, Nat.reduceEqDiff, Nat.reduceAdd, Nat.reduceSub, Nat.reduceMul, reduceCtorEq, Int.reduceBEq, Int.reduceLT, Int.reduceLE, Int.reduceAdd, Int.reduceSub, Int.reduceEq, Int.reduceNeg, Int.reduceToNat, Int.reduceGT, Int.reduceGE, I.e2]) (by simp only [go_sem, Nat.reduceLT, Nat.reduceLeDiff, Nat.reduceEqDiff, Nat.reduceAdd, Nat.reduceSub, Nat.reduceMul, reduceCtorEq, Int.reduceBEq, Int.reduceLT, Int.reduceLE, Int.reduceAdd, Int.reduceSub, Int.reduceEq, Int.reduceNeg, Int.reduceToNat, Int.reduceGT, Int.reduceGE, I.e6]) (by simp only [go_sem, Nat.reduceLT, Nat.reduceLeDiff, Nat.reduceEqDiff, Nat.reduceAdd, Nat.reduceSub, Nat.reduceMul, reduceCtorEq, Int.reduceBEq, Int.reduceLT, Int.reduceLE, Int.reduceAdd, Int.reduceSub, Int.reduceEq, Int.reduceNeg, Int.reduceToNat, Int.reduceGT, Int.reduceGE, I.e7]) (by rw [W_lo xs hi]; rfl), by simp only [go_sem, Nat.reduceLT, Nat.reduceLeDiff, Nat.reduceEqDiff, Nat.reduceAdd, Nat.reduceSub, Nat.reduceMul, reduceCtorEq, Int.reduceBEq, Int.reduceLT, Int.reduceLE, Int.reduceAdd, Int.reduceSub, Int.reduceEq, Int.reduceNeg, Int.reduceToNat, Int.reduceGT, Int.reduceGE]⟩
  rintro env h' ⟨I, e30⟩
  have c0 : ¬ Int.ofNat 16 < 16 := by decide
  simp only [go_sem, Nat.reduceLT, Nat.reduceLeDiff, Nat.reduceEqDiff, Nat.reduceAdd, Nat.reduceSub, Nat.reduceMul, reduceCtorEq, Int.reduceBEq, Int.reduceLT, Int.reduceLE, Int.reduceAdd, Int.reduceSub, Int.reduceEq, Int.reduceNeg, Int.reduceToNat, Int.reduceGT, Int.reduceGE, e30, c0]
  refine loop_ind (Q := Q) (fun i env h' => PA h h' env s kk id off c (WX xs i) ∧ evT env 10 = .int .i64 (Int.ofNat i) ∧ 16 ≤ i) 64 16 ?_ (by decide) ?_ ?_
  · exact ⟨⟨by simp only [go_sem, Nat.reduceLT, Nat.reduceLeDiff, Nat.reduceEqDiff, Nat.reduceAdd, Nat.reduceSub, Nat.reduceMul, reduceCtorEq, Int.reduceBEq, Int.reduceLT, Int.reduceLE, Int.reduceAdd, Int.reduceSub, Int.reduceEq, Int.reduceNeg, Int.reduceToNat, Int.reduceGT, Int.reduceGE, I.e0], by simp only [go_sem, Nat.reduceLT, Nat.reduceLeDiff, Nat.reduceEqDiff, Nat.reduceAdd, Nat.reduceSub, Nat.reduceMul, reduceCtorEq, Int.reduceBEq, Int.reduceLT, Int.reduceLE, Int.reduceAdd, Int.reduceSub, Int.reduceEq, Int.reduceNeg, Int.reduceToNat, Int.reduceGT, Int.reduceGE, I.e1], by simp only [go_sem, Nat.reduceLT, Nat.reduceLeDiff, Nat.reduceEqDiff, Nat.reduceAdd, Nat.reduceSub, Nat.reduceMul, reduceCtorEq, Int.reduceBEq, Int.reduceLT, Int.reduceLE, Int.reduceAdd, Int.reduceSub, Int.reduceEq, Int.reduceNeg, Int.reduceToNat, Int.reduceGT, Int.reduceGE, I.e2], by simp only [go_sem, Nat.reduceLT, Nat.reduceLeDiff, Nat.reduceEqDiff, Nat.reduceAdd, Nat.reduceSub, Nat.reduceMul, reduceCtorEq, Int.reduceBEq, Int.reduceLT, Int.reduceLE, Int.reduceAdd, Int.reduceSub, Int.reduceEq, Int.reduceNeg, Int.reduceToNat, Int.reduceGT, Int.reduceGE, I.e6], by simp only [go_sem, Nat.reduceLT, Nat.reduceLeDiff, Nat.reduceEqDiff, Nat.reduceAdd, Nat.reduceSub, Nat.reduceMul, reduceCtorEq, Int.reduceBEq, Int.reduceLT, Int.reduceLE, Int.reduceAdd, Int.reduceSub, Int.reduceEq, Int.reduceNeg, Int.reduceToNat, Int.reduceGT, Int.reduceGE, I.e7], I.nx, I.ext, I.low, I.w⟩, by simp only [go_sem, Nat.reduceLT, Nat.reduceLeDiff, Nat.reduceEqDiff, Nat.reduceAdd, Nat.reduceSub, Nat.reduceMul, reduceCtorEq, Int.reduceBEq, Int.reduceLT, Int.reduceLE, Int.reduceAdd, Int.reduceSub, Int.reduceEq, Int.reduceNeg, Int.reduceToNat, Int.reduceGT, Int.reduceGE]; rfl, by decide⟩
  · clear I e30 c0 env h'
    rintro i env h' ⟨I, e10, h16⟩ hi next
    obtain ⟨b, hbw, hbn, hbr, hbg⟩ := I.w
    have c0 : Int.ofNat i < 64 := by simp; omega
    have w1 : IntKind.wrap .i64 (Int.ofNat i - 15) = Int.ofNat (i - 15) := wrap_n (by simp; omega) (by omega)
    have w2 : IntKind.wrap .i64 (Int.ofNat i - 2) = Int.ofNat (i - 2) := wrap_n (by simp; omega) (by omega)
    have w3 : IntKind.wrap .i64 (Int.ofNat i - 16) = Int.ofNat (i - 16) := wrap_n (by simp; omega) (by omega)
    have w4 : IntKind.wrap .i64 (Int.ofNat i - 7) = Int.ofNat (i - 7) := wrap_n (by simp; omega) (by omega)
    have w5 : IntKind.wrap .i64 (Int.ofNat i + 1) = Int.ofNat (i + 1) := wrap_n (by simp) (by omega)
    have l1 : i - 15 < 64 := by omega
    have l2 : i - 2 < 64 := by omega
    have l3 : i - 16 < 64 := by omega
    have l4 : i - 7 < 64 := by omega
    have g1 : b.get (i - 15) = some (w32 (W xs (i - 15))) := hbg _ _ (if_pos (by omega))
    have g2 : b.get (i - 2) = some (w32 (W xs (i - 2))) := hbg _ _ (if_pos (by omega))
    have g3 : b.get (i - 16) = some (w32 (W xs (i - 16))) := hbg _ _ (if_pos (by omega))
    have g4 : b.get (i - 7) = some (w32 (W xs (i - 7))) := hbg _ _ (if_pos (by omega))
    have r1 : ∀ h x, (lim Tryd.prog σ).call 85 [w32 x, .int .i64 7] h = some (w32 (rotr x 7), none) := fun h x => right_run hσ h x 7 (by decide) (by decide)
    have r2 : ∀ h x, (lim Tryd.prog σ).call 85 [w32 x, .int .i64 18] h = some (w32 (rotr x 18), none) := fun h x => right_run hσ h x 18 (by decide) (by decide)
    have r3 : ∀ h x, (lim Tryd.prog σ).call 85 [w32 x, .int .i64 17] h = some (w32 (rotr x 17), none) := fun h x => right_run hσ h x 17 (by decide) (by decide)
    have r4 : ∀ h x, (lim Tryd.prog σ).call 85 [w32 x, .int .i64 19] h = some (w32 (rotr x 19), none) := fun h x => right_run hσ h x 19 (by decide) (by decide)
    simp only [go_sem, Nat.reduceLT, Nat.reduceLeDiff, Nat.reduceEqDiff, Nat.reduceAdd, Nat.reduceSub, Nat.reduceMul, reduceCtorEq, Int.reduceBEq, Int.reduceLT, Int.reduceLE, Int.reduceAdd, Int.reduceSub, Int.reduceEq, Int.reduceNeg, Int.reduceToNat, Int.reduceGT, Int.reduceGE, wadd32, wmul32, wadd64, wmul64, wand32, wor32, wxor32, wand64, wor64, wnot32, wsub32, wsub64, wshr32l, wshl32l, wshr64l, wshl64l, wshr32w, wshl32w, wshr64w, wlt64, wgt64, weq64, wne64, I.e0, I.e1, I.e2, I.e6, I.e7, e10, c0, w1, w2, w3, w4, w5, l1, l2, l3, l4, hi, g1, g2, g3, g4, r1, r2, r3, r4, hbw, hbr, hbn, Nat.mul_one]
    refine cnd_go (Q := Q) (by kernel_rfl) ?_
    simp only [go_sem, Nat.reduceLT, Nat.reduceLeDiff, Nat.reduceEqDiff, Nat.reduceAdd, Nat.reduceSub, Nat.reduceMul, reduceCtorEq, Int.reduceBEq, Int.reduceLT, Int.reduceLE, Int.reduceAdd, Int.reduceSub, Int.reduceEq, Int.reduceNeg, Int.reduceToNat, Int.reduceGT, Int.reduceGE, wadd32, wmul32, wadd64, wmul64, wand32, wor32, wxor32, wand64, wor64, wnot32, wsub32, wsub64, wshr32l, wshl32l, wshr64l, wshl64l, wshr32w, wshl32w, wshr64w, wlt64, wgt64, weq64, wne64, I.e0, I.e1, I.e2, I.e6, I.e7, e10, c0, w1, w2, w3, w4, w5, l1, l2, l3, l4, hi, g1, g2, g3, g4, r1, r2, r3, r4, hbw, hbr, hbn, Nat.mul_one]
    refine cnd_go (Q := Q) (by kernel_rfl) ?_
    simp only [go_sem, Nat.reduceLT, Nat.reduceLeDiff, Nat.reduceEqDiff, Nat.reduceAdd, Nat.reduceSub, Nat.reduceMul, reduceCtorEq, Int.reduceBEq, Int.reduceLT, Int.reduceLE, Int.reduceAdd, Int.reduceSub, Int.reduceEq, Int.reduceNeg, Int.reduceToNat, Int.reduceGT, Int.reduceGE, wadd32, wmul32, wadd64, wmul64, wand32, wor32, wxor32, wand64, wor64, wnot32, wsub32, wsub64, wshr32l, wshl32l, wshr64l, wshl64l, wshr32w, wshl32w, wshr64w, wlt64, wgt64, weq64, wne64, I.e0, I.e1, I.e2, I.e6, I.e7, e10, c0, w1, w2, w3, w4, w5, l1, l2, l3, l4, hi, g1, g2, g3, g4, r1, r2, r3, r4, hbw, hbr, hbn, Nat.mul_one]
    refine cnd_go (Q := Q) (by kernel_rfl) ?_
    refine quiet_go (Q := Q) (by kernel_rfl) ?_
    simp only [go_sem, Nat.reduceLT, Nat.reduceLeDiff, Nat.reduceEqDiff, Nat.reduceAdd, Nat.reduceSub, Nat.reduceMul, reduceCtorEq, Int.reduceBEq, Int.reduceLT, Int.reduceLE, Int.reduceAdd, Int.reduceSub, Int.reduceEq, Int.reduceNeg, Int.reduceToNat, Int.reduceGT, Int.reduceGE, wadd32, wmul32, wadd64, wmul64, wand32, wor32, wxor32, wand64, wor64, wnot32, wsub32, wsub64, wshr32l, wshl32l, wshr64l, wshl64l, wshr32w, wshl32w, wshr64w, wlt64, wgt64, weq64, wne64, I.e0, I.e1, I.e2, I.e6, I.e7, e10, c0, w1, w2, w3, w4, w5, l1, l2, l3, l4, hi, g1, g2, g3, g4, r1, r2, r3, r4, hbw, hbr, hbn, Nat.mul_one]
    exact next _ _ ⟨I.put hbw hbn hbr hbg hi (by simp only [go_sem, Nat.reduceLT, Nat.reduceLeDiff, Nat.reduceEqDiff, Nat.reduceAdd, Nat.reduceSub, Nat.reduceMul, reduceCtorEq, Int.reduceBEq, Int.reduceLT, Int.reduceLE, Int.reduceAdd, Int.reduceSub, Int.reduceEq, Int.reduceNeg, Int.reduceToNat, Int.reduceGT, Int.reduceGE, I.e0]) (by simp only [go_sem, Nat.reduceLT, Nat.reduceLeDiff, Nat.reduceEqDiff, Nat.reduceAdd, Nat.reduceSub, Nat.reduceMul, reduceCtorEq, Int.reduceBEq, Int.reduceLT, Int.reduceLE, Int.reduceAdd, Int.reduceSub, Int.reduceEq, Int.reduceNeg, Int.reduceToNat, Int.reduceGT, Int.reduceGE, I.e1]) (by simp only [go_sem, Nat.reduceLT, Nat.reduceLeDiff, Nat.reduceEqDiff, Nat.reduceAdd, Nat.reduceSub, Nat.reduceMul, reduceCtorEq, Int.reduceBEq, Int.reduceLT, Int.reduceLE, Int.reduceAdd, Int.reduceSub, Int.reduceEq, Int.reduceNeg, Int.reduceToNat, Int.reduceGT, Int.reduceGE, I.e2]) (by simp only [go_sem, Nat.reduceLT, Nat.reduceLeDiff, Nat.reduceEqDiff, Nat.reduceAdd, Nat.reduceSub, Nat.reduceMul, reduceCtorEq, Int.reduceBEq, Int.reduceLT, Int.reduceLE, Int.reduceAdd, Int.reduceSub, Int.reduceEq, Int.reduceNeg, Int.reduceToNat, Int.reduceGT, Int.reduceGE, I.e6]) (by simp only [go_sem, Nat.reduceLT, Nat.reduceLeDiff, Nat.reduceEqDiff, Nat.reduceAdd, Nat.reduceSub, Nat.reduceMul, reduceCtorEq, Int.reduceBEq, Int.reduceLT, Int.reduceLE, Int.reduceAdd, Int.reduceSub, Int.reduceEq, Int.reduceNeg, Int.reduceToNat, Int.reduceGT, Int.reduceGE, I.e7]) (by rw [W_hi xs h16]; rfl), by simp only [go_sem, Nat.reduceLT, Nat.reduceLeDiff, Nat.reduceEqDiff, Nat.reduceAdd, Nat.reduceSub, Nat.reduceMul, reduceCtorEq, Int.reduceBEq, Int.reduceLT, Int.reduceLE, Int.reduceAdd, Int.reduceSub, Int.reduceEq, Int.reduceNeg, Int.reduceToNat, Int.reduceGT, Int.reduceGE], by omega⟩
  clear I e30 c0 env h'
  rintro env h' ⟨I, e10, _⟩
  have c0 : ¬ Int.ofNat 64 < 64 := by decide
  have hs' : h'.blk s = some bs := (I.ext.blk ls).trans hs
  have hk' : h'.blk kk = some bk := (I.ext.blk lk).trans hk
  have g0 : bs.get 0 = some (w32 st.a) := hsg 0
  have g1 : bs.get 1 = some (w32 st.b) := hsg 1
  have g2 : bs.get 2 = some (w32 st.c) := hsg 2
  have g3 : bs.get 3 = some (w32 st.d) := hsg 3
  have g4 : bs.get 4 = some (w32 st.e) := hsg 4
  have g5 : bs.get 5 = some (w32 st.f) := hsg 5
  have g6 : bs.get 6 = some (w32 st.g) := hsg 6
  have g7 : bs.get 7 = some (w32 st.h) := hsg 7
  have ix : ∀ k : Nat, k < 8 → ∀ kd, indexAddrT Tryd.prog 104 (.ptr s 0) (.int kd (Int.ofNat k)) = some (.ptr s k) := fun k hk kd => by
    rw [ia_104, blt_eq', decide_eq_true hk, cond_true, Nat.mul_one, Nat.zero_add]
  have x0 : ∀ kd, indexAddrT Tryd.prog 104 (.ptr s 0) (.int kd 0) = some (.ptr s 0) := ix 0 (by decide)
  have x1 : ∀ kd, indexAddrT Tryd.prog 104 (.ptr s 0) (.int kd 1) = some (.ptr s 1) := ix 1 (by decide)
  have x2 : ∀ kd, indexAddrT Tryd.prog 104 (.ptr s 0) (.int kd 2) = some (.ptr s 2) := ix 2 (by decide)
  have x3 : ∀ kd, indexAddrT Tryd.prog 104 (.ptr s 0) (.int kd 3) = some (.ptr s 3) := ix 3 (by decide)
  have x4 : ∀ kd, indexAddrT Tryd.prog 104 (.ptr s 0) (.int kd 4) = some (.ptr s 4) := ix 4 (by decide)
  have x5 : ∀ kd, indexAddrT Tryd.prog 104 (.ptr s 0) (.int kd 5) = some (.ptr s 5) := ix 5 (by decide)
  have x6 : ∀ kd, indexAddrT Tryd.prog 104 (.ptr s 0) (.int kd 6) = some (.ptr s 6) := ix 6 (by decide)
  have x7 : ∀ kd, indexAddrT Tryd.prog 104 (.ptr s 0) (.int kd 7) = some (.ptr s 7) := ix 7 (by decide)
  simp only [go_sem, Nat.reduceLT, Nat.reduceLeDiff, Nat.reduceEqDiff, Nat.reduceAdd, Nat.reduceSub, Nat.reduceMul, reduceCtorEq, Int.reduceBEq, Int.reduceLT, Int.reduceLE, Int.reduceAdd, Int.reduceSub, Int.reduceEq, Int.reduceNeg, Int.reduceToNat, Int.reduceGT, Int.reduceGE, wadd32, wmul32, wadd64, wmul64, wand32, wor32, wxor32, wand64, wor64, wnot32, wsub32, wsub64, wshr32l, wshl32l, wshr64l, wshl64l, wshr32w, wshl32w, wshr64w, wlt64, wgt64, weq64, wne64, I.e0, I.e1, I.e2, I.e6, I.e7, e10, c0, hs', g0, g1, g2, g3, g4, g5, g6, g7, x0, x1, x2, x3, x4, x5, x6, x7]
  refine cnd_go (Q := Q) (by kernel_rfl) ?_
  simp only [go_sem, Nat.reduceLT, Nat.reduceLeDiff, Nat.reduceEqDiff, Nat.reduceAdd, Nat.reduceSub, Nat.reduceMul, reduceCtorEq, Int.reduceBEq, Int.reduceLT, Int.reduceLE, Int.reduceAdd, Int.reduceSub, Int.reduceEq, Int.reduceNeg, Int.reduceToNat, Int.reduceGT, Int.reduceGE, wadd32, wmul32, wadd64, wmul64, wand32, wor32, wxor32, wand64, wor64, wnot32, wsub32, wsub64, wshr32l, wshl32l, wshr64l, wshl64l, wshr32w, wshl32w, wshr64w, wlt64, wgt64, weq64, wne64, I.e0, I.e1, I.e2, I.e6, I.e7, e10, c0, hs', g0, g1, g2, g3, g4, g5, g6, g7, x0, x1, x2, x3, x4, x5, x6, x7]
  refine cnd_go (Q := Q) (by kernel_rfl) ?_
  simp only [go_sem, Nat.reduceLT, Nat.reduceLeDiff, Nat.reduceEqDiff, Nat.reduceAdd, Nat.reduceSub, Nat.reduceMul, reduceCtorEq, Int.reduceBEq, Int.reduceLT, Int.reduceLE, Int.reduceAdd, Int.reduceSub, Int.reduceEq, Int.reduceNeg, Int.reduceToNat, Int.reduceGT, Int.reduceGE, wadd32, wmul32, wadd64, wmul64, wand32, wor32, wxor32, wand64, wor64, wnot32, wsub32, wsub64, wshr32l, wshl32l, wshr64l, wshl64l, wshr32w, wshl32w, wshr64w, wlt64, wgt64, weq64, wne64, I.e0, I.e1, I.e2, I.e6, I.e7, e10, c0, hs', g0, g1, g2, g3, g4, g5, g6, g7, x0, x1, x2, x3, x4, x5, x6, x7]
  refine loop_ind (Q := Q) (fun i env h' => PA h h' env s kk id off c (WX xs 64) ∧ evT env 144 = .int .i64 (Int.ofNat i) ∧ SE env (rnds xs st i)) 64 0 ?_ (by decide) ?_ ?_
  · exact ⟨⟨by simp only [go_sem, Nat.reduceLT, Nat.reduceLeDiff, Nat.reduceEqDiff, Nat.reduceAdd, Nat.reduceSub, Nat.reduceMul, reduceCtorEq, Int.reduceBEq, Int.reduceLT, Int.reduceLE, Int.reduceAdd, Int.reduceSub, Int.reduceEq, Int.reduceNeg, Int.reduceToNat, Int.reduceGT, Int.reduceGE, I.e0], by simp only [go_sem, Nat.reduceLT, Nat.reduceLeDiff, Nat.reduceEqDiff, Nat.reduceAdd, Nat.reduceSub, Nat.reduceMul, reduceCtorEq, Int.reduceBEq, Int.reduceLT, Int.reduceLE, Int.reduceAdd, Int.reduceSub, Int.reduceEq, Int.reduceNeg, Int.reduceToNat, Int.reduceGT, Int.reduceGE, I.e1], by simp only [go_sem, Nat.reduceLT, Nat.reduceLeDiff, Nat.reduceEqDiff, Nat.reduceAdd, Nat.reduceSub, Nat.reduceMul, reduceCtorEq, Int.reduceBEq, Int.reduceLT, Int.reduceLE, Int.reduceAdd, Int.reduceSub, Int.reduceEq, Int.reduceNeg, Int.reduceToNat, Int.reduceGT, Int.reduceGE, I.e2], by simp only [go_sem, Nat.reduceLT, Nat.reduceLeDiff, Nat.reduceEqDiff, Nat.reduceAdd, Nat.reduceSub, Nat.reduceMul, reduceCtorEq, Int.reduceBEq, Int.reduceLT, Int.reduceLE, Int.reduceAdd, Int.reduceSub, Int.reduceEq, Int.reduceNeg, Int.reduceToNat, Int.reduceGT, Int.reduceGE, I.e6], by simp only [go_sem, Nat.reduceLT, Nat.reduceLeDiff, Nat.reduceEqDiff, Nat.reduceAdd, Nat.reduceSub, Nat.reduceMul, reduceCtorEq, Int.reduceBEq, Int.reduceLT, Int.reduceLE, Int.reduceAdd, Int.reduceSub, Int.reduceEq, Int.reduceNeg, Int.reduceToNat, Int.reduceGT, Int.reduceGE, I.e7], I.nx, I.ext, I.low, I.w⟩, by simp only [go_sem, Nat.reduceLT, Nat.reduceLeDiff, Nat.reduceEqDiff, Nat.reduceAdd, Nat.reduceSub, Nat.reduceMul, reduceCtorEq, Int.reduceBEq, Int.reduceLT, Int.reduceLE, Int.reduceAdd, Int.reduceSub, Int.reduceEq, Int.reduceNeg, Int.reduceToNat, Int.reduceGT, Int.reduceGE]; rfl,
      by simp only [go_sem, Nat.reduceLT, Nat.reduceLeDiff, Nat.reduceEqDiff, Nat.reduceAdd, Nat.reduceSub, Nat.reduceMul, reduceCtorEq, Int.reduceBEq, Int.reduceLT, Int.reduceLE, Int.reduceAdd, Int.reduceSub, Int.reduceEq, Int.reduceNeg, Int.reduceToNat, Int.reduceGT, Int.reduceGE]; rfl, by simp only [go_sem, Nat.reduceLT, Nat.reduceLeDiff, Nat.reduceEqDiff, Nat.reduceAdd, Nat.reduceSub, Nat.reduceMul, reduceCtorEq, Int.reduceBEq, Int.reduceLT, Int.reduceLE, Int.reduceAdd, Int.reduceSub, Int.reduceEq, Int.reduceNeg, Int.reduceToNat, Int.reduceGT, Int.reduceGE]; rfl, by simp only [go_sem, Nat.reduceLT, Nat.reduceLeDiff, Nat.reduceEqDiff, Nat.reduceAdd, Nat.reduceSub, Nat.reduceMul, reduceCtorEq, Int.reduceBEq, Int.reduceLT, Int.reduceLE, Int.reduceAdd, Int.reduceSub, Int.reduceEq, Int.reduceNeg, Int.reduceToNat, Int.reduceGT, Int.reduceGE]; rfl, by simp only [go_sem, Nat.reduceLT, Nat.reduceLeDiff, Nat.reduceEqDiff, Nat.reduceAdd, Nat.reduceSub, Nat.reduceMul, reduceCtorEq, Int.reduceBEq, Int.reduceLT, Int.reduceLE, Int.reduceAdd, Int.reduceSub, Int.reduceEq, Int.reduceNeg, Int.reduceToNat, Int.reduceGT, Int.reduceGE]; rfl, by simp only [go_sem, Nat.reduceLT, Nat.reduceLeDiff, Nat.reduceEqDiff, Nat.reduceAdd, Nat.reduceSub, Nat.reduceMul, reduceCtorEq, Int.reduceBEq, Int.reduceLT, Int.reduceLE, Int.reduceAdd, Int.reduceSub, Int.reduceEq, Int.reduceNeg, Int.reduceToNat, Int.reduceGT, Int.reduceGE]; rfl, by simp only [go_sem, Nat.reduceLT, Nat.reduceLeDiff, Nat.reduceEqDiff, Nat.reduceAdd, Nat.reduceSub, Nat.reduceMul, reduceCtorEq, Int.reduceBEq, Int.reduceLT, Int.reduceLE, Int.reduceAdd, Int.reduceSub, Int.reduceEq, Int.reduceNeg, Int.reduceToNat, Int.reduceGT, Int.reduceGE]; rfl, by simp only [go_sem, Nat.reduceLT, Nat.reduceLeDiff, Nat.reduceEqDiff, Nat.reduceAdd, Nat.reduceSub, Nat.reduceMul, reduceCtorEq, Int.reduceBEq, Int.reduceLT, Int.reduceLE, Int.reduceAdd, Int.reduceSub, Int.reduceEq, Int.reduceNeg, Int.reduceToNat, Int.reduceGT, Int.reduceGE]; rfl, by simp only [go_sem, Nat.reduceLT, Nat.reduceLeDiff, Nat.reduceEqDiff, Nat.reduceAdd, Nat.reduceSub, Nat.reduceMul, reduceCtorEq, Int.reduceBEq, Int.reduceLT, Int.reduceLE, Int.reduceAdd, Int.reduceSub, Int.reduceEq, Int.reduceNeg, Int.reduceToNat, Int.reduceGT, Int.reduceGE]; rfl⟩
  · clear I e10 c0 hs' hk' env h'
    rintro i env h' ⟨I, e144, E⟩ hi next
    obtain ⟨b, hbw, hbn, hbr, hbg⟩ := I.w
    have c0 : Int.ofNat i < 64 := by simp; omega
    have hk' : h'.blk kk = some bk := (I.ext.blk lk).trans hk
    have w1 : IntKind.wrap .i64 (Int.ofNat i + 1) = Int.ofNat (i + 1) := wrap_n (by simp) (by omega)
    have gk := hkg i hi
    have gw : b.get i = some (w32 (W xs i)) := hbg _ _ (if_pos hi)
    have rr : ∀ (n : Nat) (_ : 0 < n) (_ : n < 32) h x, (lim Tryd.prog σ).call 85 [w32 x, .int .i64 (Int.ofNat n)] h = some (w32 (rotr x n), none) := fun n h1 h2 h x => right_run hσ h x n h1 h2
    have r1 : ∀ h x, (lim Tryd.prog σ).call 85 [w32 x, .int .i64 6] h = some (w32 (rotr x 6), none) := rr 6 (by decide) (by decide)
    have r2 : ∀ h x, (lim Tryd.prog σ).call 85 [w32 x, .int .i64 11] h = some (w32 (rotr x 11), none) := rr 11 (by decide) (by decide)
    have r3 : ∀ h x, (lim Tryd.prog σ).call 85 [w32 x, .int .i64 25] h = some (w32 (rotr x 25), none) := rr 25 (by decide) (by decide)
    have r4 : ∀ h x, (lim Tryd.prog σ).call 85 [w32 x, .int .i64 2] h = some (w32 (rotr x 2), none) := rr 2 (by decide) (by decide)
    have r5 : ∀ h x, (lim Tryd.prog σ).call 85 [w32 x, .int .i64 13] h = some (w32 (rotr x 13), none) := rr 13 (by decide) (by decide)
    have r6 : ∀ h x, (lim Tryd.prog σ).call 85 [w32 x, .int .i64 22] h = some (w32 (rotr x 22), none) := rr 22 (by decide) (by decide)
    simp only [go_sem, Nat.reduceLT, Nat.reduceLeDiff, Nat.reduceEqDiff, Nat.reduceAdd, Nat.reduceSub, Nat.reduceMul, reduceCtorEq, Int.reduceBEq, Int.reduceLT, Int.reduceLE, Int.reduceAdd, Int.reduceSub, Int.reduceEq, Int.reduceNeg, Int.reduceToNat, Int.reduceGT, Int.reduceGE, wadd32, wmul32, wadd64, wmul64, wand32, wor32, wxor32, wand64, wor64, wnot32, wsub32, wsub64, wshr32l, wshl32l, wshr64l, wshl64l, wshr32w, wshl32w, wshr64w, wlt64, wgt64, weq64, wne64, I.e0, I.e1, I.e2, I.e6, I.e7, e144, c0, E.a, E.b, E.c, E.d, E.e, E.f, E.g, E.h, w1, hi, hk', gk, gw, hbw, r1, r2, r3, r4, r5, r6, Nat.mul_one]
    refine cnd_go (Q := Q) (by kernel_rfl) ?_
    simp only [go_sem, Nat.reduceLT, Nat.reduceLeDiff, Nat.reduceEqDiff, Nat.reduceAdd, Nat.reduceSub, Nat.reduceMul, reduceCtorEq, Int.reduceBEq, Int.reduceLT, Int.reduceLE, Int.reduceAdd, Int.reduceSub, Int.reduceEq, Int.reduceNeg, Int.reduceToNat, Int.reduceGT, Int.reduceGE, wadd32, wmul32, wadd64, wmul64, wand32, wor32, wxor32, wand64, wor64, wnot32, wsub32, wsub64, wshr32l, wshl32l, wshr64l, wshl64l, wshr32w, wshl32w, wshr64w, wlt64, wgt64, weq64, wne64, I.e0, I.e1, I.e2, I.e6, I.e7, e144, c0, E.a, E.b, E.c, E.d, E.e, E.f, E.g, E.h, w1, hi, hk', gk, gw, hbw, r1, r2, r3, r4, r5, r6, Nat.mul_one]
    refine next _ _ ⟨⟨by simp only [go_sem, Nat.reduceLT, Nat.reduceLeDiff, Nat.reduceEqDiff, Nat.reduceAdd, Nat.reduceSub, Nat.reduceMul, reduceCtorEq, Int.reduceBEq, Int.reduceLT, Int.reduceLE, Int.reduceAdd, Int.reduceSub, Int.reduceEq, Int.reduceNeg, Int.reduceToNat, Int.reduceGT, Int.reduceGE, I.e0], by simp only [go_sem, Nat.reduceLT, Nat.reduceLeDiff, Nat.reduceEqDiff, Nat.reduceAdd, Nat.reduceSub, Nat.reduceMul, reduceCtorEq, Int.reduceBEq, Int.reduceLT, Int.reduceLE, Int.reduceAdd, Int.reduceSub, Int.reduceEq, Int.reduceNeg, Int.reduceToNat, Int.reduceGT, Int.reduceGE, I.e1], by simp only [go_sem, Nat.reduceLT, Nat.reduceLeDiff, Nat.reduceEqDiff, Nat.reduceAdd, Nat.reduceSub, Nat.reduceMul, reduceCtorEq, Int.reduceBEq, Int.reduceLT, Int.reduceLE, Int.reduceAdd, Int.reduceSub, Int.reduceEq, Int.reduceNeg, Int.reduceToNat, Int.reduceGT, Int.reduceGE, I.e2], by simp only [go_sem, Nat.reduceLT, Nat.reduceLeDiff, Nat.reduceEqDiff, Nat.reduceAdd, Nat.reduceSub, Nat.reduceMul, reduceCtorEq, Int.reduceBEq, Int.reduceLT, Int.reduceLE, Int.reduceAdd, Int.reduceSub, Int.reduceEq, Int.reduceNeg, Int.reduceToNat, Int.reduceGT, Int.reduceGE, I.e6], by simp only [go_sem, Nat.reduceLT, Nat.reduceLeDiff, Nat.reduceEqDiff, Nat.reduceAdd, Nat.reduceSub, Nat.reduceMul, reduceCtorEq, Int.reduceBEq, Int.reduceLT, Int.reduceLE, Int.reduceAdd, Int.reduceSub, Int.reduceEq, Int.reduceNeg, Int.reduceToNat, Int.reduceGT, Int.reduceGE, I.e7], I.nx, I.ext, I.low, b, hbw, hbn, hbr, hbg⟩, by simp only [go_sem, Nat.reduceLT, Nat.reduceLeDiff, Nat.reduceEqDiff, Nat.reduceAdd, Nat.reduceSub, Nat.reduceMul, reduceCtorEq, Int.reduceBEq, Int.reduceLT, Int.reduceLE, Int.reduceAdd, Int.reduceSub, Int.reduceEq, Int.reduceNeg, Int.reduceToNat, Int.reduceGT, Int.reduceGE],
      by simp only [go_sem, Nat.reduceLT, Nat.reduceLeDiff, Nat.reduceEqDiff, Nat.reduceAdd, Nat.reduceSub, Nat.reduceMul, reduceCtorEq, Int.reduceBEq, Int.reduceLT, Int.reduceLE, Int.reduceAdd, Int.reduceSub, Int.reduceEq, Int.reduceNeg, Int.reduceToNat, Int.reduceGT, Int.reduceGE]; rfl, by simp only [go_sem, Nat.reduceLT, Nat.reduceLeDiff, Nat.reduceEqDiff, Nat.reduceAdd, Nat.reduceSub, Nat.reduceMul, reduceCtorEq, Int.reduceBEq, Int.reduceLT, Int.reduceLE, Int.reduceAdd, Int.reduceSub, Int.reduceEq, Int.reduceNeg, Int.reduceToNat, Int.reduceGT, Int.reduceGE]; rfl, by simp only [go_sem, Nat.reduceLT, Nat.reduceLeDiff, Nat.reduceEqDiff, Nat.reduceAdd, Nat.reduceSub, Nat.reduceMul, reduceCtorEq, Int.reduceBEq, Int.reduceLT, Int.reduceLE, Int.reduceAdd, Int.reduceSub, Int.reduceEq, Int.reduceNeg, Int.reduceToNat, Int.reduceGT, Int.reduceGE]; rfl, by simp only [go_sem, Nat.reduceLT, Nat.reduceLeDiff, Nat.reduceEqDiff, Nat.reduceAdd, Nat.reduceSub, Nat.reduceMul, reduceCtorEq, Int.reduceBEq, Int.reduceLT, Int.reduceLE, Int.reduceAdd, Int.reduceSub, Int.reduceEq, Int.reduceNeg, Int.reduceToNat, Int.reduceGT, Int.reduceGE]; rfl, by simp only [go_sem, Nat.reduceLT, Nat.reduceLeDiff, Nat.reduceEqDiff, Nat.reduceAdd, Nat.reduceSub, Nat.reduceMul, reduceCtorEq, Int.reduceBEq, Int.reduceLT, Int.reduceLE, Int.reduceAdd, Int.reduceSub, Int.reduceEq, Int.reduceNeg, Int.reduceToNat, Int.reduceGT, Int.reduceGE]; rfl, by simp only [go_sem, Nat.reduceLT, Nat.reduceLeDiff, Nat.reduceEqDiff, Nat.reduceAdd, Nat.reduceSub, Nat.reduceMul, reduceCtorEq, Int.reduceBEq, Int.reduceLT, Int.reduceLE, Int.reduceAdd, Int.reduceSub, Int.reduceEq, Int.reduceNeg, Int.reduceToNat, Int.reduceGT, Int.reduceGE]; rfl, by simp only [go_sem, Nat.reduceLT, Nat.reduceLeDiff, Nat.reduceEqDiff, Nat.reduceAdd, Nat.reduceSub, Nat.reduceMul, reduceCtorEq, Int.reduceBEq, Int.reduceLT, Int.reduceLE, Int.reduceAdd, Int.reduceSub, Int.reduceEq, Int.reduceNeg, Int.reduceToNat, Int.reduceGT, Int.reduceGE]; rfl, by simp only [go_sem, Nat.reduceLT, Nat.reduceLeDiff, Nat.reduceEqDiff, Nat.reduceAdd, Nat.reduceSub, Nat.reduceMul, reduceCtorEq, Int.reduceBEq, Int.reduceLT, Int.reduceLE, Int.reduceAdd, Int.reduceSub, Int.reduceEq, Int.reduceNeg, Int.reduceToNat, Int.reduceGT, Int.reduceGE]; rfl⟩
  clear I e10 c0 hs' hk' env h'
  rintro env h' ⟨I, e144, E⟩
  have c0 : ¬ Int.ofNat 64 < 64 := by decide
  obtain ⟨r, hr⟩ : ∃ r, r = rnds xs st 64 := ⟨_, rfl⟩
  rw [← hr] at E
  simp only [go_sem, Nat.reduceLT, Nat.reduceLeDiff, Nat.reduceEqDiff, Nat.reduceAdd, Nat.reduceSub, Nat.reduceMul, reduceCtorEq, Int.reduceBEq, Int.reduceLT, Int.reduceLE, Int.reduceAdd, Int.reduceSub, Int.reduceEq, Int.reduceNeg, Int.reduceToNat, Int.reduceGT, Int.reduceGE, wadd32, wmul32, wadd64, wmul64, wand32, wor32, wxor32, wand64, wor64, wnot32, wsub32, wsub64, wshr32l, wshl32l, wshr64l, wshl64l, wshr32w, wshl32w, wshr64w, wlt64, wgt64, weq64, wne64, I.e0, I.e1, I.e2, I.e6, I.e7, e144, c0, E.a, E.b, E.c, E.d, E.e, E.f, E.g, E.h]
  refine loop_ind (Q := Q) (fun i env h' => evT env 0 = .ptr s 0 ∧ evT env 225 = .agg (r.l.map w32) ∧ evT env 226 = .int .i64 (Int.ofNat i) ∧ h'.nx = h.nx + 1 ∧ h'.gn = h.gn ∧ (∀ k, k < h.nx → k ≠ s → h'.t.get k = h.t.get k) ∧ (i = 0 → h'.low = h.nx) ∧ (0 < i → h'.low = s) ∧
    ∃ b, h'.blk s = some b ∧ b.n = 8 ∧ b.ro = false ∧ ∀ j, j < 8 → b.get j = some (w32 (if j < i then st.at j + r.at j else st.at j))) 8 0 ?_ (by decide) ?_ ?_
  · refine ⟨by simp only [go_sem, Nat.reduceLT, Nat.reduceLeDiff, Nat.reduceEqDiff, Nat.reduceAdd, Nat.reduceSub, Nat.reduceMul, reduceCtorEq, Int.reduceBEq, Int.reduceLT, Int.reduceLE, Int.reduceAdd, Int.reduceSub, Int.reduceEq, Int.reduceNeg, Int.reduceToNat, Int.reduceGT, Int.reduceGE, I.e0], by simp only [go_sem, Nat.reduceLT, Nat.reduceLeDiff, Nat.reduceEqDiff, Nat.reduceAdd, Nat.reduceSub, Nat.reduceMul, reduceCtorEq, Int.reduceBEq, Int.reduceLT, Int.reduceLE, Int.reduceAdd, Int.reduceSub, Int.reduceEq, Int.reduceNeg, Int.reduceToNat, Int.reduceGT, Int.reduceGE]; rfl, by simp only [go_sem, Nat.reduceLT, Nat.reduceLeDiff, Nat.reduceEqDiff, Nat.reduceAdd, Nat.reduceSub, Nat.reduceMul, reduceCtorEq, Int.reduceBEq, Int.reduceLT, Int.reduceLE, Int.reduceAdd, Int.reduceSub, Int.reduceEq, Int.reduceNeg, Int.reduceToNat, Int.reduceGT, Int.reduceGE]; rfl, I.nx, I.ext.gn, fun k hk _ => I.ext.old k hk, fun _ => I.low, fun h => absurd h (Nat.lt_irrefl _), bs, (I.ext.blk ls).trans hs, hsn, hsr, fun j hj => by rw [hsg, S8.nth _ hj, if_neg (Nat.not_lt_zero _)]⟩
  · clear I e144 E c0 env h'
    rintro i env h' ⟨e0, e225, e226, hnx, hgn, hold, hlow, hlow2, b, hb8, hbn, hbr, hbg⟩ hi next
    have c0 : Int.ofNat i < 8 := by simp; omega
    have w1 : IntKind.wrap .i64 (Int.ofNat i + 1) = Int.ofNat (i + 1) := wrap_n (by simp) (by omega)
    have gi := hbg i hi
    rw [if_neg (Nat.lt_irrefl _)] at gi
    have gn := S8.nth r hi
    simp only [go_sem, Nat.reduceLT, Nat.reduceLeDiff, Nat.reduceEqDiff, Nat.reduceAdd, Nat.reduceSub, Nat.reduceMul, reduceCtorEq, Int.reduceBEq, Int.reduceLT, Int.reduceLE, Int.reduceAdd, Int.reduceSub, Int.reduceEq, Int.reduceNeg, Int.reduceToNat, Int.reduceGT, Int.reduceGE, wadd32, wmul32, wadd64, wmul64, wand32, wor32, wxor32, wand64, wor64, wnot32, wsub32, wsub64, wshr32l, wshl32l, wshr64l, wshl64l, wshr32w, wshl32w, wshr64w, wlt64, wgt64, weq64, wne64, e0, e225, e226, c0, w1, hi, gn, gi, hb8, hbn, hbr, ix i hi, Nat.mul_one]
    refine cnd_go (Q := Q) (by kernel_rfl) ?_
    simp only [go_sem, Nat.reduceLT, Nat.reduceLeDiff, Nat.reduceEqDiff, Nat.reduceAdd, Nat.reduceSub, Nat.reduceMul, reduceCtorEq, Int.reduceBEq, Int.reduceLT, Int.reduceLE, Int.reduceAdd, Int.reduceSub, Int.reduceEq, Int.reduceNeg, Int.reduceToNat, Int.reduceGT, Int.reduceGE, wadd32, wmul32, wadd64, wmul64, wand32, wor32, wxor32, wand64, wor64, wnot32, wsub32, wsub64, wshr32l, wshl32l, wshr64l, wshl64l, wshr32w, wshl32w, wshr64w, wlt64, wgt64, weq64, wne64, e0, e225, e226, c0, w1, hi, gn, gi, hb8, hbn, hbr, ix i hi, Nat.mul_one]
    refine cnd_go (Q := Q) (by kernel_rfl) ?_
    refine quiet_go (Q := Q) (by kernel_rfl) ?_
    simp only [go_sem, Nat.reduceLT, Nat.reduceLeDiff, Nat.reduceEqDiff, Nat.reduceAdd, Nat.reduceSub, Nat.reduceMul, reduceCtorEq, Int.reduceBEq, Int.reduceLT, Int.reduceLE, Int.reduceAdd, Int.reduceSub, Int.reduceEq, Int.reduceNeg, Int.reduceToNat, Int.reduceGT, Int.reduceGE, wadd32, wmul32, wadd64, wmul64, wand32, wor32, wxor32, wand64, wor64, wnot32, wsub32, wsub64, wshr32l, wshl32l, wshr64l, wshl64l, wshr32w, wshl32w, wshr64w, wlt64, wgt64, weq64, wne64, e0, e225, e226, c0, w1, hi, gn, gi, hb8, hbn, hbr, ix i hi, Nat.mul_one]
    refine next _ _ ⟨by simp only [go_sem, Nat.reduceLT, Nat.reduceLeDiff, Nat.reduceEqDiff, Nat.reduceAdd, Nat.reduceSub, Nat.reduceMul, reduceCtorEq, Int.reduceBEq, Int.reduceLT, Int.reduceLE, Int.reduceAdd, Int.reduceSub, Int.reduceEq, Int.reduceNeg, Int.reduceToNat, Int.reduceGT, Int.reduceGE, e0], by simp only [go_sem, Nat.reduceLT, Nat.reduceLeDiff, Nat.reduceEqDiff, Nat.reduceAdd, Nat.reduceSub, Nat.reduceMul, reduceCtorEq, Int.reduceBEq, Int.reduceLT, Int.reduceLE, Int.reduceAdd, Int.reduceSub, Int.reduceEq, Int.reduceNeg, Int.reduceToNat, Int.reduceGT, Int.reduceGE, e225], by simp only [go_sem, Nat.reduceLT, Nat.reduceLeDiff, Nat.reduceEqDiff, Nat.reduceAdd, Nat.reduceSub, Nat.reduceMul, reduceCtorEq, Int.reduceBEq, Int.reduceLT, Int.reduceLE, Int.reduceAdd, Int.reduceSub, Int.reduceEq, Int.reduceNeg, Int.reduceToNat, Int.reduceGT, Int.reduceGE], hnx, hgn, fun k hk hne => by simp only [go_sem, Nat.reduceLT, Nat.reduceLeDiff, Nat.reduceEqDiff, Nat.reduceAdd, Nat.reduceSub, Nat.reduceMul, reduceCtorEq, Int.reduceBEq, Int.reduceLT, Int.reduceLE, Int.reduceAdd, Int.reduceSub, Int.reduceEq, Int.reduceNeg, Int.reduceToNat, Int.reduceGT, Int.reduceGE, hne]; exact hold k hk hne, fun q => absurd q (Nat.succ_ne_zero i), fun _ => by simp only [go_sem, Nat.reduceLT, Nat.reduceLeDiff, Nat.reduceEqDiff, Nat.reduceAdd, Nat.reduceSub, Nat.reduceMul, reduceCtorEq, Int.reduceBEq, Int.reduceLT, Int.reduceLE, Int.reduceAdd, Int.reduceSub, Int.reduceEq, Int.reduceNeg, Int.reduceToNat, Int.reduceGT, Int.reduceGE]; omega, _, put_blk_same _ _ _, by rw [st_n]; exact hbn, by rw [st_ro]; exact hbr, fun j hj => ?_⟩
    by_cases q : j = i
    · subst q; rw [st_get_same _ _ _ (by omega), if_pos (by omega)]
    · rw [st_get_ne _ _ _ _ q, hbg j hj]
      by_cases q2 : j < i
      · rw [if_pos q2, if_pos (by omega)]
      · rw [if_neg q2, if_neg (by omega)]
  · clear I e144 E c0 env h'
    rintro env h' ⟨e0, e225, e226, hnx, hgn, hold, hlow, hlow2, b, hb8, hbn, hbr, hbg⟩
    have c0 : ¬ Int.ofNat 8 < 8 := by decide
    have hlow3 := hlow2 (by decide)
    simp only [go_sem, Nat.reduceLT, Nat.reduceLeDiff, Nat.reduceEqDiff, Nat.reduceAdd, Nat.reduceSub, Nat.reduceMul, reduceCtorEq, Int.reduceBEq, Int.reduceLT, Int.reduceLE, Int.reduceAdd, Int.reduceSub, Int.reduceEq, Int.reduceNeg, Int.reduceToNat, Int.reduceGT, Int.reduceGE, e226, c0]
    rw [fin_l _ _ _ (by omega), hQ]
    refine ⟨_, rfl, by simp only [go_sem, Nat.reduceLT, Nat.reduceLeDiff, Nat.reduceEqDiff, Nat.reduceAdd, Nat.reduceSub, Nat.reduceMul, reduceCtorEq, Int.reduceBEq, Int.reduceLT, Int.reduceLE, Int.reduceAdd, Int.reduceSub, Int.reduceEq, Int.reduceNeg, Int.reduceToNat, Int.reduceGT, Int.reduceGE]; omega, hgn, fun k hk hne => hold k hk hne, ⟨b, hb8, hbn, hbr, fun i => ?_⟩, by simp only [go_sem, Nat.reduceLT, Nat.reduceLeDiff, Nat.reduceEqDiff, Nat.reduceAdd, Nat.reduceSub, Nat.reduceMul, reduceCtorEq, Int.reduceBEq, Int.reduceLT, Int.reduceLE, Int.reduceAdd, Int.reduceSub, Int.reduceEq, Int.reduceNeg, Int.reduceToNat, Int.reduceGT, Int.reduceGE]; omega⟩
    by_cases q : i < 8
    · rw [hbg i q, if_pos q, S8.nth _ q]
      unfold pressS
      rw [S8.at_add _ _ q, hr]
    · rw [get_none (by omega), nth_none _ _ (by rw [List.length_map]; show 8 ≤ i; omega)]
end Go.Cl.Sh
