/- The program's functions, run by the rewriting evaluator: what each answers and leaves (MbD). -/
import Derived.Test.YtadmgnlmoodjeaaDoorMbC
set_option linter.all false
open Go Go.Cl Go.Proofs
namespace Go.Cl.Sh
variable {σ : Sums}
set_option maxRecDepth 1000000

def bx8 (x : BitVec 64) : List Nat := (List.range 8).map fun i => (x >>> (8 * (7 - i))).toNat % 256
theorem bx8_len (x : BitVec 64) : (bx8 x).length = 8 := by simp [bx8]
theorem bx8_at (x : BitVec 64) {i : Nat} (h : i < 8) : (bx8 x)[i]? = some ((x >>> (8 * (7 - i))).toNat % 256) := by
  unfold bx8; rw [List.getElem?_map, List.getElem?_range h]; rfl

/-- the closure that puts a number -/
def PutOk (h : H) (bid a : Nat) (x : BitVec 64) (g : Nat → Option CV) (r : Option (CV × Option H)) : Prop :=
  ∃ h', r = some (.tup [], some h') ∧ h'.nx = h.nx ∧ h'.gn = h.gn ∧ (∀ k, k ≠ bid → h'.t.get k = h.t.get k) ∧ h'.low = min h.low bid ∧ ∃ b, h'.blk bid = some b ∧ b.n = 256 ∧ b.ro = false ∧ ∀ i, b.get i = over a (bc (bx8 x)) g i
theorem bput_run (hσ : ∀ f a h, W.told f = false → σ f a h = none) {h : H} {bid : Nat} {b0 : Blk} (hb0 : h.blk bid = some b0) (hn0 : b0.n = 256) (hr0 : b0.ro = false) (hid : bid < h.nx) {a : Nat} (ha : a + 8 ≤ 256) (x : BitVec 64) :
    PutOk h bid a x b0.get ((lim Tryd.prog σ).call 51 [.int .i64 (Int.ofNat a), w64 x, .ptr bid 0] h) := by
  obtain ⟨Q, hQ⟩ : ∃ Q, Q = PutOk h bid a x b0.get := ⟨_, rfl⟩
  rw [← hQ]
  rw [call_eq (hσ _ _ _ (by decide)) fn_51 rfl rfl, Tryd.ntmps51, Tryd.results51]
  simp only [go_sem, Nat.reduceLT, Nat.reduceLeDiff, Nat.reduceEqDiff, Nat.reduceAdd, Nat.reduceSub, Nat.reduceMul, reduceCtorEq, Int.reduceBEq, Int.reduceLT, Int.reduceLE, Int.reduceAdd, Int.reduceSub, Int.reduceEq, Int.reduceNeg, Int.reduceToNat, Int.reduceGT, Int.reduceGE, wadd32, wmul32, wadd64, wmul64, wand32, wor32, wxor32, wand64, wor64, wnot32, wsub32, wsub64, wshr32l, wshl32l, wshr64l, wshl64l, wshr32w, wshl32w, wshr64w, wlt64, wgt64, weq64, wne64]
  refine loop_ind (Q := Q) (fun i env h' => evT env 0 = .int .i64 (Int.ofNat a) ∧ evT env 1 = w64 x ∧ evT env 2 = .ptr bid 0 ∧ evT env 6 = .int .i64 (Int.ofNat i) ∧ h'.nx = h.nx ∧ h'.gn = h.gn ∧ (∀ k, k ≠ bid → h'.t.get k = h.t.get k) ∧ ((i = 0 ∧ h'.low = h.nx) ∨ h'.low = bid) ∧ ∃ b, h'.blk bid = some b ∧ b.n = 256 ∧ b.ro = false ∧ ∀ j, b.get j = over a ((bc (bx8 x)).take i) b0.get j) 8 0 ?_ (by decide) ?_ ?_
  · exact ⟨by simp only [go_sem, Nat.reduceLT, Nat.reduceLeDiff, Nat.reduceEqDiff, Nat.reduceAdd, Nat.reduceSub, Nat.reduceMul, reduceCtorEq, Int.reduceBEq, Int.reduceLT, Int.reduceLE, Int.reduceAdd, Int.reduceSub, Int.reduceEq, Int.reduceNeg, Int.reduceToNat, Int.reduceGT, Int.reduceGE], by simp only [go_sem, Nat.reduceLT, Nat.reduceLeDiff, Nat.reduceEqDiff, Nat.reduceAdd, Nat.reduceSub, Nat.reduceMul, reduceCtorEq, Int.reduceBEq, Int.reduceLT, Int.reduceLE, Int.reduceAdd, Int.reduceSub, Int.reduceEq, Int.reduceNeg, Int.reduceToNat, Int.reduceGT, Int.reduceGE], by simp only [go_sem, Nat.reduceLT, Nat.reduceLeDiff, Nat.reduceEqDiff, Nat.reduceAdd, Nat.reduceSub, Nat.reduceMul, reduceCtorEq, Int.reduceBEq, Int.reduceLT, Int.reduceLE, Int.reduceAdd, Int.reduceSub, Int.reduceEq, Int.reduceNeg, Int.reduceToNat, Int.reduceGT, Int.reduceGE], by simp only [go_sem, Nat.reduceLT, Nat.reduceLeDiff, Nat.reduceEqDiff, Nat.reduceAdd, Nat.reduceSub, Nat.reduceMul, reduceCtorEq, Int.reduceBEq, Int.reduceLT, Int.reduceLE, Int.reduceAdd, Int.reduceSub, Int.reduceEq, Int.reduceNeg, Int.reduceToNat, Int.reduceGT, Int.reduceGE]; rfl, rfl, rfl, fun _ _ => rfl, .inl ⟨rfl, rfl⟩, b0, hb0, hn0, hr0, fun j => by unfold over; rw [if_neg (by simp)]⟩
  · rintro i env h' ⟨e0, e1, e2, e6, hnx, hgn, hold, hlow, b, hb, hn, hr, hg⟩ hi next
    have c0 : Int.ofNat i < 8 := by simp; omega
    have w1 : IntKind.wrap .i64 (Int.ofNat a + Int.ofNat i) = Int.ofNat (a + i) := wrap_n (by simp) (by omega)
    have w2 : IntKind.wrap .i64 (7 - Int.ofNat i) = Int.ofNat (7 - i) := wrap_n (by simp; omega) (by omega)
    have w3 : IntKind.wrap .i64 (8 * Int.ofNat (7 - i)) = Int.ofNat (8 * (7 - i)) := wrap_n (by simp) (by omega)
    have w4 : IntKind.wrap .i64 (Int.ofNat i + 1) = Int.ofNat (i + 1) := wrap_n (by simp) (by omega)
    have hlt : a + i < 256 := by omega
    simp only [go_sem, Nat.reduceLT, Nat.reduceLeDiff, Nat.reduceEqDiff, Nat.reduceAdd, Nat.reduceSub, Nat.reduceMul, reduceCtorEq, Int.reduceBEq, Int.reduceLT, Int.reduceLE, Int.reduceAdd, Int.reduceSub, Int.reduceEq, Int.reduceNeg, Int.reduceToNat, Int.reduceGT, Int.reduceGE, wadd32, wmul32, wadd64, wmul64, wand32, wor32, wxor32, wand64, wor64, wnot32, wsub32, wsub64, wshr32l, wshl32l, wshr64l, wshl64l, wshr32w, wshl32w, wshr64w, wlt64, wgt64, weq64, wne64, e0, e1, e2, e6, c0, w1, w2, w3, w4, hlt, hb, hn, hr, wshr64, cv315, Nat.mul_one, Nat.zero_add]
    refine next _ _ ⟨by simp only [go_sem, Nat.reduceLT, Nat.reduceLeDiff, Nat.reduceEqDiff, Nat.reduceAdd, Nat.reduceSub, Nat.reduceMul, reduceCtorEq, Int.reduceBEq, Int.reduceLT, Int.reduceLE, Int.reduceAdd, Int.reduceSub, Int.reduceEq, Int.reduceNeg, Int.reduceToNat, Int.reduceGT, Int.reduceGE, e0], by simp only [go_sem, Nat.reduceLT, Nat.reduceLeDiff, Nat.reduceEqDiff, Nat.reduceAdd, Nat.reduceSub, Nat.reduceMul, reduceCtorEq, Int.reduceBEq, Int.reduceLT, Int.reduceLE, Int.reduceAdd, Int.reduceSub, Int.reduceEq, Int.reduceNeg, Int.reduceToNat, Int.reduceGT, Int.reduceGE, e1], by simp only [go_sem, Nat.reduceLT, Nat.reduceLeDiff, Nat.reduceEqDiff, Nat.reduceAdd, Nat.reduceSub, Nat.reduceMul, reduceCtorEq, Int.reduceBEq, Int.reduceLT, Int.reduceLE, Int.reduceAdd, Int.reduceSub, Int.reduceEq, Int.reduceNeg, Int.reduceToNat, Int.reduceGT, Int.reduceGE, e2], by simp only [go_sem, Nat.reduceLT, Nat.reduceLeDiff, Nat.reduceEqDiff, Nat.reduceAdd, Nat.reduceSub, Nat.reduceMul, reduceCtorEq, Int.reduceBEq, Int.reduceLT, Int.reduceLE, Int.reduceAdd, Int.reduceSub, Int.reduceEq, Int.reduceNeg, Int.reduceToNat, Int.reduceGT, Int.reduceGE], hnx, hgn, fun k hk => (put_get_ne _ _ _ _ hk).trans (hold k hk), .inr ?_, _, put_blk_same _ _ _, by rw [st_n]; exact hn, by rw [st_ro]; exact hr, fun j => ?_⟩
    · simp only [go_sem, Nat.reduceLT, Nat.reduceLeDiff, Nat.reduceEqDiff, Nat.reduceAdd, Nat.reduceSub, Nat.reduceMul, reduceCtorEq, Int.reduceBEq, Int.reduceLT, Int.reduceLE, Int.reduceAdd, Int.reduceSub, Int.reduceEq, Int.reduceNeg, Int.reduceToNat, Int.reduceGT, Int.reduceGE]
      rcases hlow with ⟨_, e⟩ | e
      · omega
      · omega
    · have hbx : nth (bc (bx8 x)) i = some (u8 ((x >>> (8 * (7 - i))).toNat % 256)) := by
        rw [nth_eq]; unfold bc; rw [List.getElem?_map, bx8_at x hi]; rfl
      by_cases hj : j = a + i
      · subst hj
        rw [st_get_same _ _ _ (by omega)]
        unfold over
        rw [if_pos (by rw [List.length_take, bc_len, bx8_len]; omega), show a + i - a = i by omega, nth_eq, List.getElem?_take, if_pos (by omega), ← nth_eq, hbx]
      · rw [st_get_ne _ _ _ _ hj, hg]
        unfold over
        rw [List.length_take, List.length_take, bc_len, bx8_len]
        by_cases q : a ≤ j ∧ j < a + min i 8
        · rw [if_pos q, if_pos (by omega), nth_eq, nth_eq, List.getElem?_take, List.getElem?_take, if_pos (by omega), if_pos (by omega)]
        · rw [if_neg q, if_neg (by omega)]
  · rintro env h' ⟨e0, e1, e2, e6, hnx, hgn, hold, hlow, b, hb, hn, hr, hg⟩
    have c0 : ¬ Int.ofNat 8 < 8 := by decide
    simp only [go_sem, Nat.reduceLT, Nat.reduceLeDiff, Nat.reduceEqDiff, Nat.reduceAdd, Nat.reduceSub, Nat.reduceMul, reduceCtorEq, Int.reduceBEq, Int.reduceLT, Int.reduceLE, Int.reduceAdd, Int.reduceSub, Int.reduceEq, Int.reduceNeg, Int.reduceToNat, Int.reduceGT, Int.reduceGE, wadd32, wmul32, wadd64, wmul64, wand32, wor32, wxor32, wand64, wor64, wnot32, wsub32, wsub64, wshr32l, wshl32l, wshr64l, wshl64l, wshr32w, wshl32w, wshr64w, wlt64, wgt64, weq64, wne64, e0, e1, e2, e6, c0]
    rw [hQ]
    have hl : h'.low = bid := by rcases hlow with ⟨h, _⟩ | h; · cases h
                                 · exact h
    rw [fin_l _ _ _ (by omega)]
    refine ⟨_, rfl, hnx, hgn, hold, by simp only [go_sem, Nat.reduceLT, Nat.reduceLeDiff, Nat.reduceEqDiff, Nat.reduceAdd, Nat.reduceSub, Nat.reduceMul, reduceCtorEq, Int.reduceBEq, Int.reduceLT, Int.reduceLE, Int.reduceAdd, Int.reduceSub, Int.reduceEq, Int.reduceNeg, Int.reduceToNat, Int.reduceGT, Int.reduceGE]; omega, b, hb, hn, hr, fun j => ?_⟩
    rw [hg, show (bc (bx8 x)).take 8 = bc (bx8 x) from List.take_of_length_le (by rw [bc_len, bx8_len]; exact Nat.le_refl _)]
end Go.Cl.Sh

namespace Go.Cl.Sh
variable {σ : Sums}
set_option maxRecDepth 1000000

def natV (D : List Nat) : Nat → Nat
  | 0 => 0
  | i + 1 => 256 * natV D i + D[i]?.getD 0
theorem getD_lt {D : List Nat} (h : ∀ b ∈ D, b < 256) (i : Nat) : D[i]?.getD 0 < 256 := by
  cases hd : D[i]? with
  | none => decide
  | some y => exact h y (List.mem_of_getElem? hd)
theorem natV_lt {D : List Nat} (h : ∀ b ∈ D, b < 256) : ∀ i, natV D i < 256 ^ i
  | 0 => Nat.zero_lt_one
  | i + 1 => by
    have h1 := natV_lt h i
    have h2 := getD_lt h i
    simp only [natV, Nat.pow_succ]
    omega
theorem rshV_nat {D : List Nat} (h : ∀ b ∈ D, b < 256) : ∀ i, i ≤ 8 → (rshV D i).toNat = natV D i
  | 0, _ => rfl
  | i + 1, hi => by
    have ih := rshV_nat h i (by omega)
    have h1 := natV_lt h (i + 1)
    have h3 : 256 ^ (i + 1) ≤ 256 ^ 8 := Nat.pow_le_pow_right (by decide) hi
    have h2 := getD_lt h i
    simp only [rshV, BitVec.toNat_add, BitVec.toNat_mul, ih, BitVec.toNat_ofNat]
    simp only [natV] at h1 ⊢
    have h4 : (256 : Nat) ^ 8 = 2 ^ 64 := by decide
    omega
theorem bx8_sh {D : List Nat} (h : ∀ b ∈ D, b < 256) (hl : 8 ≤ D.length) : bx8 (shV D 8) = D.take 8 := by
  rw [← shV_same D h 8]
  refine List.ext_getElem? fun i => ?_
  by_cases hi : i < 8
  · rw [bx8_at _ hi, List.getElem?_take, if_pos hi, List.getElem?_eq_getElem (by omega)]
    congr 1
    rw [BitVec.toNat_ushiftRight, Nat.shiftRight_eq_div_pow, rshV_nat h 8 (Nat.le_refl _)]
    have e0 := getD_lt h 0
    have e1 := getD_lt h 1
    have e2 := getD_lt h 2
    have e3 := getD_lt h 3
    have e4 := getD_lt h 4
    have e5 := getD_lt h 5
    have e6 := getD_lt h 6
    have e7 := getD_lt h 7
    have hg : D[i] = D[i]?.getD 0 := by rw [List.getElem?_eq_getElem (by omega)]; rfl
    rw [hg]
    simp only [natV]
    have hi' : i = 0 ∨ i = 1 ∨ i = 2 ∨ i = 3 ∨ i = 4 ∨ i = 5 ∨ i = 6 ∨ i = 7 := by omega
    rcases hi' with rfl | rfl | rfl | rfl | rfl | rfl | rfl | rfl <;> simp only [Nat.reduceSub, Nat.reduceMul, Nat.reducePow] <;> omega
  · rw [List.getElem?_eq_none (by rw [bx8_len]; omega), List.getElem?_eq_none (by rw [List.length_take]; omega)]

def markL : List Nat := [71, 69, 66, 77]
def preL (x : BitVec 64) : List Nat := markL ++ (bx8 x ++ List.replicate 236 0)
def blockL (x : BitVec 64) : List Nat := preL x ++ (digest (preL x)).take 8
theorem preL_len (x : BitVec 64) : (preL x).length = 248 := by unfold preL markL; simp [bx8_len]
theorem blockL_len (x : BitVec 64) : (blockL x).length = 256 := by unfold blockL; rw [List.length_append, preL_len, List.length_take, digest_len]; rfl
theorem copy_m {h : H} {id : Nat} {b : Blk} (hb : h.blk id = some b) (hr : b.ro = false) (hn : b.n = 256) :
    ∃ b', builtinT Tryd.prog h .copy [24, 9] [.sl id 0 256 (.exact 256), .str [71, 69, 66, 77]] = some (.upd (.int .i64 4) (h.put id (.cells b'))) ∧ b'.n = 256 ∧ b'.ro = false ∧ ∀ i, b'.get i = over 0 (bc markL) b.get i := by
  obtain ⟨b', e, hn', hr', hg'⟩ := storeN_ok (bc markL) b 0 (by rw [bc_len, hn]; decide) (bc_one _)
  refine ⟨b', ?_, by omega, by rw [hr', hr], fun i => by rw [hg']; rfl⟩
  have e' : b.storeN 0 [.int .u8 71, .int .u8 69, .int .u8 66, .int .u8 77] = some b' := e
  simp [builtinT, copyT, Tryd.underlying24, sz_5, lenC, firstC, hb, hr, uv]
  exact ⟨b', e', rfl⟩
theorem sla_all (h : H) (id : Nat) : sliceT Tryd.prog h 40 (.ptr id 0) none none none = some (.sl id 0 256 (.exact 256)) := by kernel_rfl
theorem sla_248 (h : H) (id : Nat) : sliceT Tryd.prog h 40 (.ptr id 0) none (some (.int .i64 248)) none = some (.sl id 0 248 (.exact 256)) := by kernel_rfl
theorem over_at {a : Nat} {l : List CV} {g : Nat → Option CV} {i : Nat} : over a l g i = if a ≤ i ∧ i < a + l.length then nth l (i - a) else g i := rfl
theorem pre_get {b : Blk} {g : Nat → Option CV} (x : BitVec 64) (hg : ∀ i, b.get i = over 4 (bc (bx8 x)) (over 0 (bc markL) g) i) (hz : ∀ i, i < 256 → g i = some (u8 0)) : ∀ i, i < 248 → b.get i = nth (bc (preL x)) i := fun i hi => by
  rw [hg, over_at, bc_len, bx8_len, over_at, bc_len, nth_eq (bc (preL x))]
  unfold preL bc
  rw [List.map_append, List.map_append, List.getElem?_append, List.getElem?_append, List.length_map, List.length_map, bx8_len]
  have hm : markL.length = 4 := rfl
  rw [hm]
  by_cases h1 : i < 4
  · rw [if_neg (by omega), if_pos (by omega), if_pos h1, nth_eq]; rfl
  · rw [if_neg h1]
    by_cases h2 : i < 12
    · rw [if_pos (by omega), if_pos (by omega), nth_eq]
    · rw [if_neg (by omega), if_neg (by omega), if_neg (by omega), hz i (by omega), List.map_replicate, List.getElem?_replicate, if_pos (by omega)]

theorem ze_blk : zeroT Tryd.prog 40 = some (.agg (List.replicate 256 (.int .u8 0))) := by kernel_rfl
theorem rep_one' : (List.replicate 256 (CV.int .u8 0)).all CV.one = true := by kernel_rfl
theorem zb_ok : ∃ zb, zb = newBlk (List.replicate 256 (CV.int .u8 0)) ∧ zb.n = 256 ∧ zb.ro = false ∧ ∀ i, i < 256 → zb.get i = some (u8 0) :=
  ⟨_, rfl, by rw [wnewBlk_n, List.length_replicate], newBlk_ro _, fun i hi => by rw [newBlk_get, nth_eq, List.getElem?_replicate, if_pos hi]; rfl⟩
theorem nth_lt {l : List Nat} {i : Nat} (h : i < l.length) : nth (bc l) i = some (u8 (l[i]?.getD 0)) := by
  rw [nth_eq]; unfold bc; rw [List.getElem?_map, List.getElem?_eq_getElem h]; rfl
theorem loadN_bc {b : Blk} {L : List Nat} (off n : Nat) (hl : L.length = n) (hg : ∀ i, i < n → b.get (off + i) = nth (bc L) i) : b.loadN off n = some (bc L) :=
  loadN_of _ _ _ (by rw [bc_len, hl]) fun i v hv => by rw [hg i (by have := nlt hv; rw [bc_len] at this; omega)]; exact hv

theorem bblock_run (hσ : ∀ f a h, W.told f = false → σ f a h = none) {h : H} (g : HG h) (x : BitVec 64) : RetQ h (.agg (bc (blockL x))) ((lim Tryd.prog σ).call 13 [w64 x] h) := by
  obtain ⟨Q, hQ⟩ : ∃ Q, Q = RetQ h (.agg (bc (blockL x))) := ⟨_, rfl⟩
  rw [← hQ]
  rw [call_eq (hσ _ _ _ (by decide)) fn_13 rfl rfl, Tryd.ntmps13, Tryd.results13]
  obtain ⟨zb, hzb, hzn, hzr, hz⟩ := zb_ok
  obtain ⟨X, hX⟩ : ∃ X, X = (h.lo.alloc (.cells zb)).alloc (.cells zb) := ⟨_, rfl⟩
  have Xnx : X.nx = h.nx + 2 := by rw [hX]; rfl
  have Xlow : X.low = h.nx := by rw [hX]; rfl
  have XE : Ext h X := by rw [hX]; exact ((Ext.lo h).alloc' _).alloc' _
  have X0 : X.blk h.nx = some zb := by rw [hX]; simp only [go_sem, Nat.reduceLT, Nat.reduceLeDiff, Nat.reduceEqDiff, Nat.reduceAdd, Nat.reduceSub, Nat.reduceMul, reduceCtorEq, Int.reduceBEq, Int.reduceLT, Int.reduceLE, Int.reduceAdd, Int.reduceSub, Int.reduceEq, Int.reduceNeg, Int.reduceToNat, Int.reduceGT, Int.reduceGE]
  have X1 : X.blk (h.nx + 1) = some zb := by rw [hX]; simp only [go_sem, Nat.reduceLT, Nat.reduceLeDiff, Nat.reduceEqDiff, Nat.reduceAdd, Nat.reduceSub, Nat.reduceMul, reduceCtorEq, Int.reduceBEq, Int.reduceLT, Int.reduceLE, Int.reduceAdd, Int.reduceSub, Int.reduceEq, Int.reduceNeg, Int.reduceToNat, Int.reduceGT, Int.reduceGE]
  obtain ⟨b1, e1, n1, r1, g1⟩ := copy_m X1 hzr hzn
  have e1 : builtinT Tryd.prog X .copy [24, 9] [.sl (h.nx + 1) 0 256 (.exact 256), .str [UInt8.toNat 71, UInt8.toNat 69, UInt8.toNat 66, UInt8.toNat 77]] = some (.upd (.int .i64 4) (X.put (h.nx + 1) (.cells b1))) := e1
  obtain ⟨Y0, hY0⟩ : ∃ Y, Y = X.put (h.nx + 1) (.cells b1) := ⟨_, rfl⟩
  have Y0nx : Y0.nx = h.nx + 2 := by rw [hY0]; exact Xnx
  have Y0low : Y0.low = h.nx := by rw [hY0]; simp only [go_sem, Nat.reduceLT, Nat.reduceLeDiff, Nat.reduceEqDiff, Nat.reduceAdd, Nat.reduceSub, Nat.reduceMul, reduceCtorEq, Int.reduceBEq, Int.reduceLT, Int.reduceLE, Int.reduceAdd, Int.reduceSub, Int.reduceEq, Int.reduceNeg, Int.reduceToNat, Int.reduceGT, Int.reduceGE]; omega
  have Y0b : Y0.blk (h.nx + 1) = some b1 := by rw [hY0]; exact put_blk_same _ _ _
  have Y0z : Y0.blk h.nx = some zb := by rw [hY0, put_blk_ne _ _ _ _ (by omega)]; exact X0
  have Y0E : Ext h Y0 := by rw [hY0]; exact XE.put _ (by omega)
  obtain ⟨Y1, c1, Y1nx, Y1gn, Y1old, Y1low, b2, Y1b, n2, r2, g2⟩ := bput_run hσ Y0b n1 r1 (by omega) (a := 4) (by omega) x
  have c1 : (lim Tryd.prog σ).call 51 [.int .i64 4, w64 x, .ptr (h.nx + 1) 0] Y0 = some (.tup [], some Y1) := c1
  have Y1E : Ext h Y1 := ⟨by have := Y0E.nx; omega, Y1gn.trans Y0E.gn, fun k hk => (Y1old k (by omega)).trans (Y0E.old k hk)⟩
  have Y1z : Y1.blk h.nx = some zb := (blk_eq (Y1old h.nx (by omega))).trans Y0z
  have g1' : b1.get = over 0 (bc markL) zb.get := funext g1
  have p2 : ∀ i, i < 248 → b2.get i = nth (bc (preL x)) i := pre_get (g := zb.get) x (fun i => by rw [g2, g1']) hz
  have BVp : BV Y1 (.sl (h.nx + 1) 0 248 (.exact 256)) (preL x) := .inr ⟨_, 0, _, b2, by rw [preL_len], by omega, Y1b, by rw [preL_len]; exact loadN_bc 0 248 (preL_len x) fun i hi => by rw [Nat.zero_add]; exact p2 i hi, .inl ⟨256, rfl, by rw [preL_len]; omega⟩⟩
  have c2 : (lim Tryd.prog σ).call 52 [.sl (h.nx + 1) 0 248 (.exact 256)] Y1 = some (w64 (shV (digest (preL x)) 8), none) := short_run hσ BVp (g.ext Y1E) (by rw [preL_len]; omega)
  obtain ⟨Y2, c3, Y2nx, Y2gn, Y2old, Y2low, b3, Y2b, n3, r3, g3⟩ := bput_run hσ Y1b n2 r2 (by omega) (a := 248) (by omega) (shV (digest (preL x)) 8)
  have c3 : (lim Tryd.prog σ).call 51 [.int .i64 248, w64 (shV (digest (preL x)) 8), .ptr (h.nx + 1) 0] Y1 = some (.tup [], some Y2) := c3
  have Y2z : Y2.blk h.nx = some zb := (blk_eq (Y2old h.nx (by omega))).trans Y1z
  have ld3 : b3.loadN 0 256 = some (bc (blockL x)) := loadN_bc 0 256 (blockL_len x) fun i hi => by
    rw [Nat.zero_add, g3, over_at, bc_len, bx8_len, nth_eq (bc (blockL x))]
    unfold blockL
    rw [bc_app, List.getElem?_append, bc_len, preL_len]
    by_cases q : i < 248
    · rw [if_neg (by omega), if_pos q, p2 i q, nth_eq]
    · rw [if_pos (by omega), if_neg q, bx8_sh (digest_byte _) (by rw [digest_len]; omega), nth_eq]
  have hl : (bc (blockL x)).length = 256 := by rw [bc_len, blockL_len]
  simp only [go_sem, Nat.reduceLT, Nat.reduceLeDiff, Nat.reduceEqDiff, Nat.reduceAdd, Nat.reduceSub, Nat.reduceMul, reduceCtorEq, Int.reduceBEq, Int.reduceLT, Int.reduceLE, Int.reduceAdd, Int.reduceSub, Int.reduceEq, Int.reduceNeg, Int.reduceToNat, Int.reduceGT, Int.reduceGE, ze_blk, rep_one', ← hzb, ← hX, sla_all, sla_248, e1, ← hY0, c1, c2, c3, Y1b, Y2b, Y2z, ld3, hl, hzr]
  refine store_step (Q := Q) (by rw [hl, hzn]) (bc_one _) fun b' hn' hr' hl' hg' => ?_
  rw [hzn] at hl'
  simp only [go_sem, Nat.reduceLT, Nat.reduceLeDiff, Nat.reduceEqDiff, Nat.reduceAdd, Nat.reduceSub, Nat.reduceMul, reduceCtorEq, Int.reduceBEq, Int.reduceLT, Int.reduceLE, Int.reduceAdd, Int.reduceSub, Int.reduceEq, Int.reduceNeg, Int.reduceToNat, Int.reduceGT, Int.reduceGE, hl']
  rw [hQ, fin_q _ _ _ (by simp only [go_sem, Nat.reduceLT, Nat.reduceLeDiff, Nat.reduceEqDiff, Nat.reduceAdd, Nat.reduceSub, Nat.reduceMul, reduceCtorEq, Int.reduceBEq, Int.reduceLT, Int.reduceLE, Int.reduceAdd, Int.reduceSub, Int.reduceEq, Int.reduceNeg, Int.reduceToNat, Int.reduceGT, Int.reduceGE]; omega) (by rw [okB_agg]; exact okBL_all fun c hc => by unfold bc at hc; obtain ⟨b, _, rfl⟩ := List.mem_map.1 hc; rfl)]
  rfl
end Go.Cl.Sh

namespace Go.Cl.Sh
variable {σ : Sums}
set_option maxRecDepth 1000000

theorem ne256 (xo yo : Operand) (D E : List Nat) (hD : D.length = 256) (hE : E.length = 256) : binT Tryd.prog .neq 40 xo yo (.agg (bc D)) (.agg (bc E)) = some (.bool (!decide (D = E))) := by
  have h1 : eqOk Tryd.prog 40 xo yo (.agg (bc D)) (.agg (bc E)) = true := by kernel_rfl
  have h2 : eqIn Tryd.prog 100 40 (.agg (bc D)) (.agg (bc E)) = some (decide (D = E)) := by
    rw [eqIn_a (fuel := 99) Tryd.underlying40 sz_5, allN_dec (p := fun i => decide (D[i]? = E[i]?)) 256 0]
    · congr 1
      rw [Bool.eq_iff_iff, List.all_eq_true, decide_eq_true_eq]
      constructor
      · intro h
        refine List.ext_getElem? fun i => ?_
        by_cases hi : i < 256
        · exact of_decide_eq_true (h i (by simp; omega))
        · rw [List.getElem?_eq_none (by omega), List.getElem?_eq_none (by omega)]
      · rintro rfl i _
        exact decide_eq_true rfl
    · intro j _ hj
      have hd : D[j]? = some D[j] := List.getElem?_eq_getElem (by omega)
      have he : E[j]? = some E[j] := List.getElem?_eq_getElem (by omega)
      rw [part_5, part_5, Nat.mul_one, nth_eq, nth_eq]
      unfold bc
      rw [List.getElem?_map, List.getElem?_map, hd, he]
      show eqIn Tryd.prog 99 5 (.int .u8 (Int.ofNat D[j])) (.int .u8 (Int.ofNat E[j])) = _
      rw [eqIn_i (fuel := 98) Tryd.underlying5]
      congr 1
      by_cases q : D[j] = E[j]
      · simp [q]
      · simp [q]; omega
  show cond (eqOk Tryd.prog 40 xo yo (.agg (bc D)) (.agg (bc E))) ((eqIn Tryd.prog 100 40 (.agg (bc D)) (.agg (bc E))).map fun b => CV.bool (!b)) none = _
  rw [h1, h2]; rfl

def ofX (l : List Nat) : BitVec 64 := BitVec.ofNat 64 (W.valB ((l.drop 4).take 8))
def isB (l : List Nat) : Bool := decide (blockL (ofX l) = l)
def setB (l : List Nat) : BitVec 64 := if isB l then ofX l else BitVec.ofNat 64 0
def OfR (h : H) (l : List Nat) (r : Option (CV × Option H)) : Prop := ∃ x, r = some (.tup [w64 (setB l), .int .i64 (if isB l then 0 else 4)], x) ∧ Ext h (x.getD h)
theorem sla_4 (h : H) (id : Nat) : sliceT Tryd.prog h 40 (.ptr id 0) (some (.int .i64 4)) none none = some (.sl id 4 252 (.exact 252)) := by kernel_rfl
theorem val_w64 {l : List Nat} (hl : l.length = 256) (hb : ∀ b ∈ l, b < 256) : CV.int .u64 (Int.ofNat (W.valB ((l.drop 4).take 8))) = w64 (ofX l) := by
  have := W.valB_lt 8 ((l.drop 4).take 8) (by rw [List.length_take, List.length_drop, hl]; rfl) (fun b hb' => hb b (List.mem_of_mem_drop (List.mem_of_mem_take hb')))
  unfold w64 ofX
  rw [BitVec.toNat_ofNat, Nat.mod_eq_of_lt (by have e : (256 : Nat) ^ 8 = 2 ^ 64 := by decide
                                               omega)]
theorem but_ext {h h1 h2 : H} {r : Nat} (E : Ext h h1) (F : W.But h1 h2 r) (hr : h.nx ≤ r) : Ext h h2 :=
  ⟨by rw [F.nx]; exact E.nx, F.gn.trans E.gn, fun k hk => (F.old k (by omega)).trans (E.old k hk)⟩

theorem bof_run (hσ : ∀ f a h, W.told f = false → σ f a h = none) {h : H} (g : HG h) {l : List Nat} (hl : l.length = 256) (hb : ∀ b ∈ l, b < 256) : OfR h l ((lim Tryd.prog σ).call 15 [.agg (bc l)] h) := by
  obtain ⟨Q, hQ⟩ : ∃ Q, Q = OfR h l := ⟨_, rfl⟩
  rw [← hQ]
  rw [call_eq (hσ _ _ _ (by decide)) fn_15 rfl rfl, Tryd.ntmps15, Tryd.results15]
  have hσ' : ∀ f a h, W.told f = false → σ f a h = none := fun f a h t => hσ f a h t
  obtain ⟨nb, hnb⟩ : ∃ nb, nb = newBlk (bc l) := ⟨_, rfl⟩
  have nbn : nb.n = 256 := by rw [hnb, wnewBlk_n, bc_len, hl]
  have nbg : ∀ i, nb.get i = nth (bc l) i := fun i => by rw [hnb, newBlk_get]
  have ldn : nb.loadN 0 256 = some (bc l) := loadN_bc 0 256 hl fun i _ => by rw [Nat.zero_add, nbg]
  obtain ⟨X, hX⟩ : ∃ X, X = h.lo.alloc (.cells nb) := ⟨_, rfl⟩
  have Xnx : X.nx = h.nx + 1 := by rw [hX]; rfl
  have XE : Ext h X := by rw [hX]; exact (Ext.lo h).alloc' _
  have Xb : X.blk h.nx = some nb := by rw [hX]; simp only [go_sem, Nat.reduceLT, Nat.reduceLeDiff, Nat.reduceEqDiff, Nat.reduceAdd, Nat.reduceSub, Nat.reduceMul, reduceCtorEq, Int.reduceBEq, Int.reduceLT, Int.reduceLE, Int.reduceAdd, Int.reduceSub, Int.reduceEq, Int.reduceNeg, Int.reduceToNat, Int.reduceGT, Int.reduceGE]
  have ld4 : nb.loadN 4 252 = some (bc (l.drop 4)) := loadN_bc 4 252 (by rw [List.length_drop, hl]) fun i hi => by
    rw [nbg, nth_eq, nth_eq]; unfold bc; rw [List.getElem?_map, List.getElem?_map, List.getElem?_drop]
  have hl4 : (l.drop 4).length = 252 := by rw [List.length_drop, hl]
  have BS : W.BSl X (.sl h.nx 4 252 (.exact 252)) (W.bc (l.drop 4)) := .inr (.inr ⟨_, 4, _, nb, by rw [W.bc_len, hl4], by omega, Xb, by rw [W.bc_len, hl4]; exact ld4⟩)
  obtain ⟨r, lid, Y, c1, hr, hlid, hlid2, R, EY⟩ := W.read_run hσ' BS (by omega)
  obtain ⟨Z, c2, R2, F2, lo1, lo2⟩ := W.rnumber_run hσ' R (n := 8) (by omega) rfl (fun b hb' => hb b (List.mem_of_mem_drop hb'))
  rw [val_w64 hl hb] at c2
  have c2 : (lim Tryd.prog σ).call 42 [.ptr r 0, .int .i64 8] Y = some (w64 (ofX l), some Z) := c2
  have EZ : Ext h Z := but_ext (XE.trans EY) F2 (by omega)
  have Zb : Z.blk h.nx = some nb := by rw [blk_eq (F2.old h.nx (by omega)), EY.blk (by omega)]; exact Xb
  have c3 : (lim Tryd.prog σ).call 13 [w64 (ofX l)] Z = some (.agg (bc (blockL (ofX l))), none) := bblock_run hσ (g.ext EZ) (ofX l)
  have hne := fun xo yo => ne256 xo yo (blockL (ofX l)) l (blockL_len _) hl
  have o1 := bc_one l
  simp only [go_sem, Nat.reduceLT, Nat.reduceLeDiff, Nat.reduceEqDiff, Nat.reduceAdd, Nat.reduceSub, Nat.reduceMul, reduceCtorEq, Int.reduceBEq, Int.reduceLT, Int.reduceLE, Int.reduceAdd, Int.reduceSub, Int.reduceEq, Int.reduceNeg, Int.reduceToNat, Int.reduceGT, Int.reduceGE, ← hnb, ← hX, o1, sla_4, c1, c2]
  refine cnd_go (Q := Q) (by kernel_rfl) ?_
  simp only [go_sem, Nat.reduceLT, Nat.reduceLeDiff, Nat.reduceEqDiff, Nat.reduceAdd, Nat.reduceSub, Nat.reduceMul, reduceCtorEq, Int.reduceBEq, Int.reduceLT, Int.reduceLE, Int.reduceAdd, Int.reduceSub, Int.reduceEq, Int.reduceNeg, Int.reduceToNat, Int.reduceGT, Int.reduceGE, ← hnb, ← hX, o1, sla_4, c1, c2, c3, Zb, ldn, hne]
  have l0 : CV.int .u64 0 = w64 (BitVec.ofNat 64 0) := rfl
  by_cases q : blockL (ofX l) = l
  · rw [decide_eq_true q]
    have e1 : isB l = true := decide_eq_true q
    simp only [go_sem, Nat.reduceLT, Nat.reduceLeDiff, Nat.reduceEqDiff, Nat.reduceAdd, Nat.reduceSub, Nat.reduceMul, reduceCtorEq, Int.reduceBEq, Int.reduceLT, Int.reduceLE, Int.reduceAdd, Int.reduceSub, Int.reduceEq, Int.reduceNeg, Int.reduceToNat, Int.reduceGT, Int.reduceGE, ← hnb, ← hX, o1, sla_4, c1, c2, c3, Zb, ldn, hne]
    rw [hQ]
    obtain ⟨y, hy, Ey⟩ := fin_ext EZ (.tup [w64 (ofX l), .int .i64 0])
    exact ⟨y, by rw [hy, e1]; unfold setB; rw [e1]; rfl, Ey⟩
  · rw [decide_eq_false q]
    have e1 : isB l = false := decide_eq_false q
    simp only [go_sem, Nat.reduceLT, Nat.reduceLeDiff, Nat.reduceEqDiff, Nat.reduceAdd, Nat.reduceSub, Nat.reduceMul, reduceCtorEq, Int.reduceBEq, Int.reduceLT, Int.reduceLE, Int.reduceAdd, Int.reduceSub, Int.reduceEq, Int.reduceNeg, Int.reduceToNat, Int.reduceGT, Int.reduceGE, ← hnb, ← hX, o1, sla_4, c1, c2, c3, Zb, ldn, hne]
    rw [hQ]
    obtain ⟨y, hy, Ey⟩ := fin_ext EZ (.tup [.int .u64 0, .int .i64 4])
    exact ⟨y, by rw [hy, e1]; unfold setB; rw [e1]; rfl, Ey⟩
end Go.Cl.Sh

namespace Go.Cl.Sh
variable {σ : Sums}
set_option maxRecDepth 1000000

def sealL (l : List Nat) : List Nat := (l ++ List.replicate 236 0) ++ (digest (l ++ List.replicate 236 0)).take 8
structure SeI (h : H) (v : CV) (env : T CV) (h' : H) (zb : Blk) (g : Nat → Option CV) : Prop where
  e0 : evT env 0 = v
  e2 : evT env 2 = .ptr h.nx 0
  e3 : evT env 3 = .ptr (h.nx + 1) 0
  nx : h.nx + 2 ≤ h'.nx
  ext : Ext h h'
  low : h'.low = h.nx
  z : h'.blk h.nx = some zb
  b : ∃ b, h'.blk (h.nx + 1) = some b ∧ b.n = 256 ∧ b.ro = false ∧ ∀ j, b.get j = g j
theorem SeI.put {h h' : H} {v : CV} {env env' : T CV} {zb : Blk} {g g' : Nat → Option CV} (I : SeI h v env h' zb g) {b : Blk} (e0 : evT env' 0 = v) (e2 : evT env' 2 = .ptr h.nx 0) (e3 : evT env' 3 = .ptr (h.nx + 1) 0) (hn : b.n = 256) (hr : b.ro = false) (hg : ∀ j, b.get j = g' j) :
    SeI h v env' (h'.put (h.nx + 1) (.cells b)) zb g' := by
  have := I.nx
  exact ⟨e0, e2, e3, I.nx, I.ext.put _ (by omega), by simp only [go_sem, Nat.reduceLT, Nat.reduceLeDiff, Nat.reduceEqDiff, Nat.reduceAdd, Nat.reduceSub, Nat.reduceMul, reduceCtorEq, Int.reduceBEq, Int.reduceLT, Int.reduceLE, Int.reduceAdd, Int.reduceSub, Int.reduceEq, Int.reduceNeg, Int.reduceToNat, Int.reduceGT, Int.reduceGE, I.low]; omega, by rw [put_blk_ne _ _ _ _ (by omega)]; exact I.z, b, put_blk_same _ _ _, hn, hr, hg⟩
theorem over_st {b : Blk} {a i n : Nat} {L : List CV} {c : CV} {g : Nat → Option CV} (hn : b.n = n) (ha : a + i < n) (hi : nth L i = some c) (hg : ∀ j, b.get j = over a (L.take i) g j) : ∀ j, (b.st (a + i) c).get j = over a (L.take (i + 1)) g j := fun j => by
  have hl := nlt hi
  by_cases hj : j = a + i
  · subst hj
    rw [st_get_same _ _ _ (by omega), over_at, if_pos (by rw [List.length_take]; omega), show a + i - a = i by omega, nth_eq, List.getElem?_take, if_pos (by omega), ← nth_eq, hi]
  · rw [st_get_ne _ _ _ _ hj, hg, over_at, over_at, List.length_take, List.length_take]
    by_cases q : a ≤ j ∧ j < a + min i L.length
    · rw [if_pos q, if_pos (by omega), nth_eq, nth_eq, List.getElem?_take, List.getElem?_take, if_pos (by omega), if_pos (by omega)]
    · rw [if_neg q, if_neg (by omega)]
theorem sealed_run (hσ : ∀ f a h, W.told f = false → σ f a h = none) {h : H} {v : CV} {l : List Nat} (hl : l.length = 12) (hb : ∀ b ∈ l, b < 256) (B : W.BSl h v (W.bc l)) : RetQ h (.agg (bc (sealL l))) ((lim Tryd.prog σ).call 53 [v] h) := by
  obtain ⟨Q, hQ⟩ : ∃ Q, Q = RetQ h (.agg (bc (sealL l))) := ⟨_, rfl⟩
  rw [← hQ]
  rw [call_eq (hσ _ _ _ (by decide)) fn_53 rfl rfl, Tryd.ntmps53, Tryd.results53]
  obtain ⟨zb, hzb, hzn, hzr, hz⟩ := zb_ok
  obtain ⟨X, hX⟩ : ∃ X, X = (h.lo.alloc (.cells zb)).alloc (.cells zb) := ⟨_, rfl⟩
  have Xnx : X.nx = h.nx + 2 := by rw [hX]; rfl
  have Xlow : X.low = h.nx := by rw [hX]; rfl
  have XE : Ext h X := by rw [hX]; exact ((Ext.lo h).alloc' _).alloc' _
  have X0 : X.blk h.nx = some zb := by rw [hX]; simp only [go_sem, Nat.reduceLT, Nat.reduceLeDiff, Nat.reduceEqDiff, Nat.reduceAdd, Nat.reduceSub, Nat.reduceMul, reduceCtorEq, Int.reduceBEq, Int.reduceLT, Int.reduceLE, Int.reduceAdd, Int.reduceSub, Int.reduceEq, Int.reduceNeg, Int.reduceToNat, Int.reduceGT, Int.reduceGE]
  have X1 : X.blk (h.nx + 1) = some zb := by rw [hX]; simp only [go_sem, Nat.reduceLT, Nat.reduceLeDiff, Nat.reduceEqDiff, Nat.reduceAdd, Nat.reduceSub, Nat.reduceMul, reduceCtorEq, Int.reduceBEq, Int.reduceLT, Int.reduceLE, Int.reduceAdd, Int.reduceSub, Int.reduceEq, Int.reduceNeg, Int.reduceToNat, Int.reduceGT, Int.reduceGE]
  simp only [go_sem, Nat.reduceLT, Nat.reduceLeDiff, Nat.reduceEqDiff, Nat.reduceAdd, Nat.reduceSub, Nat.reduceMul, reduceCtorEq, Int.reduceBEq, Int.reduceLT, Int.reduceLE, Int.reduceAdd, Int.reduceSub, Int.reduceEq, Int.reduceNeg, Int.reduceToNat, Int.reduceGT, Int.reduceGE, ze_blk, rep_one', ← hzb, ← hX]
  refine loop_ind (Q := Q) (fun i env h' => SeI h v env h' zb (over 0 ((bc l).take i) zb.get) ∧ evT env 4 = .int .i64 (Int.ofNat i)) 12 0 ?_ (by decide) ?_ ?_
  · subst hX
    subst hzb
    exact ⟨⟨by simp only [go_sem, Nat.reduceLT, Nat.reduceLeDiff, Nat.reduceEqDiff, Nat.reduceAdd, Nat.reduceSub, Nat.reduceMul, reduceCtorEq, Int.reduceBEq, Int.reduceLT, Int.reduceLE, Int.reduceAdd, Int.reduceSub, Int.reduceEq, Int.reduceNeg, Int.reduceToNat, Int.reduceGT, Int.reduceGE], by simp only [go_sem, Nat.reduceLT, Nat.reduceLeDiff, Nat.reduceEqDiff, Nat.reduceAdd, Nat.reduceSub, Nat.reduceMul, reduceCtorEq, Int.reduceBEq, Int.reduceLT, Int.reduceLE, Int.reduceAdd, Int.reduceSub, Int.reduceEq, Int.reduceNeg, Int.reduceToNat, Int.reduceGT, Int.reduceGE], by simp only [go_sem, Nat.reduceLT, Nat.reduceLeDiff, Nat.reduceEqDiff, Nat.reduceAdd, Nat.reduceSub, Nat.reduceMul, reduceCtorEq, Int.reduceBEq, Int.reduceLT, Int.reduceLE, Int.reduceAdd, Int.reduceSub, Int.reduceEq, Int.reduceNeg, Int.reduceToNat, Int.reduceGT, Int.reduceGE], Nat.le_of_eq Xnx.symm, XE, Xlow, X0, _, X1, hzn, hzr, fun j => by rw [over_at, if_neg (by simp)]⟩, by simp only [go_sem, Nat.reduceLT, Nat.reduceLeDiff, Nat.reduceEqDiff, Nat.reduceAdd, Nat.reduceSub, Nat.reduceMul, reduceCtorEq, Int.reduceBEq, Int.reduceLT, Int.reduceLE, Int.reduceAdd, Int.reduceSub, Int.reduceEq, Int.reduceNeg, Int.reduceToNat, Int.reduceGT, Int.reduceGE]; rfl⟩
  · rintro i env h' ⟨I, e4⟩ hi next
    obtain ⟨b, hb1, hn, hr, hg⟩ := I.b
    have hbl : nth (W.bc l) i = some (u8 (l[i]?.getD 0)) := nth_lt (by omega)
    obtain ⟨id, off, b0, ia, hb0, hg0⟩ := (B.ext I.ext).at_ hbl
    have hlen := (B.ext I.ext).len
    rw [W.bc_len, hl] at hlen
    have c0 : Int.ofNat i < Int.ofNat 12 := by simp; omega
    have c1 : Int.ofNat i < 248 := by simp; omega
    have w4 : IntKind.wrap .i64 (Int.ofNat i + 1) = Int.ofNat (i + 1) := wrap_n (by simp) (by omega)
    have hlt : i < 256 := by omega
    simp only [go_sem, Nat.reduceLT, Nat.reduceLeDiff, Nat.reduceEqDiff, Nat.reduceAdd, Nat.reduceSub, Nat.reduceMul, reduceCtorEq, Int.reduceBEq, Int.reduceLT, Int.reduceLE, Int.reduceAdd, Int.reduceSub, Int.reduceEq, Int.reduceNeg, Int.reduceToNat, Int.reduceGT, Int.reduceGE, I.e0, I.e2, I.e3, e4, hlen, c0, c1, w4, hlt, ia, hb0, hg0, hb1, hn, hr, Nat.mul_one, Nat.zero_add]
    have hbc : nth (bc l) i = some (u8 (l[i]?.getD 0)) := nth_lt (by omega)
    have hg' := over_st (a := 0) hn (by omega) hbc hg
    rw [Nat.zero_add] at hg'
    exact next _ _ ⟨I.put (by simp only [go_sem, Nat.reduceLT, Nat.reduceLeDiff, Nat.reduceEqDiff, Nat.reduceAdd, Nat.reduceSub, Nat.reduceMul, reduceCtorEq, Int.reduceBEq, Int.reduceLT, Int.reduceLE, Int.reduceAdd, Int.reduceSub, Int.reduceEq, Int.reduceNeg, Int.reduceToNat, Int.reduceGT, Int.reduceGE, I.e0]) (by simp only [go_sem, Nat.reduceLT, Nat.reduceLeDiff, Nat.reduceEqDiff, Nat.reduceAdd, Nat.reduceSub, Nat.reduceMul, reduceCtorEq, Int.reduceBEq, Int.reduceLT, Int.reduceLE, Int.reduceAdd, Int.reduceSub, Int.reduceEq, Int.reduceNeg, Int.reduceToNat, Int.reduceGT, Int.reduceGE, I.e2]) (by simp only [go_sem, Nat.reduceLT, Nat.reduceLeDiff, Nat.reduceEqDiff, Nat.reduceAdd, Nat.reduceSub, Nat.reduceMul, reduceCtorEq, Int.reduceBEq, Int.reduceLT, Int.reduceLE, Int.reduceAdd, Int.reduceSub, Int.reduceEq, Int.reduceNeg, Int.reduceToNat, Int.reduceGT, Int.reduceGE, I.e3]) (by rw [st_n]; exact hn) (by rw [st_ro]; exact hr) hg', by simp only [go_sem, Nat.reduceLT, Nat.reduceLeDiff, Nat.reduceEqDiff, Nat.reduceAdd, Nat.reduceSub, Nat.reduceMul, reduceCtorEq, Int.reduceBEq, Int.reduceLT, Int.reduceLE, Int.reduceAdd, Int.reduceSub, Int.reduceEq, Int.reduceNeg, Int.reduceToNat, Int.reduceGT, Int.reduceGE]⟩
  rintro env h' ⟨I, e4⟩
  obtain ⟨b, hb1, hn, hr, hg⟩ := I.b
  have hlen := (B.ext I.ext).len
  rw [W.bc_len, hl] at hlen
  have c0 : ¬ Int.ofNat 12 < Int.ofNat 12 := Int.lt_irrefl _
  have hin := I.nx
  obtain ⟨ps, hps⟩ : ∃ ps, ps = l ++ List.replicate 236 0 := ⟨_, rfl⟩
  have psl : ps.length = 248 := by rw [hps, List.length_append, hl, List.length_replicate]
  have ps256 : ∀ b ∈ ps, b < 256 := fun b hb' => by
    rw [hps] at hb'
    rcases List.mem_append.1 hb' with h1 | h1
    · exact hb b h1
    · rw [(List.mem_replicate.1 h1).2]; decide
  have pg : ∀ i, i < 248 → b.get i = nth (bc ps) i := fun i hi => by
    rw [hg, over_at, List.length_take, bc_len, hl, hps, bc_app, nth_eq, nth_eq, List.getElem?_append, bc_len, hl, List.getElem?_take]
    by_cases q : i < 12
    · rw [if_pos (by omega), if_pos (by omega), if_pos q, Nat.sub_zero]
    · rw [if_neg (by omega), if_neg q, hz i (by omega)]
      unfold bc
      rw [List.map_replicate, List.getElem?_replicate, if_pos (by omega)]
  have BVp : BV h' (.sl (h.nx + 1) 0 248 (.exact 256)) ps := .inr ⟨_, 0, _, b, by rw [psl], by omega, hb1, by rw [psl]; exact loadN_bc 0 248 psl fun i hi => by rw [Nat.zero_add]; exact pg i hi, .inl ⟨256, rfl, by rw [psl]; omega⟩⟩
  have c2 : (lim Tryd.prog σ).call 76 [.sl (h.nx + 1) 0 248 (.exact 256)] h' = some (.agg (bc (digest ps)), none) := by
    rw [← digest_same]; exact rsum_run hσ BVp (by omega) ps256
  have hdl : (bc (digest ps)).length = 32 := by rw [bc_len, digest_len]
  simp only [go_sem, Nat.reduceLT, Nat.reduceLeDiff, Nat.reduceEqDiff, Nat.reduceAdd, Nat.reduceSub, Nat.reduceMul, reduceCtorEq, Int.reduceBEq, Int.reduceLT, Int.reduceLE, Int.reduceAdd, Int.reduceSub, Int.reduceEq, Int.reduceNeg, Int.reduceToNat, Int.reduceGT, Int.reduceGE, I.e0, I.e2, I.e3, e4, hlen, c0, sla_248, c2, hdl]
  refine store_step (Q := Q) (by rw [hdl, wnewBlk_n]; rfl) (bc_one _) fun bd hnd hrd hld hgd => ?_
  simp only [go_sem, Nat.reduceLT, Nat.reduceLeDiff, Nat.reduceEqDiff, Nat.reduceAdd, Nat.reduceSub, Nat.reduceMul, reduceCtorEq, Int.reduceBEq, Int.reduceLT, Int.reduceLE, Int.reduceAdd, Int.reduceSub, Int.reduceEq, Int.reduceNeg, Int.reduceToNat, Int.reduceGT, Int.reduceGE, I.e0, I.e2, I.e3, e4, hlen, c0, sla_248, c2, hdl]
  obtain ⟨o, ho⟩ : ∃ o, o = h'.nx := ⟨_, rfl⟩
  refine loop_ind (Q := Q) (fun i env' h2 => SeI h v env' h2 zb (over 248 ((bc (digest ps)).take i) b.get) ∧ evT env' 5 = .ptr o 0 ∧ evT env' 6 = .int .i64 (Int.ofNat i) ∧ o < h2.nx ∧ h2.blk o = some bd) 8 0 ?_ (by decide) ?_ ?_
  · refine ⟨⟨by simp only [go_sem, Nat.reduceLT, Nat.reduceLeDiff, Nat.reduceEqDiff, Nat.reduceAdd, Nat.reduceSub, Nat.reduceMul, reduceCtorEq, Int.reduceBEq, Int.reduceLT, Int.reduceLE, Int.reduceAdd, Int.reduceSub, Int.reduceEq, Int.reduceNeg, Int.reduceToNat, Int.reduceGT, Int.reduceGE, I.e0], by simp only [go_sem, Nat.reduceLT, Nat.reduceLeDiff, Nat.reduceEqDiff, Nat.reduceAdd, Nat.reduceSub, Nat.reduceMul, reduceCtorEq, Int.reduceBEq, Int.reduceLT, Int.reduceLE, Int.reduceAdd, Int.reduceSub, Int.reduceEq, Int.reduceNeg, Int.reduceToNat, Int.reduceGT, Int.reduceGE, I.e2], by simp only [go_sem, Nat.reduceLT, Nat.reduceLeDiff, Nat.reduceEqDiff, Nat.reduceAdd, Nat.reduceSub, Nat.reduceMul, reduceCtorEq, Int.reduceBEq, Int.reduceLT, Int.reduceLE, Int.reduceAdd, Int.reduceSub, Int.reduceEq, Int.reduceNeg, Int.reduceToNat, Int.reduceGT, Int.reduceGE, I.e3], by simp only [go_sem, Nat.reduceLT, Nat.reduceLeDiff, Nat.reduceEqDiff, Nat.reduceAdd, Nat.reduceSub, Nat.reduceMul, reduceCtorEq, Int.reduceBEq, Int.reduceLT, Int.reduceLE, Int.reduceAdd, Int.reduceSub, Int.reduceEq, Int.reduceNeg, Int.reduceToNat, Int.reduceGT, Int.reduceGE]; omega, (I.ext.alloc' _).put _ (by omega), by simp only [go_sem, Nat.reduceLT, Nat.reduceLeDiff, Nat.reduceEqDiff, Nat.reduceAdd, Nat.reduceSub, Nat.reduceMul, reduceCtorEq, Int.reduceBEq, Int.reduceLT, Int.reduceLE, Int.reduceAdd, Int.reduceSub, Int.reduceEq, Int.reduceNeg, Int.reduceToNat, Int.reduceGT, Int.reduceGE, I.low]; omega, ?_, b, ?_, hn, hr, fun j => by rw [over_at, if_neg (by simp)]⟩, by simp only [go_sem, Nat.reduceLT, Nat.reduceLeDiff, Nat.reduceEqDiff, Nat.reduceAdd, Nat.reduceSub, Nat.reduceMul, reduceCtorEq, Int.reduceBEq, Int.reduceLT, Int.reduceLE, Int.reduceAdd, Int.reduceSub, Int.reduceEq, Int.reduceNeg, Int.reduceToNat, Int.reduceGT, Int.reduceGE, ho], by simp only [go_sem, Nat.reduceLT, Nat.reduceLeDiff, Nat.reduceEqDiff, Nat.reduceAdd, Nat.reduceSub, Nat.reduceMul, reduceCtorEq, Int.reduceBEq, Int.reduceLT, Int.reduceLE, Int.reduceAdd, Int.reduceSub, Int.reduceEq, Int.reduceNeg, Int.reduceToNat, Int.reduceGT, Int.reduceGE]; rfl, by simp only [go_sem, Nat.reduceLT, Nat.reduceLeDiff, Nat.reduceEqDiff, Nat.reduceAdd, Nat.reduceSub, Nat.reduceMul, reduceCtorEq, Int.reduceBEq, Int.reduceLT, Int.reduceLE, Int.reduceAdd, Int.reduceSub, Int.reduceEq, Int.reduceNeg, Int.reduceToNat, Int.reduceGT, Int.reduceGE]; omega, by rw [ho]; exact put_blk_same _ _ _⟩
    · rw [put_blk_ne _ _ _ _ (by omega), alloc_blk_ne _ _ _ (by omega)]; exact I.z
    · rw [put_blk_ne _ _ _ _ (by omega), alloc_blk_ne _ _ _ (by omega)]; exact hb1
  · rintro i env h2 ⟨I2, e5, e6, ho2, hbd⟩ hi next
    obtain ⟨b2, hb2, hn2, hr2, hg2⟩ := I2.b
    have c0 : Int.ofNat i < 8 := by simp; omega
    have w1 : IntKind.wrap .i64 (248 + Int.ofNat i) = Int.ofNat (248 + i) := wrap_n (by simp) (by omega)
    have w4 : IntKind.wrap .i64 (Int.ofNat i + 1) = Int.ofNat (i + 1) := wrap_n (by simp) (by omega)
    have hi32 : i < 32 := by omega
    have hlt : 248 + i < 256 := by omega
    have hdi : nth (bc (digest ps)) i = some (u8 ((digest ps)[i]?.getD 0)) := nth_lt (by rw [digest_len]; exact hi32)
    have gdi : bd.get i = some (u8 ((digest ps)[i]?.getD 0)) := by rw [hgd]; exact hdi
    simp only [go_sem, Nat.reduceLT, Nat.reduceLeDiff, Nat.reduceEqDiff, Nat.reduceAdd, Nat.reduceSub, Nat.reduceMul, reduceCtorEq, Int.reduceBEq, Int.reduceLT, Int.reduceLE, Int.reduceAdd, Int.reduceSub, Int.reduceEq, Int.reduceNeg, Int.reduceToNat, Int.reduceGT, Int.reduceGE, I2.e0, I2.e2, I2.e3, e5, e6, c0, w1, w4, hi32, hlt, hbd, gdi, hb2, hn2, hr2, Nat.mul_one, Nat.zero_add]
    have hne : o ≠ h.nx + 1 := by omega
    exact next _ _ ⟨I2.put (by simp only [go_sem, Nat.reduceLT, Nat.reduceLeDiff, Nat.reduceEqDiff, Nat.reduceAdd, Nat.reduceSub, Nat.reduceMul, reduceCtorEq, Int.reduceBEq, Int.reduceLT, Int.reduceLE, Int.reduceAdd, Int.reduceSub, Int.reduceEq, Int.reduceNeg, Int.reduceToNat, Int.reduceGT, Int.reduceGE, I2.e0]) (by simp only [go_sem, Nat.reduceLT, Nat.reduceLeDiff, Nat.reduceEqDiff, Nat.reduceAdd, Nat.reduceSub, Nat.reduceMul, reduceCtorEq, Int.reduceBEq, Int.reduceLT, Int.reduceLE, Int.reduceAdd, Int.reduceSub, Int.reduceEq, Int.reduceNeg, Int.reduceToNat, Int.reduceGT, Int.reduceGE, I2.e2]) (by simp only [go_sem, Nat.reduceLT, Nat.reduceLeDiff, Nat.reduceEqDiff, Nat.reduceAdd, Nat.reduceSub, Nat.reduceMul, reduceCtorEq, Int.reduceBEq, Int.reduceLT, Int.reduceLE, Int.reduceAdd, Int.reduceSub, Int.reduceEq, Int.reduceNeg, Int.reduceToNat, Int.reduceGT, Int.reduceGE, I2.e3]) (by rw [st_n]; exact hn2) (by rw [st_ro]; exact hr2) (over_st (a := 248) hn2 (by omega) hdi hg2), by simp only [go_sem, Nat.reduceLT, Nat.reduceLeDiff, Nat.reduceEqDiff, Nat.reduceAdd, Nat.reduceSub, Nat.reduceMul, reduceCtorEq, Int.reduceBEq, Int.reduceLT, Int.reduceLE, Int.reduceAdd, Int.reduceSub, Int.reduceEq, Int.reduceNeg, Int.reduceToNat, Int.reduceGT, Int.reduceGE, e5], by simp only [go_sem, Nat.reduceLT, Nat.reduceLeDiff, Nat.reduceEqDiff, Nat.reduceAdd, Nat.reduceSub, Nat.reduceMul, reduceCtorEq, Int.reduceBEq, Int.reduceLT, Int.reduceLE, Int.reduceAdd, Int.reduceSub, Int.reduceEq, Int.reduceNeg, Int.reduceToNat, Int.reduceGT, Int.reduceGE], ho2, by rw [put_blk_ne _ _ _ _ hne]; exact hbd⟩
  rintro env h2 ⟨I2, e5, e6, ho2, hbd⟩
  obtain ⟨b2, hb2, hn2, hr2, hg2⟩ := I2.b
  have c0 : ¬ Int.ofNat 8 < 8 := by decide
  have hsl : (sealL l).length = 256 := by unfold sealL; rw [← hps, List.length_append, psl, List.length_take, digest_len]; rfl
  have ld3 : b2.loadN 0 256 = some (bc (sealL l)) := loadN_bc 0 256 hsl fun i hi => by
    rw [Nat.zero_add, hg2, over_at, List.length_take, bc_len, digest_len, nth_eq (bc (sealL l))]
    unfold sealL
    rw [← hps, bc_app, List.getElem?_append, bc_len, psl]
    by_cases q : i < 248
    · rw [if_neg (by omega), if_pos q, pg i q, nth_eq]
    · rw [if_pos (by omega), if_neg q, nth_eq]
      unfold bc
      rw [List.map_take]
  have hlb : (bc (sealL l)).length = 256 := by rw [bc_len, hsl]
  have I2z := I2.z
  simp only [go_sem, Nat.reduceLT, Nat.reduceLeDiff, Nat.reduceEqDiff, Nat.reduceAdd, Nat.reduceSub, Nat.reduceMul, reduceCtorEq, Int.reduceBEq, Int.reduceLT, Int.reduceLE, Int.reduceAdd, Int.reduceSub, Int.reduceEq, Int.reduceNeg, Int.reduceToNat, Int.reduceGT, Int.reduceGE, I2.e0, I2.e2, I2.e3, e5, e6, c0, hb2, ld3, hlb, I2z, hzr]
  refine store_step (Q := Q) (by rw [hlb, hzn]) (bc_one _) fun b' hn' hr' hl' hg' => ?_
  rw [hzn] at hl'
  simp only [go_sem, Nat.reduceLT, Nat.reduceLeDiff, Nat.reduceEqDiff, Nat.reduceAdd, Nat.reduceSub, Nat.reduceMul, reduceCtorEq, Int.reduceBEq, Int.reduceLT, Int.reduceLE, Int.reduceAdd, Int.reduceSub, Int.reduceEq, Int.reduceNeg, Int.reduceToNat, Int.reduceGT, Int.reduceGE, I2.e2, hl']
  have I2l := I2.low
  rw [hQ, fin_q _ _ _ (by simp only [go_sem, Nat.reduceLT, Nat.reduceLeDiff, Nat.reduceEqDiff, Nat.reduceAdd, Nat.reduceSub, Nat.reduceMul, reduceCtorEq, Int.reduceBEq, Int.reduceLT, Int.reduceLE, Int.reduceAdd, Int.reduceSub, Int.reduceEq, Int.reduceNeg, Int.reduceToNat, Int.reduceGT, Int.reduceGE]; omega) (by rw [okB_agg]; exact okBL_all fun c hc => by unfold bc at hc; obtain ⟨b, _, rfl⟩ := List.mem_map.1 hc; rfl)]
  rfl
end Go.Cl.Sh

namespace Go.Cl.Sh
variable {σ : Sums}
set_option maxRecDepth 1000000

theorem seal_eq (x : BitVec 64) : sealL (markL ++ bx8 x) = blockL x := by
  unfold sealL blockL preL
  rw [List.append_assoc markL]
theorem bx8_byte (x : BitVec 64) : ∀ b ∈ bx8 x, b < 256 := fun b hb => by
  unfold bx8 at hb
  obtain ⟨i, _, rfl⟩ := List.mem_map.1 hb
  exact Nat.mod_lt _ (by decide)
theorem mb_byte (x : BitVec 64) : ∀ b ∈ markL ++ bx8 x, b < 256 := fun b hb => by
  rcases List.mem_append.1 hb with h | h
  · unfold markL at h; simp at h; omega
  · exact bx8_byte x b h
theorem mb_len (x : BitVec 64) : (markL ++ bx8 x).length = 12 := by rw [List.length_append, bx8_len]; rfl

theorem bx8_be (x : BitVec 64) : be8 x 8 = bx8 x := rfl
theorem grow_exact {β : Type} {Q : Option β → Prop} {h X : H} {id n : Nat} {b : Blk} {ys ns : List Nat} {K : Out → Option β} (E : Ext h X) (hlow : X.low = h.low) (hbl : h.low ≤ h.nx) (hb : X.blk id = some b) (hld : b.loadN 0 n = some (bc ys)) (hy : ys.length = n) (hn : 0 < ns.length) (hr : ys.length + ns.length ≤ 1000000)
    (k : ∀ h' v', v' = .sl X.nx 0 (ys ++ ns).length (.opn 1) → G h h' v' (ys ++ ns) X.nx → X.nx < h'.nx → Q (K (.upd v' h'))) :
    Q (@thn _ β (uv (appS X 1 1 1 (.sl id 0 n (.exact n)) ns.length (some (bc ns)))) ⟨K⟩) := by
  have hg : (Nat.blt 0 1 && Nat.ble ((n + ns.length) * 1) 70368744177664 && Nat.ble (n + ns.length) 70368744177664 && Nat.beq 1 1 && Nat.beq (bc ns).length (ns.length * 1) && (bc ns).all CV.one) = true := by
    simp only [blt_eq', ble_eq', beq_eq', Bool.and_eq_true, decide_eq_true_eq, bc_len]
    refine ⟨⟨⟨⟨⟨by decide, by omega⟩, by omega⟩, trivial⟩, by omega⟩, bc_one _⟩
  have e : appS X 1 1 1 (.sl id 0 n (.exact n)) ns.length (some (bc ns)) = some (.sl X.nx 0 (n + ns.length) (.opn 1), X.alloc (.cells (fillB ((n + ns.length) * 1) (bc ys ++ bc ns)))) := by
    unfold appS
    rw [lenC_sl, bind_some', bind_some', hg, cond_true]
    dsimp only
    rw [ble_eq', decide_eq_false (by omega), cond_false, hb, bind_some', Nat.mul_one, hld, bind_some']
    rfl
  rw [e]
  have hl : (ys ++ ns).length = n + ns.length := by rw [List.length_append, hy]
  refine k _ _ (by rw [hl]) ⟨E.nx, ⟨by rw [bc_len, Nat.mul_one], .inr ⟨by omega, by rw [hl], by rw [alloc_nx]; omega, _, alloc_blk_same _ _ _ rfl, fillB_ro _ _, by rw [fillB_n, hl], fun i => by rw [fillB_get _ _ _ (by rw [List.length_append, bc_len, bc_len]; omega), bc_app]⟩⟩, E.alloc' _, hlow, hbl⟩ (by rw [alloc_nx]; omega)

theorem rblock_run' (hσ : ∀ f a h, W.told f = false → σ f a h = none) {h : H} (x : BitVec 64) : RetQ h (.agg (bc (blockL x))) ((lim Tryd.prog σ).call 14 [w64 x] h) := by
  obtain ⟨Q, hQ⟩ : ∃ Q, Q = RetQ h (.agg (bc (blockL x))) := ⟨_, rfl⟩
  rw [← hQ]
  rw [call_eq (hσ _ _ _ (by decide)) fn_14 rfl rfl, Tryd.ntmps14, Tryd.results14]
  obtain ⟨zb, hzb, hzn, hzr, hz⟩ := zb_ok
  obtain ⟨mb, hmb⟩ : ∃ mb, mb = (((({ n := 4, d := [CV.int .u8 0], t := T.nil } : Blk).st 0 (.int .u8 71)).st 1 (.int .u8 69)).st 2 (.int .u8 66)).st 3 (.int .u8 77) := ⟨_, rfl⟩
  have hmr : mb.ro = false := by rw [hmb]; rfl
  have hml : mb.loadN 0 4 = some (bc markL) := by rw [hmb]; rfl
  obtain ⟨X, hX⟩ : ∃ X, X = h.lo.alloc (.cells zb) := ⟨_, rfl⟩
  obtain ⟨Y, hY⟩ : ∃ Y, Y = X.alloc (.cells mb) := ⟨_, rfl⟩
  have Xnx : X.nx = h.nx + 1 := by rw [hX]; rfl
  have Ynx : Y.nx = h.nx + 2 := by rw [hY]; simp only [go_sem, Nat.reduceLT, Nat.reduceLeDiff, Nat.reduceEqDiff, Nat.reduceAdd, Nat.reduceSub, Nat.reduceMul, reduceCtorEq, Int.reduceBEq, Int.reduceLT, Int.reduceLE, Int.reduceAdd, Int.reduceSub, Int.reduceEq, Int.reduceNeg, Int.reduceToNat, Int.reduceGT, Int.reduceGE]; omega
  have Ylow : Y.low = h.nx := by rw [hY, hX]; rfl
  have YE : Ext h Y := by rw [hY, hX]; exact ((Ext.lo h).alloc' _).alloc' _
  have X0 : X.blk h.nx = some zb := by rw [hX]; simp only [go_sem, Nat.reduceLT, Nat.reduceLeDiff, Nat.reduceEqDiff, Nat.reduceAdd, Nat.reduceSub, Nat.reduceMul, reduceCtorEq, Int.reduceBEq, Int.reduceLT, Int.reduceLE, Int.reduceAdd, Int.reduceSub, Int.reduceEq, Int.reduceNeg, Int.reduceToNat, Int.reduceGT, Int.reduceGE]
  have Y0 : Y.blk h.nx = some zb := by rw [hY, alloc_blk_ne _ _ _ (by omega)]; exact X0
  have Y1 : Y.blk (h.nx + 1) = some mb := by rw [hY]; exact alloc_blk_same _ _ _ Xnx.symm
  have hcv : convT Tryd.prog Y 24 24 (.sl (h.nx + 1) 0 4 (.exact 4)) = some (.val (.sl (h.nx + 1) 0 4 (.exact 4))) := by
    simp [convT, Tryd.underlying24, Tryd.underlying5, Y1, hmr]
  simp only [go_sem, Nat.reduceLT, Nat.reduceLeDiff, Nat.reduceEqDiff, Nat.reduceAdd, Nat.reduceSub, Nat.reduceMul, reduceCtorEq, Int.reduceBEq, Int.reduceLT, Int.reduceLE, Int.reduceAdd, Int.reduceSub, Int.reduceEq, Int.reduceNeg, Int.reduceToNat, Int.reduceGT, Int.reduceGE, ze_blk, rep_one', ← hzb, ← hX, Xnx, ← hmb, ← hY, hcv]
  refine loop_ind (Q := Q) (fun i env h' => evT env 0 = w64 x ∧ evT env 2 = .ptr h.nx 0 ∧ evT env 4 = .int .i64 (7 - Int.ofNat i) ∧ h'.blk h.nx = some zb ∧ ((i = 0 ∧ h' = Y ∧ evT env 3 = .sl (h.nx + 1) 0 4 (.exact 4)) ∨ ∃ lid, G Y h' (evT env 3) (markL ++ be8 x i) lid)) 8 0 ?_ (by decide) ?_ ?_
  · subst hY
    subst hX
    subst hzb
    subst hmb
    exact ⟨by simp only [go_sem, Nat.reduceLT, Nat.reduceLeDiff, Nat.reduceEqDiff, Nat.reduceAdd, Nat.reduceSub, Nat.reduceMul, reduceCtorEq, Int.reduceBEq, Int.reduceLT, Int.reduceLE, Int.reduceAdd, Int.reduceSub, Int.reduceEq, Int.reduceNeg, Int.reduceToNat, Int.reduceGT, Int.reduceGE], by simp only [go_sem, Nat.reduceLT, Nat.reduceLeDiff, Nat.reduceEqDiff, Nat.reduceAdd, Nat.reduceSub, Nat.reduceMul, reduceCtorEq, Int.reduceBEq, Int.reduceLT, Int.reduceLE, Int.reduceAdd, Int.reduceSub, Int.reduceEq, Int.reduceNeg, Int.reduceToNat, Int.reduceGT, Int.reduceGE], by simp only [go_sem, Nat.reduceLT, Nat.reduceLeDiff, Nat.reduceEqDiff, Nat.reduceAdd, Nat.reduceSub, Nat.reduceMul, reduceCtorEq, Int.reduceBEq, Int.reduceLT, Int.reduceLE, Int.reduceAdd, Int.reduceSub, Int.reduceEq, Int.reduceNeg, Int.reduceToNat, Int.reduceGT, Int.reduceGE]; rfl, Y0, .inl ⟨rfl, rfl, by simp only [go_sem, Nat.reduceLT, Nat.reduceLeDiff, Nat.reduceEqDiff, Nat.reduceAdd, Nat.reduceSub, Nat.reduceMul, reduceCtorEq, Int.reduceBEq, Int.reduceLT, Int.reduceLE, Int.reduceAdd, Int.reduceSub, Int.reduceEq, Int.reduceNeg, Int.reduceToNat, Int.reduceGT, Int.reduceGE]⟩⟩
  · rintro i env h' ⟨e0, e2, e4, hz0, G4⟩ hi next
    obtain ⟨j, hj⟩ : ∃ j, 7 - i = j := ⟨_, rfl⟩
    have e4' : evT env 4 = .int .i64 (Int.ofNat j) := by rw [e4]; congr 1; simp; omega
    have c1 : Int.ofNat j ≥ 0 := Int.natCast_nonneg _
    have c3 : IntKind.wrap .i64 (Int.ofNat j - 1) = 7 - Int.ofNat (i + 1) := by
      rw [wrap_i64 (by simp; omega) (by simp; omega)]; simp; omega
    have w1 : IntKind.wrap .i64 (8 * Int.ofNat j) = Int.ofNat (8 * j) := wrap_n (by simp) (by omega)
    have ht : (BitVec.ofNat 64 (8 * j)).toNat = 8 * j := by simp; omega
    have hb1 : be8 x i ++ [(x >>> (8 * j)).toNat % 256] = be8 x (i + 1) := by rw [← hj]; rfl
    rcases G4 with ⟨rfl, rfl, e3⟩ | ⟨lid, G4⟩
    · simp only [go_sem, Nat.reduceLT, Nat.reduceLeDiff, Nat.reduceEqDiff, Nat.reduceAdd, Nat.reduceSub, Nat.reduceMul, reduceCtorEq, Int.reduceBEq, Int.reduceLT, Int.reduceLE, Int.reduceAdd, Int.reduceSub, Int.reduceEq, Int.reduceNeg, Int.reduceToNat, Int.reduceGT, Int.reduceGE, wadd32, wmul32, wadd64, wmul64, wand32, wor32, wxor32, wand64, wor64, wnot32, wsub32, wsub64, wshr32l, wshl32l, wshr64l, wshl64l, wshr32w, wshl32w, wshr64w, wlt64, wgt64, weq64, wne64, e0, e2, e3, e4', c1, c3, w1, cv341, ht, cv315]
      refine grow_exact (Q := Q) (ys := markL) (ns := [(x >>> (8 * j)).toNat % 256]) (Ext.alloc _ _) rfl (by omega) ((alloc_blk_ne _ _ _ (by omega)).trans Y1) hml rfl Nat.zero_lt_one (by simp [markL]) fun h2 v2 hv2 G6 hlt => ?_
      simp only [go_sem, Nat.reduceLT, Nat.reduceLeDiff, Nat.reduceEqDiff, Nat.reduceAdd, Nat.reduceSub, Nat.reduceMul, reduceCtorEq, Int.reduceBEq, Int.reduceLT, Int.reduceLE, Int.reduceAdd, Int.reduceSub, Int.reduceEq, Int.reduceNeg, Int.reduceToNat, Int.reduceGT, Int.reduceGE, e4', c3]
      rw [show markL ++ [(x >>> (8 * j)).toNat % 256] = markL ++ be8 x (0 + 1) by rw [← hb1]; rfl] at G6
      exact next _ _ ⟨by simp only [go_sem, Nat.reduceLT, Nat.reduceLeDiff, Nat.reduceEqDiff, Nat.reduceAdd, Nat.reduceSub, Nat.reduceMul, reduceCtorEq, Int.reduceBEq, Int.reduceLT, Int.reduceLE, Int.reduceAdd, Int.reduceSub, Int.reduceEq, Int.reduceNeg, Int.reduceToNat, Int.reduceGT, Int.reduceGE, e0], by simp only [go_sem, Nat.reduceLT, Nat.reduceLeDiff, Nat.reduceEqDiff, Nat.reduceAdd, Nat.reduceSub, Nat.reduceMul, reduceCtorEq, Int.reduceBEq, Int.reduceLT, Int.reduceLE, Int.reduceAdd, Int.reduceSub, Int.reduceEq, Int.reduceNeg, Int.reduceToNat, Int.reduceGT, Int.reduceGE, e2], by simp only [go_sem, Nat.reduceLT, Nat.reduceLeDiff, Nat.reduceEqDiff, Nat.reduceAdd, Nat.reduceSub, Nat.reduceMul, reduceCtorEq, Int.reduceBEq, Int.reduceLT, Int.reduceLE, Int.reduceAdd, Int.reduceSub, Int.reduceEq, Int.reduceNeg, Int.reduceToNat, Int.reduceGT, Int.reduceGE], (G6.ext.blk (by omega)).trans Y0, .inr ⟨_, by simp only [go_sem, Nat.reduceLT, Nat.reduceLeDiff, Nat.reduceEqDiff, Nat.reduceAdd, Nat.reduceSub, Nat.reduceMul, reduceCtorEq, Int.reduceBEq, Int.reduceLT, Int.reduceLE, Int.reduceAdd, Int.reduceSub, Int.reduceEq, Int.reduceNeg, Int.reduceToNat, Int.reduceGT, Int.reduceGE]; exact G6⟩⟩
    · simp only [go_sem, Nat.reduceLT, Nat.reduceLeDiff, Nat.reduceEqDiff, Nat.reduceAdd, Nat.reduceSub, Nat.reduceMul, reduceCtorEq, Int.reduceBEq, Int.reduceLT, Int.reduceLE, Int.reduceAdd, Int.reduceSub, Int.reduceEq, Int.reduceNeg, Int.reduceToNat, Int.reduceGT, Int.reduceGE, wadd32, wmul32, wadd64, wmul64, wand32, wor32, wxor32, wand64, wor64, wnot32, wsub32, wsub64, wshr32l, wshl32l, wshr64l, wshl64l, wshr32w, wshl32w, wshr64w, wlt64, wgt64, weq64, wne64, e0, e2, e4', c1, c3, w1, cv341, ht, cv315]
      have G5 := G4.alloc (.cells ({ n := 1, d := [CV.int IntKind.u8 0], t := T.nil, ro := false : Blk }.st 0 (u8 ((x >>> (8 * j)).toNat % 256))))
      refine grow_step (Q := Q) (ns := [(x >>> (8 * j)).toNat % 256]) G5 (Nat.zero_lt_one) (by rw [List.length_append, be8_len]; simp [markL]; omega) fun h2 v2 hv2 G6 hlt => ?_
      simp only [go_sem, Nat.reduceLT, Nat.reduceLeDiff, Nat.reduceEqDiff, Nat.reduceAdd, Nat.reduceSub, Nat.reduceMul, reduceCtorEq, Int.reduceBEq, Int.reduceLT, Int.reduceLE, Int.reduceAdd, Int.reduceSub, Int.reduceEq, Int.reduceNeg, Int.reduceToNat, Int.reduceGT, Int.reduceGE, e4', c3]
      rw [List.append_assoc, hb1] at G6
      exact next _ _ ⟨by simp only [go_sem, Nat.reduceLT, Nat.reduceLeDiff, Nat.reduceEqDiff, Nat.reduceAdd, Nat.reduceSub, Nat.reduceMul, reduceCtorEq, Int.reduceBEq, Int.reduceLT, Int.reduceLE, Int.reduceAdd, Int.reduceSub, Int.reduceEq, Int.reduceNeg, Int.reduceToNat, Int.reduceGT, Int.reduceGE, e0], by simp only [go_sem, Nat.reduceLT, Nat.reduceLeDiff, Nat.reduceEqDiff, Nat.reduceAdd, Nat.reduceSub, Nat.reduceMul, reduceCtorEq, Int.reduceBEq, Int.reduceLT, Int.reduceLE, Int.reduceAdd, Int.reduceSub, Int.reduceEq, Int.reduceNeg, Int.reduceToNat, Int.reduceGT, Int.reduceGE, e2], by simp only [go_sem, Nat.reduceLT, Nat.reduceLeDiff, Nat.reduceEqDiff, Nat.reduceAdd, Nat.reduceSub, Nat.reduceMul, reduceCtorEq, Int.reduceBEq, Int.reduceLT, Int.reduceLE, Int.reduceAdd, Int.reduceSub, Int.reduceEq, Int.reduceNeg, Int.reduceToNat, Int.reduceGT, Int.reduceGE], (G6.ext.blk (by omega)).trans Y0, .inr ⟨_, by simp only [go_sem, Nat.reduceLT, Nat.reduceLeDiff, Nat.reduceEqDiff, Nat.reduceAdd, Nat.reduceSub, Nat.reduceMul, reduceCtorEq, Int.reduceBEq, Int.reduceLT, Int.reduceLE, Int.reduceAdd, Int.reduceSub, Int.reduceEq, Int.reduceNeg, Int.reduceToNat, Int.reduceGT, Int.reduceGE]; exact G6⟩⟩
  rintro env h' ⟨e0, e2, e4, hz0, G4⟩
  have e4' : evT env 4 = .int .i64 (-1) := by rw [e4]; rfl
  rcases G4 with ⟨h0, _⟩ | ⟨lid, G4⟩
  · cases h0
  rw [bx8_be] at G4
  obtain ⟨w, hw⟩ : ∃ w, evT env 3 = w := ⟨_, rfl⟩
  rw [hw] at G4
  have EY := YE.trans G4.ext
  have hlow : h'.low = h.nx := G4.low.trans Ylow
  have BS : W.BSl h' w (W.bc (markL ++ bx8 x)) := W.lst_bsl G4.lst
  have c5 : (lim Tryd.prog σ).call 53 [w] h' = some (.agg (bc (blockL x)), none) := by
    rw [← seal_eq]; exact sealed_run hσ (mb_len x) (mb_byte x) BS
  have hl : (bc (blockL x)).length = 256 := by rw [bc_len, blockL_len]
  simp only [go_sem, Nat.reduceLT, Nat.reduceLeDiff, Nat.reduceEqDiff, Nat.reduceAdd, Nat.reduceSub, Nat.reduceMul, reduceCtorEq, Int.reduceBEq, Int.reduceLT, Int.reduceLE, Int.reduceAdd, Int.reduceSub, Int.reduceEq, Int.reduceNeg, Int.reduceToNat, Int.reduceGT, Int.reduceGE, e0, e2, e4', hw, c5, hz0, hl, hzr]
  refine store_step (Q := Q) (by rw [hl, hzn]) (bc_one _) fun b' hn' hr' hl' hg' => ?_
  rw [hzn] at hl'
  simp only [go_sem, Nat.reduceLT, Nat.reduceLeDiff, Nat.reduceEqDiff, Nat.reduceAdd, Nat.reduceSub, Nat.reduceMul, reduceCtorEq, Int.reduceBEq, Int.reduceLT, Int.reduceLE, Int.reduceAdd, Int.reduceSub, Int.reduceEq, Int.reduceNeg, Int.reduceToNat, Int.reduceGT, Int.reduceGE, e2, hl']
  rw [hQ, fin_q _ _ _ (by simp only [go_sem, Nat.reduceLT, Nat.reduceLeDiff, Nat.reduceEqDiff, Nat.reduceAdd, Nat.reduceSub, Nat.reduceMul, reduceCtorEq, Int.reduceBEq, Int.reduceLT, Int.reduceLE, Int.reduceAdd, Int.reduceSub, Int.reduceEq, Int.reduceNeg, Int.reduceToNat, Int.reduceGT, Int.reduceGE]; omega) (by rw [okB_agg]; exact okBL_all fun c hc => by unfold bc at hc; obtain ⟨b, _, rfl⟩ := List.mem_map.1 hc; rfl)]
  rfl
end Go.Cl.Sh

namespace Go.Cl.Sh
variable {σ : Sums}
set_option maxRecDepth 1000000

theorem number_run' (hσ : ∀ f a h, W.told f = false → σ f a h = none) {h : H} {v : CV} {l : List Nat} (hl : l.length = 8) (B : W.BSl h v (W.bc l)) : RetQ h (w64 (rshV l 8)) ((lim Tryd.prog σ).call 54 [v] h) := by
  obtain ⟨Q, hQ⟩ : ∃ Q, Q = RetQ h (w64 (rshV l 8)) := ⟨_, rfl⟩
  rw [← hQ]
  rw [call_eq (hσ _ _ _ (by decide)) fn_54 rfl rfl, Tryd.ntmps54, Tryd.results54]
  have l0 : CV.int .u64 0 = w64 (BitVec.ofNat 64 0) := rfl
  have l256 : CV.int .u64 256 = w64 (BitVec.ofNat 64 256) := rfl
  have hlen := B.len
  rw [W.bc_len, hl] at hlen
  simp only [go_sem, Nat.reduceLT, Nat.reduceLeDiff, Nat.reduceEqDiff, Nat.reduceAdd, Nat.reduceSub, Nat.reduceMul, reduceCtorEq, Int.reduceBEq, Int.reduceLT, Int.reduceLE, Int.reduceAdd, Int.reduceSub, Int.reduceEq, Int.reduceNeg, Int.reduceToNat, Int.reduceGT, Int.reduceGE, wadd32, wmul32, wadd64, wmul64, wand32, wor32, wxor32, wand64, wor64, wnot32, wsub32, wsub64, wshr32l, wshl32l, wshr64l, wshl64l, wshr32w, wshl32w, wshr64w, wlt64, wgt64, weq64, wne64, l0]
  refine loop_ind (Q := Q) (fun i env h' => evT env 0 = v ∧ evT env 3 = w64 (rshV l i) ∧ evT env 4 = .int .i64 (Int.ofNat i) ∧ h' = h.lo) 8 0 ?_ (by decide) ?_ ?_
  · exact ⟨by simp only [go_sem, Nat.reduceLT, Nat.reduceLeDiff, Nat.reduceEqDiff, Nat.reduceAdd, Nat.reduceSub, Nat.reduceMul, reduceCtorEq, Int.reduceBEq, Int.reduceLT, Int.reduceLE, Int.reduceAdd, Int.reduceSub, Int.reduceEq, Int.reduceNeg, Int.reduceToNat, Int.reduceGT, Int.reduceGE], by simp only [go_sem, Nat.reduceLT, Nat.reduceLeDiff, Nat.reduceEqDiff, Nat.reduceAdd, Nat.reduceSub, Nat.reduceMul, reduceCtorEq, Int.reduceBEq, Int.reduceLT, Int.reduceLE, Int.reduceAdd, Int.reduceSub, Int.reduceEq, Int.reduceNeg, Int.reduceToNat, Int.reduceGT, Int.reduceGE]; rfl, by simp only [go_sem, Nat.reduceLT, Nat.reduceLeDiff, Nat.reduceEqDiff, Nat.reduceAdd, Nat.reduceSub, Nat.reduceMul, reduceCtorEq, Int.reduceBEq, Int.reduceLT, Int.reduceLE, Int.reduceAdd, Int.reduceSub, Int.reduceEq, Int.reduceNeg, Int.reduceToNat, Int.reduceGT, Int.reduceGE]; rfl, rfl⟩
  · rintro i env h' ⟨e0, e3, e4, rfl⟩ hi next
    have hbl : nth (W.bc l) i = some (u8 (l[i]?.getD 0)) := nth_lt (by omega)
    obtain ⟨id, off, b0, ia, hb0, hg0, _⟩ := B.at_ hbl
    have c0 : Int.ofNat i < Int.ofNat 8 := by simp; omega
    have w1 : IntKind.wrap .i64 (Int.ofNat i + 1) = Int.ofNat (i + 1) := wrap_n (by simp) (by omega)
    have hm : rshV l i * BitVec.ofNat 64 256 = BitVec.ofNat 64 256 * rshV l i := BitVec.mul_comm _ _
    simp only [go_sem, Nat.reduceLT, Nat.reduceLeDiff, Nat.reduceEqDiff, Nat.reduceAdd, Nat.reduceSub, Nat.reduceMul, reduceCtorEq, Int.reduceBEq, Int.reduceLT, Int.reduceLE, Int.reduceAdd, Int.reduceSub, Int.reduceEq, Int.reduceNeg, Int.reduceToNat, Int.reduceGT, Int.reduceGE, wadd32, wmul32, wadd64, wmul64, wand32, wor32, wxor32, wand64, wor64, wnot32, wsub32, wsub64, wshr32l, wshl32l, wshr64l, wshl64l, wshr32w, wshl32w, wshr64w, wlt64, wgt64, weq64, wne64, l0, l256, e0, e3, e4, hlen, c0, w1, ia, hb0, hg0, cv531, Nat.mul_one, Nat.zero_add, hm]
    exact next _ _ ⟨by simp only [go_sem, Nat.reduceLT, Nat.reduceLeDiff, Nat.reduceEqDiff, Nat.reduceAdd, Nat.reduceSub, Nat.reduceMul, reduceCtorEq, Int.reduceBEq, Int.reduceLT, Int.reduceLE, Int.reduceAdd, Int.reduceSub, Int.reduceEq, Int.reduceNeg, Int.reduceToNat, Int.reduceGT, Int.reduceGE, e0], by simp only [go_sem, Nat.reduceLT, Nat.reduceLeDiff, Nat.reduceEqDiff, Nat.reduceAdd, Nat.reduceSub, Nat.reduceMul, reduceCtorEq, Int.reduceBEq, Int.reduceLT, Int.reduceLE, Int.reduceAdd, Int.reduceSub, Int.reduceEq, Int.reduceNeg, Int.reduceToNat, Int.reduceGT, Int.reduceGE, rshV], by simp only [go_sem, Nat.reduceLT, Nat.reduceLeDiff, Nat.reduceEqDiff, Nat.reduceAdd, Nat.reduceSub, Nat.reduceMul, reduceCtorEq, Int.reduceBEq, Int.reduceLT, Int.reduceLE, Int.reduceAdd, Int.reduceSub, Int.reduceEq, Int.reduceNeg, Int.reduceToNat, Int.reduceGT, Int.reduceGE], rfl⟩
  · rintro env h' ⟨e0, e3, e4, rfl⟩
    have c0 : ¬ Int.ofNat 8 < Int.ofNat 8 := Int.lt_irrefl _
    simp only [go_sem, Nat.reduceLT, Nat.reduceLeDiff, Nat.reduceEqDiff, Nat.reduceAdd, Nat.reduceSub, Nat.reduceMul, reduceCtorEq, Int.reduceBEq, Int.reduceLT, Int.reduceLE, Int.reduceAdd, Int.reduceSub, Int.reduceEq, Int.reduceNeg, Int.reduceToNat, Int.reduceGT, Int.reduceGE, wadd32, wmul32, wadd64, wmul64, wand32, wor32, wxor32, wand64, wor64, wnot32, wsub32, wsub64, wshr32l, wshl32l, wshr64l, wshl64l, wshr32w, wshl32w, wshr64w, wlt64, wgt64, weq64, wne64, e0, e3, e4, hlen, c0]
    rw [hQ, fin_q _ _ _ rfl rfl]
    rfl
theorem natV_app (D : List Nat) : ∀ i, i ≤ D.length → natV D i = W.valB (D.take i)
  | 0, _ => rfl
  | i + 1, h => by
    rw [natV, natV_app D i (by omega), List.take_add_one, List.getElem?_eq_getElem (by omega)]
    show _ = W.valB (D.take i ++ [D[i]])
    rw [W.valB_app, Option.getD_some]
    omega
theorem rsh_val {l : List Nat} (hl : l.length = 8) (hb : ∀ b ∈ l, b < 256) : rshV l 8 = BitVec.ofNat 64 (W.valB l) := by
  apply BitVec.eq_of_toNat_eq
  have h1 := rshV_nat hb 8 (Nat.le_refl _)
  have h2 := natV_lt hb 8
  have e : (256 : Nat) ^ 8 = 2 ^ 64 := by decide
  rw [h1, natV_app l 8 (by omega), List.take_of_length_le (by omega), BitVec.toNat_ofNat]
  rw [natV_app l 8 (by omega), List.take_of_length_le (by omega)] at h2
  rw [Nat.mod_eq_of_lt (by omega)]
theorem sla_412 (h : H) (id : Nat) : sliceT Tryd.prog h 40 (.ptr id 0) (some (.int .i64 4)) (some (.int .i64 12)) none = some (.sl id 4 8 (.exact 252)) := by kernel_rfl

theorem rof_run (hσ : ∀ f a h, W.told f = false → σ f a h = none) {h : H} {l : List Nat} (hl : l.length = 256) (hb : ∀ b ∈ l, b < 256) : RetQ h (.tup [w64 (setB l), .bool (isB l)]) ((lim Tryd.prog σ).call 16 [.agg (bc l)] h) := by
  obtain ⟨Q, hQ⟩ : ∃ Q, Q = RetQ h (.tup [w64 (setB l), .bool (isB l)]) := ⟨_, rfl⟩
  rw [← hQ]
  rw [call_eq (hσ _ _ _ (by decide)) fn_16 rfl rfl, Tryd.ntmps16, Tryd.results16]
  obtain ⟨nb, hnb⟩ : ∃ nb, nb = newBlk (bc l) := ⟨_, rfl⟩
  have nbn : nb.n = 256 := by rw [hnb, wnewBlk_n, bc_len, hl]
  have nbg : ∀ i, nb.get i = nth (bc l) i := fun i => by rw [hnb, newBlk_get]
  have ldn : nb.loadN 0 256 = some (bc l) := loadN_bc 0 256 hl fun i _ => by rw [Nat.zero_add, nbg]
  obtain ⟨X, hX⟩ : ∃ X, X = h.lo.alloc (.cells nb) := ⟨_, rfl⟩
  have Xnx : X.nx = h.nx + 1 := by rw [hX]; rfl
  have Xlow : X.low = h.nx := by rw [hX]; rfl
  have Xb : X.blk h.nx = some nb := by rw [hX]; simp only [go_sem, Nat.reduceLT, Nat.reduceLeDiff, Nat.reduceEqDiff, Nat.reduceAdd, Nat.reduceSub, Nat.reduceMul, reduceCtorEq, Int.reduceBEq, Int.reduceLT, Int.reduceLE, Int.reduceAdd, Int.reduceSub, Int.reduceEq, Int.reduceNeg, Int.reduceToNat, Int.reduceGT, Int.reduceGE]
  have hl8 : ((l.drop 4).take 8).length = 8 := by rw [List.length_take, List.length_drop, hl]; rfl
  have ld4 : nb.loadN 4 8 = some (bc ((l.drop 4).take 8)) := loadN_bc 4 8 hl8 fun i hi => by
    rw [nbg, nth_eq, nth_eq]; unfold bc; rw [List.getElem?_map, List.getElem?_map, List.getElem?_take, if_pos hi, List.getElem?_drop]
  have BS : W.BSl X (.sl h.nx 4 8 (.exact 252)) (W.bc ((l.drop 4).take 8)) := .inr (.inr ⟨_, 4, _, nb, by rw [W.bc_len, hl8], by omega, Xb, by rw [W.bc_len, hl8]; exact ld4⟩)
  have c2 : (lim Tryd.prog σ).call 54 [.sl h.nx 4 8 (.exact 252)] X = some (w64 (ofX l), none) := by
    have := number_run' hσ hl8 BS
    rw [rsh_val hl8 fun b hb' => hb b (List.mem_of_mem_drop (List.mem_of_mem_take hb'))] at this
    exact this
  have c3 : (lim Tryd.prog σ).call 14 [w64 (ofX l)] X = some (.agg (bc (blockL (ofX l))), none) := rblock_run' hσ (ofX l)
  have hne := fun xo yo => ne256 xo yo (blockL (ofX l)) l (blockL_len _) hl
  have o1 := bc_one l
  simp only [go_sem, Nat.reduceLT, Nat.reduceLeDiff, Nat.reduceEqDiff, Nat.reduceAdd, Nat.reduceSub, Nat.reduceMul, reduceCtorEq, Int.reduceBEq, Int.reduceLT, Int.reduceLE, Int.reduceAdd, Int.reduceSub, Int.reduceEq, Int.reduceNeg, Int.reduceToNat, Int.reduceGT, Int.reduceGE, ← hnb, ← hX, o1, sla_412, c2]
  refine cnd_go (Q := Q) (by kernel_rfl) ?_
  simp only [go_sem, Nat.reduceLT, Nat.reduceLeDiff, Nat.reduceEqDiff, Nat.reduceAdd, Nat.reduceSub, Nat.reduceMul, reduceCtorEq, Int.reduceBEq, Int.reduceLT, Int.reduceLE, Int.reduceAdd, Int.reduceSub, Int.reduceEq, Int.reduceNeg, Int.reduceToNat, Int.reduceGT, Int.reduceGE, ← hnb, ← hX, o1, sla_412, c2, c3, Xb, ldn, hne]
  have l0 : CV.int .u64 0 = w64 (BitVec.ofNat 64 0) := rfl
  by_cases q : blockL (ofX l) = l
  · rw [decide_eq_true q]
    have e1 : isB l = true := decide_eq_true q
    simp only [go_sem, Nat.reduceLT, Nat.reduceLeDiff, Nat.reduceEqDiff, Nat.reduceAdd, Nat.reduceSub, Nat.reduceMul, reduceCtorEq, Int.reduceBEq, Int.reduceLT, Int.reduceLE, Int.reduceAdd, Int.reduceSub, Int.reduceEq, Int.reduceNeg, Int.reduceToNat, Int.reduceGT, Int.reduceGE, ← hnb, ← hX, o1, c2, c3, Xb, ldn, hne]
    rw [hQ, fin_q _ _ _ Xlow rfl]
    unfold setB; rw [e1]; rfl
  · rw [decide_eq_false q]
    have e1 : isB l = false := decide_eq_false q
    simp only [go_sem, Nat.reduceLT, Nat.reduceLeDiff, Nat.reduceEqDiff, Nat.reduceAdd, Nat.reduceSub, Nat.reduceMul, reduceCtorEq, Int.reduceBEq, Int.reduceLT, Int.reduceLE, Int.reduceAdd, Int.reduceSub, Int.reduceEq, Int.reduceNeg, Int.reduceToNat, Int.reduceGT, Int.reduceGE, ← hnb, ← hX, o1, c2, c3, Xb, ldn, hne]
    rw [hQ, fin_q _ _ _ Xlow rfl]
    unfold setB; rw [e1]; rfl
end Go.Cl.Sh

namespace Go.Cl.Sh
variable {σ : Sums}
set_option maxRecDepth 1000000

theorem wrap_u8i (a : Int) : IntKind.wrap .u8 a = Int.ofNat (a % 256).toNat := by
  unfold IntKind.wrap
  simp only [IntKind.bits, IntKind.signed, Bool.false_and, show (2 ^ 8 : Int) = 256 from rfl]
  simp; omega
theorem wrap_n8 {n : Nat} (h : n < 2 ^ 8) : IntKind.wrap .u8 (n : Int) = Int.ofNat n := by
  rw [wrap_u8i]; simp; omega
theorem xor8 (t : TypeId) (xo yo : Operand) (a b : Nat) : ∃ m, m < 256 ∧ binT Tryd.prog .xor t xo yo (u8 a) (u8 b) = some (u8 m) := by
  refine ⟨(BitVec.ofInt 8 (Int.ofNat a) ^^^ BitVec.ofInt 8 (Int.ofNat b)).toNat, (BitVec.ofInt 8 (Int.ofNat a) ^^^ BitVec.ofInt 8 (Int.ofNat b)).isLt, ?_⟩
  have h := (BitVec.ofInt 8 (Int.ofNat a) ^^^ BitVec.ofInt 8 (Int.ofNat b)).isLt
  show some (CV.int .u8 (IntKind.wrap .u8 ((BitVec.ofInt 8 (Int.ofNat a) ^^^ BitVec.ofInt 8 (Int.ofNat b)).toNat : Nat))) = _
  rw [show IntKind.wrap .u8 (((BitVec.ofInt 8 (Int.ofNat a) ^^^ BitVec.ofInt 8 (Int.ofNat b)).toNat : Nat) : Int) = Int.ofNat (BitVec.ofInt 8 (Int.ofNat a) ^^^ BitVec.ofInt 8 (Int.ofNat b)).toNat from wrap_n8 h]
  rfl
theorem blockL_byte (x : BitVec 64) : ∀ b ∈ blockL x, b < 256 := fun b hb => by
  unfold blockL preL at hb
  rcases List.mem_append.1 hb with h | h
  · rcases List.mem_append.1 h with h | h
    · unfold markL at h; simp at h; omega
    · rcases List.mem_append.1 h with h | h
      · exact bx8_byte x b h
      · rw [(List.mem_replicate.1 h).2]; decide
  · exact digest_byte _ b (List.mem_of_mem_take h)
theorem bool_eq (xo yo : Operand) (a b : Bool) : binT Tryd.prog .eql 4 xo yo (.bool a) (.bool b) = some (.bool (a == b)) := by
  cases a <;> cases b <;> rfl
theorem mapBlocks_run (hσ : ∀ f a h, W.told f = false → σ f a h = none) (hk : ∀ Y, (lim Tryd.prog σ).call 17 [] Y = some (.bool true, none)) {h : H} (g : HG h) (x : BitVec 64) {l : List Nat} (hl : l.length = 256) (hb : ∀ b ∈ l, b < 256) (at_ : Int) (by_ : Nat) :
    Tru ((lim Tryd.prog σ).call 5 [w64 x, .agg (bc l), .int .i64 at_, u8 by_] h) := by
  obtain ⟨Q, hQ⟩ : ∃ Q : Option (CV × Option H) → Prop, Q = Tru := ⟨_, rfl⟩
  rw [← hQ]
  rw [call_eq (hσ _ _ _ (by decide)) fn_5 rfl rfl, Tryd.ntmps5, Tryd.results5]
  obtain ⟨zb, hzb, hzn, hzr, hz⟩ := zb_ok
  obtain ⟨nb, hnb⟩ : ∃ nb, nb = newBlk (bc l) := ⟨_, rfl⟩
  have nbn : nb.n = 256 := by rw [hnb, wnewBlk_n, bc_len, hl]
  have nbr : nb.ro = false := by rw [hnb, newBlk_ro]
  have nbg : ∀ i, nb.get i = nth (bc l) i := fun i => by rw [hnb, newBlk_get]
  have ldn : nb.loadN 0 256 = some (bc l) := loadN_bc 0 256 hl fun i _ => by rw [Nat.zero_add, nbg]
  obtain ⟨X, hX⟩ : ∃ X, X = h.lo.alloc (.cells nb) := ⟨_, rfl⟩
  obtain ⟨X2, hX2⟩ : ∃ X2, X2 = X.alloc (.cells zb) := ⟨_, rfl⟩
  have Xnx : X.nx = h.nx + 1 := by rw [hX]; rfl
  have XE : Ext h X := by rw [hX]; exact (Ext.lo h).alloc' _
  have Xb : X.blk h.nx = some nb := by rw [hX]; simp only [go_sem, Nat.reduceLT, Nat.reduceLeDiff, Nat.reduceEqDiff, Nat.reduceAdd, Nat.reduceSub, Nat.reduceMul, reduceCtorEq, Int.reduceBEq, Int.reduceLT, Int.reduceLE, Int.reduceAdd, Int.reduceSub, Int.reduceEq, Int.reduceNeg, Int.reduceToNat, Int.reduceGT, Int.reduceGE]
  have X2nx : X2.nx = h.nx + 2 := by rw [hX2]; simp only [go_sem, Nat.reduceLT, Nat.reduceLeDiff, Nat.reduceEqDiff, Nat.reduceAdd, Nat.reduceSub, Nat.reduceMul, reduceCtorEq, Int.reduceBEq, Int.reduceLT, Int.reduceLE, Int.reduceAdd, Int.reduceSub, Int.reduceEq, Int.reduceNeg, Int.reduceToNat, Int.reduceGT, Int.reduceGE]; omega
  have X2E : Ext h X2 := by rw [hX2]; exact XE.alloc' _
  have X2b : X2.blk h.nx = some nb := by rw [hX2, alloc_blk_ne _ _ _ (by omega)]; exact Xb
  have X2z : X2.blk (h.nx + 1) = some zb := by rw [hX2]; exact alloc_blk_same _ _ _ Xnx.symm
  have o1 := bc_one l
  have c1 : (lim Tryd.prog σ).call 13 [w64 x] X = some (.agg (bc (blockL x)), none) := bblock_run hσ (g.ext XE) x
  have hLl : (bc (blockL x)).length = 256 := by rw [bc_len, blockL_len]
  simp only [go_sem, Nat.reduceLT, Nat.reduceLeDiff, Nat.reduceEqDiff, Nat.reduceAdd, Nat.reduceSub, Nat.reduceMul, reduceCtorEq, Int.reduceBEq, Int.reduceLT, Int.reduceLE, Int.reduceAdd, Int.reduceSub, Int.reduceEq, Int.reduceNeg, Int.reduceToNat, Int.reduceGT, Int.reduceGE, o1, ← hnb, ← hX, c1, Xnx, ze_blk, rep_one', ← hzb, ← hX2, X2z, hzr, hLl]
  refine store_step (Q := Q) (by rw [hLl, hzn]) (bc_one _) fun b1 hn1 hr1 hl1 hg1 => ?_
  rw [hzn] at hl1 hn1
  rw [hzr] at hr1
  obtain ⟨X3, hX3⟩ : ∃ X3, X3 = X2.put (h.nx + 1) (.cells b1) := ⟨_, rfl⟩
  have X3nx : X3.nx = h.nx + 2 := by rw [hX3]; exact X2nx
  have X3E : Ext h X3 := by rw [hX3]; exact X2E.put _ (by omega)
  have X3b : X3.blk h.nx = some nb := by rw [hX3, put_blk_ne _ _ _ _ (by omega)]; exact X2b
  have X3z : X3.blk (h.nx + 1) = some b1 := by rw [hX3]; exact put_blk_same _ _ _
  have c2 : (lim Tryd.prog σ).call 14 [w64 x] X3 = some (.agg (bc (blockL x)), none) := rblock_run' hσ x
  have hne := fun xo yo => ne256 xo yo (blockL x) (blockL x) (blockL_len _) (blockL_len _)
  have hdd : decide (blockL x = blockL x) = true := decide_eq_true rfl
  simp only [go_sem, Nat.reduceLT, Nat.reduceLeDiff, Nat.reduceEqDiff, Nat.reduceAdd, Nat.reduceSub, Nat.reduceMul, reduceCtorEq, Int.reduceBEq, Int.reduceLT, Int.reduceLE, Int.reduceAdd, Int.reduceSub, Int.reduceEq, Int.reduceNeg, Int.reduceToNat, Int.reduceGT, Int.reduceGE, ← hX3, c2, X3z, hl1, hne, hdd]
  refine cnd_go (Q := Q) (by kernel_rfl) ?_
  simp only [go_sem, Nat.reduceLT, Nat.reduceLeDiff, Nat.reduceEqDiff, Nat.reduceAdd, Nat.reduceSub, Nat.reduceMul, reduceCtorEq, Int.reduceBEq, Int.reduceLT, Int.reduceLE, Int.reduceAdd, Int.reduceSub, Int.reduceEq, Int.reduceNeg, Int.reduceToNat, Int.reduceGT, Int.reduceGE, ← hX3, c2, X3z, hl1, hne, hdd]
  by_cases ha : at_ ≥ 0
  · obtain ⟨n, rfl⟩ : ∃ n : Nat, at_ = Int.ofNat n := ⟨at_.toNat, by simp; omega⟩
    have tm : (Int.ofNat n).tmod 256 = Int.ofNat (n % 256) := rfl
    obtain ⟨k, hkk⟩ : ∃ k, k = n % 256 := ⟨_, rfl⟩
    have hk2 : k < 256 := by omega
    rw [← hkk] at tm
    have rm : ∀ t xo yo, binT Tryd.prog .rem t xo yo (.int .i64 (Int.ofNat n)) (.int .i64 256) = some (.int .i64 (Int.ofNat k)) := fun t xo yo => by rw [← tm]; rfl
    simp only [go_sem, Nat.reduceLT, Nat.reduceLeDiff, Nat.reduceEqDiff, Nat.reduceAdd, Nat.reduceSub, Nat.reduceMul, reduceCtorEq, Int.reduceBEq, Int.reduceLT, Int.reduceLE, Int.reduceAdd, Int.reduceSub, Int.reduceEq, Int.reduceNeg, Int.reduceToNat, Int.reduceGT, Int.reduceGE, ha, X3z, X3b, X2b, hl1, nbr, hLl, rm]
    refine store_step (Q := Q) (by rw [hLl, nbn]) (bc_one _) fun b2 hn2 hr2 hl2 hg2 => ?_
    rw [nbn] at hn2
    rw [nbr] at hr2
    obtain ⟨X4, hX4⟩ : ∃ X4, X4 = X3.put h.nx (.cells b2) := ⟨_, rfl⟩
    have X4nx : X4.nx = h.nx + 2 := by rw [hX4]; exact X3nx
    have X4E : Ext h X4 := by rw [hX4]; exact X3E.put _ (by omega)
    have X4b : X4.blk h.nx = some b2 := by rw [hX4]; exact put_blk_same _ _ _
    have gk : b2.get k = some (u8 ((blockL x)[k]?.getD 0)) := by rw [hg2]; exact nth_lt (by rw [blockL_len]; exact hk2)
    obtain ⟨m, hm, xm⟩ := xor8 5 (.tmp 28) (.tmp 29) ((blockL x)[k]?.getD 0) by_
    obtain ⟨l', hl'0⟩ : ∃ l', l' = (blockL x).set k m := ⟨_, rfl⟩
    have hl' : l'.length = 256 := by rw [hl'0, List.length_set, blockL_len]
    have hb' : ∀ b ∈ l', b < 256 := fun b hbm => by
      rw [hl'0] at hbm
      rcases List.mem_or_eq_of_mem_set hbm with h1 | h1
      · exact blockL_byte x b h1
      · omega
    obtain ⟨bb, hbb⟩ : ∃ bb, bb = b2.st k (u8 m) := ⟨_, rfl⟩
    have ldb : bb.loadN 0 256 = some (bc l') := loadN_bc 0 256 hl' fun i hi => by
      rw [Nat.zero_add, hbb, hl'0]
      by_cases q : i = k
      · subst q
        rw [st_get_same _ _ _ (by omega), nth_lt (by rw [List.length_set, blockL_len]; exact hi), List.getElem?_set_self (by rw [blockL_len]; exact hi)]; rfl
      · rw [st_get_ne _ _ _ _ q, hg2, nth_lt (by rw [blockL_len]; exact hi), nth_lt (by rw [List.length_set, blockL_len]; exact hi), List.getElem?_set_ne (by omega)]
    obtain ⟨XX, hXX⟩ : ∃ XX, XX = X4.put h.nx (.cells bb) := ⟨_, rfl⟩
    have XXnx : XX.nx = h.nx + 2 := by rw [hXX]; exact X4nx
    have XXE : Ext h XX := by rw [hXX]; exact X4E.put _ (by omega)
    have XXb : XX.blk h.nx = some bb := by rw [hXX]; exact put_blk_same _ _ _
    obtain ⟨x1, c3, E3⟩ := bof_run hσ (g.ext XXE) hl' hb'
    obtain ⟨Y, hY⟩ : ∃ Y, Y = x1.getD XX := ⟨_, rfl⟩
    rw [← hY] at E3
    have Yb : Y.blk h.nx = some bb := (E3.blk (by omega)).trans XXb
    have c4 : (lim Tryd.prog σ).call 16 [.agg (bc l')] Y = some (.tup [w64 (setB l'), .bool (isB l')], none) := rof_run hσ hl' hb'
    cases eB : isB l'
    · rw [eB] at c3 c4
      have c3 : (lim Tryd.prog σ).call 15 [.agg (bc l')] XX = some (.tup [w64 (setB l'), .int .i64 4], x1) := c3
      simp only [go_sem, Nat.reduceLT, Nat.reduceLeDiff, Nat.reduceEqDiff, Nat.reduceAdd, Nat.reduceSub, Nat.reduceMul, reduceCtorEq, Int.reduceBEq, Int.reduceLT, Int.reduceLE, Int.reduceAdd, Int.reduceSub, Int.reduceEq, Int.reduceNeg, Int.reduceToNat, Int.reduceGT, Int.reduceGE, wadd32, wmul32, wadd64, wmul64, wand32, wor32, wxor32, wand64, wor64, wnot32, wsub32, wsub64, wshr32l, wshl32l, wshr64l, wshl64l, wshr32w, wshl32w, wshr64w, wlt64, wgt64, weq64, wne64, ha, ← hX3, X3z, X3b, X2b, hl1, nbr, rm, ← hX4, X4b, hn2, hr2, gk, xm, hk2, Nat.mul_one, Nat.zero_add, ← hbb, ← hXX, XXb, ldb, c3, ← hY, Yb, c4, weq64, hk, bool_eq]
      rw [hQ]; exact tru_fin _ _
    · rw [eB] at c3 c4
      have c3 : (lim Tryd.prog σ).call 15 [.agg (bc l')] XX = some (.tup [w64 (setB l'), .int .i64 0], x1) := c3
      simp only [go_sem, Nat.reduceLT, Nat.reduceLeDiff, Nat.reduceEqDiff, Nat.reduceAdd, Nat.reduceSub, Nat.reduceMul, reduceCtorEq, Int.reduceBEq, Int.reduceLT, Int.reduceLE, Int.reduceAdd, Int.reduceSub, Int.reduceEq, Int.reduceNeg, Int.reduceToNat, Int.reduceGT, Int.reduceGE, wadd32, wmul32, wadd64, wmul64, wand32, wor32, wxor32, wand64, wor64, wnot32, wsub32, wsub64, wshr32l, wshl32l, wshr64l, wshl64l, wshr32w, wshl32w, wshr64w, wlt64, wgt64, weq64, wne64, ha, ← hX3, X3z, X3b, X2b, hl1, nbr, rm, ← hX4, X4b, hn2, hr2, gk, xm, hk2, Nat.mul_one, Nat.zero_add, ← hbb, ← hXX, XXb, ldb, c3, ← hY, Yb, c4, weq64, hk, bool_eq]
      rw [hQ]; exact tru_fin _ _
  · obtain ⟨bb, hbb⟩ : ∃ bb, bb = nb := ⟨_, rfl⟩
    obtain ⟨l', hl'0⟩ : ∃ l', l' = l := ⟨_, rfl⟩
    have hl' : l'.length = 256 := by rw [hl'0, hl]
    have hb' : ∀ b ∈ l', b < 256 := by rw [hl'0]; exact hb
    have ldb : bb.loadN 0 256 = some (bc l') := by rw [hbb, hl'0]; exact ldn
    have ldn' : nb.loadN 0 256 = some (bc l') := by rw [hl'0]; exact ldn
    obtain ⟨XX, hXX⟩ : ∃ XX, XX = X3 := ⟨_, rfl⟩
    have XXnx : XX.nx = h.nx + 2 := by rw [hXX]; exact X3nx
    have XXE : Ext h XX := by rw [hXX]; exact X3E
    have XXb : XX.blk h.nx = some bb := by rw [hXX, hbb]; exact X3b
    obtain ⟨x1, c3, E3⟩ := bof_run hσ (g.ext XXE) hl' hb'
    obtain ⟨Y, hY⟩ : ∃ Y, Y = x1.getD XX := ⟨_, rfl⟩
    rw [← hY] at E3
    have Yb : Y.blk h.nx = some bb := (E3.blk (by omega)).trans XXb
    have c4 : (lim Tryd.prog σ).call 16 [.agg (bc l')] Y = some (.tup [w64 (setB l'), .bool (isB l')], none) := rof_run hσ hl' hb'
    cases eB : isB l'
    · rw [eB] at c3 c4
      have c3 : (lim Tryd.prog σ).call 15 [.agg (bc l')] XX = some (.tup [w64 (setB l'), .int .i64 4], x1) := c3
      simp only [go_sem, Nat.reduceLT, Nat.reduceLeDiff, Nat.reduceEqDiff, Nat.reduceAdd, Nat.reduceSub, Nat.reduceMul, reduceCtorEq, Int.reduceBEq, Int.reduceLT, Int.reduceLE, Int.reduceAdd, Int.reduceSub, Int.reduceEq, Int.reduceNeg, Int.reduceToNat, Int.reduceGT, Int.reduceGE, wadd32, wmul32, wadd64, wmul64, wand32, wor32, wxor32, wand64, wor64, wnot32, wsub32, wsub64, wshr32l, wshl32l, wshr64l, wshl64l, wshr32w, wshl32w, wshr64w, wlt64, wgt64, weq64, wne64, ha, ← hX3, X2b, X3b, X3z, ldn', ← hXX, XXb, ldb, c3, ← hY, Yb, c4, weq64, hk, bool_eq]
      rw [hQ]; exact tru_fin _ _
    · rw [eB] at c3 c4
      have c3 : (lim Tryd.prog σ).call 15 [.agg (bc l')] XX = some (.tup [w64 (setB l'), .int .i64 0], x1) := c3
      simp only [go_sem, Nat.reduceLT, Nat.reduceLeDiff, Nat.reduceEqDiff, Nat.reduceAdd, Nat.reduceSub, Nat.reduceMul, reduceCtorEq, Int.reduceBEq, Int.reduceLT, Int.reduceLE, Int.reduceAdd, Int.reduceSub, Int.reduceEq, Int.reduceNeg, Int.reduceToNat, Int.reduceGT, Int.reduceGE, wadd32, wmul32, wadd64, wmul64, wand32, wor32, wxor32, wand64, wor64, wnot32, wsub32, wsub64, wshr32l, wshl32l, wshr64l, wshl64l, wshr32w, wshl32w, wshr64w, wlt64, wgt64, weq64, wne64, ha, ← hX3, X2b, X3b, X3z, ldn', ← hXX, XXb, ldb, c3, ← hY, Yb, c4, weq64, hk, bool_eq]
      rw [hQ]; exact tru_fin _ _
end Go.Cl.Sh

namespace Go.Cl.Sh
theorem cellsOf_b8 : Tryd.prog.cellsOf 5 = 1 := by kernel_rfl
theorem cellsOf_blk : Tryd.prog.cellsOf 40 = 256 := by kernel_rfl
theorem tell_none : ∀ f a h, W.told f = false → tell 17 (.bool true) f a h = none := fun f a h t =>
  tell_other f a h fun e => by subst e; exact absurd t (by decide)
theorem u64_of {h : H} {c : CV} (a : Arg Tryd.prog h 23 c) : ∃ x : BitVec 64, c = w64 x := by
  have h1 : c.one = true := by rcases a.one with ⟨_, h⟩ | ⟨_, _, h⟩ | h; rw [Tryd.underlying23] at h; cases h; rw [Tryd.underlying23] at h; cases h; exact h
  have r := a.rd
  rw [cells_one h1] at r
  obtain ⟨n, e, q1, q2⟩ := r.int_inv Tryd.underlying23
  simp at e
  subst e
  have q1 : 0 ≤ n := q1
  have q2 : n ≤ 18446744073709551615 := q2
  refine ⟨BitVec.ofNat 64 n.toNat, ?_⟩
  unfold w64
  congr 1
  rw [BitVec.toNat_ofNat, Nat.mod_eq_of_lt (by omega)]
  simp; omega
theorem i64_of {h : H} {c : CV} (a : Arg Tryd.prog h 3 c) : ∃ n : Int, c = .int .i64 n := by
  have h1 : c.one = true := by rcases a.one with ⟨_, h⟩ | ⟨_, _, h⟩ | h; rw [Tryd.underlying3] at h; cases h; rw [Tryd.underlying3] at h; cases h; exact h
  have r := a.rd
  rw [cells_one h1] at r
  obtain ⟨n, e, q1, q2⟩ := r.int_inv Tryd.underlying3
  simp at e
  exact ⟨n, e⟩
theorem u8_of {h : H} {c : CV} (a : Arg Tryd.prog h 5 c) : ∃ n : Nat, c = u8 n := by
  have h1 : c.one = true := by rcases a.one with ⟨_, h⟩ | ⟨_, _, h⟩ | h; rw [Tryd.underlying5] at h; cases h; rw [Tryd.underlying5] at h; cases h; exact h
  have r := a.rd
  rw [cells_one h1] at r
  obtain ⟨n, e, q1, q2⟩ := r.int_inv Tryd.underlying5
  simp at e
  subst e
  have q1 : 0 ≤ n := q1
  exact ⟨n.toNat, by unfold u8; congr 1; simp; omega⟩
theorem block_of {h : H} {c : CV} (a : Arg Tryd.prog h 40 c) : ∃ l : List Nat, c = .agg (bc l) ∧ l.length = 256 ∧ ∀ b ∈ l, b < 256 := by
  obtain ⟨hl, hf⟩ := a.rd.array_inv Tryd.underlying40
  rw [cellsOf_blk] at hl
  obtain ⟨az, rfl⟩ := agg_of (c := c) (by omega)
  simp only [cells_agg] at hl hf
  obtain ⟨l, hll, hq⟩ := list_of (Q := fun i (m : Nat) => az[i]? = some (.int .u8 (Int.ofNat m)) ∧ m < 256) 256 fun i hi => by
    have r := hf i hi
    rw [cellsOf_b8, Nat.mul_one] at r
    obtain ⟨m, e, h1, h2⟩ := r.int_inv Tryd.underlying5
    have h1 : 0 ≤ m := h1
    have h2 : m ≤ 255 := h2
    have e0 := congrArg (fun l => l[0]?) e
    simp only [List.getElem?_take, List.getElem?_drop, Nat.add_zero] at e0
    exact ⟨m.toNat, by
      have : az[i]? = some (.int .u8 m) := by simpa using e0
      rw [this]; congr 2; simp; omega, by omega⟩
  refine ⟨l, ?_, hll, fun b hb => ?_⟩
  · congr 1
    refine List.ext_getElem? fun i => ?_
    by_cases hi : i < 256
    · obtain ⟨m, hm⟩ : ∃ m, l[i]? = some m := ⟨_, List.getElem?_eq_getElem (by omega)⟩
      rw [(hq i m hm).1]
      unfold bc
      rw [List.getElem?_map, hm]; rfl
    · rw [List.getElem?_eq_none (by omega), List.getElem?_eq_none (by rw [bc_len]; omega)]
  · obtain ⟨i, hi, rfl⟩ := List.getElem_of_mem hb
    exact (hq i _ (List.getElem?_eq_getElem hi)).2
end Go.Cl.Sh
